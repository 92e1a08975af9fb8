/- Trees: variables put to rising lists, counted in maps; plain laws. No condition. -/
import Derived.Test.YtkclljglobeplaaSlCD
namespace Sl
open _root_.Go _root_.Go.RowKit _root_.Go.Proofs
set_option linter.all false
set_option linter.unusedSimpArgs false
theorem sortS_mem {L : List Str} {x : Str} : x ∈ sortS L ↔ x ∈ L := (sortS_perm L).mem_iff
theorem sortS_nodup {L : List Str} (h : L.Nodup) : (sortS L).Nodup := (sortS_perm L).nodup_iff.2 h
theorem sortS_ext {A B : List Str} (hA : A.Nodup) (hB : B.Nodup) (h : ∀ x, x ∈ A ↔ x ∈ B) : sortS A = sortS B := sortS_of_perm ((List.perm_ext_iff_of_nodup hA hB).2 h)
theorem sortS_nil : sortS [] = [] := by simp [sortS]
theorem sortS_one (x : Str) : sortS [x] = [x] := by simp [sortS]
theorem sortS_idem (L : List Str) : sortS (sortS L) = sortS L := sortS_of_perm (sortS_perm L)
theorem hasS_mem (L : List Str) (s : Str) : hasS L s.v = decide (s ∈ L) := by
  unfold hasS
  rw [Bool.eq_iff_iff, List.any_eq_true, decide_eq_true_iff]
  constructor
  · rintro ⟨x, hx, h⟩; rw [Str.eq_of (of_decide_eq_true h)]; exact hx
  · intro h; exact ⟨s, h, by simp⟩
/-! ## put -/
def posS (L : List Str) (s : Str) : Nat := L.findIdx fun x => !sLt x.v s.v
def putS (L : List Str) (s : Str) : List Str := if s ∈ L then L else L.take (posS L s) ++ [s] ++ L.drop (posS L s)
theorem pos_at {L : List Str} {s : Str} {j : Nat} (hz : ∀ q, q < j → sLt (L.getD q default).v s.v = true) (hj : j < L.length) (h : sLt (L.getD j default).v s.v = false) : j = posS L s := by
  unfold posS
  symm
  rw [List.findIdx_eq hj]
  rw [List.getD_eq_getElem?_getD, List.getElem?_eq_getElem hj] at h
  refine ⟨by simpa using h, fun q hq => ?_⟩
  have := hz q hq
  rw [List.getD_eq_getElem?_getD, List.getElem?_eq_getElem (by omega)] at this
  simpa using this
theorem pos_end {L : List Str} {s : Str} {j : Nat} (hz : ∀ q, q < j → sLt (L.getD q default).v s.v = true) (hj : j = L.length) : j = posS L s := by
  unfold posS
  symm
  rw [hj, List.findIdx_eq_length]
  intro x hx
  obtain ⟨q, hq, rfl⟩ := List.getElem_of_mem hx
  have := hz q (by omega)
  rw [List.getD_eq_getElem?_getD, List.getElem?_eq_getElem hq] at this
  simpa using this
theorem posS_le (L : List Str) (s : Str) : posS L s ≤ L.length := List.findIdx_le_length
theorem putS_len (L : List Str) (s : Str) : (putS L s).length ≤ L.length + 1 := by
  unfold putS
  have := posS_le L s
  split
  · omega
  · simp only [List.length_append, List.length_take, List.length_drop, List.length_singleton]; omega
theorem putS_in {L : List Str} {s : Str} (h : hasS L s.v = true) : putS L s = L := by unfold putS; rw [if_pos (by rw [hasS_mem] at h; exact of_decide_eq_true h)]
theorem putS_out {L : List Str} {s : Str} (h : hasS L s.v = false) : putS L s = L.take (posS L s) ++ [s] ++ L.drop (posS L s) := by unfold putS; rw [if_neg (by rw [hasS_mem] at h; exact of_decide_eq_false h)]
theorem putS_sort (L : List Str) (s : Str) : putS (sortS L) s = sortS (addS L s) := by
  unfold putS addS
  by_cases hs : s ∈ L
  · rw [if_pos (sortS_mem.2 hs), if_pos hs]
  rw [if_neg (fun h => hs (sortS_mem.1 h)), if_neg hs]
  generalize hS : sortS L = S
  have hso : S.Pairwise (fun a b => leS a b = true) := hS ▸ sortS_sorted L
  refine sorted_unique ?_ (sortS_sorted _) ?_
  · have hsplit : S.take (posS S s) ++ S.drop (posS S s) = S := List.take_append_drop ..
    rw [← hsplit] at hso
    obtain ⟨h1, h2, h3⟩ := List.pairwise_append.1 hso
    have ht : ∀ x ∈ S.take (posS S s), sLt x.v s.v = true := by
      intro x hx
      obtain ⟨i, hi, rfl⟩ := List.getElem_of_mem hx
      have hi2 : i < posS S s := by have := List.length_take_le (posS S s) S; omega
      have := List.not_of_lt_findIdx (p := fun x : Str => !sLt x.v s.v) hi2
      rw [List.getElem_take]
      simpa using this
    have hd : ∀ y ∈ S.drop (posS S s), leS s y = true := by
      intro y hy
      obtain ⟨i, hi, rfl⟩ := List.getElem_of_mem hy
      have hk : posS S s < S.length := by rw [List.length_drop] at hi; omega
      have h0 : sLt S[posS S s].v s.v = false := by
        have : (!sLt S[posS S s].v s.v) = true := List.findIdx_getElem (p := fun x : Str => !sLt x.v s.v) (w := hk)
        simpa using this
      have h0' : leS s S[posS S s] = true := by unfold leS; rw [h0]; rfl
      cases i with
      | zero => rw [List.getElem_drop]; exact h0'
      | succ i =>
        have h4 := List.pairwise_iff_getElem.1 h2 0 (i + 1) (by rw [List.length_drop] at hi ⊢; omega) hi (by omega)
        rw [List.getElem_drop] at h4
        exact leS_trans _ _ _ h0' h4
    have hlt : ∀ {a b : Str}, sLt a.v b.v = true → leS a b = true := fun h => by unfold leS; rw [sLt_asymm h]; rfl
    rw [List.append_assoc]
    refine List.pairwise_append.2 ⟨h1, ?_, ?_⟩
    · refine List.pairwise_append.2 ⟨by simp, h2, fun a ha b hb => ?_⟩
      simp only [List.mem_singleton] at ha
      subst ha; exact hd b hb
    · intro a ha b hb
      rcases List.mem_append.1 hb with hb | hb
      · simp only [List.mem_singleton] at hb
        subst hb; exact hlt (ht a ha)
      · exact h3 a ha b hb
  · have h1 : (S.take (posS S s) ++ [s] ++ S.drop (posS S s)).Perm (s :: S) := by
      rw [List.append_assoc]
      refine (List.perm_middle (a := s) (l₁ := S.take (posS S s)) (l₂ := S.drop (posS S s))).trans ?_
      rw [List.take_append_drop]
    refine h1.trans ?_
    have h2 : (s :: S).Perm (s :: L) := List.Perm.cons s (hS ▸ sortS_perm L)
    refine h2.trans (List.Perm.trans ?_ (sortS_perm _).symm)
    exact (List.perm_append_comm (l₁ := [s]) (l₂ := L))
theorem putS_fold (V : List Str) : ∀ A : List Str, V.foldl putS (sortS A) = sortS (V.foldl addS A) := by
  induction V with
  | nil => intro A; rfl
  | cons v V ih => intro A; show V.foldl putS (putS (sortS A) v) = _; rw [putS_sort]; exact ih _
theorem addF_mem (V : List Str) : ∀ (A : List Str) (x : Str), x ∈ V.foldl addS A ↔ x ∈ A ∨ x ∈ V := by
  induction V with
  | nil => intro A x; simp
  | cons v V ih => intro A x; show x ∈ V.foldl addS (addS A v) ↔ _; rw [ih, addS_mem, List.mem_cons, or_assoc]
theorem addF_nodup (V : List Str) : ∀ {A : List Str}, A.Nodup → (V.foldl addS A).Nodup := by
  induction V with
  | nil => intro A h; exact h
  | cons v V ih => intro A h; exact ih (addS_nodup h v)
theorem addF_len (V : List Str) : ∀ A : List Str, (V.foldl addS A).length ≤ A.length + V.length := by
  induction V with
  | nil => intro A; simp
  | cons v V ih => intro A; have := ih (addS A v); have := addS_len A v; show (V.foldl addS (addS A v)).length ≤ _; simp only [List.length_cons]; omega
theorem fold_stepS {σ : Type} (f : σ → Str → σ) (s : σ) {l : List Str} {j : Nat} (h : j < l.length) : (l.take (j + 1)).foldl f s = f ((l.take j).foldl f s) (l.getD j default) := by
  rw [take_getD h, List.foldl_append]; rfl
theorem fold_allS {σ : Type} (f : σ → Str → σ) (s : σ) {l : List Str} {j : Nat} (h : j = l.length) : (l.take j).foldl f s = l.foldl f s := by rw [h, List.take_length]
/-! ## the variables of a tree -/
theorem foldA_mem {f : NodeD → List Str → List Str} (l : List NodeD) (hf : ∀ k ∈ l, ∀ A x, x ∈ f k A ↔ x ∈ A ∨ x ∈ f k []) : ∀ (A : List Str) (x : Str), x ∈ l.foldl (fun A k => f k A) A ↔ x ∈ A ∨ ∃ k ∈ l, x ∈ f k [] := by
  induction l with
  | nil => intro A x; simp
  | cons k l ih =>
    intro A x
    show x ∈ l.foldl (fun A k => f k A) (f k A) ↔ _
    rw [ih (fun q hq => hf q (List.mem_cons_of_mem _ hq)), hf k (List.mem_cons_self ..), or_assoc]
    simp only [List.mem_cons, exists_eq_or_imp]
theorem walkN_mem (n : NodeD) : ∀ (A : List Str) (x : Str), x ∈ walkN n A ↔ x ∈ A ∨ x ∈ walkN n [] := by
  induction n using nodeD_induct with
  | h n ih =>
    intro A x
    rw [walkN_eq, walkN_eq, foldA_mem n.kids ih, foldA_mem n.kids ih, ← or_assoc]
    refine or_congr ?_ Iff.rfl
    split
    · simp
    · rw [addS_mem, addS_mem]; simp
theorem walkN_nodup (n : NodeD) : ∀ {A : List Str}, A.Nodup → (walkN n A).Nodup := by
  induction n using nodeD_induct with
  | h n ih =>
    intro A hA
    rw [walkN_eq]
    have : ∀ (l : List NodeD), (∀ k ∈ l, k ∈ n.kids) → ∀ A : List Str, A.Nodup → (l.foldl (fun L k => walkN k L) A).Nodup := by
      intro l
      induction l with
      | nil => intro _ A h; exact h
      | cons k l ihl => intro hl A h; exact ihl (fun q hq => hl q (List.mem_cons_of_mem _ hq)) _ (ih k (hl k (List.mem_cons_self ..)) h)
    refine this _ (fun _ h => h) _ ?_
    split
    · exact hA
    · exact addS_nodup hA _
theorem walkN_len (n : NodeD) : ∀ (A : List Str), (walkN n A).length ≤ A.length + sizeN n := by
  induction n using nodeD_induct with
  | h n ih =>
    intro A
    rw [walkN_eq, sizeN_eq]
    have : ∀ (l : List NodeD), (∀ k ∈ l, k ∈ n.kids) → ∀ A : List Str, (l.foldl (fun L k => walkN k L) A).length ≤ A.length + sizeL l := by
      intro l
      induction l with
      | nil => intro _ A; simp [sizeL]
      | cons k l ihl =>
        intro hl A
        have h1 := ihl (fun q hq => hl q (List.mem_cons_of_mem _ hq)) (walkN k A)
        have h2 := ih k (hl k (List.mem_cons_self ..)) A
        simp only [sizeL]
        show (l.foldl (fun L k => walkN k L) (walkN k A)).length ≤ _
        omega
    have h1 := this n.kids (fun _ h => h) (if n.var.v = ByteArray.empty then A else addS A n.var)
    have h2 : (if n.var.v = ByteArray.empty then A else addS A n.var).length ≤ A.length + 1 := by
      split
      · omega
      · exact addS_len A n.var
    omega
theorem varsS_mem {n : NodeD} {x : Str} : x ∈ varsS n ↔ x ∈ walkN n [] := sortS_mem
theorem varsS_nodup (n : NodeD) : (varsS n).Nodup := sortS_nodup (walkN_nodup n List.nodup_nil)
theorem varsS_len (n : NodeD) : (varsS n).length ≤ sizeN n := by unfold varsS; rw [sortS_len]; have := walkN_len n []; simpa using this
def varA (n : NodeD) : List Str := if n.var.v = ByteArray.empty then [] else addS [] n.var
def varF (l : List NodeD) (A : List Str) : List Str := l.foldl (fun A k => (varsS k).foldl addS A) A
theorem varF_step {A : List Str} {l : List NodeD} {j : Nat} (h : j < l.length) : varF (l.take (j + 1)) A = (varsS (l.getD j default)).foldl addS (varF (l.take j) A) := fold_step (fun A k => (varsS k).foldl addS A) A h
theorem varF_mem (l : List NodeD) (A : List Str) (x : Str) : x ∈ varF l A ↔ x ∈ A ∨ ∃ k ∈ l, x ∈ varsS k := by
  unfold varF
  rw [foldA_mem (f := fun k A => (varsS k).foldl addS A) l (fun k _ A x => by rw [addF_mem, addF_mem]; simp)]
  refine or_congr Iff.rfl ?_
  simp only [addF_mem, List.not_mem_nil, false_or]
theorem varF_nodup (l : List NodeD) : ∀ {A : List Str}, A.Nodup → (varF l A).Nodup := by
  unfold varF
  induction l with
  | nil => intro A h; exact h
  | cons k l ih => intro A h; exact ih (addF_nodup _ h)
theorem varF_len (l : List NodeD) : ∀ A : List Str, (varF l A).length ≤ A.length + sizeL l := by
  unfold varF
  induction l with
  | nil => intro A; simp [sizeL]
  | cons k l ih =>
    intro A
    have h1 := ih ((varsS k).foldl addS A)
    have h2 := addF_len (varsS k) A
    have h3 := varsS_len k
    simp only [sizeL]
    show (l.foldl (fun A k => (varsS k).foldl addS A) ((varsS k).foldl addS A)).length ≤ _
    omega
theorem sizeL_take (l : List NodeD) : ∀ j : Nat, sizeL (l.take j) ≤ sizeL l := by
  induction l with
  | nil => intro j; simp
  | cons k l ih =>
    intro j
    cases j with
    | zero => simp [sizeL]
    | succ j => have := ih j; simp only [List.take_succ_cons, sizeL]; omega
theorem sizeN_pos (n : NodeD) : 1 ≤ sizeN n := by rw [sizeN_eq]; omega
theorem sizeL_len (l : List NodeD) : l.length ≤ sizeL l := by
  induction l with
  | nil => simp
  | cons k l ih => have := sizeN_pos k; simp only [sizeL, List.length_cons]; omega
theorem kids_len (n : NodeD) : n.kids.length ≤ sizeN n := by have := sizeL_len n.kids; rw [sizeN_eq]; omega
theorem varA_len (n : NodeD) : (varA n).length ≤ 1 := by unfold varA; split <;> simp [addS]
theorem varA_nodup (n : NodeD) : (varA n).Nodup := by unfold varA; split <;> simp [addS]
theorem varsS_fold (n : NodeD) : sortS (varF n.kids (varA n)) = varsS n := by
  refine sortS_ext (varF_nodup _ (varA_nodup n)) (walkN_nodup n List.nodup_nil) fun x => ?_
  rw [varF_mem, walkN_eq, foldA_mem n.kids (fun k _ A x => walkN_mem k A x)]
  refine or_congr ?_ ?_
  · unfold varA; rfl
  · simp only [varsS_mem]
theorem varF_bound {n : NodeD} {j q : Nat} (hj : j < n.kids.length) : (((varsS (n.kids.getD j default)).take q).foldl addS (varF (n.kids.take j) (varA n))).length ≤ sizeN n := by
  have h1 := addF_len ((varsS (n.kids.getD j default)).take q) (varF (n.kids.take j) (varA n))
  have h2 := varF_len (n.kids.take j) (varA n)
  have h3 := varA_len n
  have h4 : ((varsS (n.kids.getD j default)).take q).length ≤ sizeN (n.kids.getD j default) := Nat.le_trans (List.length_take_le' ..) (varsS_len _)
  have h5 : sizeL (n.kids.take (j + 1)) ≤ sizeL n.kids := sizeL_take _ _
  have h6 : sizeL (n.kids.take (j + 1)) = sizeL (n.kids.take j) + sizeN (n.kids.getD j default) := by
    rw [sizeL_sum, sizeL_sum, take_getD hj, List.map_append, List.sum_append]; simp
  rw [sizeN_eq (n := n)]
  omega
/-! ## those that are surely bound -/
def sureC (n : NodeD) (v : Str) : Bool := decide (¬ n.kind.v = 4) || n.kids.all fun k => decide (v ∈ sureN k)
def sureF (l : List NodeD) (A : List Str) : List Str := l.foldl (fun A k => (sureN k).foldl addS A) A
theorem sureF_mem (l : List NodeD) (A : List Str) (x : Str) : x ∈ sureF l A ↔ x ∈ A ∨ ∃ k ∈ l, x ∈ sureN k := by
  unfold sureF
  rw [foldA_mem (f := fun k A => (sureN k).foldl addS A) l (fun k _ A x => by rw [addF_mem, addF_mem]; simp)]
  refine or_congr Iff.rfl ?_
  simp only [addF_mem, List.not_mem_nil, false_or]
theorem sureF_nodup (l : List NodeD) : ∀ {A : List Str}, A.Nodup → (sureF l A).Nodup := by
  unfold sureF
  induction l with
  | nil => intro A h; exact h
  | cons k l ih => intro A h; exact ih (addF_nodup _ h)
theorem sureN_nodup (n : NodeD) : (sureN n).Nodup := by
  rw [sureN_eq]
  refine sortS_nodup ?_
  split
  · split <;> simp
  · exact List.Pairwise.filter _ (sureF_nodup n.kids List.nodup_nil)
theorem sureN_len (n : NodeD) : (sureN n).length ≤ sizeN n := by
  induction n using nodeD_induct with
  | h n ih =>
    rw [sureN_eq, sortS_len, sizeN_eq]
    split
    · split <;> simp
    · refine Nat.le_trans (List.length_filter_le ..) ?_
      have : ∀ (l : List NodeD), (∀ k ∈ l, k ∈ n.kids) → ∀ A : List Str, (l.foldl (fun A k => (sureN k).foldl addS A) A).length ≤ A.length + sizeL l := by
        intro l
        induction l with
        | nil => intro _ A; simp [sizeL]
        | cons k l ihl =>
          intro hl A
          have h1 := ihl (fun q hq => hl q (List.mem_cons_of_mem _ hq)) ((sureN k).foldl addS A)
          have h2 := ih k (hl k (List.mem_cons_self ..))
          have h3 := addF_len (sureN k) A
          simp only [sizeL]
          show (l.foldl (fun A k => (sureN k).foldl addS A) ((sureN k).foldl addS A)).length ≤ _
          omega
      have := this n.kids (fun _ h => h) []
      simp only [List.length_nil] at this
      omega
theorem sureF_len (l : List NodeD) : ∀ A : List Str, (sureF l A).length ≤ A.length + sizeL l := by
  unfold sureF
  induction l with
  | nil => intro A; simp [sizeL]
  | cons k l ih =>
    intro A
    have h1 := ih ((sureN k).foldl addS A)
    have h2 := addF_len (sureN k) A
    have h3 := sureN_len k
    simp only [sizeL]
    show (l.foldl (fun A k => (sureN k).foldl addS A) ((sureN k).foldl addS A)).length ≤ _
    omega
theorem sureN_kids {n : NodeD} (h : n.kids.isEmpty = false) : sureN n = sortS ((sureF n.kids []).filter (sureC n)) := by
  rw [sureN_eq, if_neg (by rw [h]; simp)]; rfl
theorem sureN_leaf {n : NodeD} (h : n.kids.isEmpty = true) : sureN n = if n.var.v = ByteArray.empty then [] else [n.var] := by
  rw [sureN_eq, if_pos h]
  split
  · exact sortS_nil
  · exact sortS_one _
/-- Those that are put, of a list. -/
def filF (c : Str → Bool) (V A : List Str) : List Str := V.foldl (fun A v => if c v = true then addS A v else A) A
theorem filF_step {c : Str → Bool} {V A : List Str} {j : Nat} (h : j < V.length) : filF c (V.take (j + 1)) A = if c (V.getD j default) = true then addS (filF c (V.take j) A) (V.getD j default) else filF c (V.take j) A := fold_stepS (fun A v => if c v = true then addS A v else A) A h
theorem filF_mem {c : Str → Bool} (V : List Str) : ∀ (A : List Str) (x : Str), x ∈ filF c V A ↔ x ∈ A ∨ (x ∈ V ∧ c x = true) := by
  unfold filF
  induction V with
  | nil => intro A x; simp
  | cons v V ih =>
    intro A x
    show x ∈ V.foldl (fun A v => if c v = true then addS A v else A) (if c v = true then addS A v else A) ↔ _
    rw [ih]
    by_cases h : c v = true
    · rw [if_pos h, addS_mem]
      simp only [List.mem_cons]
      constructor
      · rintro ((h1 | rfl) | h1)
        · exact .inl h1
        · exact .inr ⟨.inl rfl, h⟩
        · exact .inr ⟨.inr h1.1, h1.2⟩
      · rintro (h1 | ⟨rfl | h1, h2⟩)
        · exact .inl (.inl h1)
        · exact .inl (.inr rfl)
        · exact .inr ⟨h1, h2⟩
    · rw [if_neg h]
      simp only [List.mem_cons]
      constructor
      · rintro (h1 | h1)
        · exact .inl h1
        · exact .inr ⟨.inr h1.1, h1.2⟩
      · rintro (h1 | ⟨rfl | h1, h2⟩)
        · exact .inl h1
        · exact absurd h2 h
        · exact .inr ⟨h1, h2⟩
theorem filF_nodup {c : Str → Bool} (V : List Str) : ∀ {A : List Str}, A.Nodup → (filF c V A).Nodup := by
  unfold filF
  induction V with
  | nil => intro A h; exact h
  | cons v V ih =>
    intro A h
    refine ih (A := if c v = true then addS A v else A) ?_
    split
    · exact addS_nodup h v
    · exact h
theorem filF_len {c : Str → Bool} (V : List Str) : ∀ A : List Str, (filF c V A).length ≤ A.length + V.length := by
  unfold filF
  induction V with
  | nil => intro A; simp
  | cons v V ih =>
    intro A
    have h1 := ih (if c v = true then addS A v else A)
    have h2 : (if c v = true then addS A v else A).length ≤ A.length + 1 := by
      split
      · exact addS_len A v
      · omega
    simp only [List.length_cons]
    show (V.foldl (fun A v => if c v = true then addS A v else A) (if c v = true then addS A v else A)).length ≤ _
    omega
/-- The document's way: each kid's, that are put. -/
def surF (c : Str → Bool) (l : List NodeD) (A : List Str) : List Str := l.foldl (fun A k => filF c (sureN k) A) A
theorem surF_step {c : Str → Bool} {A : List Str} {l : List NodeD} {j : Nat} (h : j < l.length) : surF c (l.take (j + 1)) A = filF c (sureN (l.getD j default)) (surF c (l.take j) A) := fold_step (fun A k => filF c (sureN k) A) A h
theorem surF_mem {c : Str → Bool} (l : List NodeD) (A : List Str) (x : Str) : x ∈ surF c l A ↔ x ∈ A ∨ ∃ k ∈ l, x ∈ sureN k ∧ c x = true := by
  unfold surF
  rw [foldA_mem (f := fun k A => filF c (sureN k) A) l (fun k _ A x => by rw [filF_mem, filF_mem]; simp)]
  refine or_congr Iff.rfl ?_
  simp only [filF_mem, List.not_mem_nil, false_or]
theorem surF_nodup {c : Str → Bool} (l : List NodeD) : ∀ {A : List Str}, A.Nodup → (surF c l A).Nodup := by
  unfold surF
  induction l with
  | nil => intro A h; exact h
  | cons k l ih => intro A h; exact ih (filF_nodup _ h)
theorem surF_len {c : Str → Bool} (l : List NodeD) : ∀ A : List Str, (surF c l A).length ≤ A.length + sizeL l := by
  unfold surF
  induction l with
  | nil => intro A; simp [sizeL]
  | cons k l ih =>
    intro A
    have h1 := ih (filF c (sureN k) A)
    have h2 := filF_len (c := c) (sureN k) A
    have h3 := sureN_len k
    simp only [sizeL]
    show (l.foldl (fun A k => filF c (sureN k) A) (filF c (sureN k) A)).length ≤ _
    omega
theorem sureN_ref {n : NodeD} (h : n.kids.isEmpty = false) : sortS (surF (sureC n) n.kids []) = sureN n := by
  rw [sureN_kids h]
  refine sortS_ext (surF_nodup _ List.nodup_nil) (List.Pairwise.filter _ (sureF_nodup _ List.nodup_nil)) fun x => ?_
  rw [surF_mem, List.mem_filter, sureF_mem]
  simp only [List.not_mem_nil, false_or]
  constructor
  · rintro ⟨k, h1, h2, h3⟩; exact ⟨⟨k, h1, h2⟩, h3⟩
  · rintro ⟨⟨k, h1, h2⟩, h3⟩; exact ⟨k, h1, h2, h3⟩
theorem surF_bound {n : NodeD} {c : Str → Bool} {j q : Nat} (hj : j < n.kids.length) : (filF c ((sureN (n.kids.getD j default)).take q) (surF c (n.kids.take j) [])).length ≤ sizeN n := by
  have h1 := filF_len (c := c) ((sureN (n.kids.getD j default)).take q) (surF c (n.kids.take j) [])
  have h2 := surF_len (c := c) (n.kids.take j) []
  have h4 : ((sureN (n.kids.getD j default)).take q).length ≤ sizeN (n.kids.getD j default) := Nat.le_trans (List.length_take_le' ..) (sureN_len _)
  have h5 : sizeL (n.kids.take (j + 1)) ≤ sizeL n.kids := sizeL_take _ _
  have h6 : sizeL (n.kids.take (j + 1)) = sizeL (n.kids.take j) + sizeN (n.kids.getD j default) := by
    rw [sizeL_sum, sizeL_sum, take_getD hj, List.map_append, List.sum_append]; simp
  rw [sizeN_eq (n := n)]
  simp only [List.length_nil] at h2
  omega
/-! ## counting in a map -/
section
variable {κ : Type} [DecidableEq κ]
def agetI (M : List (κ × Int)) (k : κ) : Int := (aget M k).getD 0
theorem lookI (M : List (κ × Int)) (k : κ) : lookV vI (.int .i64 0) M k = .int .i64 (agetI M k) := by
  unfold lookV agetI
  cases aget M k <;> rfl
theorem aset_keys {ν : Type} (M : List (κ × ν)) (k : κ) (v : ν) : (aset M k v).map (·.1) = addS (M.map (·.1)) k := by
  unfold aset addS
  have hk : kidx M k = (M.map (·.1)).findIdx fun x => decide (x = k) := by unfold kidx; rw [List.findIdx_map]; rfl
  have hm := findIdx_mem (M.map (·.1)) k
  rw [← hk, List.length_map] at hm
  by_cases h : kidx M k < M.length
  · rw [if_pos h, if_pos (hm.1 h), List.map_set]
    refine List.ext_getElem? fun q => ?_
    rw [List.getElem?_set]
    split
    · rename_i hq
      subst hq
      rw [List.length_map, if_pos h, List.getElem?_map, List.getElem?_eq_getElem h]
      show some k = some (M[kidx M k].1)
      rw [kidx_at h]
    · rfl
  · rw [if_neg h, if_neg (fun q => h (hm.2 q)), List.map_append]; rfl
theorem kidx_aset_ne {ν : Type} (M : List (κ × ν)) {k q : κ} (v : ν) (h : ¬ q = k) : aget (aset M k v) q = aget M q := by
  have hf : ∀ (M : List (κ × ν)), kidx M q = (M.map (·.1)).findIdx fun x => decide (x = q) := fun M => by unfold kidx; rw [List.findIdx_map]; rfl
  unfold aset
  by_cases hk : kidx M k < M.length
  · rw [if_pos hk]
    unfold aget
    have e : kidx (M.set (kidx M k) (k, v)) q = kidx M q := by
      rw [hf, hf, List.map_set]
      congr 1
      refine List.ext_getElem? fun j => ?_
      rw [List.getElem?_set]
      split
      · rename_i hq
        subst hq
        rw [List.length_map, if_pos hk, List.getElem?_map, List.getElem?_eq_getElem hk]
        show some k = some (M[kidx M k].1)
        rw [kidx_at hk]
      · rfl
    rw [e, List.getElem?_set]
    split
    · rename_i hq
      exfalso
      by_cases hl : kidx M q < M.length
      · have h1 := kidx_at hl
        have h2 := kidx_at hk
        exact h (by rw [← h1, ← h2]; congr 1; simp only [hq])
      · omega
    · rfl
  · rw [if_neg hk]
    unfold aget
    by_cases hl : kidx M q < M.length
    · have e : kidx (M ++ [(k, v)]) q = kidx M q := by
        unfold kidx at hl ⊢
        rw [List.findIdx_append, if_pos hl]
      rw [e, List.getElem?_append_left hl]
    · have hl' : M.findIdx (fun x => decide (x.1 = q)) = M.length := by
        have := List.findIdx_le_length (p := fun x : κ × ν => decide (x.1 = q)) (xs := M)
        unfold kidx at hl
        omega
      have e : kidx (M ++ [(k, v)]) q = M.length + 1 := by
        unfold kidx
        rw [List.findIdx_append, if_neg (by omega)]
        have : [(k, v)].findIdx (fun x : κ × ν => decide (x.1 = q)) = 1 := by
          rw [List.findIdx_cons]
          have : decide (k = q) = false := decide_eq_false (fun e => h e.symm)
          simp [this]
        rw [this]; omega
      rw [e, List.getElem?_eq_none (by simp), List.getElem?_eq_none (by omega)]
theorem aget_aset {ν : Type} (M : List (κ × ν)) (k : κ) (v : ν) : aget (aset M k v) k = some v := by
  unfold aset
  by_cases hk : kidx M k < M.length
  · rw [if_pos hk]
    unfold aget
    have e : kidx (M.set (kidx M k) (k, v)) k = kidx M k := by
      have hf : ∀ (M : List (κ × ν)), kidx M k = (M.map (·.1)).findIdx fun x => decide (x = k) := fun M => by unfold kidx; rw [List.findIdx_map]; rfl
      rw [hf, hf, List.map_set]
      congr 1
      refine List.ext_getElem? fun j => ?_
      rw [← hf, List.getElem?_set]
      split
      · rename_i hq
        subst hq
        rw [List.length_map, if_pos hk, List.getElem?_map, List.getElem?_eq_getElem hk]
        show some k = some (M[kidx M k].1)
        rw [kidx_at hk]
      · rfl
    rw [e, List.getElem?_set, if_pos rfl, if_pos hk]; rfl
  · rw [if_neg hk]
    unfold aget
    have hl' : M.findIdx (fun x => decide (x.1 = k)) = M.length := by
      have := List.findIdx_le_length (p := fun x : κ × ν => decide (x.1 = k)) (xs := M)
      unfold kidx at hk
      omega
    have e : kidx (M ++ [(k, v)]) k = M.length := by
      unfold kidx
      rw [List.findIdx_append, if_neg (by omega)]
      simp [List.findIdx_cons]
    rw [e, List.getElem?_append_right (Nat.le_refl _)]; simp
theorem agetI_aset (M : List (κ × Int)) (k q : κ) (v : Int) : agetI (aset M k v) q = if q = k then v else agetI M q := by
  unfold agetI
  by_cases h : q = k
  · subst h; rw [if_pos rfl, aget_aset]; rfl
  · rw [if_neg h, kidx_aset_ne M v h]
theorem agetI_of_mem {M : List (κ × Int)} (h : (M.map (·.1)).Nodup) {e : κ × Int} (he : e ∈ M) : agetI M e.1 = e.2 := by
  unfold agetI aget
  obtain ⟨i, hi, rfl⟩ := List.getElem_of_mem he
  have e : kidx M M[i].1 = i := by
    unfold kidx
    rw [List.findIdx_eq hi]
    refine ⟨by simp, fun j hj => ?_⟩
    have := List.pairwise_iff_getElem.1 h j i (by simp; omega) (by simpa using hi) hj
    simp only [List.getElem_map] at this
    exact decide_eq_false this
  rw [e, List.getElem?_eq_getElem hi]; rfl
end
def cnt1 (M : List (Str × Int)) (v : Str) : List (Str × Int) := aset M v (wI (agetI M v + 1))
def cntN (l : List NodeD) : List (Str × Int) := l.foldl (fun M k => (sureN k).foldl cnt1 M) []
theorem cntN_step {l : List NodeD} {j : Nat} (h : j < l.length) : cntN (l.take (j + 1)) = (sureN (l.getD j default)).foldl cnt1 (cntN (l.take j)) := fold_step (fun M k => (sureN k).foldl cnt1 M) [] h
theorem cnt1_keys (V : List Str) : ∀ M : List (Str × Int), (V.foldl cnt1 M).map (·.1) = V.foldl addS (M.map (·.1)) := by
  induction V with
  | nil => intro M; rfl
  | cons v V ih => intro M; show (V.foldl cnt1 (cnt1 M v)).map (·.1) = V.foldl addS (addS (M.map (·.1)) v); rw [ih]; unfold cnt1; rw [aset_keys]
theorem cntN_keys (l : List NodeD) : (cntN l).map (·.1) = sureF l [] := by
  unfold cntN sureF
  have : ∀ (l : List NodeD) (M : List (Str × Int)), (l.foldl (fun M k => (sureN k).foldl cnt1 M) M).map (·.1) = l.foldl (fun A k => (sureN k).foldl addS A) (M.map (·.1)) := by
    intro l
    induction l with
    | nil => intro M; rfl
    | cons k l ih => intro M; show (l.foldl _ ((sureN k).foldl cnt1 M)).map (·.1) = l.foldl _ ((sureN k).foldl addS (M.map (·.1))); rw [ih, cnt1_keys]
  exact this l []
theorem cnt1_get (V : List Str) : V.Nodup → ∀ (M : List (Str × Int)) (v : Str), agetI (V.foldl cnt1 M) v = if v ∈ V then wI (agetI M v + 1) else agetI M v := by
  induction V with
  | nil => intro _ M v; simp
  | cons a V ih =>
    intro h M v
    obtain ⟨h1, h2⟩ := List.nodup_cons.1 h
    show agetI (V.foldl cnt1 (cnt1 M a)) v = _
    rw [ih h2]
    unfold cnt1
    rw [agetI_aset]
    by_cases hv : v = a
    · subst hv
      rw [if_neg h1, if_pos rfl, if_pos (List.mem_cons_self ..)]
    · rw [if_neg hv]
      simp only [List.mem_cons, hv, false_or]
theorem wI_small {n : Int} (h : -9223372036854775808 ≤ n ∧ n ≤ 9223372036854775807) : wI n = n := wi64 h
theorem cntN_get (l : List NodeD) (hl : l.length ≤ 140737488355328) (v : Str) : agetI (cntN l) v = ((l.countP fun k => decide (v ∈ sureN k)) : Nat) := by
  unfold cntN
  have : ∀ (l : List NodeD) (M : List (Str × Int)) (c : Nat), agetI M v = (c : Int) → c + l.length ≤ 140737488355328 → agetI (l.foldl (fun M k => (sureN k).foldl cnt1 M) M) v = ((c + l.countP fun k => decide (v ∈ sureN k) : Nat) : Int) := by
    intro l
    induction l with
    | nil => intro M c h _; simpa using h
    | cons k l ih =>
      intro M c h hc
      simp only [List.length_cons] at hc
      show agetI (l.foldl _ ((sureN k).foldl cnt1 M)) v = _
      by_cases hv : v ∈ sureN k
      · rw [ih _ (c + 1) (by rw [cnt1_get _ (sureN_nodup k), if_pos hv, h, wI_small (by omega)]; omega) (by omega), List.countP_cons_of_pos (by simpa using hv)]
        congr 1; omega
      · rw [ih _ c (by rw [cnt1_get _ (sureN_nodup k), if_neg hv, h]) (by omega), List.countP_cons_of_neg (by simpa using hv)]
  have := this l [] 0 rfl (by omega)
  simpa using this
/-- What the map's entries that are asked for come to, in whatever order they come. -/
def pickF (n : NodeD) (pre : List (Str × Int)) : List Str := pre.foldl (fun A e => if (¬ n.kind.v = 4 ∨ e.2 = (n.kids.length : Int)) then addS A e.1 else A) []
theorem pickF_snoc (n : NodeD) (pre : List (Str × Int)) (e : Str × Int) : pickF n (pre ++ [e]) = if (¬ n.kind.v = 4 ∨ e.2 = (n.kids.length : Int)) then addS (pickF n pre) e.1 else pickF n pre := by
  unfold pickF; rw [List.foldl_append]; rfl
theorem pickF_mem (n : NodeD) (pre : List (Str × Int)) (x : Str) : x ∈ pickF n pre ↔ ∃ e ∈ pre, e.1 = x ∧ (¬ n.kind.v = 4 ∨ e.2 = (n.kids.length : Int)) := by
  have : ∀ (l : List (Str × Int)) (A : List Str), x ∈ l.foldl (fun A e => if (¬ n.kind.v = 4 ∨ e.2 = (n.kids.length : Int)) then addS A e.1 else A) A ↔ x ∈ A ∨ ∃ e ∈ l, e.1 = x ∧ (¬ n.kind.v = 4 ∨ e.2 = (n.kids.length : Int)) := by
    intro l
    induction l with
    | nil => intro A; simp
    | cons e l ih =>
      intro A
      show x ∈ l.foldl _ (if (¬ n.kind.v = 4 ∨ e.2 = (n.kids.length : Int)) then addS A e.1 else A) ↔ _
      rw [ih]
      simp only [List.mem_cons, exists_eq_or_imp]
      by_cases h : (¬ n.kind.v = 4 ∨ e.2 = (n.kids.length : Int))
      · rw [if_pos h, addS_mem]
        constructor
        · rintro ((h1 | rfl) | h1)
          · exact .inl h1
          · exact .inr (.inl ⟨rfl, h⟩)
          · exact .inr (.inr h1)
        · rintro (h1 | ⟨rfl, _⟩ | h1)
          · exact .inl (.inl h1)
          · exact .inl (.inr rfl)
          · exact .inr h1
      · rw [if_neg h]
        constructor
        · rintro (h1 | h1)
          · exact .inl h1
          · exact .inr (.inr h1)
        · rintro (h1 | ⟨_, h2⟩ | h1)
          · exact .inl h1
          · exact absurd h2 h
          · exact .inr h1
  have h9 := this pre []
  unfold pickF
  simpa using h9
theorem pickF_nodup (n : NodeD) (pre : List (Str × Int)) : (pickF n pre).Nodup := by
  unfold pickF
  have : ∀ (l : List (Str × Int)) (A : List Str), A.Nodup → (l.foldl (fun A e => if (¬ n.kind.v = 4 ∨ e.2 = (n.kids.length : Int)) then addS A e.1 else A) A).Nodup := by
    intro l
    induction l with
    | nil => intro A h; exact h
    | cons e l ih =>
      intro A h
      refine ih (if (¬ n.kind.v = 4 ∨ e.2 = (n.kids.length : Int)) then addS A e.1 else A) ?_
      split
      · exact addS_nodup h _
      · exact h
  exact this pre [] List.nodup_nil
theorem pickF_len (n : NodeD) (pre : List (Str × Int)) : (pickF n pre).length ≤ pre.length := by
  unfold pickF
  have : ∀ (l : List (Str × Int)) (A : List Str), (l.foldl (fun A e => if (¬ n.kind.v = 4 ∨ e.2 = (n.kids.length : Int)) then addS A e.1 else A) A).length ≤ A.length + l.length := by
    intro l
    induction l with
    | nil => intro A; simp
    | cons e l ih =>
      intro A
      have h1 := ih (if (¬ n.kind.v = 4 ∨ e.2 = (n.kids.length : Int)) then addS A e.1 else A)
      have h2 : (if (¬ n.kind.v = 4 ∨ e.2 = (n.kids.length : Int)) then addS A e.1 else A).length ≤ A.length + 1 := by
        split
        · exact addS_len _ _
        · omega
      simp only [List.length_cons]
      show (l.foldl _ (if (¬ n.kind.v = 4 ∨ e.2 = (n.kids.length : Int)) then addS A e.1 else A)).length ≤ _
      omega
  have h9 := this pre []
  simpa using h9
theorem sureN_map {n : NodeD} (h : n.kids.isEmpty = false) (hl : n.kids.length ≤ 140737488355328) {pre : List (Str × Int)} (hp : pre.Perm (cntN n.kids)) : sortS (pickF n pre) = sureN n := by
  rw [sureN_kids h]
  refine sortS_ext (pickF_nodup n pre) (List.Pairwise.filter _ (sureF_nodup _ List.nodup_nil)) fun x => ?_
  rw [pickF_mem, List.mem_filter, ← cntN_keys]
  have hn : ((cntN n.kids).map (·.1)).Nodup := by rw [cntN_keys]; exact sureF_nodup _ List.nodup_nil
  have hc : ∀ e ∈ cntN n.kids, e.2 = (n.kids.length : Int) ↔ (n.kids.all fun k => decide (e.1 ∈ sureN k)) = true := by
    intro e he
    rw [← agetI_of_mem hn he, cntN_get _ hl]
    rw [show ((n.kids.countP fun k => decide (e.1 ∈ sureN k) : Nat) : Int) = (n.kids.length : Int) ↔ (n.kids.countP fun k => decide (e.1 ∈ sureN k)) = n.kids.length from by omega, List.countP_eq_length, List.all_eq_true]
  unfold sureC
  simp only [hp.mem_iff, List.mem_map, Bool.or_eq_true, decide_eq_true_iff]
  constructor
  · rintro ⟨e, he, rfl, h1⟩
    refine ⟨⟨e, he, rfl⟩, ?_⟩
    rcases h1 with h1 | h1
    · exact .inl h1
    · exact .inr ((hc e he).1 h1)
  · rintro ⟨⟨e, he, rfl⟩, h1⟩
    refine ⟨e, he, rfl, ?_⟩
    rcases h1 with h1 | h1
    · exact .inl h1
    · exact .inr ((hc e he).2 h1)
theorem cntN_len (n : NodeD) : (cntN n.kids).length ≤ sizeN n := by
  have h1 := congrArg List.length (cntN_keys n.kids)
  rw [List.length_map] at h1
  have h2 := sureF_len n.kids []
  rw [h1, sizeN_eq]
  simp only [List.length_nil] at h2
  omega
/-! ## bound twice -/
theorem bindsE_eq {n : NodeD} : bindsE n = bindsL (decide (n.kind.v = 2 ∨ n.kind.v = 3)) n.kids [] := by cases n; rfl
theorem drop_getD {α : Type} [Inhabited α] {l : List α} {j : Nat} (h : j < l.length) : l.drop j = l.getD j default :: l.drop (j + 1) := by
  rw [List.getD_eq_getElem?_getD, List.getElem?_eq_getElem h, List.drop_eq_getElem_cons h]; rfl
section
variable {b : Bool} {l : List NodeD} {j : Nat} {had : List Str} {r : Int}
theorem binds_bad (hr : bindsL b (l.drop j) had = r) (h : j < l.length) (he : ¬ bindsE (l.getD j default) = 0) : bindsE (l.getD j default) = r := by
  rw [drop_getD h] at hr; unfold bindsL at hr; rw [if_neg he] at hr; exact hr
theorem binds_skip (hr : bindsL b (l.drop j) had = r) (h : j < l.length) (he : bindsE (l.getD j default) = 0) (hb : b = false) : bindsL b (l.drop (j + 1)) had = r := by
  rw [drop_getD h] at hr; unfold bindsL at hr; rw [if_pos he, if_neg (by rw [hb]; simp)] at hr; exact hr
theorem binds_twice (hr : bindsL b (l.drop j) had = r) (h : j < l.length) (he : bindsE (l.getD j default) = 0) (hb : b = true) (ha : (varsS (l.getD j default)).any (fun v => decide (v ∈ had)) = true) : 73 = r := by
  rw [drop_getD h] at hr; unfold bindsL at hr; rw [if_pos he, if_pos hb, if_pos ha] at hr; exact hr
theorem binds_next (hr : bindsL b (l.drop j) had = r) (h : j < l.length) (he : bindsE (l.getD j default) = 0) (hb : b = true) (ha : (varsS (l.getD j default)).any (fun v => decide (v ∈ had)) = false) : bindsL b (l.drop (j + 1)) ((varsS (l.getD j default)).foldl addS had) = r := by
  rw [drop_getD h] at hr; unfold bindsL at hr; rw [if_pos he, if_pos hb, if_neg (by rw [ha]; simp)] at hr; exact hr
theorem binds_end (hr : bindsL b (l.drop j) had = r) (h : j = l.length) : 0 = r := by
  rw [h, List.drop_length] at hr; unfold bindsL at hr; exact hr
end
theorem any_idx {α : Type} [Inhabited α] {p : α → Bool} {V : List α} {q : Nat} (hq : q < V.length) (h : p (V.getD q default) = true) : V.any p = true := by
  rw [List.getD_eq_getElem?_getD, List.getElem?_eq_getElem hq] at h
  exact List.any_eq_true.2 ⟨_, List.getElem_mem hq, h⟩
theorem any_off {α : Type} [Inhabited α] {p : α → Bool} {V : List α} (h : ∀ q, q < V.length → p (V.getD q default) = false) : V.any p = false := by
  rw [Bool.eq_false_iff]
  intro h1
  obtain ⟨x, hx, h2⟩ := List.any_eq_true.1 h1
  obtain ⟨i, hi, rfl⟩ := List.getElem_of_mem hx
  have := h i hi
  rw [List.getD_eq_getElem?_getD, List.getElem?_eq_getElem hi] at this
  exact Bool.false_ne_true (this.symm.trans h2)
/-- While a list without twins is gone through, what is among it and the names before is among those before. -/
theorem binds_in {V had : List Str} {q : Nat} (hV : V.Nodup) (hq : q < V.length) : (V.getD q default ∈ (V.take q).foldl addS had) ↔ V.getD q default ∈ had := by
  rw [addF_mem]
  constructor
  · rintro (h | h)
    · exact h
    · exfalso
      obtain ⟨i, hi, e⟩ := List.getElem_of_mem h
      rw [List.getElem_take] at e
      rw [List.length_take] at hi
      have h2 := List.pairwise_iff_getElem.1 hV i q (by omega) hq (by omega)
      rw [List.getD_eq_getElem?_getD, List.getElem?_eq_getElem hq] at e
      exact h2 e
  · exact .inl
theorem all_take {α : Type} [Inhabited α] {p : α → Bool} {l : List α} {i : Nat} (h : i < l.length) : (l.take (i + 1)).all p = ((l.take i).all p && p (l.getD i default)) := by
  rw [take_getD h, List.all_append]; simp
theorem perm_stepE {α : Type} {rest pre M : List α} {j : Nat} {x : α} (hj : rest[j]? = some x) (h : (pre ++ rest).Perm M) : ((pre ++ [x]) ++ rest.eraseIdx j).Perm M := by
  refine List.Perm.trans ?_ h
  rw [List.append_assoc]
  exact List.Perm.append_left pre (perm_moveG _ j _ hj).symm
theorem perm_endE {α : Type} {rest pre M : List α} (h0 : rest = []) (h : (pre ++ rest).Perm M) : pre.Perm M := by subst h0; simpa using h
theorem sure_exit1 {n : NodeD} {v : Str} {i : Nat} (hi : i = n.kids.length) (hk : n.kind.v = 4) : ((n.kids.take i).all fun k => decide (v ∈ sureN k)) = sureC n v := by
  unfold sureC; rw [hi, List.take_length, decide_eq_false (by simpa using hk)]; rfl
theorem sure_exit2 {n : NodeD} {v : Str} {i : Nat} (hi : i = 0) (hk : ¬ n.kind.v = 4) : ((n.kids.take i).all fun k => decide (v ∈ sureN k)) = sureC n v := by
  unfold sureC; rw [hi, decide_eq_true hk]; rfl
def bB (n : NodeD) : Bool := decide (n.kind.v = 2 ∨ n.kind.v = 3)
def hadF (n : NodeD) (j : Nat) : List Str := if bB n = true then varF (n.kids.take j) [] else []
theorem hadF_zero (n : NodeD) : [] = hadF n 0 := by unfold hadF; split <;> rfl
def Hres (n : NodeD) (j : Nat) : Prop := bindsL (bB n) (n.kids.drop j) (hadF n j) = bindsE n
theorem Hres_zero (n : NodeD) : Hres n 0 := by unfold Hres; rw [← hadF_zero, List.drop_zero, bindsE_eq]; rfl
section
variable {n : NodeD} {j q : Nat}
theorem hadF_next (hb : bB n = true) (hj : j < n.kids.length) (hq : q = (varsS (n.kids.getD j default)).length) : ((varsS (n.kids.getD j default)).take q).foldl addS (hadF n j) = hadF n (j + 1) := by
  rw [fold_allS addS _ hq]; unfold hadF; rw [if_pos hb, if_pos hb]; exact (varF_step hj).symm
theorem hadF_off (hb : bB n = false) : hadF n j = hadF n (j + 1) := by unfold hadF; rw [if_neg (by rw [hb]; simp), if_neg (by rw [hb]; simp)]
theorem Hres_bad (hr : Hres n j) (h : j < n.kids.length) (he : ¬ bindsE (n.kids.getD j default) = 0) : bindsE (n.kids.getD j default) = bindsE n := binds_bad hr h he
theorem Hres_off (hr : Hres n j) (h : j < n.kids.length) (he : bindsE (n.kids.getD j default) = 0) (hb : bB n = false) : Hres n (j + 1) := by unfold Hres; rw [← hadF_off hb]; exact binds_skip hr h he hb
theorem Hres_twice (hr : Hres n j) (h : j < n.kids.length) (he : bindsE (n.kids.getD j default) = 0) (hb : bB n = true) (hq : q < (varsS (n.kids.getD j default)).length) (hd : decide ((varsS (n.kids.getD j default)).getD q default ∈ ((varsS (n.kids.getD j default)).take q).foldl addS (hadF n j)) = true) : 73 = bindsE n :=
  binds_twice hr h he hb (any_idx hq (decide_eq_true ((binds_in (varsS_nodup _) hq).1 (of_decide_eq_true hd))))
theorem Hres_new (hq : q < (varsS (n.kids.getD j default)).length) (hd : decide ((varsS (n.kids.getD j default)).getD q default ∈ ((varsS (n.kids.getD j default)).take q).foldl addS (hadF n j)) = false) : decide ((varsS (n.kids.getD j default)).getD q default ∈ hadF n j) = false :=
  decide_eq_false fun h => of_decide_eq_false hd ((binds_in (varsS_nodup _) hq).2 h)
theorem Hres_next (hr : Hres n j) (h : j < n.kids.length) (he : bindsE (n.kids.getD j default) = 0) (hb : bB n = true) (hz : ∀ i, i < (varsS (n.kids.getD j default)).length → decide ((varsS (n.kids.getD j default)).getD i default ∈ hadF n j) = false) : Hres n (j + 1) := by
  unfold Hres
  rw [← hadF_next hb h rfl, List.take_length]
  exact binds_next hr h he hb (any_off hz)
theorem Hres_end (hr : Hres n j) (h : j = n.kids.length) : 0 = bindsE n := binds_end hr h
theorem Hres_rnext (hr : Hres n j) (h : j < n.kids.length) (he : bindsE (n.kids.getD j default) = 0) (hz : bB n = true → ∀ i, i < j → ∀ x ∈ varsS (n.kids.getD i default), ¬ x ∈ varsS (n.kids.getD j default)) : Hres n (j + 1) := by
  cases hb : bB n with
  | false => exact Hres_off hr h he hb
  | true =>
    refine Hres_next hr h he hb fun i hi => decide_eq_false fun hm => ?_
    unfold hadF at hm
    rw [if_pos hb, varF_mem] at hm
    rcases hm with hm | ⟨k, hk, hx⟩
    · cases hm
    · obtain ⟨t, ht, rfl⟩ := List.getElem_of_mem hk
      rw [List.getElem_take] at hx
      rw [List.length_take] at ht
      refine hz hb t (by omega) _ (by rw [List.getD_eq_getElem?_getD, List.getElem?_eq_getElem (by omega)]; exact hx) ?_
      have e : (varsS (n.kids.getD j default)).getD i default = (varsS (n.kids.getD j default))[i] := by rw [List.getD_eq_getElem?_getD, List.getElem?_eq_getElem hi]; rfl
      rw [e]
      exact List.getElem_mem hi
theorem Hres_rbad {i u : Nat} (hr : Hres n j) (h : j < n.kids.length) (he : bindsE (n.kids.getD j default) = 0) (hb : bB n = true) (hi : i < j) (hu : u < (varsS (n.kids.getD i default)).length) (hs : hasS (varsS (n.kids.getD j default)) ((varsS (n.kids.getD i default)).getD u default).v = true) : 73 = bindsE n := by
  rw [hasS_mem] at hs
  have hs := of_decide_eq_true hs
  refine binds_twice hr h he hb (List.any_eq_true.2 ⟨_, hs, decide_eq_true ?_⟩)
  unfold hadF
  rw [if_pos hb, varF_mem]
  refine .inr ⟨n.kids.getD i default, ?_, ?_⟩
  · have e : n.kids.getD i default = n.kids[i] := by rw [List.getD_eq_getElem?_getD, List.getElem?_eq_getElem (by omega)]; rfl
    rw [e]
    exact List.mem_iff_getElem.2 ⟨i, by rw [List.length_take]; omega, by rw [List.getElem_take]⟩
  · have e : ∀ V : List Str, u < V.length → V.getD u default ∈ V := fun V hV => by rw [List.getD_eq_getElem?_getD, List.getElem?_eq_getElem hV]; exact List.getElem_mem hV
    exact e _ hu
end
theorem not_mem_of_has {L M : List Str} (h : ∀ u, u < M.length → hasS L (M.getD u default).v = false) : ∀ x ∈ M, ¬ x ∈ L := by
  intro x hx hl
  obtain ⟨u, hu, rfl⟩ := List.getElem_of_mem hx
  have := h u hu
  rw [hasS_mem, List.getD_eq_getElem?_getD, List.getElem?_eq_getElem hu] at this
  exact of_decide_eq_false this hl
/-! ## the first that is not 0 -/
section
variable {α : Type} [Inhabited α] {f : α → Int} {l : List α} {j : Nat}
theorem firstE_zero (M : List Int) (h : ∀ x ∈ M, x = 0) : firstE M = 0 := by
  induction M with
  | nil => rfl
  | cons a M ih => unfold firstE; rw [if_pos (h a (List.mem_cons_self ..))]; exact ih fun x hx => h x (List.mem_cons_of_mem _ hx)
theorem firstE_app (M N : List Int) (h : ∀ x ∈ M, x = 0) : firstE (M ++ N) = firstE N := by
  induction M with
  | nil => rfl
  | cons a M ih => show (if a = 0 then firstE (M ++ N) else a) = _; rw [if_pos (h a (List.mem_cons_self ..))]; exact ih fun x hx => h x (List.mem_cons_of_mem _ hx)
theorem firstE_at (hz : ∀ q, q < j → f (l.getD q default) = 0) (hj : j < l.length) (h : ¬ f (l.getD j default) = 0) : f (l.getD j default) = firstE (l.map f) := by
  have e : l = l.take j ++ (l.getD j default :: l.drop (j + 1)) := by rw [← drop_getD hj, List.take_append_drop]
  have : firstE (l.map f) = firstE ((l.take j).map f ++ (f (l.getD j default) :: (l.drop (j + 1)).map f)) :=
    (congrArg (fun z => firstE (z.map f)) e).trans (by rw [List.map_append]; rfl)
  rw [this, firstE_app]
  · unfold firstE; rw [if_neg h]
  · intro x hx
    obtain ⟨a, ha, rfl⟩ := List.mem_map.1 hx
    obtain ⟨i, hi, rfl⟩ := List.getElem_of_mem ha
    rw [List.length_take] at hi
    have := hz i (by omega)
    rw [List.getD_eq_getElem?_getD, List.getElem?_eq_getElem (by omega)] at this
    rw [List.getElem_take]; exact this
theorem firstE_end (hz : ∀ q, q < j → f (l.getD q default) = 0) (hj : j = l.length) : 0 = firstE (l.map f) := by
  symm
  refine firstE_zero _ fun x hx => ?_
  obtain ⟨a, ha, rfl⟩ := List.mem_map.1 hx
  obtain ⟨i, hi, rfl⟩ := List.getElem_of_mem ha
  have := hz i (by omega)
  rw [List.getD_eq_getElem?_getD, List.getElem?_eq_getElem hi] at this
  exact this
end
theorem nodeE_own {n : NodeD} {e : Int} (h : ownE n.kind.v n.var.v n.typ.v n.tests n.kids.length = e) (h0 : ¬ e = 0) : e = nodeE n := by rw [nodeE_eq, if_neg (by rw [h]; exact h0), h]
theorem nodeE_kids {n : NodeD} (h : ownE n.kind.v n.var.v n.typ.v n.tests n.kids.length = 0) : nodeE n = firstE (n.kids.map nodeE) := by rw [nodeE_eq, if_pos h]
/-! ## patterns -/
structure PatD where
  name : Str
  win : I64
  root : NodeD
  wp : Option Addr
  wc : Nat
  wh : List CondV
instance : Inhabited PatD := ⟨⟨default, default, default, none, 0, []⟩⟩
def patCell (p : PatD) : List Value := [.string p.name.v, .int .i64 p.win.v] ++ nodeCell p.root ++ [.slice p.wp p.wh.length p.wc]
theorem patCell_len (p : PatD) : (patCell p).length = 8 := rfl
def patE (p : PatD) : Int :=
  if nameB p.name.v = false ∨ p.win.v < 1 ∨ 1099511627776 < p.win.v then 70 else if ¬ shapeE p.root = 0 then shapeE p.root else if ¬ bindsE p.root = 0 then bindsE p.root else condsE p.wh (varsS p.root)
end Sl
