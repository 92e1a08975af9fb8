/- Trees that are built; trees that the laws of patterns build; what is surely bound is bound. No condition. -/
import Derived.Test.YtkclljglobeplaaSlCE
import Derived.KernelRfl
namespace Sl
open _root_.Go _root_.Go.RowKit _root_.Go.Proofs
set_option linter.all false
set_option linter.unusedSimpArgs false
theorem Stars.pers_at {I : Heap} {l : List Atom} {h : Heap} {i : Nat} {A : Atom} (s : Stars I l h) (hi : l[i]? = some A) (hp : A.pers) : A.sat I Heap.none := by
  obtain ⟨h1, h2, _, _, a, _⟩ := Stars.focus s hi
  have := hp _ _ a
  subst this; exact a
/-- What follows from parts that are turned no more. -/
theorem St.derive {W w : World} {l : List Atom} {A' : Atom} (H : St W w l) (h : ∀ I : Heap, (∀ (i : Nat) (A : Atom), l[i]? = some A → A.pers → A.sat I Heap.none) → A'.sat I Heap.none) : St W w (A' :: l) := by
  obtain ⟨I, h', dI, hI, hh, s⟩ := H.mem
  exact ⟨H.os, H.tape, H.output, I, h', dI, hI, hh, Heap.none, h', Heap.none_disj h', (Heap.none_union h').symm, h I (fun i A hi hp => Stars.pers_at s hi hp), s⟩
section
variable {W w : World} {l : List Atom} {n : NodeD} {a b c : Nat}
theorem NodeA.make (n : NodeD) (H : St W w l) (ht : l[a]? = some (Im 11 n.tv n.tests.length (n.tests.flatMap condCell))) (hk : l[b]? = some (Im 5 n.kv n.kids.length (n.kids.flatMap nodeCell))) (hn : l[c]? = some (NodesA n.kids)) (hb : n.tests.length * 136 ≤ 140737488355328 ∧ n.kids.length * 88 ≤ 140737488355328) : St W w (NodeA n :: l) :=
  H.derive fun I h => ⟨rfl, .mk (h _ _ ht (Im_pers _ _ _ _)) (h _ _ hk (Im_pers _ _ _ _)) hb (h _ _ hn (NodesA_pers _)).2⟩
theorem NodesA.nil (H : St W w l) : St W w (NodesA [] :: l) := H.derive fun I h => ⟨rfl, fun k hk => by cases hk⟩
theorem NodesA.cons {L : List NodeD} (H : St W w l) (hn : l[a]? = some (NodeA n)) (hL : l[b]? = some (NodesA L)) : St W w (NodesA (n :: L) :: l) :=
  H.derive fun I h => ⟨rfl, fun k hk => by
    rcases List.mem_cons.1 hk with rfl | hk
    · exact (h _ _ hn (NodeA_pers _)).2
    · exact (h _ _ hL (NodesA_pers _)).2 k hk⟩
end
/-! ## what the laws build -/
def lvS : Str := ⟨⟨#[97]⟩, by decide⟩
def lvA : NodeD := .mk ⟨1, by decide, by decide⟩ lvS ⟨⟨#[65]⟩, by decide⟩ none 0 [] none 0 []
def lvR2 (g : Nat) : NodeD := .mk ⟨2, by decide, by decide⟩ Str.none Str.none none 0 [] (some ⟨g, 0, none⟩) 2 [lvA, lvA]
def lvR4 (g : Nat) : NodeD := .mk ⟨4, by decide, by decide⟩ Str.none Str.none none 0 [] (some ⟨g, 0, none⟩) 2 [lvA, lvA]
def lvP (r : NodeD) : PatD := ⟨⟨⟨#[112]⟩, by decide⟩, ⟨5, by decide, by decide⟩, r, none, 0, []⟩
theorem lvA_vars : varsS lvA = [lvS] := by
  unfold varsS
  have : walkN lvA [] = [lvS] := by decide +kernel
  rw [this]; exact sortS_one _
theorem lvA_sure : sureN lvA = [lvS] := by rw [sureN_leaf rfl]; decide +kernel
theorem lvA_node : nodeE lvA = 0 := by decide +kernel
theorem lvA_binds : bindsE lvA = 0 := by rw [bindsE_eq]; rfl
theorem lv_shape2 (g : Nat) : shapeE (lvR2 g) = 0 := by
  have h1 : nodeE (lvR2 g) = 0 := by
    rw [nodeE_eq]
    show (if ownE 2 ByteArray.empty ByteArray.empty [] 2 = 0 then firstE [nodeE lvA, nodeE lvA] else ownE 2 ByteArray.empty ByteArray.empty [] 2) = 0
    rw [lvA_node]; decide +kernel
  have h2 : deepN (lvR2 g) = 2 := rfl
  have h3 : termsN (lvR2 g) = 2 := rfl
  have h4 : altsN (lvR2 g) = 1 := rfl
  unfold shapeE; rw [h1, h2, h3, h4]; rfl
theorem lv_shape4 (g : Nat) : shapeE (lvR4 g) = 0 := by
  have h1 : nodeE (lvR4 g) = 0 := by
    rw [nodeE_eq]
    show (if ownE 4 ByteArray.empty ByteArray.empty [] 2 = 0 then firstE [nodeE lvA, nodeE lvA] else ownE 4 ByteArray.empty ByteArray.empty [] 2) = 0
    rw [lvA_node]; decide +kernel
  have h2 : deepN (lvR4 g) = 2 := rfl
  have h3 : termsN (lvR4 g) = 2 := rfl
  have h4 : altsN (lvR4 g) = 2 := rfl
  unfold shapeE; rw [h1, h2, h3, h4]; rfl
theorem lv_binds2 (g : Nat) : bindsE (lvR2 g) = 73 := by
  rw [bindsE_eq]
  show bindsL true [lvA, lvA] [] = 73
  simp only [bindsL, lvA_binds, lvA_vars]
  decide +kernel
theorem lv_binds4 (g : Nat) : bindsE (lvR4 g) = 0 := by
  rw [bindsE_eq]
  show bindsL false [lvA, lvA] [] = 0
  simp only [bindsL, lvA_binds]
  decide +kernel
theorem lv_pat2 (g : Nat) : patE (lvP (lvR2 g)) = 73 := by
  have hn : nameB (⟨#[112]⟩ : ByteArray) = true := by decide +kernel
  unfold patE
  show (if nameB (⟨#[112]⟩ : ByteArray) = false ∨ (5 : Int) < 1 ∨ 1099511627776 < (5 : Int) then (70 : Int) else if ¬ shapeE (lvR2 g) = 0 then shapeE (lvR2 g) else if ¬ bindsE (lvR2 g) = 0 then bindsE (lvR2 g) else condsE [] (varsS (lvR2 g))) = 73
  rw [hn, lv_shape2, lv_binds2]; rfl
theorem lv_pat4 (g : Nat) : patE (lvP (lvR4 g)) = 0 := by
  have hn : nameB (⟨#[112]⟩ : ByteArray) = true := by decide +kernel
  unfold patE
  show (if nameB (⟨#[112]⟩ : ByteArray) = false ∨ (5 : Int) < 1 ∨ 1099511627776 < (5 : Int) then (70 : Int) else if ¬ shapeE (lvR4 g) = 0 then shapeE (lvR4 g) else if ¬ bindsE (lvR4 g) = 0 then bindsE (lvR4 g) else condsE [] (varsS (lvR4 g))) = 0
  rw [hn, lv_shape4, lv_binds4]; rfl
theorem lv_sure4 (g : Nat) : sureN (lvR4 g) = [lvS] := by
  rw [sureN_kids rfl]
  have h1 : sureF (lvR4 g).kids [] = [lvS] := by
    show sureF [lvA, lvA] [] = [lvS]
    unfold sureF
    show ([lvA, lvA].foldl (fun A k => (sureN k).foldl addS A) []) = [lvS]
    simp only [List.foldl_cons, List.foldl_nil, lvA_sure]
    decide +kernel
  have h2 : sureC (lvR4 g) lvS = true := by
    unfold sureC
    show (decide (¬ (4 : Int) = 4) || [lvA, lvA].all fun k => decide (lvS ∈ sureN k)) = true
    simp only [List.all_cons, List.all_nil, lvA_sure]
    decide +kernel
  rw [h1, List.filter_cons, if_pos h2, List.filter_nil, sortS_one]
theorem lv_size (g : Nat) : sizeN (lvR2 g) = 3 ∧ sizeN (lvR4 g) = 3 := ⟨rfl, rfl⟩
theorem lv_terms (g : Nat) : termsN (lvR4 g) = 2 := rfl
/-! ## what is surely bound is bound -/
theorem sure_sub (n : NodeD) : ∀ x ∈ sureN n, x ∈ varsS n := by
  induction n using nodeD_induct with
  | h n ih =>
    intro x hx
    rw [varsS_mem, walkN_eq, foldA_mem n.kids (fun k _ A x => walkN_mem k A x)]
    cases h : n.kids.isEmpty with
    | true =>
      rw [sureN_leaf h] at hx
      left
      split at hx
      · cases hx
      · rename_i hv
        rw [if_neg hv, addS_mem]
        simp only [List.mem_singleton] at hx
        exact .inr hx
    | false =>
      rw [sureN_kids h, sortS_mem, List.mem_filter, sureF_mem] at hx
      rcases hx.1 with h1 | ⟨k, hk, h1⟩
      · cases h1
      · exact .inr ⟨k, hk, varsS_mem.1 (ih k hk x h1)⟩
mutual
def orN : NodeD → Bool
  | .mk kind _ _ _ _ _ _ _ kids => decide (kind.v = 4) || orL kids
def orL : List NodeD → Bool
  | [] => false
  | k :: l => orN k || orL l
end
theorem orL_any (l : List NodeD) : orL l = l.any orN := by induction l with | nil => rfl | cons k l ih => simp only [orL, List.any_cons, ih]
theorem orN_eq {n : NodeD} : orN n = (decide (n.kind.v = 4) || n.kids.any orN) := by cases n; rw [← orL_any]; rfl
theorem firstE_mem {l : List NodeD} {f : NodeD → Int} (h : firstE (l.map f) = 0) : ∀ k ∈ l, f k = 0 := by
  induction l with
  | nil => intro k hk; cases hk
  | cons a l ih =>
    intro k hk
    simp only [List.map_cons, firstE] at h
    by_cases ha : f a = 0
    · rw [if_pos ha] at h
      rcases List.mem_cons.1 hk with rfl | hk
      · exact ha
      · exact ih h k hk
    · rw [if_neg ha] at h; exact absurd h ha
theorem nodeE_zero {n : NodeD} (h : nodeE n = 0) : ownE n.kind.v n.var.v n.typ.v n.tests n.kids.length = 0 ∧ ∀ k ∈ n.kids, nodeE k = 0 := by
  rw [nodeE_eq] at h
  split at h
  · rename_i h1; exact ⟨h1, firstE_mem h⟩
  · rename_i h1; exact absurd h h1
theorem own_inner {n : NodeD} (h : ownE n.kind.v n.var.v n.typ.v n.tests n.kids.length = 0) (hk : n.kids.isEmpty = false) : n.var.v = ByteArray.empty := by
  have h0 : 0 < n.kids.length := by
    cases hl : n.kids with
    | nil => rw [hl] at hk; cases hk
    | cons a l => simp
  unfold ownE at h
  split at h
  · rw [if_pos (.inl h0)] at h; omega
  · split at h
    · split at h
      · omega
      · rename_i h3
        refine Classical.byContradiction fun hv => h3 (.inr (.inl hv))
    · omega
theorem sure_all (n : NodeD) : nodeE n = 0 → orN n = false → ∀ x, x ∈ varsS n → x ∈ sureN n := by
  induction n using nodeD_induct with
  | h n ih =>
    intro he ho x hx
    obtain ⟨h1, h2⟩ := nodeE_zero he
    rw [orN_eq, Bool.or_eq_false_iff] at ho
    rw [varsS_mem, walkN_eq, foldA_mem n.kids (fun k _ A x => walkN_mem k A x)] at hx
    cases h : n.kids.isEmpty with
    | true =>
      rw [sureN_leaf h]
      have hk : n.kids = [] := List.isEmpty_iff.1 h
      rw [hk] at hx
      rcases hx with hx | ⟨k, hk, _⟩
      · split at hx
        · cases hx
        · rename_i hv
          rw [if_neg hv]
          rw [addS_mem] at hx
          rcases hx with hx | hx
          · cases hx
          · rw [hx]; simp
      · cases hk
    | false =>
      rw [sureN_kids h, sortS_mem, List.mem_filter, sureF_mem]
      have hv := own_inner h1 h
      rw [if_pos hv] at hx
      rcases hx with hx | ⟨k, hk, hx⟩
      · cases hx
      · refine ⟨.inr ⟨k, hk, ih k hk (h2 k hk) ?_ x (varsS_mem.2 hx)⟩, ?_⟩
        · rw [List.any_eq_false] at ho
          exact Bool.eq_false_iff.2 (ho.2 k hk)
        · unfold sureC
          rw [decide_eq_true (of_decide_eq_false ho.1)]; rfl
theorem sure_vars {n : NodeD} (he : nodeE n = 0) (ho : orN n = false) : sureN n = varsS n := by
  have h1 : sortS (sureN n) = sortS (varsS n) := sortS_ext (sureN_nodup n) (varsS_nodup n) fun x => ⟨sure_sub n x, sure_all n he ho x⟩
  have h2 : sortS (varsS n) = varsS n := sortS_idem _
  have h3 : sortS (sureN n) = sureN n := by rw [sureN_eq]; exact sortS_idem _
  rw [← h3, h1, h2]
theorem shape_node {n : NodeD} (h : shapeE n = 0) : nodeE n = 0 := by
  unfold shapeE at h
  split at h
  · omega
  · split at h
    · rename_i h2; exact absurd h h2
    · rename_i h2; exact Classical.byContradiction h2
def withinB (L M : List Str) : Bool := L.all fun x => hasS M x.v
theorem within_at {L M : List Str} {j : Nat} (hj : j < L.length) (h : hasS M (L.getD j default).v = false) : withinB L M = false := by
  unfold withinB
  rw [List.all_eq_false]
  rw [List.getD_eq_getElem?_getD, List.getElem?_eq_getElem hj] at h
  exact ⟨_, List.getElem_mem hj, by rw [show hasS M L[j].v = false from h]; simp⟩
theorem within_end {L M : List Str} {j : Nat} (hz : ∀ q, q < j → hasS M (L.getD q default).v = true) (hj : j = L.length) : withinB L M = true := by
  unfold withinB
  rw [List.all_eq_true]
  intro x hx
  obtain ⟨i, hi, rfl⟩ := List.getElem_of_mem hx
  have := hz i (by omega)
  rw [List.getD_eq_getElem?_getD, List.getElem?_eq_getElem hi] at this
  exact this
theorem within_sure (n : NodeD) : withinB (sureN n) (varsS n) = true := by
  unfold withinB
  rw [List.all_eq_true]
  intro x hx
  rw [hasS_mem]; exact decide_eq_true (sure_sub n x hx)
theorem kid_mem_lt {n x : NodeD} (h : x ∈ n.kids) : sizeOf x < sizeOf n := by
  have := List.sizeOf_lt_of_mem h
  cases n
  simp only [NodeD.kids] at this
  simp only [NodeD.mk.sizeOf_spec]
  omega
theorem getD_mem' {α : Type} [Inhabited α] {L : List α} {j : Nat} (h : j < L.length) : L.getD j default ∈ L := by rw [List.getD_eq_getElem?_getD, List.getElem?_eq_getElem h]; exact List.getElem_mem h
def fitB (n : NodeD) : Bool := decide (termsN n ≤ 200 ∧ deepN n ≤ 50)
end Sl
