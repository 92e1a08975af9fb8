/- Normal forms of trees, as plain functions: flat, sorted, drawn up. No condition. -/
import Derived.Test.YtfflafpcpbeciaaSlCJ
namespace Sl
open _root_.Go _root_.Go.RowKit _root_.Go.Proofs
set_option linter.all false
set_option linter.unusedSimpArgs false
theorem erase_idem (n : NodeD) : eraseN (eraseN n) = eraseN n := by
  induction n using nodeD_induct with
  | h n ih => exact erase_eq erase_kind erase_var erase_typ erase_tests (by rw [erase_kids, List.map_map]; exact List.map_congr_left fun k hk => ih k hk)
/-! ## in order -/
def leD (a b : NodeD) : Bool := decide (cmpN a b ≤ 0)
def sortL (l : List NodeD) : List NodeD := l.mergeSort leD
theorem leD_trans (a b c : NodeD) (h1 : leD a b = true) (h2 : leD b c = true) : leD a c = true := decide_eq_true (cmp_trans a b c (of_decide_eq_true h1) (of_decide_eq_true h2))
theorem leD_total (a b : NodeD) : (leD a b || leD b a) = true := by
  unfold leD
  have := cmp_anti a b
  by_cases h : cmpN a b ≤ 0
  · rw [decide_eq_true h]; rfl
  · rw [decide_eq_true (show cmpN b a ≤ 0 by omega)]; simp
theorem sortL_perm (l : List NodeD) : (sortL l).Perm l := List.mergeSort_perm l leD
theorem sortL_sorted (l : List NodeD) : (sortL l).Pairwise (fun a b => leD a b = true) := List.pairwise_mergeSort leD_trans leD_total l
theorem erased_eq {a b : NodeD} (ha : eraseN a = a) (hb : eraseN b = b) (h1 : leD a b = true) (h2 : leD b a = true) : a = b := by
  have h3 : cmpN a b ≤ 0 := of_decide_eq_true h1
  have h4 : cmpN b a ≤ 0 := of_decide_eq_true h2
  have := cmp_anti a b
  have h5 := (cmp_zero a b).1 (by omega)
  rw [← ha, ← hb, h5]
theorem mem_erased {l : List NodeD} {a : NodeD} (h : a ∈ l.map eraseN) : eraseN a = a := by
  obtain ⟨x, _, rfl⟩ := List.mem_map.1 h
  exact erase_idem x
theorem srt_pairwise {K : List NodeD} {N : Nat} (h : srt K 0 N) (hN : K.length = N) : K.Pairwise (fun a b => leD a b = true) := by
  rw [List.pairwise_iff_getElem]
  intro i j hi hj hij
  have := h i j (Nat.zero_le _) hij (by omega)
  unfold leN gd at this
  rw [List.getD_eq_getElem?_getD, List.getD_eq_getElem?_getD, List.getElem?_eq_getElem hi, List.getElem?_eq_getElem hj] at this
  exact decide_eq_true this
theorem pairwise_erase {K : List NodeD} (h : K.Pairwise (fun a b => leD a b = true)) : (K.map eraseN).Pairwise (fun a b => leD a b = true) := by
  rw [List.pairwise_map]
  exact h.imp fun {a b} h => by unfold leD at h ⊢; rw [cmp_eraseL, cmp_eraseR]; exact h
theorem sorted_is {K C : List NodeD} (h : K.Pairwise (fun a b => leD a b = true)) (hp : K.Perm C) : K.map eraseN = sortL (C.map eraseN) := by
  refine List.Perm.eq_of_pairwise (le := fun a b => leD a b = true) (fun a b ha hb h1 h2 => ?_) (pairwise_erase h) (sortL_sorted _) ((hp.map eraseN).trans (sortL_perm _).symm)
  exact erased_eq (mem_erased ha) (mem_erased ((sortL_perm _).mem_iff.1 hb)) h1 h2
theorem srt_is {K C : List NodeD} {N : Nat} (h : srt K 0 N) (hN : C.length = N) (hp : K.Perm C) : K.map eraseN = sortL (C.map eraseN) := sorted_is (srt_pairwise h (by rw [hp.length_eq, hN])) hp
/-! ## each once -/
def cptL : NodeD → List NodeD → List NodeD
  | _, [] => []
  | p, a :: l => if cmpN a p = 0 then cptL a l else a :: cptL a l
def compact : List NodeD → List NodeD
  | [] => []
  | a :: l => a :: cptL a l
theorem cptL_erase : ∀ (l : List NodeD) (p : NodeD), cptL (eraseN p) (l.map eraseN) = (cptL p l).map eraseN
  | [], _ => rfl
  | a :: l, p => by
    simp only [List.map_cons, cptL, cmp_eraseL, cmp_eraseR]
    by_cases h : cmpN a p = 0
    · rw [if_pos h, if_pos h]; exact cptL_erase l a
    · rw [if_neg h, if_neg h, List.map_cons, cptL_erase l a]
theorem compact_erase (l : List NodeD) : compact (l.map eraseN) = (compact l).map eraseN := by
  cases l with
  | nil => rfl
  | cons a l => simp only [List.map_cons, compact, cptL_erase]
theorem cptL_len : ∀ (l : List NodeD) (p : NodeD), (cptL p l).length ≤ l.length
  | [], _ => Nat.le_refl _
  | a :: l, p => by
    have := cptL_len l a
    simp only [cptL]
    split <;> simp only [List.length_cons] <;> omega
theorem compact_len (l : List NodeD) : (compact l).length ≤ l.length := by
  cases l with
  | nil => exact Nat.le_refl _
  | cons a l => have := cptL_len l a; simp only [compact, List.length_cons]; omega
def uniqL (l : List NodeD) : List NodeD := compact (sortL l)
def ordK (kind : Int) (l : List NodeD) : List NodeD := if kind = 4 then uniqL l else if kind = 3 then sortL l else l
/-! ## flat -/
def innerB (k : Int) : Bool := decide (k = 2 ∨ k = 3 ∨ k = 4)
def flatJ (kind : Int) (l : List NodeD) : List NodeD := l.flatMap fun k => if k.kind.v = kind then k.kids else [k]
def flatK (kind : Int) (l : List NodeD) : List NodeD := if innerB kind = true then flatJ kind l else l
mutual
def flatN : NodeD → NodeD
  | .mk kind var typ _ _ tests _ _ kids => .mk kind var typ none 0 tests none 0 (flatK kind.v (flatL kids))
def flatL : List NodeD → List NodeD
  | [] => []
  | k :: l => flatN k :: flatL l
end
theorem flatL_map (l : List NodeD) : flatL l = l.map flatN := by induction l with | nil => rfl | cons k l ih => simp only [flatL, List.map_cons, ih]
theorem flatN_eq {n : NodeD} : flatN n = .mk n.kind n.var n.typ none 0 n.tests none 0 (flatK n.kind.v (n.kids.map flatN)) := by cases n; rw [← flatL_map]; rfl
mutual
def sortN : NodeD → NodeD
  | .mk kind var typ _ _ tests _ _ kids => .mk kind var typ none 0 tests none 0 (ordK kind.v (sortNL kids))
def sortNL : List NodeD → List NodeD
  | [] => []
  | k :: l => sortN k :: sortNL l
end
theorem sortNL_map (l : List NodeD) : sortNL l = l.map sortN := by induction l with | nil => rfl | cons k l ih => simp only [sortNL, List.map_cons, ih]
theorem sortN_eq {n : NodeD} : sortN n = .mk n.kind n.var n.typ none 0 n.tests none 0 (ordK n.kind.v (n.kids.map sortN)) := by cases n; rw [← sortNL_map]; rfl
theorem flatJ_erase (kind : Int) (l : List NodeD) : (flatJ kind l).map eraseN = flatJ kind (l.map eraseN) := by
  unfold flatJ
  rw [List.map_flatMap, List.flatMap_map]
  congr 1
  funext k
  rw [erase_kind]
  by_cases h : k.kind.v = kind
  · rw [if_pos h, if_pos h, erase_kids]
  · rw [if_neg h, if_neg h]; rfl
theorem flatJ_step {kind : Int} {C : List NodeD} {j : Nat} (h : j < C.length) : flatJ kind (C.take (j + 1)) = flatJ kind (C.take j) ++ (if (C.getD j default).kind.v = kind then (C.getD j default).kids else [C.getD j default]) := by
  unfold flatJ; rw [take_getD h, List.flatMap_append]; simp
theorem flatJ_len (kind : Int) (l : List NodeD) : (flatJ kind l).length ≤ sizeL l := by
  unfold flatJ
  induction l with
  | nil => simp
  | cons k l ih =>
    rw [List.flatMap_cons, List.length_append]
    simp only [sizeL]
    have h1 := kids_len k
    have h2 := sizeN_pos k
    split
    · omega
    · simp only [List.length_cons, List.length_nil]; omega
theorem sizeL_erase (l : List NodeD) : sizeL (l.map eraseN) = sizeL l := by
  rw [sizeL_sum, sizeL_sum, List.map_map]
  congr 1
  exact List.map_congr_left fun k _ => erase_size k
theorem sizeL_app (l m : List NodeD) : sizeL (l ++ m) = sizeL l + sizeL m := by rw [sizeL_sum, sizeL_sum, sizeL_sum, List.map_append, List.sum_append]
theorem flatJ_size (kind : Int) (l : List NodeD) : sizeL (flatJ kind l) ≤ sizeL l := by
  unfold flatJ
  induction l with
  | nil => simp
  | cons k l ih =>
    rw [List.flatMap_cons, sizeL_app]
    simp only [sizeL]
    have : sizeL (if k.kind.v = kind then k.kids else [k]) ≤ sizeN k := by
      split
      · rw [sizeN_eq]; omega
      · simp [sizeL]
    omega
theorem flatK_size (kind : Int) (l : List NodeD) : sizeL (flatK kind l) ≤ sizeL l := by
  unfold flatK; split
  · exact flatJ_size kind l
  · exact Nat.le_refl _
theorem sizeL_le {f : NodeD → NodeD} {l : List NodeD} (h : ∀ k ∈ l, sizeN (f k) ≤ sizeN k) : sizeL (l.map f) ≤ sizeL l := by
  induction l with
  | nil => exact Nat.le_refl _
  | cons k l ih =>
    have h1 := h k (List.mem_cons_self ..)
    have h2 := ih fun q hq => h q (List.mem_cons_of_mem _ hq)
    simp only [List.map_cons, sizeL]; omega
theorem flatN_size (n : NodeD) : sizeN (flatN n) ≤ sizeN n := by
  induction n using nodeD_induct with
  | h n ih =>
    rw [flatN_eq, sizeN_eq, sizeN_eq (n := n)]
    have h1 := flatK_size n.kind.v (n.kids.map flatN)
    have h2 := sizeL_le ih
    show 1 + sizeL (flatK n.kind.v (n.kids.map flatN)) ≤ _
    omega
/-- What results stand for: kids' results, in order. -/
theorem res_size {C : List NodeD} {l : List NodeD} {f : NodeD → NodeD} (h : C.map eraseN = l.map f) (hf : ∀ k ∈ l, sizeN (f k) ≤ sizeN k) : sizeL C ≤ sizeL l := by
  rw [← sizeL_erase, h]; exact sizeL_le hf
theorem res_len {C l : List NodeD} {f : NodeD → NodeD} (h : C.map eraseN = l.map f) : C.length = l.length := by simpa using congrArg List.length h
theorem res_snoc {C l : List NodeD} {f : NodeD → NodeD} {j : Nat} (h : C.map eraseN = (l.take j).map f) (hj : j < l.length) {q : NodeD} (hq : eraseN q = f (l.getD j default)) : (C ++ [q]).map eraseN = (l.take (j + 1)).map f := by
  rw [take_getD hj, List.map_append, List.map_append, h]; simp only [List.map_cons, List.map_nil, hq]
section
variable {W w : World} {l : List Atom} {n : NodeD} {C D : List NodeD} {a b : Nat}
theorem NodesA.snoc' (H : St W w l) (hC : l[a]? = some (NodesA C)) (hn : l[b]? = some (NodeA n)) : St W w (NodesA (C ++ [n]) :: l) :=
  H.derive fun I h => ⟨rfl, fun k hk => by
    rcases List.mem_append.1 hk with hk | hk
    · exact (h _ _ hC (NodesA_pers _)).2 k hk
    · simp only [List.mem_singleton] at hk; subst hk; exact (h _ _ hn (NodeA_pers _)).2⟩
theorem NodesA.app (H : St W w l) (hC : l[a]? = some (NodesA C)) (hD : l[b]? = some (NodesA D)) : St W w (NodesA (C ++ D) :: l) :=
  H.derive fun I h => ⟨rfl, fun k hk => by
    rcases List.mem_append.1 hk with hk | hk
    · exact (h _ _ hC (NodesA_pers _)).2 k hk
    · exact (h _ _ hD (NodesA_pers _)).2 k hk⟩
theorem NodesA.of (H : St W w l) (hn : l[a]? = some (NodeA n)) : St W w (NodesA n.kids :: l) := H.derive fun I h => ⟨rfl, fun k hk => by cases (h _ _ hn (NodeA_pers _)).2 with | mk h1 h2 h3 h4 => exact h4 k hk⟩
end
/-! ## alternatives -/
mutual
def altsT : NodeD → List NodeD
  | .mk kind var typ _ _ tests _ _ kids => if kids.isEmpty then [.mk kind var typ none 0 tests none 0 []] else if kind.v = 4 then altsAll kids else (combT kids).map fun ks => .mk kind var typ none 0 tests none 0 ks
def altsAll : List NodeD → List NodeD
  | [] => []
  | k :: l => altsT k ++ altsAll l
def combT : List NodeD → List (List NodeD)
  | [] => [[]]
  | k :: l => (altsT k).flatMap fun a => (combT l).map (a :: ·)
end
def combS : List (List NodeD) → List (List NodeD)
  | [] => [[]]
  | l :: ls => l.flatMap fun a => (combS ls).map (a :: ·)
def withK (n : NodeD) (ks : List NodeD) : NodeD := .mk n.kind n.var n.typ none 0 n.tests none 0 ks
theorem altsAll_flat (l : List NodeD) : altsAll l = l.flatMap altsT := by induction l with | nil => rfl | cons k l ih => simp only [altsAll, List.flatMap_cons, ih]
theorem combT_S (l : List NodeD) : combT l = combS (l.map altsT) := by induction l with | nil => rfl | cons k l ih => simp only [combT, List.map_cons, combS, ih]
theorem altsT_eq {n : NodeD} : altsT n = if n.kids.isEmpty then [withK n []] else if n.kind.v = 4 then n.kids.flatMap altsT else (combS (n.kids.map altsT)).map (withK n) := by
  cases n; rw [← altsAll_flat, ← combT_S]; rfl
def treeN (n : NodeD) : NodeD := if (uniqL ((altsT n).map fun x => sortN (flatN x))).length = 1 then (uniqL ((altsT n).map fun x => sortN (flatN x))).getD 0 default else .mk ⟨4, by decide, by decide⟩ Str.none Str.none none 0 [] none 0 (uniqL ((altsT n).map fun x => sortN (flatN x)))
def treeE (n : NodeD) : Int := if 64 < altsN n then 80 else 0
end Sl
