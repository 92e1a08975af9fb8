/- Old places: what markers do, plain laws. No condition. -/
import Derived.Test.YteogdknlofcpiaaSlDC
import Derived.Test.YteogdknlofcpiaaSlDD
namespace Sl
open _root_.Go _root_.Go.RowKit
set_option linter.all false
set_option linter.unusedSimpArgs false
theorem delS_erase (L : List I64) (k : I64) : delS L k = L.erase k := by
  unfold delS
  rw [List.erase_eq_eraseIdx]
  have : (fun x : I64 => decide (x = k)) = (fun x => x == k) := by funext x; rw [Bool.eq_iff_iff]; simp
  rw [this]
  cases h : List.idxOf? k L with
  | none =>
    rw [List.idxOf?_eq_none_iff] at h
    exact List.eraseIdx_of_length_le (Nat.le_of_eq (List.findIdx_eq_length_of_false (fun x hx => by simp; rintro rfl; exact h hx)).symm)
  | some i =>
    have h2 : L.findIdx? (fun x => x == k) = some i := h
    rw [List.findIdx?_eq_some_iff_findIdx_eq] at h2
    simp [h2.2]
/-- The program's old place. -/
def mkE (M K : List I64) (n : I64) : Int := if n ∈ K then (if n ∈ M then 0 else 5) else 4
def mkM (M K : List I64) (n : I64) : List I64 := if mkE M K n = 0 then delS M n else M
def mkAll (M K : List I64) (n : I64) : Bool := decide (mkE M K n = 0 ∧ (delS M n).length = 0)
def mkP (M K : List I64) (n : I64) (ph : Int) : Int := if mkAll M K n = true then 2 else ph
theorem mk_4 {M K : List I64} {n : I64} {ph : Int} (h : decide (n ∈ K) = false) : mkE M K n = 4 ∧ mkM M K n = M ∧ mkAll M K n = false ∧ mkP M K n ph = ph := by
  have h1 : mkE M K n = 4 := if_neg (of_decide_eq_false h)
  have h3 : mkAll M K n = false := decide_eq_false (by rw [h1]; rintro ⟨h, _⟩; cases h)
  exact ⟨h1, if_neg (by rw [h1]; decide), h3, if_neg (by rw [h3]; simp)⟩
theorem mk_5 {M K : List I64} {n : I64} {ph : Int} (h : decide (n ∈ K) = true) (h2 : decide (n ∈ M) = false) : mkE M K n = 5 ∧ mkM M K n = M ∧ mkAll M K n = false ∧ mkP M K n ph = ph := by
  have h1 : mkE M K n = 5 := by unfold mkE; rw [if_pos (of_decide_eq_true h), if_neg (of_decide_eq_false h2)]
  have h3 : mkAll M K n = false := decide_eq_false (by rw [h1]; rintro ⟨h, _⟩; cases h)
  exact ⟨h1, if_neg (by rw [h1]; decide), h3, if_neg (by rw [h3]; simp)⟩
theorem mk_0 {M K : List I64} {n : I64} (h : decide (n ∈ K) = true) (h2 : decide (n ∈ M) = true) : mkE M K n = 0 ∧ mkM M K n = delS M n := by
  have h1 : mkE M K n = 0 := by unfold mkE; rw [if_pos (of_decide_eq_true h), if_pos (of_decide_eq_true h2)]
  exact ⟨h1, if_pos h1⟩
theorem mk_0y {M K : List I64} {n : I64} {ph : Int} (h1 : mkE M K n = 0) (h : (delS M n).length = 0) : mkAll M K n = true ∧ mkP M K n ph = 2 := by
  have h3 : mkAll M K n = true := decide_eq_true ⟨h1, h⟩
  exact ⟨h3, if_pos h3⟩
theorem mk_0n {M K : List I64} {n : I64} {ph : Int} (h : ¬ (delS M n).length = 0) : mkAll M K n = false ∧ mkP M K n ph = ph := by
  have h3 : mkAll M K n = false := decide_eq_false (fun e => h e.2)
  exact ⟨h3, if_neg (by rw [h3]; simp)⟩
/-- The document's. -/
def rAt (ups : List I64) (n : I64) : Nat := ups.findIdx fun x => decide (x = n)
def othersB (ups : List I64) (has : List Bool) (n : I64) (j : Nat) : Bool := decide (∀ i, i < j → ¬ ups.getD i default = n → has.getD i false = true)
def rmE (ups : List I64) (has : List Bool) (n : I64) : Int := if n ∈ ups then (if has.getD (rAt ups n) false = true then 5 else 0) else 4
def rmHas (ups : List I64) (has : List Bool) (n : I64) : List Bool := if rmE ups has n = 0 then has.set (rAt ups n) true else has
def rmAll (ups : List I64) (has : List Bool) (n : I64) : Bool := decide (rmE ups has n = 0) && othersB ups has n ups.length
def rmP (ups : List I64) (has : List Bool) (n : I64) (ph : Int) : Int := if rmAll ups has n = true then 2 else ph
theorem getD_mem {L : List I64} {i : Nat} (h : i < L.length) : L.getD i default ∈ L := by
  rw [List.getD_eq_getElem?_getD, List.getElem?_eq_getElem h]; exact List.getElem_mem h
theorem mem_getD {L : List I64} {x : I64} (h : x ∈ L) : ∃ i, i < L.length ∧ L.getD i default = x := by
  obtain ⟨i, hi, e⟩ := List.getElem_of_mem h
  exact ⟨i, hi, by rw [List.getD_eq_getElem?_getD, List.getElem?_eq_getElem hi]; exact e⟩
theorem nodup_at {L : List I64} (h : L.Nodup) {i j : Nat} (hi : i < L.length) (hj : j < L.length) (e : L.getD i default = L.getD j default) : i = j := by
  rw [List.getD_eq_getElem?_getD, List.getElem?_eq_getElem hi, List.getD_eq_getElem?_getD, List.getElem?_eq_getElem hj] at e
  simp only [Option.getD_some] at e
  rcases Nat.lt_trichotomy i j with hlt | heq | hgt
  · exact absurd e (List.pairwise_iff_getElem.1 h i j hi hj hlt)
  · exact heq
  · exact absurd e.symm (List.pairwise_iff_getElem.1 h j i hj hi hgt)
theorem rAt_is {ups : List I64} (hn : ups.Nodup) {n : I64} {i : Nat} (hi : i < ups.length) (e : ups.getD i default = n) : rAt ups n = i := by
  have hm : n ∈ ups := e ▸ getD_mem hi
  have hlt : rAt ups n < ups.length := (findIdx_mem ups n).2 hm
  refine nodup_at hn hlt hi ?_
  rw [e, List.getD_eq_getElem?_getD, List.getElem?_eq_getElem hlt]
  have := List.findIdx_getElem (w := hlt)
  exact of_decide_eq_true this
theorem rAt_lt {ups : List I64} {n : I64} (h : n ∈ ups) : rAt ups n < ups.length ∧ ups.getD (rAt ups n) default = n := by
  have hlt : rAt ups n < ups.length := (findIdx_mem ups n).2 h
  refine ⟨hlt, ?_⟩
  rw [List.getD_eq_getElem?_getD, List.getElem?_eq_getElem hlt]
  have := List.findIdx_getElem (w := hlt)
  exact of_decide_eq_true this
theorem others_succ (ups : List I64) (has : List Bool) (n : I64) (j : Nat) : othersB ups has n (j + 1) = (othersB ups has n j && (decide (ups.getD j default = n) || has.getD j false)) := by
  unfold othersB
  rw [Bool.eq_iff_iff]
  simp only [decide_eq_true_eq, Bool.and_eq_true, Bool.or_eq_true]
  constructor
  · intro h
    refine ⟨fun i hi => h i (by omega), ?_⟩
    by_cases e : ups.getD j default = n
    · exact .inl e
    · exact .inr (h j (by omega) e)
  · rintro ⟨h1, h2⟩ i hi hne
    by_cases e : i = j
    · subst e; rcases h2 with h2 | h2
      · exact absurd h2 hne
      · exact h2
    · exact h1 i (by omega) hne
theorem others_zero (ups : List I64) (has : List Bool) (n : I64) : othersB ups has n 0 = true := decide_eq_true (fun i hi => by omega)
/-- Both are alike. -/
structure MR (ups : List I64) (has : List Bool) (M K : List I64) : Prop where
  nd : ups.Nodup
  lh : has.length = ups.length
  nm : M.Nodup
  hM : ∀ x, x ∈ M ↔ ∃ i, i < ups.length ∧ ups.getD i default = x ∧ has.getD i false = false
  hK : ∀ x, x ∈ K ↔ x ∈ ups
section
variable {ups : List I64} {has : List Bool} {M K : List I64}
theorem MR.mem (h : MR ups has M K) {i : Nat} (hi : i < ups.length) : ups.getD i default ∈ M ↔ has.getD i false = false := by
  rw [h.hM]
  constructor
  · rintro ⟨k, hk, e, hh⟩
    rw [← nodup_at h.nd hk hi e]; exact hh
  · exact fun hh => ⟨i, hi, rfl, hh⟩
theorem MR.err (h : MR ups has M K) (n : I64) : mkE M K n = rmE ups has n := by
  unfold mkE rmE
  by_cases hu : n ∈ ups
  · rw [if_pos ((h.hK n).2 hu), if_pos hu]
    obtain ⟨h1, h2⟩ := rAt_lt hu
    have := h.mem h1
    rw [h2] at this
    cases hh : has.getD (rAt ups n) false with
    | false => rw [if_pos (this.2 hh), if_neg (by simp)]
    | true => rw [if_neg (fun e => by rw [this.1 e] at hh; cases hh), if_pos rfl]
  · rw [if_neg (fun e => hu ((h.hK n).1 e)), if_neg hu]
theorem MR.all (h : MR ups has M K) (n : I64) : mkAll M K n = rmAll ups has n := by
  unfold mkAll rmAll
  rw [h.err n, Bool.decide_and]
  cases he : decide (rmE ups has n = 0) with
  | false => rfl
  | true =>
    simp only [Bool.true_and]
    have he := of_decide_eq_true he
    have hu : n ∈ ups := by
      unfold rmE at he
      by_cases hu : n ∈ ups
      · exact hu
      · rw [if_neg hu] at he; cases he
    rw [delS_erase]
    unfold othersB
    rw [Bool.eq_iff_iff]
    simp only [decide_eq_true_eq, List.length_eq_zero_iff]
    constructor
    · intro h0 i hi hne
      cases hh : has.getD i false with
      | true => rfl
      | false =>
        have hm := (h.mem hi).2 hh
        have : ups.getD i default ∈ M.erase n := (List.mem_erase_of_ne hne).2 hm
        rw [h0] at this; cases this
    · intro ha
      refine List.eq_nil_iff_forall_not_mem.2 fun x hx => ?_
      have hxm := List.mem_of_mem_erase hx
      have hxn : ¬ x = n := fun e => by subst e; exact (List.Nodup.not_mem_erase h.nm) hx
      obtain ⟨i, hi, e, hh⟩ := (h.hM x).1 hxm
      rw [ha i hi (by rw [e]; exact hxn)] at hh; cases hh
theorem MR.step (h : MR ups has M K) (n : I64) : MR ups (rmHas ups has n) (mkM M K n) K := by
  unfold rmHas mkM
  rw [h.err n]
  by_cases he : rmE ups has n = 0
  · rw [if_pos he, if_pos he]
    have hu : n ∈ ups := by
      unfold rmE at he
      by_cases hu : n ∈ ups
      · exact hu
      · rw [if_neg hu] at he; cases he
    obtain ⟨h1, h2⟩ := rAt_lt hu
    rw [delS_erase]
    refine ⟨h.nd, by rw [List.length_set]; exact h.lh, h.nm.erase n, ?_, h.hK⟩
    intro x
    rw [h.nm.mem_erase_iff, h.hM]
    constructor
    · rintro ⟨hne, i, hi, e, hh⟩
      refine ⟨i, hi, e, ?_⟩
      have : ¬ rAt ups n = i := fun e2 => hne (by rw [← e, ← e2, h2])
      rw [List.getD_eq_getElem?_getD, List.getElem?_set_ne this, ← List.getD_eq_getElem?_getD]; exact hh
    · rintro ⟨i, hi, e, hh⟩
      have hni : ¬ rAt ups n = i := fun e2 => by
        subst e2
        rw [List.getD_eq_getElem?_getD, List.getElem?_set_self (by rw [h.lh]; exact hi)] at hh
        cases hh
      refine ⟨fun e2 => hni (rAt_is h.nd hi (e.trans e2)), i, hi, e, ?_⟩
      rw [List.getD_eq_getElem?_getD, List.getElem?_set_ne hni, ← List.getD_eq_getElem?_getD] at hh; exact hh
  · rw [if_neg he, if_neg he]; exact h
theorem MR.phase (h : MR ups has M K) (n : I64) (ph : Int) : mkP M K n ph = rmP ups has n ph := by unfold mkP rmP; rw [h.all n]
end
/-! ## what is missing, in order -/
def missU (ups : List I64) (has : List Bool) (j : Nat) : List I64 := ((List.range j).filter fun i => !has.getD i false).map fun i => ups.getD i default
theorem missU_succ (ups : List I64) (has : List Bool) (j : Nat) : missU ups has (j + 1) = if has.getD j false = true then missU ups has j else missU ups has j ++ [ups.getD j default] := by
  unfold missU
  rw [List.range_succ, List.filter_append, List.map_append]
  cases h : has.getD j false with
  | true => rw [if_pos rfl, List.filter_cons_of_neg (by rw [h]; simp)]; simp
  | false => rw [if_neg (by simp), List.filter_cons_of_pos (by rw [h]; rfl)]; rfl
theorem missU_mem {ups : List I64} {has : List Bool} {j : Nat} {x : I64} : x ∈ missU ups has j ↔ ∃ i, i < j ∧ ups.getD i default = x ∧ has.getD i false = false := by
  unfold missU
  simp only [List.mem_map, List.mem_filter, List.mem_range, Bool.not_eq_true']
  exact ⟨fun ⟨i, ⟨a, b⟩, c⟩ => ⟨i, a, c, b⟩, fun ⟨i, a, c, b⟩ => ⟨i, ⟨a, b⟩, c⟩⟩
theorem missU_nodup {ups : List I64} (hn : ups.Nodup) (has : List Bool) {j : Nat} (hj : j ≤ ups.length) : (missU ups has j).Nodup := by
  unfold missU
  rw [List.Nodup, List.pairwise_map]
  refine List.Pairwise.imp_of_mem ?_ ((List.nodup_range (n := j)).filter _)
  intro a b ha hb hne e
  simp only [List.mem_filter, List.mem_range] at ha hb
  exact hne (nodup_at hn (by omega) (by omega) e)
theorem MR.perm {ups : List I64} {has : List Bool} {M K : List I64} (h : MR ups has M K) : (missU ups has ups.length).Perm M :=
  (List.perm_ext_iff_of_nodup (missU_nodup h.nd has (Nat.le_refl _)) h.nm).2 fun x => by rw [missU_mem, h.hM]
theorem MR.sorted {ups : List I64} {has : List Bool} {M K pre : List I64} (h : MR ups has M K) (hs : pre.Pairwise fun a b => leI a b = true) (hp : pre.Perm (missU ups has ups.length)) : pre = sortI M :=
  sortedI_unique hs (sortI_sorted M) ((hp.trans h.perm).trans (sortI_perm M).symm)
/-- An insertion. -/
theorem insI {pre : List I64} {x : I64} {k : Nat} (hk : k ≤ pre.length) (hs : pre.Pairwise fun a b => leI a b = true) (h1 : ∀ q, k ≤ q → q < pre.length → x.v < (pre.getD q default).v) (h2 : k = 0 ∨ (pre.getD (k - 1) default).v ≤ x.v) :
    (pre.take k ++ [x] ++ pre.drop k).Pairwise (fun a b => leI a b = true) ∧ (pre.take k ++ [x] ++ pre.drop k).Perm (pre ++ [x]) := by
  have hd : ∀ y ∈ pre.drop k, leI x y = true := by
    intro y hy
    obtain ⟨i, hi, e⟩ := List.getElem_of_mem hy
    rw [List.length_drop] at hi
    have := h1 (k + i) (by omega) (by omega)
    rw [List.getD_eq_getElem?_getD, List.getElem?_eq_getElem (by omega : k + i < pre.length)] at this
    simp only [Option.getD_some] at this
    rw [List.getElem_drop] at e
    rw [e] at this
    unfold leI; exact decide_eq_true (by omega)
  have ht : ∀ y ∈ pre.take k, leI y x = true := by
    intro y hy
    obtain ⟨i, hi, e⟩ := List.getElem_of_mem hy
    rw [List.length_take] at hi
    rcases h2 with h2 | h2
    · omega
    · rw [List.getD_eq_getElem?_getD, List.getElem?_eq_getElem (by omega : k - 1 < pre.length)] at h2
      simp only [Option.getD_some] at h2
      rw [List.getElem_take] at e
      by_cases hik : i = k - 1
      · subst hik; rw [e] at h2; unfold leI; exact decide_eq_true h2
      · have := List.pairwise_iff_getElem.1 hs i (k - 1) (by omega) (by omega) (by omega)
        rw [e] at this
        unfold leI at *
        simp only [decide_eq_true_eq] at *
        omega
  constructor
  · rw [List.append_assoc, List.pairwise_append]
    refine ⟨hs.sublist (List.take_sublist ..), ?_, ?_⟩
    · rw [List.singleton_append, List.pairwise_cons]
      exact ⟨hd, hs.sublist (List.drop_sublist ..)⟩
    · intro a ha b hb
      rw [List.singleton_append, List.mem_cons] at hb
      rcases hb with rfl | hb
      · exact ht a ha
      · exact leI_trans a x b (ht a ha) (hd b hb)
  · have h3 : (pre.take k ++ [x] ++ pre.drop k).Perm (x :: (pre.take k ++ pre.drop k)) := by
      rw [List.append_assoc]; exact List.perm_middle
    rw [List.take_append_drop] at h3
    exact h3.trans (List.perm_append_singleton x pre).symm
theorem ins_step {ups : List I64} {has : List Bool} {pre : List I64} {j k : Nat} (hk : k ≤ pre.length) (hs : pre.Pairwise fun a b => leI a b = true) (hp : pre.Perm (missU ups has j)) (hh : has.getD j false = false) (h1 : ∀ q, k ≤ q → q < pre.length → (ups.getD j default).v < (pre.getD q default).v) (h2 : k = 0 ∨ (pre.getD (k - 1) default).v ≤ (ups.getD j default).v) :
    (pre.take k ++ [ups.getD j default] ++ pre.drop k).Pairwise (fun a b => leI a b = true) ∧ (pre.take k ++ [ups.getD j default] ++ pre.drop k).Perm (missU ups has (j + 1)) := by
  obtain ⟨a, b⟩ := insI hk hs h1 h2
  refine ⟨a, b.trans ?_⟩
  rw [missU_succ, if_neg (by rw [hh]; simp)]
  exact hp.append (List.Perm.refl _)
/-! ## who sends -/
def upsOk (ups : List I64) : Prop := (∀ x ∈ ups, 0 ≤ x.v) ∧ ups.Nodup
instance (ups : List I64) : Decidable (upsOk ups) := inferInstanceAs (Decidable (_ ∧ _))
def newE (op : I64) (ups : List I64) : Int := if timeB op.v = false ∨ 64 < ups.length ∨ ¬ upsOk ups then 1 else 0
theorem newE_1 {op : I64} {ups : List I64} (h : timeB op.v = false ∨ 64 < ups.length ∨ ¬ upsOk ups) : newE op ups = 1 := if_pos h
theorem newE_0 {op : I64} {ups : List I64} (h : timeB op.v = true) (h2 : ¬ 64 < ups.length) (h3 : upsOk ups) : newE op ups = 0 := if_neg (by rintro (e | e | e); · rw [h] at e; cases e
                                                                                                                                             · exact h2 e
                                                                                                                                             · exact e h3)
theorem upsOk_take {ups : List I64} {j : Nat} (hj : j < ups.length) (h : upsOk (ups.take j)) (h0 : 0 ≤ (ups.getD j default).v) (hn : ¬ ups.getD j default ∈ ups.take j) : upsOk (ups.take (j + 1)) := by
  have e : ups.take (j + 1) = ups.take j ++ [ups.getD j default] := by
    rw [List.take_add_one, List.getElem?_eq_getElem hj, List.getD_eq_getElem?_getD, List.getElem?_eq_getElem hj]; rfl
  rw [e]
  refine ⟨fun x hx => ?_, ?_⟩
  · rcases List.mem_append.1 hx with hx | hx
    · exact h.1 x hx
    · rw [List.mem_singleton] at hx; subst hx; exact h0
  · rw [List.nodup_append]
    refine ⟨h.2, by simp, fun a ha b hb e => ?_⟩
    rw [List.mem_singleton] at hb
    subst hb; subst e; exact hn ha
theorem upsOk_neg {ups : List I64} {j : Nat} (hj : j < ups.length) (h : (ups.getD j default).v < 0) : ¬ upsOk ups := fun e => by
  have := e.1 _ (getD_mem hj); omega
theorem upsOk_twice {ups : List I64} {j : Nat} (hj : j < ups.length) (h : ups.getD j default ∈ ups.take j) : ¬ upsOk ups := fun e => by
  obtain ⟨i, hi, e2⟩ := List.getElem_of_mem h
  rw [List.length_take] at hi
  rw [List.getElem_take] at e2
  have : i = j := nodup_at e.2 (by omega) hj (by rw [← e2, List.getD_eq_getElem?_getD, List.getElem?_eq_getElem (by omega : i < ups.length)]; rfl)
  omega
theorem take_mem_getD {ups : List I64} {i j : Nat} (hi : i < j) (hj : j < ups.length) : ups.getD i default ∈ ups.take j := by
  rw [List.getD_eq_getElem?_getD, List.getElem?_eq_getElem (by omega : i < ups.length)]
  exact List.mem_iff_getElem.2 ⟨i, by rw [List.length_take]; omega, by rw [List.getElem_take]; rfl⟩
theorem not_mem_take {ups : List I64} {j : Nat} {x : I64} (h : ∀ i, i < j → i < ups.length → ¬ ups.getD i default = x) : ¬ x ∈ ups.take j := fun hx => by
  obtain ⟨i, hi, e⟩ := List.getElem_of_mem hx
  rw [List.length_take] at hi
  rw [List.getElem_take] at e
  exact h i (by omega) (by omega) (by rw [List.getD_eq_getElem?_getD, List.getElem?_eq_getElem (by omega : i < ups.length)]; exact e)
theorem MR.new {ups : List I64} (h : upsOk ups) : MR ups (List.replicate ups.length false) ups ups where
  nd := h.2
  lh := by simp
  nm := h.2
  hM := fun x => by
    constructor
    · intro hx
      obtain ⟨i, hi, e⟩ := mem_getD hx
      exact ⟨i, hi, e, by rw [List.getD_eq_getElem?_getD, List.getElem?_replicate]; split <;> rfl⟩
    · rintro ⟨i, hi, e, _⟩; rw [← e]; exact getD_mem hi
  hK := fun x => Iff.rfl
/-! ## two steps of a set -/
theorem set_two (L : List I64) (k : I64) : (setOf L ++ [(k, false)]).set (setOf L).length (k, true) = setOf (L ++ [k]) := by
  rw [List.set_append_right _ _ (Nat.le_refl _), Nat.sub_self]
  unfold setOf
  rw [List.map_append]; rfl
theorem set_two_key (L : List I64) (k : I64) : ((setOf L ++ [(k, false)])[(setOf L).length]?).map (·.1) = some k := by
  rw [List.getElem?_append_right (Nat.le_refl _), Nat.sub_self]; rfl
theorem take_snocI {ups : List I64} {j : Nat} (hj : j < ups.length) : ups.take j ++ [ups.getD j default] = ups.take (j + 1) := by
  rw [List.take_add_one, List.getElem?_eq_getElem hj, List.getD_eq_getElem?_getD, List.getElem?_eq_getElem hj]; rfl
end Sl
