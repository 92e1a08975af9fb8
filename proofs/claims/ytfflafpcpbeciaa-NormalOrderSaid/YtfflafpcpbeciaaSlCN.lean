/- Alternatives: what the walk of alts needs. No condition. -/
import Derived.Test.YtfflafpcpbeciaaSlCM
namespace Sl
open _root_.Go _root_.Go.RowKit _root_.Go.Proofs
set_option linter.all false
set_option linter.unusedSimpArgs false
def outL (n : NodeD) (Ls : List AltD) : List NodeD := if n.kind.v = 4 then Ls.flatMap (·.L) else []
theorem outL_nil (n : NodeD) : outL n [] = [] := by unfold outL; split <;> rfl
theorem outL_in {n : NodeD} {Ls : List AltD} {a : AltD} (h : n.kind.v = 4) : outL n (Ls ++ [a]) = outL n Ls ++ a.L := by unfold outL; rw [if_pos h, if_pos h, List.flatMap_append]; simp
theorem outL_out {n : NodeD} {Ls : List AltD} (h : ¬ n.kind.v = 4) : outL n Ls = [] := by unfold outL; rw [if_neg h]
theorem altsOf_flat (Ls : List AltD) : (Ls.flatMap (·.L)).map eraseN = (altsOf Ls).flatten := by
  unfold altsOf; rw [List.map_flatMap, List.flatMap_def]
theorem combS_pos : ∀ {ls : List (List NodeD)}, (∀ l ∈ ls, 0 < l.length) → 0 < (combS ls).length
  | [], _ => by simp [combS]
  | l :: ls, h => by
    rw [combS_cons_len]
    exact Nat.mul_pos (h l (List.mem_cons_self ..)) (combS_pos fun x hx => h x (List.mem_cons_of_mem _ hx))
theorem combS_mem : ∀ {ls : List (List NodeD)} {l : List NodeD}, (∀ l ∈ ls, 0 < l.length) → l ∈ ls → l.length ≤ (combS ls).length
  | l' :: ls, l, h, hm => by
    rw [combS_cons_len]
    have h1 := h l' (List.mem_cons_self ..)
    have h2 : 0 < (combS ls).length := combS_pos fun x hx => h x (List.mem_cons_of_mem _ hx)
    rcases List.mem_cons.1 hm with rfl | hm
    · exact Nat.le_mul_of_pos_right _ h2
    · exact Nat.le_trans (combS_mem (fun x hx => h x (List.mem_cons_of_mem _ hx)) hm) (Nat.le_mul_of_pos_left _ h1)
theorem altsT_pos (n : NodeD) : 0 < (altsT n).length := by
  induction n using nodeD_induct with
  | h n ih =>
    rw [altsT_eq]
    split
    · simp
    · rename_i he
      split
      · cases hk : n.kids with
        | nil => simp [hk] at he
        | cons k l =>
          rw [List.flatMap_cons, List.length_append]
          have := ih k (by rw [hk]; exact List.mem_cons_self ..)
          omega
      · rw [List.length_map]
        exact combS_pos fun l hl => by
          obtain ⟨k, hk, rfl⟩ := List.mem_map.1 hl
          exact ih k hk
theorem flat_mem {l : List NodeD} {k : NodeD} (h : k ∈ l) : (altsT k).length ≤ (l.flatMap altsT).length := by
  induction l with
  | nil => cases h
  | cons a l ih =>
    rw [List.flatMap_cons, List.length_append]
    rcases List.mem_cons.1 h with rfl | h
    · omega
    · have := ih h; omega
theorem altsT_kid {n k : NodeD} (h : k ∈ n.kids) : (altsT k).length ≤ (altsT n).length := by
  rw [altsT_eq (n := n)]
  rw [if_neg (by intro he; rw [List.isEmpty_iff] at he; rw [he] at h; cases h)]
  split
  · exact flat_mem h
  · rw [List.length_map]
    exact combS_mem (fun l hl => by obtain ⟨q, _, rfl⟩ := List.mem_map.1 hl; exact altsT_pos q) (List.mem_map_of_mem h)
section
variable {n : NodeD} {Ls : List AltD} {j : Nat} {R : List NodeD}
theorem alts_room (hL : altsOf Ls = (n.kids.take j).map altsT) : (outL n Ls).length ≤ (altsT n).length := by
  unfold outL
  split
  · rename_i h
    have e : (Ls.flatMap (·.L)).length = ((n.kids.take j).flatMap altsT).length := by
      have := congrArg List.length (altsOf_flat Ls)
      rw [List.length_map, hL] at this
      rw [this, List.flatMap_def]
    rw [e]
    by_cases hk : n.kids = []
    · rw [hk]; simp
    · rw [altsT_eq, if_neg (by rw [List.isEmpty_iff]; exact hk), if_pos h]
      have : n.kids.flatMap altsT = (n.kids.take j).flatMap altsT ++ (n.kids.drop j).flatMap altsT := by rw [← List.flatMap_append, List.take_append_drop]
      rw [this, List.length_append]; omega
  · simp
theorem alts_snoc {a : AltD} (hL : altsOf Ls = (n.kids.take j).map altsT) (hj : j < n.kids.length) (ha : a.L.map eraseN = altsT (n.kids.getD j default)) : altsOf (Ls ++ [a]) = (n.kids.take (j + 1)).map altsT := by
  rw [take_getD hj, List.map_append, ← hL]; unfold altsOf; rw [List.map_append]; simp [ha]
theorem alts_or (hL : altsOf Ls = (n.kids.take j).map altsT) (hj : n.kids.length ≤ j) (h0 : ¬ n.kids.length = 0) (h : n.kind.v = 4) : (outL n Ls).map eraseN = altsT n := by
  unfold outL
  rw [if_pos h, altsOf_flat, hL, List.take_of_length_le hj, altsT_eq, if_neg (by rw [List.isEmpty_iff]; intro e; exact h0 (by rw [e]; rfl)), if_pos h, List.flatMap_def]
theorem alts_and (hL : altsOf Ls = (n.kids.take j).map altsT) (hj : n.kids.length ≤ j) (h0 : ¬ n.kids.length = 0) (h : ¬ n.kind.v = 4) : waysL n [] (altsOf Ls) = altsT n := by
  rw [hL, List.take_of_length_le hj, altsT_eq, if_neg (by rw [List.isEmpty_iff]; intro e; exact h0 (by rw [e]; rfl)), if_neg h]; rfl
theorem alts_comb (hL : altsOf Ls = (n.kids.take j).map altsT) (hj : n.kids.length ≤ j) (h0 : ¬ n.kids.length = 0) (h : ¬ n.kind.v = 4) : (combS (altsOf Ls)).length = (altsT n).length := by
  rw [← alts_and hL hj h0 h, waysL_len]
theorem alts_leaf {r : NodeD} (h0 : n.kids.length = 0) (h : eraseN r = withK n []) : [r].map eraseN = altsT n := by
  rw [altsT_eq, if_pos (by rw [List.isEmpty_iff]; exact List.eq_nil_of_length_eq_zero h0)]
  simp [h]
end
end Sl
