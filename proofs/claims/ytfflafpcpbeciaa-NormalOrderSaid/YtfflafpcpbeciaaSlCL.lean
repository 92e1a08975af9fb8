/- Each once in place; ways to choose; alternatives: what the walks need. No condition. -/
import Derived.Test.YtfflafpcpbeciaaSlCK
namespace Sl
open _root_.Go _root_.Go.RowKit _root_.Go.Proofs
set_option linter.all false
set_option linter.unusedSimpArgs false
theorem cptL_snoc : ∀ (l : List NodeD) (p x : NodeD), cptL p (l ++ [x]) = cptL p l ++ (if cmpN x ((p :: l).getLast (by simp)) = 0 then [] else [x])
  | [], p, x => by simp only [List.nil_append, cptL]; rfl
  | a :: l, p, x => by
    have ih := cptL_snoc l a x
    rw [List.getLast_cons (by simp)]
    simp only [List.cons_append, cptL]
    split <;> simp [ih]
theorem compact_snoc {l : List NodeD} (h : l ≠ []) (x : NodeD) : compact (l ++ [x]) = compact l ++ (if cmpN x (l.getLast h) = 0 then [] else [x]) := by
  cases l with
  | nil => exact absurd rfl h
  | cons a l => simp only [List.cons_append, compact, cptL_snoc]
theorem last_take {L : List NodeD} {m : Nat} (h0 : 0 < m) (hm : m ≤ L.length) (h : L.take m ≠ []) : (L.take m).getLast h = gd L (m - 1) := by
  rw [List.getLast_eq_getElem]
  have e : (L.take m).length - 1 = m - 1 := by rw [List.length_take]; omega
  unfold gd
  rw [List.getD_eq_getElem?_getD, List.getElem?_eq_getElem (by omega)]
  have e2 : min m L.length = m := by omega
  simp [List.getElem_take, e2]
theorem compact_take {L : List NodeD} {m : Nat} (h0 : 0 < m) (hm : m < L.length) : compact (L.take (m + 1)) = compact (L.take m) ++ (if cmpN (gd L m) (gd L (m - 1)) = 0 then [] else [gd L m]) := by
  have hne : L.take m ≠ [] := by intro h; have := congrArg List.length h; rw [List.length_take, List.length_nil] at this; omega
  rw [take_getD hm, compact_snoc hne, last_take h0 (by omega)]
theorem compact_upto {L : List NodeD} : ∀ {m : Nat}, 0 < m → m ≤ L.length → (∀ q, 1 ≤ q → q < m → ¬ cmpN (gd L q) (gd L (q - 1)) = 0) → compact (L.take m) = L.take m
  | 0, h, _, _ => absurd h (by omega)
  | m + 1, _, hm, hz => by
    by_cases h0 : m = 0
    · subst h0
      cases L with
      | nil => simp at hm
      | cons a l => rfl
    · rw [compact_take (m := m) (by omega) (by omega), if_neg (hz m (by omega) (Nat.lt_succ_self m)), compact_upto (m := m) (by omega) (by omega) (fun q h1 h2 => hz q h1 (Nat.lt_succ_of_lt h2)), take_getD (j := m) (L := L) hm]
theorem compact_self {L : List NodeD} {m : Nat} (hz : ∀ q, 1 ≤ q → q < m → ¬ cmpN (gd L q) (gd L (q - 1)) = 0) (hm : L.length ≤ m) : compact L = L := by
  cases L with
  | nil => rfl
  | cons a l =>
    have := compact_upto (L := a :: l) (m := (a :: l).length) (by simp) (Nat.le_refl _) (fun q h1 h2 => hz q h1 (by omega))
    rwa [List.take_length] at this
theorem compact_short : ∀ {L : List NodeD}, L.length < 2 → compact L = L
  | [], _ => rfl
  | [a], _ => rfl
  | a :: b :: l, h => by simp at h; omega
/-- In place: K is what has become of L; the first i are each once of L's first m. -/
structure Cpt (L K : List NodeD) (i m : Nat) : Prop where
  len : K.length = L.length
  tk : K.take i = compact (L.take m)
  lt : i + 1 ≤ m
  le : m ≤ L.length
  rest : ∀ q, m ≤ q + 1 → gd K q = gd L q
theorem Cpt.start {L : List NodeD} {k : Nat} (hz : ∀ q, 1 ≤ q → q < k → ¬ cmpN (gd L q) (gd L (q - 1)) = 0) (h0 : 0 < k) (hk : k < L.length) (h : cmpN (gd L k) (gd L (k - 1)) = 0) : Cpt L L k (k + 1) :=
  ⟨rfl, by rw [compact_take h0 hk, if_pos h, compact_upto h0 (by omega) hz, List.append_nil], Nat.le_refl _, hk, fun _ _ => rfl⟩
variable {L K : List NodeD} {i m : Nat}
theorem Cpt.skip (c : Cpt L K i m) (hm : m < L.length) (h : cmpN (gd K m) (gd K (m - 1)) = 0) : Cpt L K i (m + 1) := by
  have := c.lt
  rw [c.rest m (by omega), c.rest (m - 1) (by omega)] at h
  exact ⟨c.len, by rw [compact_take (by omega) hm, if_pos h, c.tk, List.append_nil], by omega, hm, fun q hq => c.rest q (by omega)⟩
theorem Cpt.put (c : Cpt L K i m) (hm : m < L.length) (h : ¬ cmpN (gd K m) (gd K (m - 1)) = 0) : Cpt L (K.set i (gd K m)) (i + 1) (m + 1) := by
  have h1 := c.lt
  have h2 := c.len
  have e := c.rest m (by omega)
  rw [e, c.rest (m - 1) (by omega)] at h
  refine ⟨by rw [List.length_set]; exact c.len, ?_, by omega, hm, fun q hq => ?_⟩
  · rw [compact_take (by omega) hm, if_neg h, ← c.tk, take_getD (by rw [List.length_set]; omega)]
    have g1 : (K.set i (gd K m)).take i = K.take i := by rw [List.take_set_of_le (Nat.le_refl _)]
    have g2 : (K.set i (gd K m)).getD i default = gd L m := by
      have := gd_set K i (gd K m) i (by omega)
      rw [if_pos rfl] at this
      exact this.trans e
    rw [g1, g2]
  · rw [gd_set K i _ q (by omega), if_neg (by omega)]
    exact c.rest q (by omega)
theorem Cpt.done (c : Cpt L K i m) (hm : L.length ≤ m) : K.take i = compact L := by
  rw [c.tk, List.take_of_length_le hm]
theorem Cpt.ilen (c : Cpt L K i m) (hm : L.length ≤ m) : (compact L).length = i := by
  rw [← c.done hm, List.length_take]; have := c.lt; have := c.le; have := c.len; omega
theorem Cpt.mem (hm : m < K.length) : ∀ y ∈ K.set i (gd K m), y ∈ K := fun y hy => by
  rcases List.mem_or_eq_of_mem_set hy with h | rfl
  · exact h
  · exact gd_mem hm
theorem take_mem : ∀ x ∈ K.take i, x ∈ K := fun x h => List.mem_of_mem_take h
/-- The cells behind the i-th are written over. -/
theorem clear_take {cur : Array Value} {K : List NodeD} {i : Nat} {zs : List Value} (h : (cur.toList.drop 0).take (K.length * 5) = K.flatMap nodeCell) (hi : i ≤ K.length) (hs : i * 5 + zs.length ≤ cur.size) : ((writes cur (i * 5) zs).toList.drop 0).take (i * 5) = (K.take i).flatMap nodeCell := by
  have e : (cur.toList.drop 0).take (i * 5) = (K.take i).flatMap nodeCell := by
    have h2 : ((cur.toList.drop 0).take (K.length * 5)).take (i * 5) = (K.flatMap nodeCell).take (i * 5) := by rw [h]
    rw [List.take_take, Nat.min_eq_left (Nat.mul_le_mul_right 5 hi)] at h2
    rw [h2]
    clear h h2 hs
    induction K generalizing i with
    | nil => simp
    | cons a K ih =>
      cases i with
      | zero => simp
      | succ i =>
        rw [List.flatMap_cons, List.take_succ_cons, List.flatMap_cons, ← ih (by simpa using hi)]
        have hl : (nodeCell a).length = 5 := nodeCell_len a
        rw [List.take_append, List.take_of_length_le (by omega), hl, show (i + 1) * 5 - 5 = i * 5 by omega]
  rw [← e, List.drop_zero, List.drop_zero]
  refine List.ext_getElem? fun q => ?_
  by_cases hq : q < i * 5
  · rw [List.getElem?_take_of_lt hq, List.getElem?_take_of_lt hq, Array.getElem?_toList, Array.getElem?_toList, writes_get _ _ _ _ hs, if_neg (by omega)]
  · rw [List.getElem?_take_eq_none (by omega), List.getElem?_take_eq_none (by omega)]
/-- Where a part of an owned row begins. -/
theorem cut_at {p : Option Addr} {g k c size : Nat} (hp : p = some ⟨g, 0, none⟩) (hk : k < c) : cutAt p k c size = some ⟨g, k * size, none⟩ := by
  subst hp; unfold cutAt; rw [if_neg (by omega)]; simp [Addr.add]; try omega
theorem zero_cells {z : Array Value} (h : ∀ v ∈ z.toList, v.oneCell' = true) (n : Nat) : ∀ v ∈ (Builtin.zeroCells z n).toList, v.oneCell' = true := fun v hv => by
  simp only [Builtin.zeroCells, Array.toList_map, List.mem_map, Array.mem_toList_iff, Array.mem_range] at hv
  obtain ⟨i, hi, rfl⟩ := hv
  have hz : 0 < z.size := by
    rcases Nat.eq_zero_or_pos z.size with h0 | h0
    · rw [h0, Nat.mul_zero] at hi; omega
    · exact h0
  have hm := Nat.mod_lt i hz
  rw [getElem!_pos z (i % z.size) hm]
  exact h _ (by simp)
theorem zero_len (z : Array Value) (n : Nat) : (Builtin.zeroCells z n).toList.length = n * z.size := by simp [Builtin.zeroCells]
end Sl
