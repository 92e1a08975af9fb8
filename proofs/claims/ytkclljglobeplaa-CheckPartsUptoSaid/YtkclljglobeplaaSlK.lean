/- Parts of what is written or asked for, as plain data. No condition. -/
import Derived.Test.YtkclljglobeplaaSlS
namespace Sl
open _root_.Go _root_.Go.RowKit
set_option linter.all false
structure U64 where
  v : Nat
  lt : v < 18446744073709551616
structure PartV where
  kind : I64
  u : U64
  n : I64
  s : Str
instance : Inhabited U64 := ⟨⟨0, by decide⟩⟩
instance : Inhabited PartV := ⟨⟨default, default, default, default⟩⟩
def partK (k : Nat) (h : k ≤ 100) : PartV := ⟨⟨k, by omega, by omega⟩, ⟨0, by decide⟩, ⟨0, by decide, by decide⟩, Str.none⟩
def partCell (p : PartV) : List Value := [.int .i64 p.kind.v, .int .u64 (p.u.v : Int), .int .i64 p.n.v, .string p.s.v]
theorem partCell_len (p : PartV) : (partCell p).length = 4 := rfl
theorem one_part (p : PartV) (x : Value) (h : x ∈ partCell p) : x.oneCell' = true := by
  simp [partCell] at h
  rcases h with rfl | rfl | rfl | rfl <;> rfl
/-- A number of 64 bits, as one with a sign. -/
def s64 (u : Nat) : Int := IntKind.i64.wrap (u : Int)
theorem s64_is {u : Nat} (h : u < 18446744073709551616) : s64 u = if u < 9223372036854775808 then (u : Int) else (u : Int) - 18446744073709551616 := by
  unfold s64 IntKind.wrap
  show (if (true && decide ((u : Int) % 18446744073709551616 ≥ 9223372036854775808)) = true then (u : Int) % 18446744073709551616 - 18446744073709551616 else (u : Int) % 18446744073709551616) = _
  simp only [Bool.true_and, decide_eq_true_eq]
  by_cases h1 : u < 9223372036854775808
  · rw [if_neg (by omega), if_pos h1]; omega
  · rw [if_pos (by omega), if_neg h1]; omega
theorem s64_lo {u : Nat} (h : u < 18446744073709551616) : -9223372036854775808 ≤ s64 u := by rw [s64_is h]; split <;> omega
theorem s64_hi {u : Nat} (h : u < 18446744073709551616) : s64 u ≤ 9223372036854775807 := by rw [s64_is h]; split <;> omega
/-- The bits of a part; whether it may be; what a sink answers; what is in it then. -/
def partB (p : PartV) : List Bool :=
  if p.kind.v = 0 then lowB p.u.v (min (max p.n.v 0) 64).toNat else if p.kind.v = 1 then natB p.u.v else if p.kind.v = 2 then natB (zigN (s64 p.u.v)) else if p.kind.v = 3 then textB p.s.v else [decide (0 < p.n.v), decide ((0 : Int) < (p.u.v : Int))]
def partMay (p : PartV) : Bool := if p.kind.v = 0 then fitsB p.u.v p.n.v else true
def partE (L : List Bool) (p : PartV) : Int := if partMay p = true then putE L ((partB p).length : Int) else 1
def partL (L : List Bool) (p : PartV) : List Bool := if partMay p = true then putL L (partB p) else L
theorem partL_le {L : List Bool} {p : PartV} (h : L.length ≤ 1048576) : (partL L p).length ≤ 1048576 := by
  unfold partL
  split
  · exact putL_le h
  · exact h
theorem part_0 {p : PartV} (h : p.kind.v = 0) : partB p = lowB p.u.v (min (max p.n.v 0) 64).toNat ∧ partMay p = fitsB p.u.v p.n.v ∧ (∀ L, partE L p = bitsE L p.u.v p.n.v) ∧ (∀ L, partL L p = bitsL L p.u.v p.n.v) := by
  have h1 : partB p = lowB p.u.v (min (max p.n.v 0) 64).toNat := by unfold partB; rw [if_pos h]
  have h2 : partMay p = fitsB p.u.v p.n.v := by unfold partMay; rw [if_pos h]
  refine ⟨h1, h2, fun L => ?_, fun L => ?_⟩
  · unfold partE bitsE
    rw [h2]
    split
    · rename_i hf
      have hf2 := of_decide_eq_true hf
      rw [h1, lowB_len]
      congr 1
      omega
    · rfl
  · unfold partL bitsL
    rw [h2]
    split
    · rename_i hf
      have hf2 := of_decide_eq_true hf
      rw [h1]
      congr 2
      omega
    · rfl
theorem part_x {p : PartV} {M : List Bool} (h0 : ¬ p.kind.v = 0) (hM : partB p = M) : partB p = M ∧ partMay p = true ∧ (∀ L, partE L p = putE L (M.length : Int)) ∧ (∀ L, partL L p = putL L M) := by
  have h2 : partMay p = true := by unfold partMay; rw [if_neg h0]
  refine ⟨hM, h2, fun L => ?_, fun L => ?_⟩
  · unfold partE; rw [if_pos h2, hM]
  · unfold partL; rw [if_pos h2, hM]
theorem part_1 {p : PartV} (h : p.kind.v = 1) : partB p = natB p.u.v := by unfold partB; rw [if_neg (by omega), if_pos h]
theorem part_2 {p : PartV} (h : p.kind.v = 2) : partB p = natB (zigN (s64 p.u.v)) := by unfold partB; rw [if_neg (by omega), if_neg (by omega), if_pos h]
theorem part_3 {p : PartV} (h : p.kind.v = 3) : partB p = textB p.s.v := by unfold partB; rw [if_neg (by omega), if_neg (by omega), if_neg (by omega), if_pos h]
theorem part_4 {p : PartV} (h0 : ¬ p.kind.v = 0) (h1 : ¬ p.kind.v = 1) (h2 : ¬ p.kind.v = 2) (h3 : ¬ p.kind.v = 3) : partB p = [decide (0 < p.n.v), decide ((0 : Int) < (p.u.v : Int))] := by unfold partB; rw [if_neg h0, if_neg h1, if_neg h2, if_neg h3]
theorem partB_len {p : PartV} (hs : p.s.v.size ≤ 1099511627776) : (partB p).length ≤ 17592186044416 := by
  unfold partB
  split
  · rw [lowB_len]; omega
  · split
    · rw [natB_len]; have := sizeU_le p.u.lt; omega
    · split
      · rw [natB_len]; have := sizeU_le (zigN_lt (s64_lo p.u.lt) (s64_hi p.u.lt)); omega
      · split
        · rw [textB_len]; have := sizeU_le (u := p.s.v.size) (by omega); omega
        · simp
end Sl
