import Derived.Test.YteogdknlofcpiaaGreatSlI
namespace Sl
open _root_.Go _root_.Go.RowKit
set_option linter.all false
structure DgM where
 frm : I64
 to_ : I64
 kind : I64
 seq : I64
 ack : I64
 body : List UInt8
instance : Inhabited DgM := ⟨⟨default, default, default, default, default, []⟩⟩
def dgOk (d : DgM) : Prop := 0 ≤ d.frm.v ∧ d.frm.v < 16 ∧ 0 ≤ d.to_.v ∧ d.to_.v < 16 ∧ ¬ d.frm.v = d.to_.v ∧ 0 ≤ d.seq.v ∧ d.seq.v ≤ 1099511627776 ∧ 0 ≤ d.ack.v ∧ d.ack.v ≤ 1099511627776 ∧ (d.body.length : Int) ≤ 16384 ∧ (d.kind.v = 1 ∨ (d.kind.v = 2 ∧ d.seq.v = 0 ∧ (d.body.length : Int) = 0))
instance (d : DgM) : Decidable (dgOk d) := by unfold dgOk; infer_instance
def tmN (u : Nat) : Int := if 1099511627776 < u then -1 else (u : Int)
section
variable {R : List Bool}
end
theorem i64'_v {n : Int} (h : -9223372036854775808 ≤ n ∧ n ≤ 9223372036854775807) : (i64' n).v = n := by unfold i64'; rw [dif_pos h]
theorem tmN_range (u : Nat) : -1 ≤ tmN u ∧ tmN u ≤ 1099511627776 := by unfold tmN; split <;> omega
section
variable {R : List Bool}
end
theorem srcU_lt8 {R : List Bool} {k : Int} (h : 0 ≤ k ∧ k ≤ 8) : srcU R k < 256 := by
 obtain ⟨m, rfl⟩ := Int.eq_ofNat_of_zero_le h.1
 exact Nat.lt_of_lt_of_le srcU_lt_pow (Nat.pow_le_pow_right (n := 2) (by decide) (show m ≤ 8 by omega))
section
variable {R : List Bool}
end
end Sl
