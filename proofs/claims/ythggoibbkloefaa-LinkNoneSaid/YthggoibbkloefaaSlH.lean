/- Datagrams, their sum, and their bits. No condition. -/
import Derived.Test.YthggoibbkloefaaSlK
import Derived.Test.YthggoibbkloefaaSlR
namespace Sl
open _root_.Go _root_.Go.RowKit
set_option linter.all false
structure DgM where
 frm : I64
 to_ : I64
 kind : I64
 seq : I64
 ack : I64
 body : List UInt8
instance : Inhabited DgM := ⟨⟨default, default, default, default, default, []⟩⟩
def dgCell (d : DgM) (bv : Value) : List Value := [.int .i64 d.frm.v, .int .i64 d.to_.v, .int .i64 d.kind.v, .int .i64 d.seq.v, .int .i64 d.ack.v, bv]
def brB (n : Int) : Bool := decide (0 ≤ n ∧ n < 16)
def dgOk (d : DgM) : Prop := 0 ≤ d.frm.v ∧ d.frm.v < 16 ∧ 0 ≤ d.to_.v ∧ d.to_.v < 16 ∧ ¬ d.frm.v = d.to_.v ∧ 0 ≤ d.seq.v ∧ d.seq.v ≤ 1099511627776 ∧ 0 ≤ d.ack.v ∧ d.ack.v ≤ 1099511627776 ∧ (d.body.length : Int) ≤ 16384 ∧ (d.kind.v = 1 ∨ (d.kind.v = 2 ∧ d.seq.v = 0 ∧ (d.body.length : Int) = 0))
instance (d : DgM) : Decidable (dgOk d) := by unfold dgOk; infer_instance
def chkB (d : DgM) : Bool := decide (0 ≤ d.frm.v ∧ d.frm.v < 16 ∧ 0 ≤ d.to_.v ∧ d.to_.v < 16 ∧ ¬ d.frm.v = d.to_.v ∧ 0 ≤ d.seq.v ∧ d.seq.v ≤ 1099511627776 ∧ 0 ≤ d.ack.v ∧ d.ack.v ≤ 1099511627776 ∧ (d.body.length : Int) ≤ 16384)
def dgE (d : DgM) : Int := if dgOk d then 0 else 21
theorem dgE_0 {d : DgM} (h : dgOk d) : dgE d = 0 := if_pos h
theorem dgE_21 {d : DgM} (h : ¬ dgOk d) : dgE d = 21 := if_neg h
theorem dgE_is {d : DgM} (h : dgE d = 0) : dgOk d := by
 unfold dgE at h
 split at h
 ·assumption
 ·cases h
def dgSame (a b : DgM) : Bool := decide (a.frm.v = b.frm.v ∧ a.to_.v = b.to_.v ∧ a.kind.v = b.kind.v ∧ a.seq.v = b.seq.v ∧ a.ack.v = b.ack.v ∧ a.body = b.body)
theorem dgSame_self (a : DgM) : dgSame a a = true := decide_eq_true ⟨rfl, rfl, rfl, rfl, rfl, rfl⟩
theorem bodyEq {a b : List UInt8} (h : (⟨a.toArray⟩ : ByteArray) = ⟨b.toArray⟩) : a = b := by
 injection h with h
 exact List.toArray_inj h
section
variable {R : List Bool}
end
section
variable {R : List Bool}
end
section
variable {R : List Bool}
end
end Sl
