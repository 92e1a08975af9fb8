/- Datagrams, their sum, and their bits. No condition. -/
import Derived.Test.YteogdknlofcpiaaSlK
import Derived.Test.YteogdknlofcpiaaSlR
namespace Sl
open _root_.Go _root_.Go.RowKit
set_option linter.all false
structure DgM where
  frm : I64
  to_ : I64
  kind : I64
  seq : I64
  ack : I64
  body : List UInt8
instance : Inhabited DgM := ⟨⟨default, default, default, default, default, []⟩⟩
def dgOk (d : DgM) : Prop := 0 ≤ d.frm.v ∧ d.frm.v < 16 ∧ 0 ≤ d.to_.v ∧ d.to_.v < 16 ∧ ¬ d.frm.v = d.to_.v ∧ 0 ≤ d.seq.v ∧ d.seq.v ≤ 1099511627776 ∧ 0 ≤ d.ack.v ∧ d.ack.v ≤ 1099511627776 ∧ (d.body.length : Int) ≤ 16384 ∧ (d.kind.v = 1 ∨ (d.kind.v = 2 ∧ d.seq.v = 0 ∧ (d.body.length : Int) = 0))
instance (d : DgM) : Decidable (dgOk d) := by unfold dgOk; infer_instance
section
variable {R : List Bool}
end
section
variable {R : List Bool}
end
section
variable {R : List Bool}
end
end Sl
