import Derived.Test.YteogdknlofcpiaaGreatSlDD
import Derived.Test.YteogdknlofcpiaaGreatSlAA
import Derived.Test.YteogdknlofcpiaaGreatSlAC
import Derived.Test.YteogdknlofcpiaaGreatSlI
namespace Sl
open _root_.Go _root_.Go.RowKit
set_option linter.all false
set_option linter.unusedSimpArgs false
def pcRange (p : PieceV) : Prop := 1 ≤ p.many.v ∧ p.many.v ≤ 1024 ∧ 0 ≤ p.index.v ∧ p.index.v < p.many.v ∧ p.data.length ≤ 4096
instance (p : PieceV) : Decidable (pcRange p) := inferInstanceAs (Decidable (_ ∧ _))
section
variable {R : List Bool}
end
def clipN (u : Nat) : Int := if 1099511627777 < u then -1 else u
theorem clip_ok {u : Nat} (h : ¬ 1099511627776 < u) : clipN u = (i64N u).v := by unfold clipN; rw [if_neg (by omega), i64N_v (by omega)]
section
variable {R R1 R2 R3 R4 : List Bool} (g1 : R1 = R.drop (natN R)) (g2 : R2 = R1.drop (natN R1)) (g3 : R3 = R2.drop (natN R2)) (g4 : R4 = R3.drop (textN R3))
include g1
include g2
include g3
include g4
end
end Sl
