/- The bytes of pieces. No condition. -/
import Derived.Test.YthggoibbkloefaaSlDD
import Derived.Test.YthggoibbkloefaaSlM
import Derived.Test.YthggoibbkloefaaSlAB
import Derived.Test.YthggoibbkloefaaSlK
import Derived.Test.YthggoibbkloefaaSlR
namespace Sl
open _root_.Go _root_.Go.RowKit
set_option linter.all false
set_option linter.unusedSimpArgs false
def pcRange (p : PieceV) : Prop := 1 ≤ p.many.v ∧ p.many.v ≤ 1024 ∧ 0 ≤ p.index.v ∧ p.index.v < p.many.v ∧ p.data.length ≤ 4096
instance (p : PieceV) : Decidable (pcRange p) := inferInstanceAs (Decidable (_ ∧ _))
section
variable {R : List Bool}
end
section
variable {R R1 R2 R3 R4 : List Bool} (g1 : R1 = R.drop (natN R)) (g2 : R2 = R1.drop (natN R1)) (g3 : R3 = R2.drop (natN R2)) (g4 : R4 = R3.drop (textN R3))
include g1
include g2
include g3
include g4
end
end Sl
