/- Readings of small whole numbers. No condition. -/
import Derived.Test.YthggoibbkloefaaSlY
import Derived.Test.YthggoibbkloefaaSlZ
namespace Sl
open _root_.Go _root_.Go.RowKit
set_option linter.all false
section
variable {R : Nat} {P : Program} {t : TypeId}
end
end Sl
