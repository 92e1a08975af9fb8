/- A cell of what is told by a list. No condition. -/
import Derived.Test.YthggoibbkloefaaSlBF
import Derived.Test.YthggoibbkloefaaSlDA
namespace Sl
open _root_.Go _root_.Go.RowKit
set_option linter.all false
end Sl
