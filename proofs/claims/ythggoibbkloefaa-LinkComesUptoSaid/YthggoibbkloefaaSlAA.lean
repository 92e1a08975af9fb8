/- Datagrams written are read. No condition. -/
import Derived.Test.YthggoibbkloefaaSlM
import Derived.Test.YthggoibbkloefaaSlAB
namespace Sl
open _root_.Go _root_.Go.RowKit
set_option linter.all false
end Sl
