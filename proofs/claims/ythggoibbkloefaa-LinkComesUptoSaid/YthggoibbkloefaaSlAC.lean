/- What is read is written in just these bits. No condition. -/
import Derived.Test.YthggoibbkloefaaSlL
namespace Sl
open _root_.Go _root_.Go.RowKit
set_option linter.all false
end Sl
