/- What is put is taken: the bits of parts, read back. No condition. -/
import Derived.Test.YthggoibbkloefaaSlK
namespace Sl
open _root_.Go _root_.Go.RowKit
set_option linter.all false
def padB (L : List Bool) : List Bool := List.replicate (8 * ((L.length + 7) / 8) - L.length) false
end Sl
