/- A slice's elements, met in memory as they lie there. No condition. -/
import Derived.Test.YtfflafpcpbeciaaSlCF
import Derived.Test.YtfflafpcpbeciaaSlY
namespace Sl
open _root_.Go _root_.Go.RowKit _root_.Go.Proofs
set_option linter.all false
set_option linter.unusedSimpArgs false
end Sl
