/- Events in lists, each with its attributes' slice; what the document's streams answer. No condition. -/
import Derived.Test.YthggoibbkloefaaSlBA
import Derived.Test.YthggoibbkloefaaSlN
import Derived.Test.YthggoibbkloefaaSlY
namespace Sl
open _root_.Go _root_.Go.RowKit
set_option linter.all false
set_option linter.unusedSimpArgs false
instance : Inhabited EvD := ⟨⟨default, none, 0⟩⟩
section
variable {W w : World} {F : List Atom} {i : Nat}
end
section
variable {many : Int} {st : List S3} {evs : List EvM} {gone : List Bool}
end
end Sl
namespace Sl
open _root_.Go _root_.Go.RowKit
section
variable {L : List EvD} {s : Int} {i : Nat}
variable {many : Int} {evs : List EvM} {gone : List Bool} {e : EvM}
end
/-- Are just these events told? -/
instance : DecidableEq EvM := fun a b => decidable_of_iff (sameEv a b = true) sameEv_iff
end Sl
namespace Sl
open _root_.Go _root_.Go.RowKit
section
variable {evs : List EvM} {L Lw pre : List EvD} {x : EvD} {j n : Nat}
end
end Sl
namespace Sl
open _root_.Go _root_.Go.RowKit
end Sl
namespace Sl
open _root_.Go _root_.Go.RowKit
end Sl
