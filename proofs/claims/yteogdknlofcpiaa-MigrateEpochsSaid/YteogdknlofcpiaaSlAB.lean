/- What is lent for a call comes back. No condition. -/
import Derived.Test.YteogdknlofcpiaaSlN
namespace Sl
open _root_.Go _root_.Go.RowKit
set_option linter.all false
def Atom.solid (A : Atom) : Prop := ∀ I J h, A.sat I h → A.sat J h
/-- The rest, told without what is lent. -/
def kept (ha : Heap) (G : List Atom) : Atom := ⟨fun J h => ha.le J ∧ ∃ I0 : Heap, I0.le J ∧ I0.disj ha ∧ Stars I0 G h, fun I J h hl ⟨a, I0, b, c, d⟩ => ⟨Heap.le_trans a hl, I0, Heap.le_trans b hl, c, d⟩⟩
section
variable {W w : World} {A B : Atom} {G : List Atom}
end
end Sl
