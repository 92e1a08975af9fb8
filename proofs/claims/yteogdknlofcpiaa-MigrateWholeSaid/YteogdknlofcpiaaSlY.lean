/- Readings of names, attributes, events and scripts, for a program whose types lie so. No condition. -/
import Derived.Test.YteogdknlofcpiaaSlU
import Derived.Test.YteogdknlofcpiaaSlR
namespace Sl
open _root_.Go _root_.Go.RowKit
set_option linter.all false
section
variable {R : Nat} {P : Program} {t : TypeId}
/-- An event with its attributes' slice. -/
structure EvD where
  ev : EvM
  p : Option Addr
  c : Nat
def EvD.av (e : EvD) : Value := .slice e.p e.ev.attrs.length e.c
def evdOk (I : Heap) (e : EvD) : Prop := (Attrs e.av e.ev.attrs).sat I Heap.none
def opOk (I : Heap) (o : OpM) : Prop := (Attrs o.av o.ev.attrs).sat I Heap.none
end
end Sl
