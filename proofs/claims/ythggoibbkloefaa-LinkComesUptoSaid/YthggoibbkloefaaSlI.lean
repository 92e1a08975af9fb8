/- Events, bit by bit. No condition. -/
import Derived.Test.YthggoibbkloefaaSlL
import Derived.Test.YthggoibbkloefaaSlR
namespace Sl
open _root_.Go _root_.Go.RowKit
set_option linter.all false
def attrB (a : AttrV) : List Bool := textB a.name.v ++ lowB a.kind.v.toNat 2 ++ (if a.kind.v = 1 then natB (zigN a.n.v) else textB a.s.v)
def headB (e : EvM) : List Bool := lowB e.src.v.toNat 4 ++ natB e.seq.v.toNat ++ natB e.time.v.toNat ++ textB e.typ.v ++ lowB e.attrs.length 4
def formB (e : EvM) : List Bool := headB e ++ e.attrs.flatMap attrB
/-- What a sink answers when an event is put; what is in it then. -/
def evPutE (L : List Bool) (e : EvM) : Int := if evE e = 0 then putE L ((formB e).length : Int) else evE e
def evPutL (L : List Bool) (e : EvM) : List Bool := if evE e = 0 then putL L (formB e) else L
def bytesE (e : EvM) : List UInt8 := if evE e = 0 then pk (formB e) else []
end Sl
