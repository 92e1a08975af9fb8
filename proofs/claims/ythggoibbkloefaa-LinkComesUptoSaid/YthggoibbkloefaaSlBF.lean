/- Conditions of bound events; conditions that are parted. No condition. -/
import Derived.Test.YthggoibbkloefaaSlBE
import Derived.Test.YthggoibbkloefaaSlP
namespace Sl
open _root_.Go _root_.Go.RowKit
set_option linter.all false
set_option linter.unusedSimpArgs false
def bndsA (L : List BoundD) : Atom := evA (L.map BoundD.ev)
def bIdx (o : OpdV) (bs : List BoundD) : Int := idxB (fun b : BoundD => decide (b.var.v = o.var.v)) bs
def bvV (o : OpdV) (bs : List BoundD) : ValV := if o.attr.v = ByteArray.empty then o.val else if 0 ≤ bIdx o bs then getV (bs.getD (bIdx o bs).toNat default).ev.ev.attrs o.attr.v else default
def bvIs (o : OpdV) (bs : List BoundD) : Bool := if o.attr.v = ByteArray.empty then true else decide (0 ≤ bIdx o bs)
section
variable {o : OpdV} {bs : List BoundD}
end
def condB (c : CondV) (bs : List BoundD) : Bool := !bvIs c.left bs || !bvIs c.right bs || holdsB c.rel.v (bvV c.left bs) (bvV c.right bs)
def allB (l : List CondV) (bs : List BoundD) : Bool := !(l.any fun c => !condB c bs)
/-! ## parted -/
def pickB (l : List CondV) (vars : List Str) (is : Bool) : List CondV := l.filter fun c => decide (readyB c vars = is)
/-! ## the same -/
def sameVal (a b : ValV) : Bool := (decide (a.kind.v = b.kind.v) && (decide (a.n.v = b.n.v) && (decide (a.s.v = b.s.v) && true)))
def sameOpd (a b : OpdV) : Bool := (decide (a.var.v = b.var.v) && (decide (a.attr.v = b.attr.v) && (sameVal a.val b.val && true)))
def sameCd (a b : CondV) : Bool := (sameOpd a.left b.left && (decide (a.rel.v = b.rel.v) && (sameOpd a.right b.right && true)))
section
variable {P : Program} (w : World)
end
section
variable {C : Ctx} {ρ : Env} {w W : World} {l : List Atom} {ops : Array Oper} {K' : Env → World → Prop} {d ty : Nat} {pos : String} {af : Array Edge} {x y : Operand} {e : TypeId} {size : Nat}
end
end Sl
