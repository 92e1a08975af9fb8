/- Appending so many zeros to a row that is not empty. No condition. -/
import Derived.Test.YthggoibbkloefaaSlG
namespace Sl
open _root_.Go _root_.Go.RowKit
set_option linter.all false
section
variable {P : Program} (w : World)
end
section
variable {W w : World} {l : List Atom} {i : Nat} {e : TypeId} {size : Nat} {v : Value} {n : Nat} {xs : List Value}
end
section
variable {C : Ctx} {ρ : Env} {w W : World} {l : List Atom} {i : Nat} {ops : Array Oper} {K' : Env → World → Prop} {d ty : Nat} {pos : String} {af : Array Edge} {x y : Operand} {e : TypeId} {size : Nat}
end
section
variable {C : Ctx} {ρ : Env} {W w : World} {ops : Array Oper} {K' : Env → World → Prop} {d ty : Nat} {pos : String} {af : Array Edge} {x : Operand} {K : IntKind} {a : Int}
end
end Sl
