/- Readings of names, attributes, events and scripts, for a program whose types lie so. No condition. -/
import Derived.Test.YthggoibbkloefaaSlU
import Derived.Test.YthggoibbkloefaaSlR
namespace Sl
open _root_.Go _root_.Go.RowKit
set_option linter.all false
section
variable {R : Nat} {P : Program} {t : TypeId}
theorem dec_i64 (ht : P.underlying t = some (.int .i64)) (hc : P.cellsOf t = 1) : DecR R P t (fun n : I64 => [.int .i64 n.v]) (fun _ _ => True) :=
 (DecR.int ht hc).map (fun _ => hc.symm) (fun a x hx => by simp at hx; subst hx; rfl) fun I a h => ⟨⟨a, (bounds_i64 h).1, (bounds_i64 h).2⟩, rfl, trivial⟩
/-- An event with its attributes' slice. -/
structure EvD where
 ev : EvM
 p : Option Addr
 c : Nat
end
end Sl
