import Derived.Test.YteogdknlofcpiaaGreatSlU
import Derived.Test.YteogdknlofcpiaaGreatSlK
namespace Sl
open _root_.Go _root_.Go.RowKit
set_option linter.all false
section
variable {R : Nat} {P : Program} {t : TypeId}
theorem dec_byte (ht : P.underlying t = some (.int .u8)) (hc : P.cellsOf t = 1) : DecR R P t u8c (fun _ _ => True) :=
 (DecR.int ht hc).map (fun _ => hc.symm) (fun a x hx => by simp [u8c] at hx; subst hx; rfl) fun I a h => ⟨UInt8.ofNat a.toNat, by have := bounds_u8 h; show [Value.int .u8 ((UInt8.ofNat a.toNat).toNat : Int)] = [.int .u8 a]; rw [u8_nat (by omega), show ((a.toNat : Nat) : Int) = a from by omega], trivial⟩
end
end Sl
