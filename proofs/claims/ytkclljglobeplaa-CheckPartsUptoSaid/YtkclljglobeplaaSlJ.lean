/- Readings of small whole numbers. No condition. -/
import Derived.Test.YtkclljglobeplaaSlY
import Derived.Test.YtkclljglobeplaaSlZ
namespace Sl
open _root_.Go _root_.Go.RowKit
set_option linter.all false
section
variable {R : Nat} {P : Program} {t : TypeId}
theorem dec_n16 (ht : P.underlying t = some (.int .u16)) (hc : P.cellsOf t = 1) : DecR R P t (fun n : Nat => [.int .u16 (n : Int)]) (fun _ n => n < 65536) :=
  (DecR.int ht hc).map (fun _ => hc.symm) (fun a x hx => by simp at hx; subst hx; rfl) fun I a h => ⟨a.toNat, by have := bounds_u16 h; rw [show ((a.toNat : Nat) : Int) = a from by omega], by have := bounds_u16 h; omega⟩
theorem dec_n32 (ht : P.underlying t = some (.int .u32)) (hc : P.cellsOf t = 1) : DecR R P t (fun n : Nat => [.int .u32 (n : Int)]) (fun _ n => n < 4294967296) :=
  (DecR.int ht hc).map (fun _ => hc.symm) (fun a x hx => by simp at hx; subst hx; rfl) fun I a h => ⟨a.toNat, by have := bounds_u32 h; rw [show ((a.toNat : Nat) : Int) = a from by omega], by have := bounds_u32 h; omega⟩
theorem dec_n8 (ht : P.underlying t = some (.int .u8)) (hc : P.cellsOf t = 1) : DecR R P t (fun n : Nat => [.int .u8 (n : Int)]) (fun _ n => n < 256) :=
  (DecR.int ht hc).map (fun _ => hc.symm) (fun a x hx => by simp at hx; subst hx; rfl) fun I a h => ⟨a.toNat, by have := bounds_u8 h; rw [show ((a.toNat : Nat) : Int) = a from by omega], by have := bounds_u8 h; omega⟩
end
end Sl
