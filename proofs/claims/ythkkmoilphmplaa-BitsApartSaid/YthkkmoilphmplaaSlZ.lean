/- Readings of bytes, of natural numbers and of parts of what is written. No condition. -/
import Derived.Test.YthkkmoilphmplaaSlU
import Derived.Test.YthkkmoilphmplaaSlS
namespace Sl
open _root_.Go _root_.Go.RowKit
set_option linter.all false
section
variable {P : Program} {t : TypeId}
theorem dec_u64 (ht : P.underlying t = some (.int .u64)) (hc : P.cellsOf t = 1) : Dec P t (fun n : Nat => [.int .u64 (n : Int)]) (fun _ n => n < 18446744073709551616) :=
  (Dec.int ht hc).map (fun _ => hc.symm) (fun a x hx => by simp at hx; subst hx; rfl) fun I a h => ⟨a.toNat, by have := bounds_u64 h; rw [show ((a.toNat : Nat) : Int) = a from by omega], by have := bounds_u64 h; omega⟩
theorem dec_byte (ht : P.underlying t = some (.int .u8)) (hc : P.cellsOf t = 1) : Dec P t u8c (fun _ _ => True) :=
  (Dec.int ht hc).map (fun _ => hc.symm) (fun a x hx => by simp [u8c] at hx; subst hx; rfl) fun I a h => ⟨UInt8.ofNat a.toNat, by have := bounds_u8 h; show [Value.int .u8 ((UInt8.ofNat a.toNat).toNat : Int)] = [.int .u8 a]; rw [u8_nat (by omega), show ((a.toNat : Nat) : Int) = a from by omega], trivial⟩
end
end Sl
