/- Readings of bytes, of natural numbers and of parts of what is written. No condition. -/
import Derived.Test.YtkclljglobeplaaSlU
import Derived.Test.YtkclljglobeplaaSlK
namespace Sl
open _root_.Go _root_.Go.RowKit
set_option linter.all false
section
variable {R : Nat} {P : Program} {t : TypeId}
theorem dec_u64 (ht : P.underlying t = some (.int .u64)) (hc : P.cellsOf t = 1) : DecR R P t (fun n : Nat => [.int .u64 (n : Int)]) (fun _ n => n < 18446744073709551616) :=
  (DecR.int ht hc).map (fun _ => hc.symm) (fun a x hx => by simp at hx; subst hx; rfl) fun I a h => ⟨a.toNat, by have := bounds_u64 h; rw [show ((a.toNat : Nat) : Int) = a from by omega], by have := bounds_u64 h; omega⟩
theorem dec_byte (ht : P.underlying t = some (.int .u8)) (hc : P.cellsOf t = 1) : DecR R P t u8c (fun _ _ => True) :=
  (DecR.int ht hc).map (fun _ => hc.symm) (fun a x hx => by simp [u8c] at hx; subst hx; rfl) fun I a h => ⟨UInt8.ofNat a.toNat, by have := bounds_u8 h; show [Value.int .u8 ((UInt8.ofNat a.toNat).toNat : Int)] = [.int .u8 a]; rw [u8_nat (by omega), show ((a.toNat : Nat) : Int) = a from by omega], trivial⟩
theorem dec_strR (ht : P.underlying t = some .string) (hc : P.cellsOf t = 1) (hR : Nat.ble R 140737488351232 = true) : DecR R P t (fun n : Str => [.string n.v]) (fun _ s => s.v.size ≤ R) :=
  (DecR.string ht hc).map (fun _ => hc.symm) (fun a x hx => by simp at hx; subst hx; rfl) fun I a h => ⟨⟨a, Nat.le_trans (Nat.le_trans h (Nat.le_of_ble_eq_true hR)) (by decide)⟩, rfl, h⟩
theorem dec_u64s (ht : P.underlying t = some (.int .u64)) (hc : P.cellsOf t = 1) : DecR R P t (fun n : U64 => [.int .u64 (n.v : Int)]) (fun _ _ => True) :=
  (dec_u64 ht hc).map (fun _ => hc.symm) (fun a x hx => by simp at hx; subst hx; rfl) fun I a h => ⟨⟨a, h⟩, rfl, trivial⟩
theorem dec_i64z (ht : P.underlying t = some (.int .i64)) (hc : P.cellsOf t = 1) : DecR R P t (fun n : I64 => [.int .i64 n.v]) (fun _ _ => True) :=
  (DecR.int ht hc).map (fun _ => hc.symm) (fun a x hx => by simp at hx; subst hx; rfl) fun I a h => ⟨⟨a, (bounds_i64 h).1, (bounds_i64 h).2⟩, rfl, trivial⟩
end
end Sl
