import Derived.Test.YteogdknlofcpiaaGreatSlU
import Derived.Test.YteogdknlofcpiaaGreatSlR
namespace Sl
open _root_.Go _root_.Go.RowKit
set_option linter.all false
section
variable {R : Nat} {P : Program} {t : TypeId}
theorem dec_i64 (ht : P.underlying t = some (.int .i64)) (hc : P.cellsOf t = 1) : DecR R P t (fun n : I64 => [.int .i64 n.v]) (fun _ _ => True) :=
 (DecR.int ht hc).map (fun _ => hc.symm) (fun a x hx => by simp at hx; subst hx; rfl) fun I a h => ⟨⟨a, (bounds_i64 h).1, (bounds_i64 h).2⟩, rfl, trivial⟩
theorem dec_str (hR : Nat.ble R 140737488351232 = true) (ht : P.underlying t = some .string) (hc : P.cellsOf t = 1) : DecR R P t (fun n : Str => [.string n.v]) (fun _ _ => True) :=
 (DecR.string ht hc).map (fun _ => hc.symm) (fun a x hx => by simp at hx; subst hx; rfl) fun I a h => ⟨⟨a, Nat.le_trans (Nat.le_trans h (Nat.le_of_ble_eq_true hR)) (by decide)⟩, rfl, trivial⟩
structure EvD where
 ev : EvM
 p : Option Addr
 c : Nat
def EvD.av (e : EvD) : Value := .slice e.p e.ev.attrs.length e.c
def evdOk (I : Heap) (e : EvD) : Prop := (Attrs e.av e.ev.attrs).sat I Heap.none
theorem one_attr (b : AttrV) (x : Value) (hx : x ∈ attrCell b) : x.oneCell' = true := by
 simp [attrCell] at hx
 rcases hx with rfl | rfl | rfl | rfl <;> rfl
theorem one_ev (b : EvD) (x : Value) (hx : x ∈ evCell b.ev b.av) : x.oneCell' = true := by
 simp [evCell, EvD.av] at hx
 rcases hx with rfl | rfl | rfl | rfl | rfl <;> rfl
end
end Sl
