/- What a call takes of events that are owned. No condition. -/
import Derived.Test.YtheggchlcpafmaaSlBB
import Derived.Test.YtheggchlcpafmaaSlAB
namespace Sl
open _root_.Go _root_.Go.RowKit
set_option linter.all false
theorem wrap_lo (n : Int) : -9223372036854775808 ≤ IntKind.i64.wrap n ∧ IntKind.i64.wrap n ≤ 9223372036854775807 := by
  have h0 : IntKind.i64.wrap n = if 9223372036854775808 ≤ n % 18446744073709551616 then n % 18446744073709551616 - 18446744073709551616 else n % 18446744073709551616 := by
    simp [IntKind.wrap, IntKind.signed, IntKind.bits]
  rw [h0]
  split <;> (constructor <;> omega)
def wrapI (n : Int) : I64 := ⟨IntKind.i64.wrap n, (wrap_lo n).1, (wrap_lo n).2⟩
def withN (a : AttrV) (n : Int) : AttrV := { a with n := wrapI n }
def ev0 (e : EvM) : EvM := { e with seq := ⟨0, by decide, by decide⟩ }
def ev00 : EvM := ⟨⟨0, by decide, by decide⟩, ⟨0, by decide, by decide⟩, ⟨0, by decide, by decide⟩, ⟨ByteArray.empty, by decide⟩, []⟩
theorem told_own {st : List S3} {e : EvM} (h : acceptE 16 st ([] : List EvM).length e = 0) (X : EvD) (hX : X.ev = e) : toldB (accEvs 16 st [] e) ([X].map EvD.ev) = true := by
  unfold toldB accEvs
  rw [if_pos h]
  simp [hX]
section
variable {W w : World} {F : List Atom}
theorem attrs_lend {P : Program} {k : FuncId} {args : Array Value} {T : TypeId} {p : Option Addr} {c : Nat} {L : List AttrV} {α : Type} {q : α → Value → Prop} {X : α → Atom} (hX : ∀ x, (X x).solid) {j : Nat} (hj : F[j]? = some (Row T 4 (.slice p L.length c) L.length (L.flatMap attrCell))) (H : St W w F)
    (C : ∀ G : List Atom, G[0]? = some (Attrs (.slice p L.length c) L) → St W w G → Calls P k args w (Ret fun v w' => ∃ x, q x v ∧ St W w' (X x :: G))) : Calls P k args w (Ret fun v w' => ∃ x, q x v ∧ St W w' (X x :: F)) := by
  refine (lend (p := q) (X := X) hX (Row_solid _ _ _ _ _) (Im_pers _ _ _ _) Row_lends (H.front hj) fun G h0 HG => C G h0 HG).mono fun e w' hh => ?_
  cases e with
  | returned v =>
    obtain ⟨x, hv, H3⟩ := hh
    exact ⟨x, hv, St.back_same (i := j + 1) (by simpa using hj) (H3.move 1 rfl)⟩
  | _ => exact hh.elim
theorem attrs_lend0 {P : Program} {k : FuncId} {args : Array Value} {T : TypeId} {p : Option Addr} {c : Nat} {L : List AttrV} {q : Value → Prop} {j : Nat} (hj : F[j]? = some (Row T 4 (.slice p L.length c) L.length (L.flatMap attrCell))) (H : St W w F)
    (C : ∀ G : List Atom, G[0]? = some (Attrs (.slice p L.length c) L) → St W w G → Calls P k args w (Ret fun v w' => q v ∧ St W w' G)) : Calls P k args w (Ret fun v w' => q v ∧ St W w' F) := by
  refine (lend0 (p := q) (Row_solid _ _ _ _ _) (Im_pers _ _ _ _) Row_lends (H.front hj) fun G h0 HG => C G h0 HG).mono fun e w' hh => ?_
  cases e with
  | returned v => exact ⟨hh.1, St.back_same hj hh.2⟩
  | _ => exact hh.elim
end
end Sl
