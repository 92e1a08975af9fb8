import Derived.Test.YteogdknlofcpiaaGreatSlZA
namespace Sl
open _root_.Go _root_.Go.RowKit
set_option linter.all false
def mvL : List Nat → List Atom → List Atom
 | [], l => l
 | i :: is, l => bif Nat.blt i 100 then (match l[i]? with
  | some A => mvL is (A :: l.eraseIdx i)
  | none => mvL is l) else mvL is (l.eraseIdx (i - 100))
theorem St.mv {W w : World} : ∀ {l : List Atom} (H : St W w l) (is : List Nat), St W w (mvL is l)
 | l, H, [] => H
 | l, H, i :: is => by
  unfold mvL
  cases hb : Nat.blt i 100 with
  | true =>
   show St W w (match l[i]? with | some A => mvL is (A :: l.eraseIdx i) | none => mvL is l)
   cases hi : l[i]? with
   | some A => exact St.mv (H.move i hi) is
   | none => exact St.mv H is
  | false =>
   show St W w (mvL is (l.eraseIdx (i - 100)))
   cases hi : l[i - 100]? with
   | some A => exact St.mv (H.drop (i - 100) hi) is
   | none =>
    have : l.eraseIdx (i - 100) = l := List.eraseIdx_of_length_le (List.getElem?_eq_none_iff.1 hi)
    rw [this]; exact St.mv H is
abbrev gd {α : Type} [Inhabited α] (l : List α) (i : Nat) : α := l.getD i default
abbrev pa (b : Nat) : Option Addr := some ⟨b, 0, none⟩
end Sl
