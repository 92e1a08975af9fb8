import Derived.Test.YteogdknlofcpiaaGreatSlDB
import Derived.Test.YteogdknlofcpiaaGreatSlCB
import Derived.Test.YteogdknlofcpiaaGreatSlN
namespace Sl
open _root_.Go _root_.Go.RowKit
set_option linter.all false
set_option linter.unusedSimpArgs false
theorem Stars.pers_at2 {I : Heap} {l : List Atom} {h : Heap} {i : Nat} {A : Atom} (s : Stars I l h) (hi : l[i]? = some A) (hp : A.pers) : A.sat I Heap.none := by
 obtain ⟨h1, h2, _, _, a, _⟩ := Stars.focus s hi
 have := hp _ _ a
 subst this; exact a
theorem St.derive2 {W w : World} {l : List Atom} {A' : Atom} (H : St W w l) (h : ∀ I : Heap, (∀ (i : Nat) (A : Atom), l[i]? = some A → A.pers → A.sat I Heap.none) → A'.sat I Heap.none) : St W w (A' :: l) := by
 obtain ⟨I, h', dI, hI, hh, s⟩ := H.mem
 exact ⟨H.os, H.tape, H.output, I, h', dI, hI, hh, Heap.none, h', Heap.none_disj h', (Heap.none_union h').symm, h I (fun i A hi hp => Stars.pers_at2 s hi hp), s⟩
def i64N (n : Nat) : I64 := if h : n ≤ 9223372036854775807 then ⟨n, by omega, by omega⟩ else default
theorem i64N_v {n : Nat} (h : n ≤ 9223372036854775807) : (i64N n).v = n := by unfold i64N; rw [dif_pos h]
structure PieceV where
 op : I64
 many : I64
 index : I64
 data : List UInt8
structure PieceD where
 v : PieceV
 p : Option Addr
 c : Nat
instance : Inhabited PieceV := ⟨⟨default, default, default, []⟩⟩
instance : Inhabited PieceD := ⟨⟨default, none, 0⟩⟩
def DtA (p : Option Addr) (c : Nat) (data : List UInt8) : Atom := Im 1 (.slice p data.length c) data.length (data.flatMap u8c)
theorem DtA_pers (p : Option Addr) (c : Nat) (data : List UInt8) : (DtA p c data).pers := Im_pers _ _ _ _
section
variable {W w : World} {F : List Atom} {i : Nat} {L : List PieceD}
end
end Sl
