/- Pieces of a state as data. No condition. -/
import Derived.Test.YteogdknlofcpiaaSlDB
import Derived.Test.YteogdknlofcpiaaSlCB
import Derived.Test.YteogdknlofcpiaaSlN
namespace Sl
open _root_.Go _root_.Go.RowKit
set_option linter.all false
set_option linter.unusedSimpArgs false
theorem Stars.pers_at2 {I : Heap} {l : List Atom} {h : Heap} {i : Nat} {A : Atom} (s : Stars I l h) (hi : l[i]? = some A) (hp : A.pers) : A.sat I Heap.none := by
  obtain ⟨h1, h2, _, _, a, _⟩ := Stars.focus s hi
  have := hp _ _ a
  subst this; exact a
theorem St.derive2 {W w : World} {l : List Atom} {A' : Atom} (H : St W w l) (h : ∀ I : Heap, (∀ (i : Nat) (A : Atom), l[i]? = some A → A.pers → A.sat I Heap.none) → A'.sat I Heap.none) : St W w (A' :: l) := by
  obtain ⟨I, h', dI, hI, hh, s⟩ := H.mem
  exact ⟨H.os, H.tape, H.output, I, h', dI, hI, hh, Heap.none, h', Heap.none_disj h', (Heap.none_union h').symm, h I (fun i A hi hp => Stars.pers_at2 s hi hp), s⟩
structure PieceV where
  op : I64
  many : I64
  index : I64
  data : List UInt8
structure PieceD where
  v : PieceV
  p : Option Addr
  c : Nat
instance : Inhabited PieceV := ⟨⟨default, default, default, []⟩⟩
instance : Inhabited PieceD := ⟨⟨default, none, 0⟩⟩
def pcCell (x : PieceD) : List Value := [.int .i64 x.v.op.v, .int .i64 x.v.many.v, .int .i64 x.v.index.v, .slice x.p x.v.data.length x.c]
theorem pcCell_len (x : PieceD) : (pcCell x).length = 4 := rfl
theorem one_pc (a : PieceD) (x : Value) (hx : x ∈ pcCell a) : x.oneCell' = true := by
  simp only [pcCell, List.mem_cons, List.not_mem_nil, or_false] at hx
  rcases hx with rfl | rfl | rfl | rfl <;> rfl
def DtA (p : Option Addr) (c : Nat) (data : List UInt8) : Atom := Im 1 (.slice p data.length c) data.length (data.flatMap u8c)
theorem DtA_pers (p : Option Addr) (c : Nat) (data : List UInt8) : (DtA p c data).pers := Im_pers _ _ _ _
/-- What pieces hold. -/
def pcA (L : List PieceD) : Atom := ⟨fun I h => h = Heap.none ∧ ∀ x ∈ L, (DtA x.p x.c x.v.data).sat I Heap.none, fun I J h hl ⟨a, b⟩ => ⟨a, fun x hx => (DtA x.p x.c x.v.data).mono I J _ hl (b x hx)⟩⟩
theorem pcA_pers (L : List PieceD) : (pcA L).pers := fun _ _ h => h.1
section
variable {W w : World} {F : List Atom} {i : Nat} {L : List PieceD}
theorem pcA_nil (H : St W w F) : St W w (pcA [] :: F) := H.derive2 fun I _ => ⟨rfl, fun x hx => by cases hx⟩
theorem pcA_at {j : Nat} (H : St W w F) (hi : F[i]? = some (pcA L)) (hj : j < L.length) : St W w (DtA (L.getD j default).p (L.getD j default).c (L.getD j default).v.data :: F) :=
  H.derive2 fun I h => (h i _ hi (pcA_pers L)).2 _ (by
    rw [List.getD_eq_getElem?_getD, List.getElem?_eq_getElem hj]
    exact List.getElem_mem hj)
theorem pcA_snoc {x : PieceD} (H : St W w (DtA x.p x.c x.v.data :: pcA L :: F)) : St W w (pcA (L ++ [x]) :: F) := by
  have H2 : St W w (pcA (L ++ [x]) :: DtA x.p x.c x.v.data :: pcA L :: F) := H.derive2 fun I h => ⟨rfl, fun y hy => by
    rcases List.mem_append.1 hy with hy | hy
    · exact (h 1 _ rfl (pcA_pers L)).2 y hy
    · rw [List.mem_singleton] at hy
      subst hy
      have := h 0 _ rfl (DtA_pers _ _ _)
      exact this⟩
  exact (H2.drop 1 rfl).drop 1 rfl
end
theorem flat_snocP (L : List PieceD) (x : PieceD) : (L ++ [x]).flatMap pcCell = L.flatMap pcCell ++ pcCell x := by rw [List.flatMap_append]; simp
/-! ## pieces that are the same -/
def samePc (a b : PieceV) : Bool := decide (a.op.v = b.op.v) && decide (a.many.v = b.many.v) && decide (a.index.v = b.index.v) && decide ((⟨a.data.toArray⟩ : ByteArray) = ⟨b.data.toArray⟩)
end Sl
