/- Pieces of a state as data. No condition. -/
import Derived.Test.YteogdknlofcpiaaSlDB
import Derived.Test.YteogdknlofcpiaaSlCB
import Derived.Test.YteogdknlofcpiaaSlN
namespace Sl
open _root_.Go _root_.Go.RowKit
set_option linter.all false
set_option linter.unusedSimpArgs false
theorem Stars.pers_at2 {I : Heap} {l : List Atom} {h : Heap} {i : Nat} {A : Atom} (s : Stars I l h) (hi : l[i]? = some A) (hp : A.pers) : A.sat I Heap.none := by
  obtain ⟨h1, h2, _, _, a, _⟩ := Stars.focus s hi
  have := hp _ _ a
  subst this; exact a
theorem St.derive2 {W w : World} {l : List Atom} {A' : Atom} (H : St W w l) (h : ∀ I : Heap, (∀ (i : Nat) (A : Atom), l[i]? = some A → A.pers → A.sat I Heap.none) → A'.sat I Heap.none) : St W w (A' :: l) := by
  obtain ⟨I, h', dI, hI, hh, s⟩ := H.mem
  exact ⟨H.os, H.tape, H.output, I, h', dI, hI, hh, Heap.none, h', Heap.none_disj h', (Heap.none_union h').symm, h I (fun i A hi hp => Stars.pers_at2 s hi hp), s⟩
def i64N (n : Nat) : I64 := if h : n ≤ 9223372036854775807 then ⟨n, by omega, by omega⟩ else default
theorem i64N_v {n : Nat} (h : n ≤ 9223372036854775807) : (i64N n).v = n := by unfold i64N; rw [dif_pos h]
structure PieceV where
  op : I64
  many : I64
  index : I64
  data : List UInt8
structure PieceD where
  v : PieceV
  p : Option Addr
  c : Nat
instance : Inhabited PieceV := ⟨⟨default, default, default, []⟩⟩
instance : Inhabited PieceD := ⟨⟨default, none, 0⟩⟩
def pcCell (x : PieceD) : List Value := [.int .i64 x.v.op.v, .int .i64 x.v.many.v, .int .i64 x.v.index.v, .slice x.p x.v.data.length x.c]
theorem pcCell_len (x : PieceD) : (pcCell x).length = 4 := rfl
theorem one_pc (a : PieceD) (x : Value) (hx : x ∈ pcCell a) : x.oneCell' = true := by
  simp only [pcCell, List.mem_cons, List.not_mem_nil, or_false] at hx
  rcases hx with rfl | rfl | rfl | rfl <;> rfl
def DtA (p : Option Addr) (c : Nat) (data : List UInt8) : Atom := Im 1 (.slice p data.length c) data.length (data.flatMap u8c)
theorem DtA_pers (p : Option Addr) (c : Nat) (data : List UInt8) : (DtA p c data).pers := Im_pers _ _ _ _
/-- What pieces hold. -/
def pcA (L : List PieceD) : Atom := ⟨fun I h => h = Heap.none ∧ ∀ x ∈ L, (DtA x.p x.c x.v.data).sat I Heap.none, fun I J h hl ⟨a, b⟩ => ⟨a, fun x hx => (DtA x.p x.c x.v.data).mono I J _ hl (b x hx)⟩⟩
theorem pcA_pers (L : List PieceD) : (pcA L).pers := fun _ _ h => h.1
section
variable {W w : World} {F : List Atom} {i : Nat} {L : List PieceD}
theorem pcA_nil (H : St W w F) : St W w (pcA [] :: F) := H.derive2 fun I _ => ⟨rfl, fun x hx => by cases hx⟩
theorem pcA_at {j : Nat} (H : St W w F) (hi : F[i]? = some (pcA L)) (hj : j < L.length) : St W w (DtA (L.getD j default).p (L.getD j default).c (L.getD j default).v.data :: F) :=
  H.derive2 fun I h => (h i _ hi (pcA_pers L)).2 _ (by
    rw [List.getD_eq_getElem?_getD, List.getElem?_eq_getElem hj]
    exact List.getElem_mem hj)
theorem pcA_snoc {x : PieceD} (H : St W w (DtA x.p x.c x.v.data :: pcA L :: F)) : St W w (pcA (L ++ [x]) :: F) := by
  have H2 : St W w (pcA (L ++ [x]) :: DtA x.p x.c x.v.data :: pcA L :: F) := H.derive2 fun I h => ⟨rfl, fun y hy => by
    rcases List.mem_append.1 hy with hy | hy
    · exact (h 1 _ rfl (pcA_pers L)).2 y hy
    · rw [List.mem_singleton] at hy
      subst hy
      have := h 0 _ rfl (DtA_pers _ _ _)
      exact this⟩
  exact (H2.drop 1 rfl).drop 1 rfl
end
/-! ## a state in pieces -/
def manyOf (n : Nat) : Nat := max 1 ((n + 4095) / 4096)
def cutE (op : I64) (s : List UInt8) : Int := if timeB op.v = false then 1 else if 4194304 < s.length then 3 else 0
def pcAt (op : I64) (s : List UInt8) (i : Nat) : PieceV := ⟨op, i64N (manyOf s.length), i64N i, (s.drop (i * 4096)).take 4096⟩
def cutL (op : I64) (s : List UInt8) (j : Nat) : List PieceV := (List.range j).map (pcAt op s)
def cutV (op : I64) (s : List UInt8) : List PieceV := if cutE op s = 0 then cutL op s (manyOf s.length) else []
theorem cutE_1 {op : I64} {s : List UInt8} (h : timeB op.v = false) : cutE op s = 1 := if_pos h
theorem cutE_3 {op : I64} {s : List UInt8} (h : timeB op.v = true) (h2 : 4194304 < s.length) : cutE op s = 3 := by unfold cutE; rw [if_neg (by rw [h]; simp), if_pos h2]
theorem cutE_0 {op : I64} {s : List UInt8} (h : timeB op.v = true) (h2 : ¬ 4194304 < s.length) : cutE op s = 0 := by unfold cutE; rw [if_neg (by rw [h]; simp), if_neg h2]
theorem cutV_no {op : I64} {s : List UInt8} (h : ¬ cutE op s = 0) : cutV op s = [] := if_neg h
theorem cutV_yes {op : I64} {s : List UInt8} (h : cutE op s = 0) : cutV op s = cutL op s (manyOf s.length) := if_pos h
theorem cutL_len (op : I64) (s : List UInt8) (j : Nat) : (cutL op s j).length = j := by simp [cutL]
theorem cutL_succ (op : I64) (s : List UInt8) (j : Nat) : cutL op s (j + 1) = cutL op s j ++ [pcAt op s j] := by simp [cutL, List.range_succ]
theorem manyOf_lt {n j : Nat} (h : j < manyOf n) : j * 4096 ≤ n := by unfold manyOf at h; omega
theorem manyOf_le {n : Nat} (h : n ≤ 4194304) : manyOf n ≤ 1024 := by unfold manyOf; omega
theorem cut_data (s : List UInt8) (j : Nat) (h : j * 4096 ≤ s.length) : (s.drop (j * 4096)).take (min s.length ((j + 1) * 4096) - j * 4096) = (s.drop (j * 4096)).take 4096 := by
  rcases Nat.le_total s.length ((j + 1) * 4096) with hc | hc
  · rw [Nat.min_eq_left hc, List.take_of_length_le (by rw [List.length_drop]; omega), List.take_of_length_le (by rw [List.length_drop]; omega)]
  · rw [Nat.min_eq_right hc]; congr 1; omega
theorem cut_len (s : List UInt8) (j : Nat) (h : j * 4096 ≤ s.length) : ((s.drop (j * 4096)).take 4096).length = min s.length ((j + 1) * 4096) - j * 4096 := by
  rw [← cut_data s j h, List.length_take, List.length_drop]; omega
theorem cut_step {op : I64} {s : List UInt8} {pre : List PieceD} {j : Nat} {p : Option Addr} {c : Nat} (h : pre.map PieceD.v = cutL op s j) : (pre ++ [(⟨pcAt op s j, p, c⟩ : PieceD)]).map PieceD.v = cutL op s (j + 1) := by
  rw [List.map_append, h, cutL_succ]; rfl
theorem flat_snocP (L : List PieceD) (x : PieceD) : (L ++ [x]).flatMap pcCell = L.flatMap pcCell ++ pcCell x := by rw [List.flatMap_append]; simp
theorem mapP_len {L : List PieceD} {V : List PieceV} (h : L.map PieceD.v = V) : L.length = V.length := by rw [← h, List.length_map]
/-! ## pieces that are the same -/
def samePc (a b : PieceV) : Bool := decide (a.op.v = b.op.v) && decide (a.many.v = b.many.v) && decide (a.index.v = b.index.v) && decide ((⟨a.data.toArray⟩ : ByteArray) = ⟨b.data.toArray⟩)
end Sl
