/- New places: pieces by their numbers. No condition. -/
import Derived.Test.YthggoibbkloefaaSlDH
import Derived.Test.YthggoibbkloefaaSlCB
namespace Sl
open _root_.Go _root_.Go.RowKit
set_option linter.all false
set_option linter.unusedSimpArgs false
structure BytesD where
 data : List UInt8
 p : Option Addr
 c : Nat
instance : Inhabited BytesD := ⟨⟨[], none, 0⟩⟩
def evD (x : BytesD) : Value := .slice x.p x.data.length x.c
section
variable {W w : World} {F : List Atom} {i : Nat} {E : List (I64 × BytesD)}
theorem aget_mem {κ ν : Type} [DecidableEq κ] {L : List (κ × ν)} {k : κ} {v : ν} (h : aget L k = some v) : (k, v) ∈ L := by
 unfold aget at h
 obtain ⟨x, hx, e⟩ := Option.map_eq_some_iff.1 h
 obtain ⟨hlt, hx2⟩ := List.getElem?_eq_some_iff.1 hx
 have hk := kidx_at hlt
 rw [hx2] at hk
 have : x = (k, v) := by cases x; simp at hk e; subst hk e; rfl
 rw [← this, ← hx2]; exact List.getElem_mem hlt
end
theorem aset_new {κ ν : Type} [DecidableEq κ] {L : List (κ × ν)} {k : κ} {v : ν} (h : ahas L k = false) : aset L k v = L ++ [(k, v)] := by
 unfold aset
 rw [kidx_has] at h
 rw [if_neg (of_decide_eq_false h)]
theorem look_some {E : List (I64 × BytesD)} {k : I64} {x : BytesD} (h : aget E k = some x) : lookV evD (.slice none 0 0) E k = evD x := by unfold lookV; rw [h]
def told (V : List PieceV) : List (I64 × List UInt8) := V.map fun x => (x.index, x.data)
/-! ## the pieces as they lie -/
def o7 : I64 := ⟨7, by decide, by decide⟩
section
variable {op : I64} {s : List UInt8} {L : List PieceD} {E : List (I64 × BytesD)} {i : Nat}
end
end Sl
