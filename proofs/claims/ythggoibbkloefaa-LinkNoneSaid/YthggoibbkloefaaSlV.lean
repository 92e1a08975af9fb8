/- Values, names, attributes, events: what the functions on them tell, as plain functions. No condition. -/
import Derived.Test.YthggoibbkloefaaSlG
namespace Sl
open _root_.Go _root_.Go.RowKit
set_option linter.all false
def timeB (n : Int) : Bool := decide (0 ≤ n ∧ n ≤ 1099511627776)
/-- A string that a memory bears, an int. -/
structure Str where
 v : ByteArray
 ok : v.size ≤ 140737488355328
structure I64 where
 v : Int
 lo : -9223372036854775808 ≤ v
 hi : v ≤ 9223372036854775807
theorem Str.eq {a b : Str} (h : a.v = b.v) : a = b := by cases a; cases b; cases h; rfl
theorem I64.eq {a b : I64} (h : a.v = b.v) : a = b := by cases a; cases b; cases h; rfl
def Str.none : Str := ⟨ByteArray.empty, by decide⟩
def I64.of (n : Nat) (h : n ≤ 9223372036854775807) : I64 := ⟨n, by omega, by omega⟩
instance : Inhabited Str := ⟨Str.none⟩
instance : Inhabited I64 := ⟨⟨0, by omega, by omega⟩⟩
structure AttrV where
 name : Str
 kind : I64
 n : I64
 s : Str
instance : Inhabited AttrV := ⟨⟨default, default, default, default⟩⟩
/-- An event. -/
structure EvM where
 src : I64
 seq : I64
 time : I64
 typ : Str
 attrs : List AttrV
/-- Two attributes are the same. -/
def sameAt (a b : AttrV) : Bool := (decide (a.name.v = b.name.v) && ((decide (a.kind.v = b.kind.v) && (decide (a.n.v = b.n.v) && (decide (a.s.v = b.s.v) && true))) && true))
theorem sameAt_iff {a b : AttrV} : sameAt a b = true ↔ a = b := by
 constructor
 ·intro h
  simp only [sameAt, Bool.and_true, Bool.and_eq_true, decide_eq_true_eq] at h
  obtain ⟨h1, h2, h3, h4⟩ := h
  cases a; cases b
  simp only [AttrV.mk.injEq]
  exact ⟨Str.eq h1, I64.eq h2, I64.eq h3, Str.eq h4⟩
 ·rintro rfl
  simp [sameAt]
instance : DecidableEq AttrV := fun a b => decidable_of_iff (sameAt a b = true) sameAt_iff
def sameAs (as bs : List AttrV) : Bool := decide (as = bs)
/-- Two events are the same. -/
def sameEv (a b : EvM) : Bool := (((decide (a.src.v = b.src.v) && (decide (a.seq.v = b.seq.v) && true)) && decide (a.time.v = b.time.v)) && decide (a.typ.v = b.typ.v)) && sameAs a.attrs b.attrs
theorem sameEv_iff {a b : EvM} : sameEv a b = true ↔ a = b := by
 constructor
 ·intro h
  simp only [sameEv, sameAs, Bool.and_true, Bool.and_eq_true, decide_eq_true_eq] at h
  obtain ⟨⟨⟨⟨h1, h2⟩, h3⟩, h4⟩, h5⟩ := h
  cases a; cases b
  simp only [EvM.mk.injEq]
  exact ⟨I64.eq h1, I64.eq h2, I64.eq h3, Str.eq h4, h5⟩
 ·rintro rfl
  simp [sameEv, sameAs]
end Sl
