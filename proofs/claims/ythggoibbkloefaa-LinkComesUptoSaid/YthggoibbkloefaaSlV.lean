/- Values, names, attributes, events: what the functions on them tell, as plain functions. No condition. -/
import Derived.Test.YthggoibbkloefaaSlG
namespace Sl
open _root_.Go _root_.Go.RowKit
set_option linter.all false
/-- The first number that is not 0 among f 0 .. f (n-1). -/
def firstNZ (f : Nat → Int) : Nat → Int
  | 0 => 0
  | n + 1 => if firstNZ f n = 0 then f n else firstNZ f n
def timeB (n : Int) : Bool := decide (0 ≤ n ∧ n ≤ 1099511627776)
def letterB (c : Int) : Bool := decide (c = 95 ∨ (97 ≤ c ∧ c ≤ 122) ∨ (65 ≤ c ∧ c ≤ 90))
def charB (i : Nat) (c : Int) : Bool := letterB c || decide (i ≠ 0 ∧ 48 ≤ c ∧ c ≤ 57)
def nameB (s : ByteArray) : Bool := decide ((∀ i, i < s.size → charB i (bAt s i) = true) ∧ s ≠ ByteArray.empty ∧ s.size ≤ 32)
/-- A string that a memory bears, an int. -/
structure Str where
  v : ByteArray
  ok : v.size ≤ 140737488355328
structure I64 where
  v : Int
  lo : -9223372036854775808 ≤ v
  hi : v ≤ 9223372036854775807
theorem Str.eq {a b : Str} (h : a.v = b.v) : a = b := by cases a; cases b; cases h; rfl
theorem I64.eq {a b : I64} (h : a.v = b.v) : a = b := by cases a; cases b; cases h; rfl
def Str.none : Str := ⟨ByteArray.empty, by decide⟩
def I64.of (n : Nat) (h : n ≤ 9223372036854775807) : I64 := ⟨n, by omega, by omega⟩
instance : Inhabited Str := ⟨Str.none⟩
instance : Inhabited I64 := ⟨⟨0, by omega, by omega⟩⟩
structure AttrV where
  name : Str
  kind : I64
  n : I64
  s : Str
instance : Inhabited AttrV := ⟨⟨default, default, default, default⟩⟩
def attrCell (a : AttrV) : List Value := [.string a.name.v, .int .i64 a.kind.v, .int .i64 a.n.v, .string a.s.v]
def valE (k n : Int) (s : ByteArray) : Int := if (k = 1 ∧ s = ByteArray.empty) ∨ (k = 2 ∧ n = 0 ∧ s.size ≤ 64) then 0 else 30
def attrE (as : List AttrV) (i : Nat) : Int :=
  let a := as.getD i default
  if nameB a.name.v = false then 31
  else if valE a.kind.v a.n.v a.s.v ≠ 0 then valE a.kind.v a.n.v a.s.v
  else if 0 < i ∧ (sLt a.name.v (as.getD (i - 1) default).name.v || decide (a.name.v = (as.getD (i - 1) default).name.v)) = true then 32
  else 0
def attrsE (as : List AttrV) : Int := if 8 < as.length then 3 else firstNZ (attrE as) as.length
/-- An event. -/
structure EvM where
  src : I64
  seq : I64
  time : I64
  typ : Str
  attrs : List AttrV
def evE (e : EvM) : Int :=
  if e.src.v < 0 ∨ 16 ≤ e.src.v ∨ timeB e.seq.v = false ∨ timeB e.time.v = false ∨ nameB e.typ.v = false then 40 else attrsE e.attrs
def evCell (e : EvM) (av : Value) : List Value := [.int .i64 e.src.v, .int .i64 e.seq.v, .int .i64 e.time.v, .string e.typ.v, av]
/-- The attributes of an event, as a slice that is turned no more. -/
def Attrs (av : Value) (as : List AttrV) : Atom := Im 4 av as.length (as.flatMap attrCell)
/-- Two attributes are the same. -/
def sameAt (a b : AttrV) : Bool := (decide (a.name.v = b.name.v) && ((decide (a.kind.v = b.kind.v) && (decide (a.n.v = b.n.v) && (decide (a.s.v = b.s.v) && true))) && true))
theorem sameAt_iff {a b : AttrV} : sameAt a b = true ↔ a = b := by
  constructor
  · intro h
    simp only [sameAt, Bool.and_true, Bool.and_eq_true, decide_eq_true_eq] at h
    obtain ⟨h1, h2, h3, h4⟩ := h
    cases a; cases b
    simp only [AttrV.mk.injEq]
    exact ⟨Str.eq h1, I64.eq h2, I64.eq h3, Str.eq h4⟩
  · rintro rfl
    simp [sameAt]
instance : DecidableEq AttrV := fun a b => decidable_of_iff (sameAt a b = true) sameAt_iff
def sameAs (as bs : List AttrV) : Bool := decide (as = bs)
/-- Two events are the same. -/
def sameEv (a b : EvM) : Bool := (((decide (a.src.v = b.src.v) && (decide (a.seq.v = b.seq.v) && true)) && decide (a.time.v = b.time.v)) && decide (a.typ.v = b.typ.v)) && sameAs a.attrs b.attrs
theorem sameEv_iff {a b : EvM} : sameEv a b = true ↔ a = b := by
  constructor
  · intro h
    simp only [sameEv, sameAs, Bool.and_true, Bool.and_eq_true, decide_eq_true_eq] at h
    obtain ⟨⟨⟨⟨h1, h2⟩, h3⟩, h4⟩, h5⟩ := h
    cases a; cases b
    simp only [EvM.mk.injEq]
    exact ⟨I64.eq h1, I64.eq h2, I64.eq h3, Str.eq h4, h5⟩
  · rintro rfl
    simp [sameEv, sameAs]
/-- How two numbers stand. -/
def cmpI (a b : Int) : Int := if a < b then -1 else if b < a then 1 else 0
def cmpID (s1 q1 s2 q2 : Int) : Int := if ¬ cmpI s1 s2 = 0 then cmpI s1 s2 else cmpI q1 q2
end Sl
