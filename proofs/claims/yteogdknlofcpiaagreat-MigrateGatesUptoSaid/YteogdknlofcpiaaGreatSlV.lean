import Derived.Test.YteogdknlofcpiaaGreatSlG
namespace Sl
open _root_.Go _root_.Go.RowKit
set_option linter.all false
def firstNZ (f : Nat → Int) : Nat → Int
 | 0 => 0
 | n + 1 => if firstNZ f n = 0 then f n else firstNZ f n
theorem firstNZ_zero {f : Nat → Int} : ∀ {n}, (∀ j, j < n → f j = 0) → firstNZ f n = 0
 | 0, _ => rfl
 | n + 1, h => by
  unfold firstNZ
  rw [if_pos (firstNZ_zero fun j hj => h j (by omega))]
  exact h n (by omega)
theorem firstNZ_at {f : Nat → Int} {i : Nat} {e : Int} (hz : ∀ j, j < i → f j = 0) (hi : f i = e) (he : e ≠ 0) : ∀ {n}, i < n → firstNZ f n = e
 | 0, h => by omega
 | n + 1, h => by
  unfold firstNZ
  by_cases hn : i = n
  ·subst hn
   rw [if_pos (firstNZ_zero hz), hi]
  ·have := firstNZ_at hz hi he (n := n) (by omega)
   rw [if_neg (by rw [this]; exact he), this]
def timeB (n : Int) : Bool := decide (0 ≤ n ∧ n ≤ 1099511627776)
def letterB (c : Int) : Bool := decide (c = 95 ∨ (97 ≤ c ∧ c ≤ 122) ∨ (65 ≤ c ∧ c ≤ 90))
def charB (i : Nat) (c : Int) : Bool := letterB c || decide (i ≠ 0 ∧ 48 ≤ c ∧ c ≤ 57)
def nameB (s : ByteArray) : Bool := decide ((∀ i, i < s.size → charB i (bAt s i) = true) ∧ s ≠ ByteArray.empty ∧ s.size ≤ 32)
theorem nameB_no (s : ByteArray) (i : Nat) (h : i < s.size) (hc : charB i (bAt s i) = false) : nameB s = false := by
 unfold nameB
 refine decide_eq_false fun ⟨h1, _⟩ => ?_
 rw [h1 i h] at hc
 cases hc
theorem nameB_is (s : ByteArray) (h : ∀ i, i < s.size → charB i (bAt s i) = true) : nameB s = decide (s ≠ ByteArray.empty ∧ s.size ≤ 32) := by
 unfold nameB
 by_cases h2 : s ≠ ByteArray.empty ∧ s.size ≤ 32
 ·rw [decide_eq_true h2, decide_eq_true ⟨h, h2⟩]
 ·rw [decide_eq_false h2, decide_eq_false fun h3 => h2 h3.2]
theorem nameB_empty {s : ByteArray} (h : s = ByteArray.empty) : nameB s = false := decide_eq_false fun ⟨_, h2, _⟩ => h2 h
theorem nameB_long {s : ByteArray} (h : ¬ s.size ≤ 32) : nameB s = false := decide_eq_false fun ⟨_, _, h3⟩ => h h3
theorem nameB_yes {s : ByteArray} (h : ∀ i, i < s.size → charB i (bAt s i) = true) (h2 : ¬ s = ByteArray.empty) (h3 : s.size ≤ 32) : nameB s = true := decide_eq_true ⟨h, h2, h3⟩
structure Str where
 v : ByteArray
 ok : v.size ≤ 140737488355328
structure I64 where
 v : Int
 lo : -9223372036854775808 ≤ v
 hi : v ≤ 9223372036854775807
theorem Str.eq {a b : Str} (h : a.v = b.v) : a = b := by cases a; cases b; cases h; rfl
theorem I64.eq {a b : I64} (h : a.v = b.v) : a = b := by cases a; cases b; cases h; rfl
def Str.none : Str := ⟨ByteArray.empty, by decide⟩
def I64.of (n : Nat) (h : n ≤ 9223372036854775807) : I64 := ⟨n, by omega, by omega⟩
instance : Inhabited Str := ⟨Str.none⟩
instance : Inhabited I64 := ⟨⟨0, by omega, by omega⟩⟩
structure AttrV where
 name : Str
 kind : I64
 n : I64
 s : Str
instance : Inhabited AttrV := ⟨⟨default, default, default, default⟩⟩
def attrCell (a : AttrV) : List Value := [.string a.name.v, .int .i64 a.kind.v, .int .i64 a.n.v, .string a.s.v]
theorem attrCell_len (a : AttrV) : (attrCell a).length = 4 := rfl
def valE (k n : Int) (s : ByteArray) : Int := if (k = 1 ∧ s = ByteArray.empty) ∨ (k = 2 ∧ n = 0 ∧ s.size ≤ 64) then 0 else 30
theorem valE_0 {k n : Int} {s : ByteArray} (h : (k = 1 ∧ s = ByteArray.empty) ∨ (k = 2 ∧ n = 0 ∧ s.size ≤ 64)) : valE k n s = 0 := if_pos h
theorem valE_30 {k n : Int} {s : ByteArray} (h : ¬ ((k = 1 ∧ s = ByteArray.empty) ∨ (k = 2 ∧ n = 0 ∧ s.size ≤ 64))) : valE k n s = 30 := if_neg h
def attrE (as : List AttrV) (i : Nat) : Int :=
 let a := as.getD i default
 if nameB a.name.v = false then 31
 else if valE a.kind.v a.n.v a.s.v ≠ 0 then valE a.kind.v a.n.v a.s.v
 else if 0 < i ∧ (sLt a.name.v (as.getD (i - 1) default).name.v || decide (a.name.v = (as.getD (i - 1) default).name.v)) = true then 32
 else 0
theorem attrE_31 {as : List AttrV} {i : Nat} (h : nameB (as.getD i default).name.v = false) : attrE as i = 31 := if_pos h
theorem attrE_val {as : List AttrV} {i : Nat} (h : nameB (as.getD i default).name.v = true) (h2 : ¬ valE (as.getD i default).kind.v (as.getD i default).n.v (as.getD i default).s.v = 0) : attrE as i = valE (as.getD i default).kind.v (as.getD i default).n.v (as.getD i default).s.v := by
 unfold attrE
 rw [if_neg (by rw [h]; simp), if_pos h2]
theorem attrE_32 {as : List AttrV} {i : Nat} (h : nameB (as.getD i default).name.v = true) (h2 : valE (as.getD i default).kind.v (as.getD i default).n.v (as.getD i default).s.v = 0) (h3 : 0 < i)
  (h4 : (sLt (as.getD i default).name.v (as.getD (i - 1) default).name.v || decide ((as.getD i default).name.v = (as.getD (i - 1) default).name.v)) = true) : attrE as i = 32 := by
 unfold attrE
 rw [if_neg (by rw [h]; simp), if_neg (by rw [h2]; simp), if_pos ⟨h3, h4⟩]
theorem attrE_0 {as : List AttrV} {i : Nat} (h : nameB (as.getD i default).name.v = true) (h2 : valE (as.getD i default).kind.v (as.getD i default).n.v (as.getD i default).s.v = 0)
  (h4 : 0 < i → (sLt (as.getD i default).name.v (as.getD (i - 1) default).name.v || decide ((as.getD i default).name.v = (as.getD (i - 1) default).name.v)) = false) : attrE as i = 0 := by
 unfold attrE
 rw [if_neg (by rw [h]; simp), if_neg (by rw [h2]; simp), if_neg (by rintro ⟨h5, h6⟩; rw [h4 h5] at h6; cases h6)]
theorem nottrue {b : Bool} (h : (!b) = true) : b = false := by simpa using h
theorem notfalse {b : Bool} (h : (!b) = false) : b = true := by simpa using h
def attrsE (as : List AttrV) : Int := if 8 < as.length then 3 else firstNZ (attrE as) as.length
structure EvM where
 src : I64
 seq : I64
 time : I64
 typ : Str
 attrs : List AttrV
def evE (e : EvM) : Int :=
 if e.src.v < 0 ∨ 16 ≤ e.src.v ∨ timeB e.seq.v = false ∨ timeB e.time.v = false ∨ nameB e.typ.v = false then 40 else attrsE e.attrs
theorem evE_range {e : EvM} (h : evE e = 0) : 0 ≤ e.src.v ∧ e.src.v < 16 ∧ timeB e.seq.v = true ∧ timeB e.time.v = true ∧ nameB e.typ.v = true ∧ attrsE e.attrs = 0 := by
 unfold evE at h
 split at h
 ·cases h
 ·rename_i hn
  refine ⟨by omega, by omega, ?_, ?_, ?_, h⟩
  ·cases ht : timeB e.seq.v <;> simp_all
  ·cases ht : timeB e.time.v <;> simp_all
  ·cases ht : nameB e.typ.v <;> simp_all
theorem timeB_range {n : Int} (h : timeB n = true) : 0 ≤ n ∧ n ≤ 1099511627776 := of_decide_eq_true h
def evCell (e : EvM) (av : Value) : List Value := [.int .i64 e.src.v, .int .i64 e.seq.v, .int .i64 e.time.v, .string e.typ.v, av]
def Attrs (av : Value) (as : List AttrV) : Atom := Im 4 av as.length (as.flatMap attrCell)
theorem Attrs_pers (av : Value) (as : List AttrV) : (Attrs av as).pers := Im_pers _ _ _ _
def sameAt (a b : AttrV) : Bool := (decide (a.name.v = b.name.v) && ((decide (a.kind.v = b.kind.v) && (decide (a.n.v = b.n.v) && (decide (a.s.v = b.s.v) && true))) && true))
theorem sameAt_iff {a b : AttrV} : sameAt a b = true ↔ a = b := by
 constructor
 ·intro h
  simp only [sameAt, Bool.and_true, Bool.and_eq_true, decide_eq_true_eq] at h
  obtain ⟨h1, h2, h3, h4⟩ := h
  cases a; cases b
  simp only [AttrV.mk.injEq]
  exact ⟨Str.eq h1, I64.eq h2, I64.eq h3, Str.eq h4⟩
 ·rintro rfl
  simp [sameAt]
instance : DecidableEq AttrV := fun a b => decidable_of_iff (sameAt a b = true) sameAt_iff
def sameAs (as bs : List AttrV) : Bool := decide (as = bs)
theorem sameAs_len {as bs : List AttrV} (h : ¬ (as.length : Int) = bs.length) : sameAs as bs = false := decide_eq_false fun e => h (by rw [e])
theorem sameAs_at {as bs : List AttrV} (i : Nat) (h : sameAt (as.getD i default) (bs.getD i default) = false) : sameAs as bs = false := decide_eq_false fun e => by
 rw [e, sameAt_iff.2 rfl] at h; cases h
theorem sameAs_all {as bs : List AttrV} (hl : (as.length : Int) = bs.length) (h : ∀ j, j < as.length → sameAt (as.getD j default) (bs.getD j default) = true) : sameAs as bs = true := decide_eq_true <| by
 refine List.ext_getElem (by omega) fun j h1 h2 => ?_
 have := sameAt_iff.1 (h j h1)
 simpa [List.getD_eq_getElem?_getD, List.getElem?_eq_getElem h1, List.getElem?_eq_getElem h2] using this
def sameEv (a b : EvM) : Bool := (((decide (a.src.v = b.src.v) && (decide (a.seq.v = b.seq.v) && true)) && decide (a.time.v = b.time.v)) && decide (a.typ.v = b.typ.v)) && sameAs a.attrs b.attrs
theorem sameEv_iff {a b : EvM} : sameEv a b = true ↔ a = b := by
 constructor
 ·intro h
  simp only [sameEv, sameAs, Bool.and_true, Bool.and_eq_true, decide_eq_true_eq] at h
  obtain ⟨⟨⟨⟨h1, h2⟩, h3⟩, h4⟩, h5⟩ := h
  cases a; cases b
  simp only [EvM.mk.injEq]
  exact ⟨I64.eq h1, I64.eq h2, I64.eq h3, Str.eq h4, h5⟩
 ·rintro rfl
  simp [sameEv, sameAs]
end Sl
