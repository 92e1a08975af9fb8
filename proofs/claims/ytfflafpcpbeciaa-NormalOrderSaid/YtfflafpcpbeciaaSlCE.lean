/- Trees: variables put to rising lists, counted in maps; plain laws. No condition. -/
import Derived.Test.YtfflafpcpbeciaaSlCD
namespace Sl
open _root_.Go _root_.Go.RowKit _root_.Go.Proofs
set_option linter.all false
set_option linter.unusedSimpArgs false
/-! ## put -/
def posS (L : List Str) (s : Str) : Nat := L.findIdx fun x => !sLt x.v s.v
def putS (L : List Str) (s : Str) : List Str := if s ∈ L then L else L.take (posS L s) ++ [s] ++ L.drop (posS L s)
def varA (n : NodeD) : List Str := if n.var.v = ByteArray.empty then [] else addS [] n.var
def varF (l : List NodeD) (A : List Str) : List Str := l.foldl (fun A k => (varsS k).foldl addS A) A
theorem sizeL_take (l : List NodeD) : ∀ j : Nat, sizeL (l.take j) ≤ sizeL l := by
  induction l with
  | nil => intro j; simp
  | cons k l ih =>
    intro j
    cases j with
    | zero => simp [sizeL]
    | succ j => have := ih j; simp only [List.take_succ_cons, sizeL]; omega
theorem sizeN_pos (n : NodeD) : 1 ≤ sizeN n := by rw [sizeN_eq]; omega
theorem sizeL_len (l : List NodeD) : l.length ≤ sizeL l := by
  induction l with
  | nil => simp
  | cons k l ih => have := sizeN_pos k; simp only [sizeL, List.length_cons]; omega
theorem kids_len (n : NodeD) : n.kids.length ≤ sizeN n := by have := sizeL_len n.kids; rw [sizeN_eq]; omega
/-! ## those that are surely bound -/
def sureC (n : NodeD) (v : Str) : Bool := decide (¬ n.kind.v = 4) || n.kids.all fun k => decide (v ∈ sureN k)
def sureF (l : List NodeD) (A : List Str) : List Str := l.foldl (fun A k => (sureN k).foldl addS A) A
/-- Those that are put, of a list. -/
def filF (c : Str → Bool) (V A : List Str) : List Str := V.foldl (fun A v => if c v = true then addS A v else A) A
/-- The document's way: each kid's, that are put. -/
def surF (c : Str → Bool) (l : List NodeD) (A : List Str) : List Str := l.foldl (fun A k => filF c (sureN k) A) A
/-! ## counting in a map -/
section
variable {κ : Type} [DecidableEq κ]
def agetI (M : List (κ × Int)) (k : κ) : Int := (aget M k).getD 0
end
def cnt1 (M : List (Str × Int)) (v : Str) : List (Str × Int) := aset M v (wI (agetI M v + 1))
def cntN (l : List NodeD) : List (Str × Int) := l.foldl (fun M k => (sureN k).foldl cnt1 M) []
/-- What the map's entries that are asked for come to, in whatever order they come. -/
def pickF (n : NodeD) (pre : List (Str × Int)) : List Str := pre.foldl (fun A e => if (¬ n.kind.v = 4 ∨ e.2 = (n.kids.length : Int)) then addS A e.1 else A) []
theorem drop_getD {α : Type} [Inhabited α] {l : List α} {j : Nat} (h : j < l.length) : l.drop j = l.getD j default :: l.drop (j + 1) := by
  rw [List.getD_eq_getElem?_getD, List.getElem?_eq_getElem h, List.drop_eq_getElem_cons h]; rfl
section
variable {b : Bool} {l : List NodeD} {j : Nat} {had : List Str} {r : Int}
end
def bB (n : NodeD) : Bool := decide (n.kind.v = 2 ∨ n.kind.v = 3)
def hadF (n : NodeD) (j : Nat) : List Str := if bB n = true then varF (n.kids.take j) [] else []
def Hres (n : NodeD) (j : Nat) : Prop := bindsL (bB n) (n.kids.drop j) (hadF n j) = bindsE n
section
variable {n : NodeD} {j q : Nat}
end
/-! ## the first that is not 0 -/
section
variable {α : Type} [Inhabited α] {f : α → Int} {l : List α} {j : Nat}
theorem firstE_zero (M : List Int) (h : ∀ x ∈ M, x = 0) : firstE M = 0 := by
  induction M with
  | nil => rfl
  | cons a M ih => unfold firstE; rw [if_pos (h a (List.mem_cons_self ..))]; exact ih fun x hx => h x (List.mem_cons_of_mem _ hx)
theorem firstE_app (M N : List Int) (h : ∀ x ∈ M, x = 0) : firstE (M ++ N) = firstE N := by
  induction M with
  | nil => rfl
  | cons a M ih => show (if a = 0 then firstE (M ++ N) else a) = _; rw [if_pos (h a (List.mem_cons_self ..))]; exact ih fun x hx => h x (List.mem_cons_of_mem _ hx)
theorem firstE_at (hz : ∀ q, q < j → f (l.getD q default) = 0) (hj : j < l.length) (h : ¬ f (l.getD j default) = 0) : f (l.getD j default) = firstE (l.map f) := by
  have e : l = l.take j ++ (l.getD j default :: l.drop (j + 1)) := by rw [← drop_getD hj, List.take_append_drop]
  have : firstE (l.map f) = firstE ((l.take j).map f ++ (f (l.getD j default) :: (l.drop (j + 1)).map f)) :=
    (congrArg (fun z => firstE (z.map f)) e).trans (by rw [List.map_append]; rfl)
  rw [this, firstE_app]
  · unfold firstE; rw [if_neg h]
  · intro x hx
    obtain ⟨a, ha, rfl⟩ := List.mem_map.1 hx
    obtain ⟨i, hi, rfl⟩ := List.getElem_of_mem ha
    rw [List.length_take] at hi
    have := hz i (by omega)
    rw [List.getD_eq_getElem?_getD, List.getElem?_eq_getElem (by omega)] at this
    rw [List.getElem_take]; exact this
theorem firstE_end (hz : ∀ q, q < j → f (l.getD q default) = 0) (hj : j = l.length) : 0 = firstE (l.map f) := by
  symm
  refine firstE_zero _ fun x hx => ?_
  obtain ⟨a, ha, rfl⟩ := List.mem_map.1 hx
  obtain ⟨i, hi, rfl⟩ := List.getElem_of_mem ha
  have := hz i (by omega)
  rw [List.getD_eq_getElem?_getD, List.getElem?_eq_getElem hi] at this
  exact this
end
/-! ## patterns -/
structure PatD where
  name : Str
  win : I64
  root : NodeD
  wp : Option Addr
  wc : Nat
  wh : List CondV
instance : Inhabited PatD := ⟨⟨default, default, default, none, 0, []⟩⟩
def patCell (p : PatD) : List Value := [.string p.name.v, .int .i64 p.win.v] ++ nodeCell p.root ++ [.slice p.wp p.wh.length p.wc]
def patE (p : PatD) : Int :=
  if nameB p.name.v = false ∨ p.win.v < 1 ∨ 1099511627776 < p.win.v then 70 else if ¬ shapeE p.root = 0 then shapeE p.root else if ¬ bindsE p.root = 0 then bindsE p.root else condsE p.wh (varsS p.root)
end Sl
