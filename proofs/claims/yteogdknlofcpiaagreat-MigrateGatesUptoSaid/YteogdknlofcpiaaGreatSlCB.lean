import Derived.Test.YteogdknlofcpiaaGreatSlCA
import Derived.Test.YteogdknlofcpiaaGreatSlBF
namespace Sl
open _root_.Go _root_.Go.RowKit
set_option linter.all false
set_option linter.unusedSimpArgs false
theorem Str.eq_of {a b : Str} (h : a.v = b.v) : a = b := by cases a; cases b; cases h; rfl
theorem I64.eq_of {a b : I64} (h : a.v = b.v) : a = b := by cases a; cases b; cases h; rfl
instance : DecidableEq Str := fun a b => if h : a.v = b.v then isTrue (Str.eq_of h) else isFalse (fun e => h (e ▸ rfl))
instance : DecidableEq I64 := fun a b => if h : a.v = b.v then isTrue (I64.eq_of h) else isFalse (fun e => h (e ▸ rfl))
theorem i64_dec (a b : I64) : decide (a = b) = decide (a.v = b.v) := decide_eq_decide.2 ⟨fun e => e ▸ rfl, I64.eq_of⟩
def kI (K : IntKind) (n : I64) : Value := .int K n.v
def vB (b : Bool) : Value := .bool b
theorem KeyLaw.I {P : Program} {kt : TypeId} {K : IntKind} (hd : P.underlying kt = some (.int K)) : KeyLaw P kt (kI K) :=
 KeyLaw.now hd (fun k => by simp [MapKept.IsKey, kI]) (fun a b => by
  unfold kI; simp only [Instr.sameNow, if_true]; rw [i64_dec, Bool.eq_iff_iff.2 (by simp : (a.v == b.v) = true ↔ decide (a.v = b.v) = true)]) (fun k => sameBits_int _ _ _)
section
variable {κ : Type} [DecidableEq κ]
def setOf (L : List κ) : List (κ × Bool) := L.map fun x => (x, true)
def addS (L : List κ) (k : κ) : List κ := if k ∈ L then L else L ++ [k]
theorem setOf_kidx (L : List κ) (k : κ) : kidx (setOf L) k = L.findIdx fun x => decide (x = k) := by unfold kidx setOf; rw [List.findIdx_map]; rfl
theorem findIdx_mem (L : List κ) (k : κ) : (L.findIdx fun x => decide (x = k)) < L.length ↔ k ∈ L := by
 rw [List.findIdx_lt_length]; simp
theorem setOf_get (L : List κ) (k : κ) : aget (setOf L) k = if k ∈ L then some true else none := by
 unfold aget; rw [setOf_kidx]
 unfold setOf
 rw [List.getElem?_map]
 by_cases h : k ∈ L
 ·rw [if_pos h, List.getElem?_eq_getElem ((findIdx_mem L k).2 h)]; rfl
 ·rw [if_neg h, List.getElem?_eq_none (Nat.le_of_not_lt (fun q => h ((findIdx_mem L k).1 q)))]; rfl
theorem setOf_look (L : List κ) (k : κ) : lookV vB (.bool false) (setOf L) k = .bool (decide (k ∈ L)) := by
 unfold lookV; rw [setOf_get]
 by_cases h : k ∈ L
 ·rw [if_pos h, decide_eq_true h]; rfl
 ·rw [if_neg h, decide_eq_false h]
theorem setOf_set (L : List κ) (k : κ) : aset (setOf L) k true = setOf (addS L k) := by
 unfold aset addS; rw [setOf_kidx]
 have e : (setOf L).length = L.length := List.length_map ..
 rw [e]
 by_cases h : k ∈ L
 ·rw [if_pos ((findIdx_mem L k).2 h), if_pos h]
  refine List.ext_getElem? fun q => ?_
  rw [List.getElem?_set]
  split
  ·rename_i hq
   subst hq
   have hlt := (findIdx_mem L k).2 h
   have hk : L[L.findIdx fun x => decide (x = k)] = k := by
    have := List.findIdx_getElem (w := hlt)
    exact of_decide_eq_true this
   unfold setOf
   rw [List.getElem?_map, List.getElem?_eq_getElem hlt, List.length_map, if_pos hlt, hk]; rfl
  ·rfl
 ·rw [if_neg (fun q => h ((findIdx_mem L k).1 q)), if_neg h]
  unfold setOf; rw [List.map_append]; rfl
end
section
variable {C : Ctx} {ρ : Env} {w W : World} {l : List Atom} {ops : Array Oper} {K' : Env → World → Prop} {d ty : Nat} {pos : String} {af : Array Edge} {x y : Operand}
variable {κ ν : Type} [DecidableEq κ] {ek : κ → Value} {ev : ν → Value} {i r t kt et : Nat}
end
end Sl
