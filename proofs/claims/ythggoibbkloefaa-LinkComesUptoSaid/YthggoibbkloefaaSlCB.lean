/- Sets (maps to bool), maps with plain keys; going through them with plain entries. No condition. -/
import Derived.Test.YthggoibbkloefaaSlCA
import Derived.Test.YthggoibbkloefaaSlBF
namespace Sl
open _root_.Go _root_.Go.RowKit
set_option linter.all false
set_option linter.unusedSimpArgs false
theorem Str.eq_of {a b : Str} (h : a.v = b.v) : a = b := by cases a; cases b; cases h; rfl
theorem I64.eq_of {a b : I64} (h : a.v = b.v) : a = b := by cases a; cases b; cases h; rfl
instance : DecidableEq Str := fun a b => if h : a.v = b.v then isTrue (Str.eq_of h) else isFalse (fun e => h (e ▸ rfl))
instance : DecidableEq I64 := fun a b => if h : a.v = b.v then isTrue (I64.eq_of h) else isFalse (fun e => h (e ▸ rfl))
theorem i64_dec (a b : I64) : decide (a = b) = decide (a.v = b.v) := decide_eq_decide.2 ⟨fun e => e ▸ rfl, I64.eq_of⟩
def kS (s : Str) : Value := .string s.v
def kI (K : IntKind) (n : I64) : Value := .int K n.v
def vB (b : Bool) : Value := .bool b
def vI (n : Int) : Value := .int .i64 n
theorem KeyLaw.I {P : Program} {kt : TypeId} {K : IntKind} (hd : P.underlying kt = some (.int K)) : KeyLaw P kt (kI K) :=
  KeyLaw.now hd (fun k => by simp [MapKept.IsKey, kI]) (fun a b => by
    unfold kI; simp only [Instr.sameNow, if_true]; rw [i64_dec, Bool.eq_iff_iff.2 (by simp : (a.v == b.v) = true ↔ decide (a.v = b.v) = true)]) (fun k => sameBits_int _ _ _)
def delS {κ : Type} [DecidableEq κ] (L : List κ) (k : κ) : List κ := L.eraseIdx (L.findIdx fun x => decide (x = k))
section
variable {κ : Type} [DecidableEq κ]
/-- A set's entries. -/
def setOf (L : List κ) : List (κ × Bool) := L.map fun x => (x, true)
def addS (L : List κ) (k : κ) : List κ := if k ∈ L then L else L ++ [k]
end
section
variable {C : Ctx} {ρ : Env} {w W : World} {l : List Atom} {ops : Array Oper} {K' : Env → World → Prop} {d ty : Nat} {pos : String} {af : Array Edge} {x y : Operand}
variable {κ ν : Type} [DecidableEq κ] {ek : κ → Value} {ev : ν → Value} {i r t kt et : Nat}
end
end Sl
