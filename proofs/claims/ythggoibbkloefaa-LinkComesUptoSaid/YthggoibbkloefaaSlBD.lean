/- How values and conditions stand, as plain data; a call by an entry of the library that has no body. No condition. -/
import Derived.Test.YthggoibbkloefaaSlBC
import Derived.Laws.Externs
import Derived.Lib.Bytealg
namespace Sl
open _root_.Go _root_.Go.RowKit
set_option linter.all false
set_option linter.unusedSimpArgs false
/-! ### calls -/
def extFn (P : Program) (f : FuncId) (e : Array Value → Sem Value) : Prop := ∃ fn, P.funcs[f]? = some fn ∧ (fn.name == "runtime.NumGoroutine") = false ∧ fn.body.isNone = true ∧ Extern.findNext fn = none ∧ Extern.find fn = some e
section
variable {C : Ctx} {ρ : Env} {w : World} {ops : Array Oper} {K' : Env → World → Prop} {d ty : Nat} {pos : String} {af : Array Edge}
end
/-! ### texts -/
/-- How two texts stand. -/
def cmpSt (a b : ByteArray) : Int := if sLt a b = true then -1 else if a = b then 0 else 1
/-! ### values -/
def vOk (a b : ValV) : Bool := decide (a.kind.v = b.kind.v ∧ (a.kind.v = 1 ∨ a.kind.v = 2))
def vCmp (a b : ValV) : Int := if vOk a b = true then (if a.kind.v = 1 then cmpI a.n.v b.n.v else cmpSt a.s.v b.s.v) else 0
def someB (a : ValV) : Bool := decide (a.kind.v = 1 ∨ a.kind.v = 2)
section
variable {a b : ValV} {rel : Int}
def holdsB (rel : Int) (a b : ValV) : Bool :=
  if vOk a b = true then (if rel = 1 then decide (vCmp a b = 0) else if rel = 2 then !decide (vCmp a b = 0) else if rel = 3 then decide (vCmp a b < 0) else if rel = 4 then decide (vCmp a b ≤ 0) else if rel = 5 then decide (0 < vCmp a b) else if rel = 6 then decide (0 ≤ vCmp a b) else false)
  else decide (rel = 2) && someB a && someB b
end
/-! ### the first of a list at which something holds -/
def idxB {α : Type} (p : α → Bool) (L : List α) : Int := if L.findIdx p < L.length then (L.findIdx p : Int) else -1
section
variable {α : Type} [Inhabited α] {p : α → Bool} {L : List α} {i : Nat}
end
/-! ### attributes, operands, conditions -/
def attrVal (a : AttrV) : ValV := ⟨a.kind, a.n, a.s⟩
def hasV (ats : List AttrV) (s : ByteArray) : Bool := ats.any fun x => decide (x.name.v = s)
def getV (ats : List AttrV) (s : ByteArray) : ValV := if 0 ≤ idxB (fun x : AttrV => decide (x.name.v = s)) ats then attrVal (ats.getD (idxB (fun x : AttrV => decide (x.name.v = s)) ats).toNat default) else default
/-- An operand's value of an event. -/
def ofV (o : OpdV) (ats : List AttrV) : ValV := if o.attr.v = ByteArray.empty then o.val else getV ats o.attr.v
def testB (c : CondV) (ats : List AttrV) : Bool := holdsB c.rel.v (ofV c.left ats) (ofV c.right ats)
def termB (kind : Int) (typ : ByteArray) (tests : List CondV) (e : EvM) : Bool := decide (kind = 1) && decide (typ = e.typ.v) && !(tests.any fun c => !testB c e.attrs)
end Sl
