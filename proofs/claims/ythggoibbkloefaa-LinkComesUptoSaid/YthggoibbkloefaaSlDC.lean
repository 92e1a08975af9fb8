/- Sorts of whole numbers; entries of maps that are set in two steps; maps that are cloned. No condition. -/
import Derived.Test.YthggoibbkloefaaSlCC
import Derived.Shelf.SlMaps.Clone
namespace Sl
open _root_.Go _root_.Go.RowKit _root_.Go.Proofs
set_option linter.all false
set_option linter.unusedSimpArgs false
def i64c (n : I64) : List Value := [.int .i64 n.v]
def leI (a b : I64) : Bool := decide (a.v ≤ b.v)
def sortI (L : List I64) : List I64 := L.mergeSort leI
/-! ## an entry that is set in two steps -/
/-- A map of which the entry at place j has the stamp s. -/
def MapS (r : Nat) (M : List (Value × Value)) (s j : Nat) : Atom :=
  ⟨fun _ h => ∃ (es : Array MapEntry) (clk : Nat), h = Heap.one r (.map es clk) ∧ entsOf es.toList = M ∧ (es.toList.map (fun e : MapEntry => e.born)).Nodup ∧ (∀ x ∈ es.toList, x.born < clk) ∧ (es.toList.map (fun e : MapEntry => e.born))[j]? = some s, fun _ _ _ _ h => h⟩
section
variable {P : Program} {κ ν : Type} [DecidableEq κ] {ek : κ → Value} {ev : ν → Value} {W w : World} {r t kt et i : Nat} {L : List (κ × ν)} {l : List Atom}
end
section
variable {C : Ctx} {ρ : Env} {ops : Array Oper} {d : Nat} {K' : Env → World → Prop} {κ ν : Type} [DecidableEq κ] {ek : κ → Value} {ev : ν → Value} {W w : World} {r t kt et i ty : Nat} {pos : String} {af : Array Edge} {L : List (κ × ν)} {l : List Atom} {x y y2 : Operand}
end
end Sl
