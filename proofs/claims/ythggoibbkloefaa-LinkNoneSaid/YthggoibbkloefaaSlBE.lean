/- clear; texts in order; a condition's variables. No condition. -/
import Derived.Test.YthggoibbkloefaaSlBC
import Derived.Laws.Externs
import Derived.Lib.Bytealg
namespace Sl
open _root_.Go _root_.Go.RowKit
set_option linter.all false
set_option linter.unusedSimpArgs false
section
variable {C : Ctx} {ρ : Env} {w : World} {ops : Array Oper} {K' : Env → World → Prop} {d ty : Nat} {pos : String} {af : Array Edge}
theorem r_val0 {o : Oper} {v : Value} {w' : World} {K : Env → World → Prop} (hg : o.guard = none) (hd : o.dst = none) (hr : (execOp (opv C.n ρ) o).run C.P w = .ok (.value v) w') (h : K ρ w') : GOp C ops o K ρ w := by
 unfold GOp
 rw [if_pos (by simp [Region.wanted, hg])]
 unfold wp1
 rw [eval_act, hr]
 simp only [upon1]
 rw [hd]
 exact ⟨_, rfl, h⟩
variable {W : World} {l : List Atom} {B off : Nat} {cs cs' : Array Value} {e : TypeId} {x : Operand}
end
section
variable {c : CondV}
end
/-! ## looking through a list -/
section
variable {α : Type} [Inhabited α] {p : α → Bool} {L : List α}
end
end Sl
