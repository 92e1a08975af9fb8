/- Appending so many zeros to a row that is not empty. No condition. -/
import Derived.Test.YtfflafpcpbeciaaSlG
namespace Sl
open _root_.Go _root_.Go.RowKit
set_option linter.all false
section
variable {P : Program} (w : World)
end
section
variable {W w : World} {l : List Atom} {i : Nat} {e : TypeId} {size : Nat} {v : Value} {n : Nat} {xs : List Value}
end
section
variable {C : Ctx} {ρ : Env} {w W : World} {l : List Atom} {i : Nat} {ops : Array Oper} {K' : Env → World → Prop} {d ty : Nat} {pos : String} {af : Array Edge} {x y : Operand} {e : TypeId} {size : Nat}
end
section
variable {C : Ctx} {ρ : Env} {W w : World} {ops : Array Oper} {K' : Env → World → Prop} {d ty : Nat} {pos : String} {af : Array Edge} {x : Operand} {K : IntKind} {a : Int}
theorem x_neg {t : TypeId} (c : Int) (hx : opv C.n ρ x = .int K a) (hc : K.wrap (-a) = c) (w : World) : (execOp (opv C.n ρ) ⟨some d, .unOp .neg t x, ty, pos, af, none⟩).run C.P w = .ok (.value (.int K c)) w := by
  subst hc
  simp [execOp, hx, Op.unary, Op.intArith]
theorem s_neg {t : TypeId} (c : Int) (hx : opv C.n ρ x = .int K a) (hc : K.wrap (-a) = c) (hn : Nat.blt d C.n = true) (h : K' (upd ρ d (.int K c)) w) : GOp C ops ⟨some d, .unOp .neg t x, ty, pos, af, none⟩ K' ρ w :=
  r_val rfl rfl hn (x_neg c hx hc w) h
end
end Sl
