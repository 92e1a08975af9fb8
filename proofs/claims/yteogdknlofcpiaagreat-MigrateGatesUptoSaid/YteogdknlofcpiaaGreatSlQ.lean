import Derived.Test.YteogdknlofcpiaaGreatSlX
import Derived.Laws.StructEq
namespace Sl
open _root_.Go _root_.Go.RowKit
set_option linter.all false
def EqV (P : Program) (d : Nat) (t : TypeId) (x y : Value) (c : Bool) : Prop := ∀ w : World, (Op.equalIn d t x y).run P w = .ok c w
def EqF (P : Program) (d : Nat) (xs ys : Array Value) (fs : List Field) (c : Bool) : Prop := ∀ w : World, (Op.eqFields d xs ys fs).run P w = .ok c w
section
variable {P : Program} {d : Nat} {t : TypeId}
theorem EqV.int {k k' : IntKind} {a b : Int} (h : P.underlying t = some (.int k')) : EqV P (d + 1) t (.int k a) (.int k b) (decide (a = b)) := fun w => by
 rw [run_equalIn_int w d t k k' a b h]
 have : (a == b) = decide (a = b) := by rw [Bool.eq_iff_iff]; simp
 rw [this]
theorem EqV.str {a b : ByteArray} (h : P.underlying t = some .string) : EqV P (d + 1) t (.string a) (.string b) (decide (a = b)) := fun w => by
 rw [run_equalIn_string w d t a b h]
 have : (a.toList == b.toList) = decide (a = b) := ba_beq a b
 rw [this]
theorem EqV.bool {a b : Bool} (h : P.underlying t = some .bool) : EqV P (d + 1) t (.bool a) (.bool b) (decide (a = b)) := fun w => by
 rw [run_equalIn_bool' w d t a b h]
 have : (a == b) = decide (a = b) := by cases a <;> cases b <;> rfl
 rw [this]
theorem EqF.nil {xs ys : Array Value} : EqF P d xs ys [] true := fun w => by simp [Op.eqFields]
theorem EqF.cons {xs ys : Array Value} {f : Field} {fs : List Field} {a b : Value} {r s : Bool} (hn : (f.name == "_") = false) (ha : ∀ w : World, (part f.type xs f.offset).run P w = .ok a w) (hb : ∀ w : World, (part f.type ys f.offset).run P w = .ok b w)
  (he : EqV P d f.type a b r) (hr : EqF P d xs ys fs s) : EqF P d xs ys (f :: fs) (r && s) := fun w => by
 have hn' : f.name ≠ "_" := by simpa using hn
 unfold Op.eqFields
 rw [if_pos hn']
 simp only [Sem.run_bind, ha w, hb w, he w, Result.andThen_ok]
 cases r
 ·rfl
 ·simpa using hr w
theorem EqV.struct {fs : Array Field} {l : List Field} {xs ys : Array Value} {c : Bool} (ht : P.underlying t = some (.struct fs)) (hl : fs.toList = l) (hp : P.stoodInHeld t = false) (h : EqF P d xs ys l c) : EqV P (d + 1) t (.agg xs) (.agg ys) c := fun w => by
 have e : P.fieldsOf t = fs := by simp [Program.fieldsOf, ht]
 rw [run_equalIn_struct w d t xs ys (by rw [e]; exact ht) hp, e, hl]
 exact h w
end
section
variable {C : Ctx} {ρ : Env} {w : World} {ops : Array Oper} {K' : Env → World → Prop} {x y : Operand} {xt yt : Nat} {ty : Nat} {pos : String} {af : Array Edge} {d : Nat}
theorem guard_eql {P : Program} {t : TypeId} {x y : Operand} {u v : Array Value} (hg : P.eqGuardType P.depth t = false) (w : World) : (eqGuard .eql t x y (.agg u) (.agg v)).run P w = .ok () w := by
 simp [eqGuard, Sem.run_bind, run_program, hg]
theorem guard_neq {P : Program} {t : TypeId} {x y : Operand} {u v : Array Value} (hg : P.eqGuardType P.depth t = false) (w : World) : (eqGuard .neq t x y (.agg u) (.agg v)).run P w = .ok () w := by
 simp [eqGuard, Sem.run_bind, run_program, hg]
theorem x_aeql (c : Bool) {u v : Array Value} {c' : Bool} (hg : C.P.eqGuardType C.P.depth xt = false) (he : EqV C.P Op.maxDepth xt (.agg u) (.agg v) c') (hx : opv C.n ρ x = .agg u) (hy : opv C.n ρ y = .agg v) (hc : c' = c) (w : World) :
  (execOp (opv C.n ρ) ⟨some d, .binOp .eql xt x y yt, ty, pos, af, none⟩).run C.P w = .ok (.value (.bool c)) w := by
 subst hc
 refine x_bin _ hx hy (guard_eql hg w) ?_
 simp only [binOp, Op.equal]
 simp [he w]
theorem x_aneq (c : Bool) {u v : Array Value} {c' : Bool} (hg : C.P.eqGuardType C.P.depth xt = false) (he : EqV C.P Op.maxDepth xt (.agg u) (.agg v) c') (hx : opv C.n ρ x = .agg u) (hy : opv C.n ρ y = .agg v) (hc : (!c') = c) (w : World) :
  (execOp (opv C.n ρ) ⟨some d, .binOp .neq xt x y yt, ty, pos, af, none⟩).run C.P w = .ok (.value (.bool c)) w := by
 subst hc
 refine x_bin _ hx hy (guard_neq hg w) ?_
 simp only [binOp, Op.equal]
 simp [he w]
theorem s_aeql (c : Bool) {u v : Array Value} {c' : Bool} (hg : C.P.eqGuardType C.P.depth xt = false) (he : EqV C.P Op.maxDepth xt (.agg u) (.agg v) c') (hx : opv C.n ρ x = .agg u) (hy : opv C.n ρ y = .agg v) (hc : c' = c) (hn : Nat.blt d C.n = true) (h : K' (upd ρ d (.bool c)) w) :
  GOp C ops ⟨some d, .binOp .eql xt x y yt, ty, pos, af, none⟩ K' ρ w := r_val rfl rfl hn (x_aeql c hg he hx hy hc w) h
end
end Sl
