/- The laws of the quiet operations as equations of their runs, for regions that draw their order. No condition. -/
import Derived.Test.YteogdknlofcpiaaSlE
namespace Sl
open _root_.Go _root_.Go.RowKit
set_option linter.all false
set_option linter.unusedSimpArgs false
section
variable {C : Ctx} {ρ : Env} {d ty : Nat} {pos : String} {af : Array Edge} {x y : Operand} {xt yt : Nat} {K : IntKind} {a b : Int} {B off : Nat} {cs : Array Value} {e : TypeId} {fz : Nat × Nat}
theorem x_move (v : Value) {x : Operand} (hx : opv C.n ρ x = v) (w : World) : (execOp (opv C.n ρ) ⟨some d, .move x, ty, pos, af, none⟩).run C.P w = .ok (.value (v)) w := (by simp only [execOp, hx]; rfl)
theorem x_assign (v : Value) {x : Operand} (hx : opv C.n ρ x = v) (w : World) : (execOp (opv C.n ρ) ⟨some d, .assign x, ty, pos, af, none⟩).run C.P w = .ok (.value (v)) w := (by simp only [execOp, hx]; rfl)
theorem x_nilCheck (v : Value) {x : Operand} (hx : opv C.n ρ x = v) (hv : ∃ a, v = .pointer (some a)) (w : World) : (execOp (opv C.n ρ) ⟨some d, .nilCheck x, ty, pos, af, none⟩).run C.P w = .ok (.value (v)) w := by
  obtain ⟨a, rfl⟩ := hv
  exact (by simp only [execOp, hx]; rfl)
theorem x_lss (c : Bool) (hx : opv C.n ρ x = .int K a) (hy : opv C.n ρ y = .int K b) (hc : decide (a < b) = c) (w : World) : (execOp (opv C.n ρ) ⟨some d, .binOp .lss xt x y yt, ty, pos, af, none⟩).run C.P w = .ok (.value ((.bool c))) w := by
  subst hc
  exact (run_int_bin hx hy (by simp [binOp, Op.intCmp]))
theorem x_gtr (c : Bool) (hx : opv C.n ρ x = .int K a) (hy : opv C.n ρ y = .int K b) (hc : decide (b < a) = c) (w : World) : (execOp (opv C.n ρ) ⟨some d, .binOp .gtr xt x y yt, ty, pos, af, none⟩).run C.P w = .ok (.value ((.bool c))) w := by
  subst hc
  exact (run_int_bin hx hy (by simp [binOp, Op.intCmp]))
theorem x_neq (c : Bool) (hx : opv C.n ρ x = .int K a) (hy : opv C.n ρ y = .int K b) (hc : (!decide (a = b)) = c) (w : World) : (execOp (opv C.n ρ) ⟨some d, .binOp .neq xt x y yt, ty, pos, af, none⟩).run C.P w = .ok (.value ((.bool c))) w := by
  subst hc
  exact (run_int_bin hx hy (by simp [binOp, Op.intCmp]; rfl))
theorem x_fieldAddr (s f m off' : Nat) (ft : TypeId) (hx : opv C.n ρ x = .pointer (some ⟨B, off, none⟩)) (hf : fieldOff C.P s f = some (m, ft)) (ho : off + m = off') (w : World) : (execOp (opv C.n ρ) ⟨some d, .fieldAddr s x f, ty, pos, af, none⟩).run C.P w = .ok (.value ((.pointer (some ⟨B, off', none⟩)))) w := by
  subst ho
  skip
  unfold fieldOff at hf
  split at hf
  · rename_i fs hu
    split at hf
    · rename_i fd hfd
      split at hf
      · cases hf
      · rename_i hz
        injection hf with hf
        injection hf with h1 h2
        subst h1
        subst h2
        have hi : ∃ ti, C.P.info? fd.type = some ti ∧ ti.size ≠ 0 := by
          unfold Program.cellsOf at hz
          cases hh : C.P.info? fd.type with
          | none => simp [hh] at hz
          | some ti => exact ⟨ti, rfl, by simpa [hh] using hz⟩
        obtain ⟨ti, hti, hsz⟩ := hi
        simp only [execOp, hx, Instr.fieldAt, Sem.run_bind, run_underlying hu, Result.andThen_ok, hfd, Instr.sureAddr, fieldPlace, run_sizeOf hti, hsz, if_false, Sem.run_pure]
        simp [addr_add]
    · cases hf
  · cases hf
theorem x_load {w : World} (v : Value) {t : TypeId} (hagg : isAggB C.P t = false ∧ (C.P.underlying t).isSome = true) (hx : opv C.n ρ x = .pointer (some ⟨B, off, none⟩)) (hb : w.heap[B]? = some (.cells cs e fz)) (hv : cs[off]? = some v) : (execOp (opv C.n ρ) ⟨some d, .load t x, ty, pos, af, none⟩).run C.P w = .ok (.value (v)) w := (by simp only [execOp, hx, Instr.loadAt, Instr.sureAddr, Sem.run_bind, Sem.run_pure, Result.andThen_ok, run_loadVar1 hagg.1 hagg.2 hb hv])
end
end Sl
