import Derived.Test.YteogdknlofcpiaaGreatSlG
namespace Sl
open _root_.Go _root_.Go.RowKit
set_option linter.all false
set_option linter.unusedSimpArgs false
@[reducible] def mark (D : Nat) : Deferred := { target := .collected D, args := #[] }
@[reducible] def Ctx.more (C : Ctx) (D : Nat) : Ctx where
 P := C.P
 f := C.f
 n := C.n
 R := C.R
 rd := C.rd
 ds := mark D :: C.ds
 lv := fun w => C.lv (w.putObj D (.deferred none))
 okD := fun w => w.heap[D]? = some (.deferred (some [])) ∧ C.okD (w.putObj D (.deferred none))
 T := C.T
 hT := C.hT
 hret := by
  intro fn v ρ w hf ho hr h
  obtain ⟨h1, h2⟩ := C.hret fn v ρ _ hf ho.2 hr h
  refine ⟨h1, fun cs todo => C.hT cs _ _ (.one ?_) (h2 cs todo)⟩
  have := step_collected (P := C.P) (fr := { (base C.f C.rd).atR (act C.n (mark D :: C.ds) ρ) todo with mode := .returning }) (cs := cs) (w := w) (d := mark D) (r := D) (ds := C.ds) (calls := []) (by simp) rfl rfl (run_takeDeferred ho.1)
  exact this
section
variable {W w : World} {F : List Atom} {i : Nat}
end
@[reducible] def Ctx.round (P : Program) (f : FuncId) (n l : Nat) (Q : Value → World → Prop) : Ctx where
 P := P
 f := f
 n := n
 R := fun _ _ => False
 rd := some l
 ds := []
 lv := fun w => w
 okD := fun _ => True
 T := fun cs m => ∀ c cs', cs = c :: cs' → ∃ v w', Q v w' ∧ Steps P m (lone (c.finish v) cs' w')
 hT := fun cs m m' hs h c cs' e => let ⟨v, w', q, s⟩ := h c cs' e; ⟨v, w', q, hs.trans s⟩
 hret := fun _ _ _ _ _ _ _ h => h.elim
section
variable {P : Program} {f : FuncId} {n l : Nat} {Q : Value → World → Prop} {W w : World} {F : List Atom} {i : Nat} {ρ : Env} {r : Loop} {k : List Item}
end
def YieldAt (P : Program) (l : Nat) (args : List Value) (w : World) (Q : Value → World → Prop) : Prop :=
 ∃ f tmps assign body, (Instr.yield l args.toArray).run P w = .ok (.round l f tmps assign body) w ∧ Round1 P l f tmps assign body w Q
theorem YieldAt.mono {P : Program} {l : Nat} {args : List Value} {w : World} {Q Q' : Value → World → Prop} (h : YieldAt P l args w Q) (hq : ∀ v w', Q v w' → Q' v w') : YieldAt P l args w Q' :=
 let ⟨f, t, a, b, h1, h2⟩ := h; ⟨f, t, a, b, h1, h2.mono hq⟩
section
variable {C : Ctx} {k : List Item} {ρ : Env} {w : World} {ops : Array Oper} {K' : Env → World → Prop} {d ty : Nat} {pos : String} {af : Array Edge}
end
section
variable {C : Ctx} {k : List Item} {ρ : Env} {w : World}
end
end Sl
