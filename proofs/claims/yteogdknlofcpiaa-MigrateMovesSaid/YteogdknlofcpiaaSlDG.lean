/- Loops in whose rounds loops over functions stand. No condition. -/
import Derived.Test.YteogdknlofcpiaaSlBA
namespace Sl
open _root_.Go _root_.Go.RowKit
set_option linter.all false
set_option linter.unusedSimpArgs false
def putAll : List Nat → World → World
  | [], w => w
  | D :: Ds, w => putAll Ds (w.putObj D (.deferred none))
def okAll (Q : World → Prop) : List Nat → World → Prop
  | [], w => Q w
  | D :: Ds, w => w.heap[D]? = some (.deferred (some [])) ∧ okAll Q Ds (w.putObj D (.deferred none))
theorem mores_ret (C : Ctx) (fn : Func) (v : Value) (ρ : Env) (hf : C.P.funcs[C.f]? = some fn) : ∀ (Ds : List Nat) (w : World), okAll C.okD Ds w → (results fn (act C.n C.ds ρ).tmps).run C.P (C.lv (putAll Ds w)) = .ok v (C.lv (putAll Ds w)) → C.R (.returned v) (C.lv (putAll Ds w)) →
    C.rd = none ∧ ∀ cs todo, C.T cs (lone { (base C.f C.rd).atR (act C.n (Ds.map mark ++ C.ds) ρ) todo with mode := .returning } cs w)
  | [], w, ho, hr, h => C.hret fn v ρ w hf ho hr h
  | D :: Ds, w, ho, hr, h => by
    obtain ⟨h1, h2⟩ := mores_ret C fn v ρ hf Ds _ ho.2 hr h
    refine ⟨h1, fun cs todo => C.hT cs _ _ (.one ?_) (h2 cs todo)⟩
    have := step_collected (P := C.P) (fr := { (base C.f C.rd).atR (act C.n (mark D :: (Ds.map mark ++ C.ds)) ρ) todo with mode := .returning }) (cs := cs) (w := w) (d := mark D) (r := D) (ds := Ds.map mark ++ C.ds) (calls := []) (by simp) rfl rfl (run_takeDeferred ho.1)
    exact this
/-- The walk behind any number of loops over functions. -/
@[reducible] def Ctx.mores (C : Ctx) (Ds : List Nat) : Ctx where
  P := C.P
  f := C.f
  n := C.n
  R := C.R
  rd := C.rd
  ds := Ds.map mark ++ C.ds
  lv := fun w => C.lv (putAll Ds w)
  okD := okAll C.okD Ds
  T := C.T
  hT := C.hT
  hret := fun fn v ρ w hf ho hr h => mores_ret C fn v ρ hf Ds w ho hr h
/-- A loop; x tells too what its rounds have laid. -/
theorem g_loop_invD {C : Ctx} {k : List Item} {ρ : Env} {w : World} {α : Type} {c : Code} (dsOf : α → List Nat) (slots : α → List (Nat × Value)) (Inv : α → World → Prop) (μ : α → Nat) (x0 : α) (hd : dsOf x0 = []) (hρ : agree ρ (slots x0)) (h0 : Inv x0 w)
    (round : ∀ x ρ w, Inv x w → (∀ x' ρ' w', Inv x' w' → μ x' < μ x → agree ρ' (slots x') → Ends (C.mores (dsOf x')) (.inLoop c :: k) ρ' w') → Ends (C.mores (dsOf x)) (.code c :: .inLoop c :: k) (upds ρ (slots x)) w) : Ends C (.code (.loop c) :: k) ρ w := by
  refine g_loop ?_
  have key : ∀ m x ρ w, μ x = m → Inv x w → agree ρ (slots x) → Ends (C.mores (dsOf x)) (.code c :: .inLoop c :: k) ρ w := by
    intro m
    induction m using Nat.strongRecOn with
    | _ m ih =>
      intro x ρ w hm hI ha
      have := round x ρ w hI (fun x' ρ' w' hI' hlt ha' => g_inLoop (ih (μ x') (hm ▸ hlt) x' ρ' w' rfl hI' ha'))
      rwa [upds_of_agree ρ _ ha] at this
  have h9 := key _ x0 ρ w rfl h0 hρ
  rw [hd] at h9
  exact h9
/-- What loops over functions have laid. -/
def dsA (Ds : List Nat) : Atom := star (Ds.map fun D => blk D (.deferred (some [])))
section
variable {W w : World} {F : List Atom} {D : Nat} {Ds : List Nat}
theorem ds_nil (H : St W w F) : St W w (dsA [] :: F) := St.shut_star (ls := []) H
theorem ds_cons (H : St W w (blk D (.deferred (some [])) :: dsA Ds :: F)) : St W w (dsA (D :: Ds) :: F) := by
  have h1 := St.open_star (H.move 1 rfl)
  have h2 : St W w ((Ds.map fun D => blk D (.deferred (some []))) ++ blk D (.deferred (some [])) :: F) := h1
  refine St.shut_star (ls := (D :: Ds).map fun D => blk D (.deferred (some []))) (h2.perm ?_)
  exact List.perm_middle
theorem ds_all (Ds : List Nat) : ∀ {w : World}, St W w (dsA Ds :: F) → okAll (fun _ => True) Ds w ∧ St W (putAll Ds w) F := by
  induction Ds with
  | nil => exact fun {w} H => ⟨trivial, St.open_star H⟩
  | cons D Ds ih =>
    intro w H
    have h1 : St W w (blk D (.deferred (some [])) :: ((Ds.map fun D => blk D (.deferred (some []))) ++ F)) := St.open_star H
    obtain ⟨ho, h2⟩ := h1.collect (i := 0) rfl
    obtain ⟨h3, h4⟩ := ih (St.shut_star h2)
    exact ⟨⟨ho, h3⟩, h4⟩
end
end Sl
