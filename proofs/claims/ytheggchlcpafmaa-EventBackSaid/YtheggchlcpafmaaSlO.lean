/- Regions that draw their order: what is quiet is taken first, in a family of classes; for the rest every order is walked. No condition. -/
import Derived.Test.YtheggchlcpafmaaSlX
namespace Sl
open _root_.Go _root_.Go.RowKit
set_option linter.all false
def noExit : Exit → Act → World → Prop := fun _ _ _ => False
def xOp (P : Program) (ops : Array Oper) (i : Nat) (K : Act → World → Prop) (a : Act) (w : World) : Prop :=
  match ops[i]? with
  | none => K a w
  | some o => if Region.wanted o (yielded ops a.tmps) then o.wp P a w K noExit else K (a.put o.dst undef) w
section
variable {P : Program} {ops : Array Oper} {md : Region.Mode} {σ : Type} {V : σ → World → Prop}
theorem xOp_mono {i : Nat} {a : Act} {w : World} {K K' : Act → World → Prop} (h : ∀ a w, K a w → K' a w) (hh : xOp P ops i K a w) : xOp P ops i K' a w := by
  unfold xOp at *
  split
  · exact h _ _ (by simpa [*] using hh)
  · rename_i o ho
    simp only [ho] at hh
    split
    · rename_i hw; simp only [hw, if_true] at hh; exact Oper.wp_mono h hh
    · rename_i hw; simp only [hw] at hh; exact h _ _ hh
theorem wpOp_of_xOp {i : Nat} {a : Act} {w : World} {K : Act → World → Prop} {Q : Exit → Act → World → Prop} (hh : xOp P ops i K a w) : wpOp P ops Q i K a w := by
  unfold xOp at hh
  unfold wpOp
  split
  · exact (by simpa [*] using hh)
  · rename_i o ho
    simp only [ho] at hh
    split
    · rename_i hw; simp only [hw, if_true] at hh; exact .inl (Oper.wp_exit (fun _ _ _ h => h.elim) hh)
    · rename_i hw; simp only [hw] at hh; exact hh
/-- Whatever order is picked, over states of memory. -/
def fAny (P : Program) (md : Region.Mode) (ops : Array Oper) (V : σ → World → Prop) (Q : Act → σ → Prop) : Nat → Array Bool → Act → σ → Prop
  | 0, listed, a, s => Region.ready md ops listed = [] ∧ Q a s
  | fuel + 1, listed, a, s => (Region.ready md ops listed = [] → Q a s) ∧
    ∀ i ∈ Region.ready md ops listed, ∀ w, V s w → xOp P ops i (fun a' w' => ∃ s', fAny P md ops V Q fuel (listed.setIfInBounds i true) a' s' ∧ V s' w') a w
theorem wpAny_of_fAny {Q : Act → σ → Prop} {Q' : Exit → Act → World → Prop} (hQ : ∀ a s w, V s w → Q a s → Q' .normal a w) : ∀ (fuel : Nat) (listed : Array Bool) (a : Act) (s : σ) (w : World), V s w →
    fAny P md ops V Q fuel listed a s → wpAny P md ops Q' fuel listed a w
  | 0, _, _, _, _, hw, h => ⟨h.1, hQ _ _ _ hw h.2⟩
  | fuel + 1, _, _, _, _, hw, h => ⟨fun h0 => hQ _ _ _ hw (h.1 h0), fun i hi => wpOp_of_xOp (xOp_mono (fun a' w' ⟨s', hf, hv⟩ => wpAny_of_fAny hQ fuel _ a' s' w' hv hf) (h.2 i hi _ hw))⟩
/-- In every state, operation o yields v. -/
def YieldsF (P : Program) (ops : Array Oper) (V : σ → World → Prop) (o : Oper) (v : Value) (a : Act) : Prop :=
  (Region.wanted o (yielded ops a.tmps) = true ∧ ∀ s w, V s w → o.quietAt P a (V s) w v) ∨ (Region.wanted o (yielded ops a.tmps) = false ∧ v = undef)
theorem YieldsF.xOp {i : Nat} {o : Oper} {v : Value} {a : Act} (hi : ops[i]? = some o) (hy : YieldsF P ops V o v a) {s : σ} {w : World} (hv : V s w) {K : Act → World → Prop} (h : ∀ w', V s w' → K (a.put o.dst v) w') : xOp P ops i K a w := by
  unfold Sl.xOp
  simp only [hi]
  rcases hy with ⟨hw, hq⟩ | ⟨hw, rfl⟩
  · simp only [hw, if_true]
    have h3 := hq s w hv
    unfold Oper.quietAt at h3
    unfold Oper.wp
    generalize (execOp a.eval o).run P w = r at *
    cases r with
    | ok n w' =>
      cases n <;> simp only [Oper.quietUpon] at h3 <;> simp only [Oper.upon]
      case value u =>
        obtain ⟨e1, e2⟩ := h3
        rw [e1, e2]
        exact h _ hv
      case skip =>
        obtain ⟨e1, e2⟩ := h3
        rw [e1, ← e2]
        exact h _ hv
      case enter f args =>
        obtain ⟨e1, hc⟩ := h3
        rw [e1]
        exact hc.mono fun e w'' ⟨he, hw''⟩ => by subst he; exact h _ hw''
    | halt x w' => simp only [Oper.quietUpon] at h3
  · simp only [hw, Bool.false_eq_true, if_false]
    exact h _ hv
theorem YieldsF.of_same {o : Oper} {v : Value} {a a' : Act} (hy : YieldsF P ops V o v a) (he : execOp a'.eval o = execOp a.eval o)
    (hw : Region.wanted o (yielded ops a'.tmps) = Region.wanted o (yielded ops a.tmps)) : YieldsF P ops V o v a' := by
  unfold YieldsF Oper.quietAt at *
  rw [he, hw]
  exact hy
theorem xOp_put {j : Nat} {oi oj : Oper} {v : Value} (hj : ops[j]? = some oj) (hap : oi.apart ops oj = true)
    (hsi : ∀ cs b, oi.op ≠ .select cs b) (hsj : ∀ cs b, oj.op ≠ .select cs b) {K : Act → World → Prop} {a : Act} {w : World}
    (hy : YieldsF P ops V oi v a) (h : xOp P ops j K (a.put oi.dst v) w) :
    xOp P ops j (fun a' w' => YieldsF P ops V oi v a' ∧ K (a'.put oi.dst v) w') a w := by
  obtain ⟨h1, h2, h3⟩ := Oper.apart_spec hap
  have keep : ∀ (a : Act), YieldsF P ops V oi v a → ∀ u, YieldsF P ops V oi v (a.put oj.dst u) := fun a hy u =>
    hy.of_same (execOp_put oi hsi a oj.dst u h3) (wanted_put oi a oj.dst u h3)
  unfold xOp at *
  simp only [hj] at *
  rw [wanted_put oj a oi.dst v h1] at h
  split
  · rename_i hw
    simp only [hw, if_true] at h
    unfold Oper.wp at *
    rw [execOp_put oj hsj a oi.dst v h1] at h
    generalize (execOp a.eval oj).run P w = r at *
    cases r with
    | ok n w' =>
      cases n <;> simp only [Oper.upon] at h ⊢
      case value u => exact ⟨keep a hy u, by rw [← Act.put_comm a v u h2]; exact h⟩
      case skip => exact ⟨keep a hy _, by rw [← Act.put_comm a v undef h2]; exact h⟩
      case defer d =>
        have e : ({ a.put oi.dst v with defers := d :: (a.put oi.dst v).defers } : Act) = ({ a with defers := d :: a.defers } : Act).put oi.dst v := by cases oi.dst <;> rfl
        rw [e, Act.put_comm _ v undef h2] at h
        exact ⟨keep ({ a with defers := d :: a.defers } : Act) (hy.of_same rfl rfl) undef, h⟩
      case enter f args =>
        refine Calls.mono h fun e w'' he => ?_
        cases e with
        | returned u => exact ⟨keep a hy u, by rw [← Act.put_comm a v u h2]; exact he⟩
        | panicked c => exact he.elim
        | outgrown => exact he
      case row =>
        exact Rows.mono h fun u w'' he => ⟨keep a hy u, by rw [← Act.put_comm a v u h2]; exact he⟩
    | halt x w' => cases x <;> simp only [Oper.upon] at h ⊢ <;> exact h
  · rename_i hw
    simp only [hw] at h
    exact ⟨keep a hy _, by rw [← Act.put_comm a v undef h2]; exact h⟩
theorem fAny_first {Q : Act → σ → Prop} {i : Nat} {oi : Oper} {v : Value} (hi : ops[i]? = some oi) (hsel : ∀ (j : Nat) (o : Oper) cs b, ops[j]? = some o → o.op ≠ .select cs b) :
    ∀ (fuel : Nat) (listed : Array Bool) (a : Act) (s : σ),
      (∀ j oj, ops[j]? = some oj → j ≠ i → listed.getD j true = false → (∀ e ∈ oj.after, Region.binds md e = true → e.on ≠ i) → oi.apart ops oj = true) →
      i ∈ Region.ready md ops listed → YieldsF P ops V oi v a →
      fAny P md ops V Q fuel (listed.setIfInBounds i true) (a.put oi.dst v) s → fAny P md ops V Q (fuel + 1) listed a s := by
  intro fuel
  induction fuel with
  | zero =>
    intro listed a s _ hr hy H
    refine ⟨fun h => (by rw [h] at hr; cases hr), fun j hj w hw => ?_⟩
    by_cases hji : j = i
    · subst hji; exact hy.xOp hi hw fun w' hw' => ⟨s, H, hw'⟩
    · have := ready_mono hj hji
      rw [H.1] at this
      cases this
  | succ fuel ih =>
    intro listed a s hfree hr hy H
    refine ⟨fun h => (by rw [h] at hr; cases hr), fun j hj w hw => ?_⟩
    by_cases hji : j = i
    · subst hji; exact hy.xOp hi hw fun w' hw' => ⟨s, H, hw'⟩
    · have h1 := H.2 j (ready_mono hj hji) w hw
      obtain ⟨hjun, oj, hoj, hall⟩ := mem_ready.1 hj
      have hnot : ∀ e ∈ oj.after, Region.binds md e = true → e.on ≠ i := fun e he hb heq => by
        have h1 := hall e he hb
        have h0 := (mem_ready.1 hr).1
        rw [heq] at h1
        rcases Nat.lt_or_ge i listed.size with h' | h'
        · simp [h'] at h0 h1; rw [h0] at h1; cases h1
        · simp [Array.getElem?_eq_none h'] at h1
      have h2 := xOp_put hoj (hfree j oj hoj hji hjun hnot) (fun cs b => hsel i oi cs b hi) (fun cs b => hsel j oj cs b hoj) hy h1
      have hfree' : ∀ k ok, ops[k]? = some ok → k ≠ i → (listed.setIfInBounds j true).getD k true = false →
          (∀ e ∈ ok.after, Region.binds md e = true → e.on ≠ i) → oi.apart ops ok = true := fun k ok hk hki hun hno => by
        refine hfree k ok hk hki ?_ hno
        by_cases hjk : j = k
        · subst hjk; exact hjun
        · rw [getD_set_ne true hjk] at hun; exact hun
      refine xOp_mono (fun a' w' ⟨h3, s', h4, hv'⟩ => ⟨s', ih (listed.setIfInBounds j true) a' s' hfree' (ready_mono hr (Ne.symm hji)) h3 ?_, hv'⟩) h2
      rw [Array.setIfInBounds_comm _ _ hji]
      exact h4
end
section
variable {C : Ctx} {ρ : Env} {w : World} {k : List Item} {ops : Array Oper} {v : Value} {d : Nat} {σ : Type} {V : σ → World → Prop} {s : σ}
def FReg (C : Ctx) (ops : Array Oper) (V : σ → World → Prop) (k : List Item) (fuel : Nat) (listed : Array Bool) (ρ : Env) (s : σ) : Prop :=
  fAny C.P .any ops V (fun a s => ∃ ρ, a = act C.n ρ ∧ ∀ w, V s w → Ends C k ρ w) fuel listed (act C.n ρ) s
def FOp (C : Ctx) (ops : Array Oper) (V : σ → World → Prop) (o : Oper) (K : Env → Prop) (ρ : Env) : Prop :=
  if Region.wanted o (yielded ops (act C.n ρ).tmps) then ∃ v, (∀ s w, V s w → o.quietAt C.P (act C.n ρ) (V s) w v) ∧ ∃ ρ', (act C.n ρ).put o.dst v = act C.n ρ' ∧ K ρ' else ∃ ρ', (act C.n ρ).put o.dst undef = act C.n ρ' ∧ K ρ'
theorem g_mix {id : Nat} {l : List Oper} (V : σ → World → Prop) (s : σ) (hm : C.P.follows .mixedOrders = true) (n : Nat) (hn : l.length = n) (hJ : V s w.drew) (h : FReg C l.toArray V k n (Array.replicate n false) ρ s) : Ends C (.code (.region id l.toArray true) :: k) ρ w := by
  subst hn
  refine ends_of_wp (wp_region_any hm ?_)
  have := wpAny_of_fAny (P := C.P) (md := .any) (Q' := QG C k) (fun a s w hv ⟨ρ, e, hE⟩ => ⟨rfl, ρ, e, hE w hv⟩) _ _ _ _ _ hJ h
  simpa using this
theorem f_done {listed : Array Bool} {fuel : Nat} (hr : Region.ready .any ops listed = []) (h : ∀ w, V s w → Ends C k ρ w) : FReg C ops V k fuel listed ρ s := by
  cases fuel with
  | zero => exact ⟨hr, ρ, rfl, h⟩
  | succ n => exact ⟨fun _ => ⟨ρ, rfl, h⟩, by rw [hr]; simp⟩
theorem f_first (i : Nat) {o : Oper} {fuel : Nat} {listed listed' : Array Bool} (hi : ops[i]? = some o) (hs : Region.noSelect ops = true) (hf : Region.free .any ops listed i = true) (hr : (Region.ready .any ops listed).contains i = true) (hl : listed.setIfInBounds i true = listed')
    (h : FOp C ops V o (fun ρ' => FReg C ops V k fuel listed' ρ' s) ρ) : FReg C ops V k (fuel + 1) listed ρ s := by
  subst hl
  unfold FOp at h
  split at h
  · rename_i hw
    obtain ⟨v, hq, ρ', e, h⟩ := h
    refine fAny_first (v := v) hi (Region.noSelect_spec hs) fuel listed _ s (Region.free_spec hi hf) (by simpa using hr) (.inl ⟨hw, hq⟩) ?_
    rw [e]
    exact h
  · rename_i hw
    obtain ⟨ρ', e, h⟩ := h
    refine fAny_first (v := undef) hi (Region.noSelect_spec hs) fuel listed _ s (Region.free_spec hi hf) (by simpa using hr) (.inr ⟨by simpa using hw, rfl⟩) ?_
    rw [e]
    exact h
theorem f_all {rs : List Nat} {fuel : Nat} {listed : Array Bool} (hr : Region.ready .any ops listed = rs) (hne : rs ≠ [])
    (h : ∀ i ∈ rs, ∃ o, ops[i]? = some o ∧ ∀ w, V s w → GOp C ops o (fun ρ' w' => ∃ s', FReg C ops V k fuel (listed.setIfInBounds i true) ρ' s' ∧ V s' w') ρ w) : FReg C ops V k (fuel + 1) listed ρ s := by
  refine ⟨fun h0 => absurd (hr ▸ h0) hne, fun i hi w hw => ?_⟩
  obtain ⟨o, ho, g⟩ := h i (hr ▸ hi)
  have g := g w hw
  unfold GOp at g
  unfold xOp
  simp only [ho]
  split at g
  · rename_i hw
    rw [if_pos hw]
    exact Oper.wp_mono (fun a w ⟨ρ, e, s', hk, hv⟩ => ⟨s', by rw [e]; exact hk, hv⟩) g
  · rename_i hw
    rw [if_neg hw]
    obtain ⟨ρ', e, s', hk, hv⟩ := g
    exact ⟨s', by rw [e]; exact hk, hv⟩
theorem f_val {K : Env → Prop} {o : Oper} (hg : o.guard = none) (hd : o.dst = some d) (hn : Nat.blt d C.n = true) (hr : ∀ s w, V s w → (execOp (opv C.n ρ) o).run C.P w = .ok (.value v) w) (h : K (upd ρ d v)) : FOp C ops V o K ρ := by
  unfold FOp
  rw [if_pos (by simp [Region.wanted, hg])]
  refine ⟨v, fun s w hw => ?_, _, by rw [hd, put_act ρ v hn], h⟩
  unfold Oper.quietAt
  rw [eval_act, hr s w hw]
  exact ⟨rfl, rfl⟩
theorem f_enter {K : Env → Prop} {o : Oper} {f : FuncId} {args : Array Value} (hg : o.guard = none) (hd : o.dst = some d) (hn : Nat.blt d C.n = true)
    (hr : ∀ w, (execOp (opv C.n ρ) o).run C.P w = .ok (.enter f args) w) (hc : ∀ s w, V s w → Calls C.P f args w (Ret fun u w' => u = v ∧ V s w')) (h : K (upd ρ d v)) : FOp C ops V o K ρ := by
  unfold FOp
  rw [if_pos (by simp [Region.wanted, hg])]
  refine ⟨v, fun s w hw => ?_, _, by rw [hd, put_act ρ v hn], h⟩
  unfold Oper.quietAt
  rw [eval_act, hr w]
  refine ⟨rfl, (hc s w hw).mono fun e w' he => ?_⟩
  cases e with
  | returned u => exact ⟨by rw [he.1], he.2⟩
  | panicked c => exact he.elim
  | outgrown => exact he.elim
theorem f_pass {K : Env → Prop} {o : Oper} {j : Nat} {want b : Bool} (hg : o.guard = some (j, want)) (hy : yld ops C.n ρ j = some b) (hb : (b == want) = false) (hd : o.dst = some d) (hn : Nat.blt d C.n = true) (h : K (upd ρ d undef)) : FOp C ops V o K ρ := by
  have : Region.wanted o (yielded ops (act C.n ρ).tmps) = false := by
    simp only [Region.wanted, hg, yielded_act, hy]
    cases b <;> cases want <;> simp_all
  unfold FOp
  rw [this]
  exact ⟨_, by rw [hd, put_act ρ undef hn], h⟩
theorem f_passN {K : Env → Prop} {o : Oper} {j : Nat} {want : Bool} (hg : o.guard = some (j, want)) (hy : yld ops C.n ρ j = none) (hd : o.dst = some d) (hn : Nat.blt d C.n = true) (h : K (upd ρ d undef)) : FOp C ops V o K ρ := by
  have : Region.wanted o (yielded ops (act C.n ρ).tmps) = false := by
    simp only [Region.wanted, hg, yielded_act, hy]
    cases want <;> rfl
  unfold FOp
  rw [this]
  exact ⟨_, by rw [hd, put_act ρ undef hn], h⟩
theorem f_take {K : Env → Prop} {o : Oper} {j : Nat} {want : Bool} (hg : o.guard = some (j, want)) (hy : yld ops C.n ρ j = some want) (h : FOp C ops V { o with guard := none } K ρ) : FOp C ops V o K ρ := by
  unfold FOp at h ⊢
  have : Region.wanted o (yielded ops (act C.n ρ).tmps) = true := by
    simp only [Region.wanted, hg, yielded_act, hy]
    cases want <;> rfl
  rw [this]
  have h2 : Region.wanted { o with guard := none } (yielded ops (act C.n ρ).tmps) = true := rfl
  rw [h2] at h
  simp only [if_true] at h ⊢
  unfold Oper.quietAt at h ⊢
  rw [execOp_guard] at h
  exact h
end
attribute [irreducible] FReg FOp
end Sl
