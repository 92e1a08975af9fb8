/- The walk's own machine: a frame's slots as a function, what is left to do as a list, one law for each kind of operation. No condition. -/
import Derived.Test.YtheggchlcpafmaaSlA
import Derived.Tactics
import Derived.WalkKit
import Derived.Orders
import Derived.Deep.Quiet
namespace Sl
open _root_.Go _root_.Go.RowKit
set_option linter.all false
set_option linter.unusedSimpArgs false

theorem map_toList {α β : Type} (f : α → β) (l : Array α) : l.map f = (l.toList.map f).toArray := by rw [← Array.toList_map]
abbrev Env := Nat → Value
def upd (ρ : Env) (t : Nat) (v : Value) : Env := fun s => bif Nat.beq s t then v else ρ s
def upds (ρ : Env) : List (Nat × Value) → Env
  | [] => ρ
  | (t, v) :: l => upd (upds ρ l) t v
def agree (ρ : Env) : List (Nat × Value) → Prop
  | [] => True
  | (t, v) :: l => ρ t = v ∧ agree ρ l
theorem upds_of_agree (ρ : Env) : ∀ l, agree ρ l → upds ρ l = ρ
  | [], _ => rfl
  | (t, v) :: l, ⟨h, k⟩ => by
    show upd (upds ρ l) t v = ρ
    rw [upds_of_agree ρ l k]
    funext s
    unfold upd
    cases hs : Nat.beq s t with
    | true => have := Nat.eq_of_beq_eq_true hs; subst this; exact h.symm
    | false => rfl
def act (n : Nat) (ρ : Env) : Act := ⟨Array.ofFn (n := n) fun i => ρ i, []⟩
def opv (n : Nat) (ρ : Env) : Operand → Value
  | .tmp t => bif Nat.blt t n then ρ t else undef
  | .const v => v
  | .global g => .pointer (some ⟨g, 0, none⟩)
  | .func f => .func (.func f) #[] #[]
theorem eval_act (n : Nat) (ρ : Env) : (act n ρ).eval = opv n ρ := by
  funext x
  cases x with
  | tmp t =>
    simp only [Act.eval, act, opv, Array.getD_eq_getD_getElem?, Array.getElem?_ofFn]
    by_cases h : t < n
    · have : Nat.blt t n = true := by simpa [Nat.blt_eq] using h
      simp [h, this]
    · have : Nat.blt t n = false := by
        cases hb : Nat.blt t n
        · rfl
        · exact absurd (by simpa [Nat.blt_eq] using hb) h
      simp [h, this]
  | const v => rfl
  | global g => rfl
  | func f => rfl
theorem put_act {n d : Nat} (ρ : Env) (v : Value) (h : Nat.blt d n = true) : (act n ρ).put (some d) v = act n (upd ρ d v) := by
  have hd : d < n := by simpa [Nat.blt_eq] using h
  simp only [Act.put, act, Act.mk.injEq, and_true]
  apply Array.ext
  · simp
  · intro i h1 h2
    simp only [Array.getElem_setIfInBounds, Array.getElem_ofFn, upd]
    by_cases e : d = i
    · subst e; simp
    · have : Nat.beq i d = false := by
        cases hb : Nat.beq i d
        · rfl
        · exact absurd (Nat.eq_of_beq_eq_true hb).symm e
      have h3 : i < (Array.ofFn (n := n) fun i => ρ i).size := by simpa using h1
      rw [this, Array.getElem_setIfInBounds h3, if_neg e]
      exact Array.getElem_ofFn _
theorem put_none (n : Nat) (ρ : Env) (v : Value) : (act n ρ).put none v = act n ρ := rfl

/-- What a walk is about: the program, the function, its slots, its end. -/
structure Ctx where
  P : Program
  f : FuncId
  n : Nat
  R : Ending → World → Prop
def base (f : FuncId) : Frame := { (default : Frame) with fn := f, kind := .normal }
/-- From here on the function comes to an end that R likes. -/
def Ends (C : Ctx) (k : List Item) (ρ : Env) (w : World) : Prop :=
  ∀ cs, ∃ e w' fr, C.R e w' ∧ Comes C.P (lone ((base C.f).at (act C.n ρ) k) cs w) (lone fr cs w') e ∧ fr.fn = C.f ∧ fr.leaving C.P w' e
def QG (C : Ctx) (k : List Item) : Exit → Act → World → Prop := fun e a w => e = .normal ∧ ∃ ρ, a = act C.n ρ ∧ Ends C k ρ w

def argEnv (args : Array Value) : Env := fun i => args.getD i undef
theorem enter_act {args : Array Value} {n : Nat} (h : args.size ≤ n) : (⟨args ++ Array.replicate (n - args.size) undef, []⟩ : Act) = act n (argEnv args) := by
  simp only [act, Act.mk.injEq, and_true]
  apply Array.ext
  · simp; omega
  · intro i h1 h2
    simp only [Array.getElem_append, Array.getElem_ofFn, argEnv, Array.getD_eq_getD_getElem?]
    by_cases hi : i < args.size
    · simp [hi]
    · simp [hi]
theorem calls_of_go {P : Program} {f : FuncId} {fn : Func} {c : Code} {args : Array Value} {n : Nat} {w : World} {R : Ending → World → Prop}
    (hf : P.funcs[f]? = some fn) (hb : fn.body = some c) (hn : fn.ntmps = n) (ha : Nat.ble args.size n = true) (h : Ends ⟨P, f, n, R⟩ [.code c] (argEnv args) w) : Calls P f args w R := by
  intro cs
  have henter : Frame.enter P f args .normal = (base f).at (act n (argEnv args)) [.code c] := by
    rw [← enter_act (Nat.le_of_ble_eq_true ha)]
    subst hn
    simp [Frame.enter, Frame.at, hf, hb, base]
  rw [henter]
  exact h cs

section
variable {C : Ctx} {k : List Item} {ρ : Env} {w : World}
theorem Ends.steps {k' : List Item} (hs : ∀ cs, Steps C.P (lone ((base C.f).at (act C.n ρ) k) cs w) (lone ((base C.f).at (act C.n ρ) k') cs w)) (h : Ends C k' ρ w) : Ends C k ρ w := by
  intro cs
  obtain ⟨e, w', fr, r, c, x, y⟩ := h cs
  exact ⟨e, w', fr, r, Comes.of_steps (hs cs) c, x, y⟩
theorem g_seq {x y : Code} (h : Ends C (.code x :: .code y :: k) ρ w) : Ends C (.code (.seq x y) :: k) ρ w := Ends.steps (fun _ => .one step_seq) h
theorem g_skip (h : Ends C k ρ w) : Ends C (.code .skip :: k) ρ w := Ends.steps (fun _ => .one step_skip) h
theorem g_inBlock {id : Nat} (h : Ends C k ρ w) : Ends C (.inBlock id :: k) ρ w := Ends.steps (fun _ => .one step_inBlock) h
theorem g_block {id : Nat} {c : Code} (h : Ends C (.code c :: .inBlock id :: k) ρ w) : Ends C (.code (.block id c) :: k) ρ w := Ends.steps (fun _ => .one step_block) h
theorem g_exit {id : Nat} {k' : List Item} (hk : exitTo id k = some k') (h : Ends C k' ρ w) : Ends C (.code (.exit id) :: k) ρ w := Ends.steps (fun _ => .one (step_exit hk)) h
theorem g_inLoop {c : Code} (h : Ends C (.code c :: .inLoop c :: k) ρ w) : Ends C (.inLoop c :: k) ρ w := Ends.steps (fun _ => .one step_inLoop) h
theorem g_loop {c : Code} (h : Ends C (.code c :: .inLoop c :: k) ρ w) : Ends C (.code (.loop c) :: k) ρ w := Ends.steps (fun _ => .one step_loop) h
theorem g_true {c : Operand} {x y : Code} (hc : opv C.n ρ c = .bool true) (h : Ends C (.code x :: k) ρ w) : Ends C (.code (.cond c x y) :: k) ρ w :=
  Ends.steps (k' := .code x :: k) (fun cs => .one (by have := step_cond (P := C.P) (b := base C.f) (a := act C.n ρ) (k := k) (cs := cs) (w := w) (x := x) (y := y) (c := c) (t := true) (by rw [eval_act]; exact hc); simpa using this)) h
theorem g_false {c : Operand} {x y : Code} (hc : opv C.n ρ c = .bool false) (h : Ends C (.code y :: k) ρ w) : Ends C (.code (.cond c x y) :: k) ρ w :=
  Ends.steps (k' := .code y :: k) (fun cs => .one (by have := step_cond (P := C.P) (b := base C.f) (a := act C.n ρ) (k := k) (cs := cs) (w := w) (x := x) (y := y) (c := c) (t := false) (by rw [eval_act]; exact hc); simpa using this)) h
theorem g_cond {c : Operand} {x y : Code} (t : Bool) (hc : opv C.n ρ c = .bool t) (ht : t = true → Ends C (.code x :: k) ρ w) (hf : t = false → Ends C (.code y :: k) ρ w) : Ends C (.code (.cond c x y) :: k) ρ w := by
  cases t
  · exact g_false hc (hf rfl)
  · exact g_true hc (ht rfl)
/-- The end: a return, or nothing left. -/
theorem g_ret {fn : Func} {v : Value} {todo : List Item} (hf : C.P.funcs[C.f]? = some fn) (hr : (results fn (act C.n ρ).tmps).run C.P w = .ok v w) (h : C.R (.returned v) w) : Ends C (.code .ret :: todo) ρ w := by
  intro cs
  exact ⟨.returned v, w, _, h, .one step_ret, rfl, rfl, rfl, rfl, fn, hf, hr⟩
theorem g_end {fn : Func} {v : Value} (hf : C.P.funcs[C.f]? = some fn) (hr : (results fn (act C.n ρ).tmps).run C.P w = .ok v w) (h : C.R (.returned v) w) : Ends C [] ρ w := by
  intro cs
  exact ⟨.returned v, w, _, h, .one step_end, rfl, rfl, rfl, rfl, fn, hf, hr⟩
/-- A loop: x tells the state; what its slots hold; what holds of memory; a measure. -/
theorem g_loop_inv {α : Type} {c : Code} (slots : α → List (Nat × Value)) (Inv : α → World → Prop) (μ : α → Nat) (x0 : α) (hρ : agree ρ (slots x0)) (h0 : Inv x0 w)
    (round : ∀ x ρ w, Inv x w → (∀ x' ρ' w', Inv x' w' → μ x' < μ x → agree ρ' (slots x') → Ends C (.inLoop c :: k) ρ' w') → Ends C (.code c :: .inLoop c :: k) (upds ρ (slots x)) w) : Ends C (.code (.loop c) :: k) ρ w := by
  refine g_loop ?_
  have key : ∀ m x ρ w, μ x = m → Inv x w → agree ρ (slots x) → Ends C (.code c :: .inLoop c :: k) ρ w := by
    intro m
    induction m using Nat.strongRecOn with
    | _ m ih =>
      intro x ρ w hm hI ha
      have := round x ρ w hI (fun x' ρ' w' hI' hlt ha' => g_inLoop (ih (μ x') (hm ▸ hlt) x' ρ' w' rfl hI' ha'))
      rwa [upds_of_agree ρ _ ha] at this
  exact key _ x0 ρ w rfl h0 hρ
/-- A place where ways meet. -/
theorem g_meet {α : Type} {k : List Item} (slots : α → List (Nat × Value)) (Inv : α → World → Prop) (h : ∀ x ρ w, Inv x w → Ends C k (upds ρ (slots x)) w) : ∀ x ρ w, Inv x w → agree ρ (slots x) → Ends C k ρ w := by
  intro x ρ w hI ha
  have := h x ρ w hI
  rwa [upds_of_agree ρ _ ha] at this

/-- Ways meet behind a piece of code. -/
theorem g_cut {α : Type} {it : Item} (slots : α → List (Nat × Value)) (Inv : α → World → Prop) (h : ∀ x ρ w, Inv x w → Ends C k (upds ρ (slots x)) w) (body : (∀ x ρ w, Inv x w → agree ρ (slots x) → Ends C k ρ w) → Ends C (it :: k) ρ w) : Ends C (it :: k) ρ w :=
  body (g_meet slots Inv h)
/-! ### regions -/
/-- A guarded operation: j's slot tells whether it runs. -/
def yld (ops : Array Oper) (n : Nat) (ρ : Env) (j : Nat) : Option Bool :=
  match (ops[j]?).bind (·.dst) with
  | some d => match (bif Nat.blt d n then ρ d else undef : Value) with | .bool b => some b | _ => none
  | none => none
theorem yielded_act {ops : Array Oper} (n : Nat) (ρ : Env) (j : Nat) : yielded ops (act n ρ).tmps j = yld ops n ρ j := by
  unfold yielded yld
  cases (ops[j]?).bind (·.dst) with
  | none => rfl
  | some d =>
    simp only [Option.bind_some, act, Array.getElem?_ofFn]
    by_cases h : d < n
    · have : Nat.blt d n = true := by simpa [Nat.blt_eq] using h
      simp only [dif_pos h, this, cond_true]
      cases ρ d <;> rfl
    · have : Nat.blt d n = false := by
        cases hb : Nat.blt d n
        · rfl
        · exact absurd (by simpa [Nat.blt_eq] using hb) h
      simp only [dif_neg h, this, cond_false]
      rfl
/-- What comes behind an operation. -/
def onAct (n : Nat) (K : Env → World → Prop) : Act → World → Prop := fun a w => ∃ ρ, a = act n ρ ∧ K ρ w
/-- One operation, and what comes behind it. -/
def GOp (C : Ctx) (ops : Array Oper) (o : Oper) (K : Env → World → Prop) (ρ : Env) (w : World) : Prop :=
  if Region.wanted o (yielded ops (act C.n ρ).tmps) then o.wp C.P (act C.n ρ) w (onAct C.n K) (fun _ _ _ => False) else onAct C.n K ((act C.n ρ).put o.dst undef) w
def Reg (C : Ctx) (ops : Array Oper) : List Oper → List Item → Env → World → Prop
  | [], k, ρ, w => Ends C k ρ w
  | o :: rest, k, ρ, w => GOp C ops o (Reg C ops rest k) ρ w
variable {ops : Array Oper}
theorem GOp.mono {o : Oper} {K K' : Env → World → Prop} (h : ∀ ρ w, K ρ w → K' ρ w) (g : GOp C ops o K ρ w) : GOp C ops o K' ρ w := by
  unfold GOp at *
  split at g
  · rename_i hw
    rw [if_pos hw]
    exact Oper.wp_mono (fun a w ⟨ρ, e, k⟩ => ⟨ρ, e, h _ _ k⟩) g
  · rename_i hw
    rw [if_neg hw]
    obtain ⟨ρ, e, k⟩ := g
    exact ⟨ρ, e, h _ _ k⟩
theorem Oper.wp_exit {P : Program} {o : Oper} {a : Act} {w : World} {K : Act → World → Prop} {Q Q' : Exit → Act → World → Prop} (hq : ∀ e a w, Q e a w → Q' e a w) (h : o.wp P a w K Q) : o.wp P a w K Q' := by
  unfold Oper.wp at *
  generalize (execOp a.eval o).run P w = r at *
  cases r with
  | ok n w' =>
    cases n <;> simp only [Oper.upon] at h ⊢ <;> first
      | exact h
      | exact Calls.mono h (fun e w'' he => by cases e <;> first | exact he | exact hq _ _ _ he | (obtain ⟨a0, w0, hh⟩ := he; exact ⟨a0, w0, hq _ _ _ hh⟩))
  | halt x w' => cases x <;> simp only [Oper.upon] at h ⊢ <;> first | exact h | exact hq _ _ _ h
theorem GOp.wpOp {o : Oper} {i : Nat} {K : Env → World → Prop} {K' : Act → World → Prop} {Q : Exit → Act → World → Prop} (ho : ops[i]? = some o) (g : GOp C ops o K ρ w) (h : ∀ ρ w, K ρ w → K' (act C.n ρ) w) : wpOp C.P ops Q i K' (act C.n ρ) w := by
  unfold Go.wpOp
  simp only [ho]
  unfold GOp at g
  split at g
  · rename_i hw
    rw [if_pos hw]
    refine .inl (Oper.wp_exit (Q := fun _ _ _ => False) (fun _ _ _ h => h.elim) (Oper.wp_mono (fun a w ⟨ρ, e, k⟩ => ?_) g))
    rw [e]
    exact h _ _ k
  · rename_i hw
    rw [if_neg hw]
    obtain ⟨ρ', e, k⟩ := g
    rw [e]
    exact h _ _ k
theorem Reg.list : ∀ (l : List Oper) (ρ : Env) (w : World), Reg C ops l k ρ w → wpList C.P ops (QG C k) l (act C.n ρ) w
  | [], ρ, w, h => ⟨rfl, ρ, rfl, h⟩
  | o :: rest, ρ, w, h => by
    have h : GOp C ops o (Reg C ops rest k) ρ w := h
    unfold wpList
    unfold GOp at h
    split at h
    · rename_i hw
      rw [if_pos hw]
      refine .inl (Oper.wp_exit (Q := fun _ _ _ => False) (fun _ _ _ h => h.elim) (Oper.wp_mono (fun a w ⟨ρ, e, k⟩ => ?_) h))
      rw [e]
      exact Reg.list rest _ _ k
    · rename_i hw
      rw [if_neg hw]
      obtain ⟨ρ', e, k⟩ := h
      rw [e]
      exact Reg.list rest _ _ k
theorem ends_of_wp {c : Code} (h : c.wp C.P (QG C k) (act C.n ρ) w) : Ends C (.code c :: k) ρ w := by
  intro cs
  obtain ⟨e, a', w', ⟨he, ρ', ha, hg⟩, harr⟩ := h (base C.f) k cs
  subst he
  subst ha
  obtain ⟨e, w'', fr, r, c, x, y⟩ := hg cs
  exact ⟨e, w'', fr, r, Comes.of_steps harr c, x, y⟩
theorem g_region {id : Nat} {l : List Oper} (h : Reg C l.toArray l k ρ w) : Ends C (.code (.region id l.toArray false) :: k) ρ w :=
  ends_of_wp (wp_region_lit (id := id) (Reg.list _ _ _ h))
theorem r_nil (h : Ends C k ρ w) : Reg C ops [] k ρ w := h
theorem r_cons {o : Oper} {rest : List Oper} (h : GOp C ops o (Reg C ops rest k) ρ w) : Reg C ops (o :: rest) k ρ w := h
variable {K : Env → World → Prop} {w' : World} {d ty : Nat} {pos : String} {af : Array Edge} {v : Value}
theorem r_val {o : Oper} (hg : o.guard = none) (hd : o.dst = some d) (hn : Nat.blt d C.n = true) (hr : (execOp (opv C.n ρ) o).run C.P w = .ok (.value v) w') (h : K (upd ρ d v) w') : GOp C ops o K ρ w := by
  unfold GOp
  rw [if_pos (by simp [Region.wanted, hg])]
  unfold Oper.wp
  rw [eval_act, hr, Oper.upon_value, hd, put_act ρ v hn]
  exact ⟨_, rfl, h⟩
theorem r_skip0 {o : Oper} (hg : o.guard = none) (hd : o.dst = none) (hr : (execOp (opv C.n ρ) o).run C.P w = .ok .skip w') (h : K ρ w') : GOp C ops o K ρ w := by
  unfold GOp
  rw [if_pos (by simp [Region.wanted, hg])]
  unfold Oper.wp
  rw [eval_act, hr, Oper.upon_skip, hd]
  exact ⟨_, rfl, h⟩
/-- A call of a function by its contract. -/
def Ret (Q : Value → World → Prop) : Ending → World → Prop
  | .returned v, w => Q v w
  | _, _ => False
theorem r_enter {o : Oper} {f : FuncId} {args : Array Value} {Q : Value → World → Prop} (hg : o.guard = none) (hd : o.dst = some d) (hn : Nat.blt d C.n = true)
    (hr : (execOp (opv C.n ρ) o).run C.P w = .ok (.enter f args) w) (hc : Calls C.P f args w (Ret Q)) (h : ∀ v w', Q v w' → K (upd ρ d v) w') : GOp C ops o K ρ w := by
  unfold GOp
  rw [if_pos (by simp [Region.wanted, hg])]
  unfold Oper.wp
  rw [eval_act, hr, Oper.upon_enter]
  refine hc.mono fun e w' he => ?_
  cases e with
  | returned v => show onAct C.n K ((act C.n ρ).put o.dst v) w'; rw [hd, put_act ρ v hn]; exact ⟨_, rfl, h v w' he⟩
  | panicked c => exact he.elim
  | outgrown => exact he.elim
theorem r_enter0 {o : Oper} {f : FuncId} {args : Array Value} {Q : Value → World → Prop} (hg : o.guard = none) (hd : o.dst = none)
    (hr : (execOp (opv C.n ρ) o).run C.P w = .ok (.enter f args) w) (hc : Calls C.P f args w (Ret Q)) (h : ∀ v w', Q v w' → K ρ w') : GOp C ops o K ρ w := by
  unfold GOp
  rw [if_pos (by simp [Region.wanted, hg])]
  unfold Oper.wp
  rw [eval_act, hr, Oper.upon_enter]
  refine hc.mono fun e w' he => ?_
  cases e with
  | returned v => show onAct C.n K ((act C.n ρ).put o.dst v) w'; rw [hd]; exact ⟨_, rfl, h v w' he⟩
  | panicked c => exact he.elim
  | outgrown => exact he.elim
theorem r_pass {o : Oper} {j : Nat} {want b : Bool} (hg : o.guard = some (j, want)) (hy : yld ops C.n ρ j = some b) (hb : (b == want) = false) (hd : o.dst = some d) (hn : Nat.blt d C.n = true) (h : K (upd ρ d undef) w) : GOp C ops o K ρ w := by
  have : Region.wanted o (yielded ops (act C.n ρ).tmps) = false := by
    simp only [Region.wanted, hg, yielded_act, hy]
    cases b <;> cases want <;> simp_all
  unfold GOp
  rw [this, hd, put_act ρ undef hn]
  exact ⟨_, rfl, h⟩
theorem r_passN {o : Oper} {j : Nat} {want : Bool} (hg : o.guard = some (j, want)) (hy : yld ops C.n ρ j = none) (hd : o.dst = some d) (hn : Nat.blt d C.n = true) (h : K (upd ρ d undef) w) : GOp C ops o K ρ w := by
  have : Region.wanted o (yielded ops (act C.n ρ).tmps) = false := by
    simp only [Region.wanted, hg, yielded_act, hy]
    cases want <;> rfl
  unfold GOp
  rw [this, hd, put_act ρ undef hn]
  exact ⟨_, rfl, h⟩
theorem r_pass0 {o : Oper} {j : Nat} {want b : Bool} (hg : o.guard = some (j, want)) (hy : yld ops C.n ρ j = some b) (hb : (b == want) = false) (hd : o.dst = none) (h : K ρ w) : GOp C ops o K ρ w := by
  have : Region.wanted o (yielded ops (act C.n ρ).tmps) = false := by
    simp only [Region.wanted, hg, yielded_act, hy]
    cases b <;> cases want <;> simp_all
  unfold GOp
  rw [this, hd]
  exact ⟨_, rfl, h⟩
theorem execOp_guard (e : Operand → Value) (o : Oper) (g : Option (Nat × Bool)) : execOp e { o with guard := g } = execOp e o := by
  cases o with | mk dst op type pos after guard => cases op <;> rfl
theorem r_take {o : Oper} {j : Nat} {want : Bool} (hg : o.guard = some (j, want)) (hy : yld ops C.n ρ j = some want) (h : GOp C ops { o with guard := none } K ρ w) : GOp C ops o K ρ w := by
  unfold GOp at h ⊢
  have : Region.wanted o (yielded ops (act C.n ρ).tmps) = true := by
    simp only [Region.wanted, hg, yielded_act, hy]
    cases want <;> rfl
  rw [this]
  have h2 : Region.wanted { o with guard := none } (yielded ops (act C.n ρ).tmps) = true := rfl
  rw [h2] at h
  simp only [if_true] at h ⊢
  unfold Oper.wp at h ⊢
  rw [execOp_guard] at h
  exact h

/-! ### regions that draw their order -/
/-- Quiet in every order: 'J' holds of every world on the way. -/
def QOp (C : Ctx) (ops : Array Oper) (J : World → Prop) (o : Oper) (K : Env → Prop) (ρ : Env) : Prop :=
  if Region.wanted o (yielded ops (act C.n ρ).tmps) then ∃ v, (∀ w, J w → o.quietAt C.P (act C.n ρ) J w v) ∧ ∃ ρ', (act C.n ρ).put o.dst v = act C.n ρ' ∧ K ρ' else ∃ ρ', (act C.n ρ).put o.dst undef = act C.n ρ' ∧ K ρ'
def QReg (C : Ctx) (ops : Array Oper) (J : World → Prop) : List Oper → (Env → Prop) → Env → Prop
  | [], K, ρ => K ρ
  | o :: rest, K, ρ => QOp C ops J o (QReg C ops J rest K) ρ
theorem QReg.list {J : World → Prop} {K : Env → Prop} : ∀ (l : List Oper) (ρ : Env), QReg C ops J l K ρ → wpQuiet C.P ops J (fun a => ∃ ρ, a = act C.n ρ ∧ K ρ) l (act C.n ρ)
  | [], ρ, h => ⟨ρ, rfl, h⟩
  | o :: rest, ρ, h => by
    have h : QOp C ops J o (QReg C ops J rest K) ρ := h
    unfold QOp at h
    unfold wpQuiet
    split at h
    · rename_i hw
      rw [if_pos hw]
      obtain ⟨v, h1, ρ', e, h2⟩ := h
      refine ⟨v, h1, ?_⟩
      rw [e]
      exact QReg.list rest ρ' h2
    · rename_i hw
      rw [if_neg hw]
      obtain ⟨ρ', e, h2⟩ := h
      rw [e]
      exact QReg.list rest ρ' h2
theorem g_quiet {id : Nat} {l : List Oper} (J : World → Prop) (hm : C.P.follows .mixedOrders = true) (hB : Region.lexB .any l.toArray = true) (hJ : J w.drew) (h : QReg C l.toArray J l (fun ρ => ∀ w', J w' → Ends C k ρ w') ρ) : Ends C (.code (.region id l.toArray true) :: k) ρ w := by
  refine ends_of_wp (wp_region_quiet (C := J) hm hB hJ ?_)
  have h2 := QReg.list _ _ h
  have mono : ∀ (l : List Oper) (a : Act) (ops : Array Oper), wpQuiet C.P ops J (fun a => ∃ ρ, a = act C.n ρ ∧ ∀ w', J w' → Ends C k ρ w') l a → wpQuiet C.P ops J (fun a' => ∀ w', J w' → QG C k .normal a' w') l a := by
    intro l
    induction l with
    | nil => rintro a ops ⟨ρ, e, h⟩ w' hw; exact ⟨rfl, ρ, e, h w' hw⟩
    | cons o l ih =>
      intro a ops h
      have h' : (if Region.wanted o (yielded ops a.tmps) then o.quiet C.P a J (wpQuiet C.P ops J (fun a => ∃ ρ, a = act C.n ρ ∧ ∀ w', J w' → Ends C k ρ w') l) else wpQuiet C.P ops J (fun a => ∃ ρ, a = act C.n ρ ∧ ∀ w', J w' → Ends C k ρ w') l (a.put o.dst undef)) := h
      show (if Region.wanted o (yielded ops a.tmps) then o.quiet C.P a J (wpQuiet C.P ops J (fun a' => ∀ w', J w' → QG C k .normal a' w') l) else wpQuiet C.P ops J (fun a' => ∀ w', J w' → QG C k .normal a' w') l (a.put o.dst undef))
      split at h'
      · rename_i hw
        rw [if_pos hw]
        obtain ⟨v, h1, h2⟩ := h'
        exact ⟨v, h1, ih _ _ h2⟩
      · rename_i hw
        rw [if_neg hw]
        exact ih _ _ h'
  have := mono _ _ _ h2
  simpa using this
theorem q_nil {J : World → Prop} {K : Env → Prop} (h : K ρ) : QReg C ops J [] K ρ := h
theorem q_cons {J : World → Prop} {K : Env → Prop} {o : Oper} {rest : List Oper} (h : QOp C ops J o (QReg C ops J rest K) ρ) : QReg C ops J (o :: rest) K ρ := h
theorem q_val {J : World → Prop} {K : Env → Prop} {o : Oper} (hg : o.guard = none) (hd : o.dst = some d) (hn : Nat.blt d C.n = true) (hr : ∀ w, J w → (execOp (opv C.n ρ) o).run C.P w = .ok (.value v) w) (h : K (upd ρ d v)) : QOp C ops J o K ρ := by
  unfold QOp
  rw [if_pos (by simp [Region.wanted, hg])]
  refine ⟨v, fun w hw => ?_, _, by rw [hd, put_act ρ v hn], h⟩
  unfold Oper.quietAt
  rw [eval_act, hr w hw]
  exact ⟨rfl, rfl⟩
theorem q_enter {J : World → Prop} {K : Env → Prop} {o : Oper} {f : FuncId} {args : Array Value} (hg : o.guard = none) (hd : o.dst = some d) (hn : Nat.blt d C.n = true)
    (hr : ∀ w, (execOp (opv C.n ρ) o).run C.P w = .ok (.enter f args) w) (hc : ∀ w, J w → Calls C.P f args w (Ret fun u w' => u = v ∧ J w')) (h : K (upd ρ d v)) : QOp C ops J o K ρ := by
  unfold QOp
  rw [if_pos (by simp [Region.wanted, hg])]
  refine ⟨v, fun w hw => ?_, _, by rw [hd, put_act ρ v hn], h⟩
  unfold Oper.quietAt
  rw [eval_act, hr w]
  refine ⟨rfl, (hc w hw).mono fun e w' he => ?_⟩
  cases e with
  | returned u => exact ⟨by rw [he.1], he.2⟩
  | panicked c => exact he.elim
  | outgrown => exact he.elim
theorem q_pass {J : World → Prop} {K : Env → Prop} {o : Oper} {j : Nat} {want b : Bool} (hg : o.guard = some (j, want)) (hy : yld ops C.n ρ j = some b) (hb : (b == want) = false) (hd : o.dst = some d) (hn : Nat.blt d C.n = true) (h : K (upd ρ d undef)) : QOp C ops J o K ρ := by
  have : Region.wanted o (yielded ops (act C.n ρ).tmps) = false := by
    simp only [Region.wanted, hg, yielded_act, hy]
    cases b <;> cases want <;> simp_all
  unfold QOp
  rw [this]
  exact ⟨_, by rw [hd, put_act ρ undef hn], h⟩
theorem q_passN {J : World → Prop} {K : Env → Prop} {o : Oper} {j : Nat} {want : Bool} (hg : o.guard = some (j, want)) (hy : yld ops C.n ρ j = none) (hd : o.dst = some d) (hn : Nat.blt d C.n = true) (h : K (upd ρ d undef)) : QOp C ops J o K ρ := by
  have : Region.wanted o (yielded ops (act C.n ρ).tmps) = false := by
    simp only [Region.wanted, hg, yielded_act, hy]
    cases want <;> rfl
  unfold QOp
  rw [this]
  exact ⟨_, by rw [hd, put_act ρ undef hn], h⟩
theorem q_take {J : World → Prop} {K : Env → Prop} {o : Oper} {j : Nat} {want : Bool} (hg : o.guard = some (j, want)) (hy : yld ops C.n ρ j = some want) (h : QOp C ops J { o with guard := none } K ρ) : QOp C ops J o K ρ := by
  unfold QOp at h ⊢
  have : Region.wanted o (yielded ops (act C.n ρ).tmps) = true := by
    simp only [Region.wanted, hg, yielded_act, hy]
    cases want <;> rfl
  rw [this]
  have h2 : Region.wanted { o with guard := none } (yielded ops (act C.n ρ).tmps) = true := rfl
  rw [h2] at h
  simp only [if_true] at h ⊢
  unfold Oper.quietAt at h ⊢
  rw [execOp_guard] at h
  exact h
/-- Whatever order: operation by operation. -/
def AnyG (C : Ctx) (ops : Array Oper) (k : List Item) (fuel : Nat) (listed : Array Bool) (ρ : Env) (w : World) : Prop := wpAny C.P .any ops (QG C k) fuel listed (act C.n ρ) w
theorem g_any {id : Nat} {l : List Oper} (hm : C.P.follows .mixedOrders = true) (n : Nat) (hn : l.length = n) (h : ∀ w', w' = w.drew → AnyG C l.toArray k n (Array.replicate n false) ρ w') : Ends C (.code (.region id l.toArray true) :: k) ρ w := by
  subst hn
  refine ends_of_wp (wp_region_any hm ?_)
  have := h _ rfl
  unfold AnyG at this
  simpa using this
theorem a_done {listed : Array Bool} {fuel : Nat} (hr : Region.ready .any ops listed = []) (h : Ends C k ρ w) : AnyG C ops k fuel listed ρ w := wpAny_done hr ⟨rfl, ρ, rfl, h⟩ fuel
theorem a_take (i : Nat) {o : Oper} {fuel : Nat} {listed listed' : Array Bool} (hi : ops[i]? = some o) (hs : Region.noSelect ops = true) (hf : Region.free .any ops listed i = true) (hr : (Region.ready .any ops listed).contains i = true) (hl : listed.setIfInBounds i true = listed')
    (hg : o.guard = none) (hd : o.dst = some d) (hn : Nat.blt d C.n = true) (hx : ∀ w, (execOp (opv C.n ρ) o).run C.P w = .ok (.value v) w) (h : AnyG C ops k fuel listed' (upd ρ d v) w) : AnyG C ops k (fuel + 1) listed ρ w := by
  subst hl
  refine wpAny_take hi hs hf hr (fun c a w h => absurd h.1 (by simp)) (.inl ⟨by simp [Region.wanted, hg], fun w => by rw [eval_act]; exact hx w⟩) ?_
  rw [hd, put_act ρ v hn]
  exact h
theorem a_all {rs : List Nat} {fuel : Nat} {listed : Array Bool} (hr : Region.ready .any ops listed = rs) (hne : rs ≠ []) (h : ∀ i ∈ rs, ∃ o, ops[i]? = some o ∧ GOp C ops o (AnyG C ops k fuel (listed.setIfInBounds i true)) ρ w) : AnyG C ops k (fuel + 1) listed ρ w := by
  refine wpAny_all hr hne fun i hi => ?_
  obtain ⟨o, ho, g⟩ := h i hi
  exact GOp.wpOp ho g fun ρ w h => h
theorem a_two {i j : Nat} {Q : Nat → Prop} (h1 : Q i) (h2 : Q j) : ∀ x ∈ [i, j], Q x := by
  intro x hx
  simp at hx
  rcases hx with rfl | rfl
  · exact h1
  · exact h2
theorem a_one {i : Nat} {Q : Nat → Prop} (h1 : Q i) : ∀ x ∈ [i], Q x := by
  intro x hx
  simp at hx
  subst hx
  exact h1
theorem a_cons {i : Nat} {l : List Nat} {Q : Nat → Prop} (h1 : Q i) (h2 : ∀ x ∈ l, Q x) : ∀ x ∈ i :: l, Q x := by
  intro x hx
  rcases List.mem_cons.1 hx with rfl | h
  · exact h1
  · exact h2 x h
end
attribute [irreducible] Ends GOp Reg QOp QReg AnyG
end Sl
