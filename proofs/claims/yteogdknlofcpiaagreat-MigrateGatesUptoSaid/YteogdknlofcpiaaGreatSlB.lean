import Derived.Test.YteogdknlofcpiaaGreatSlA
import Derived.Tactics
import Derived.WalkKit
import Derived.Orders
import Derived.Deep.Quiet
import Derived.OrdersIn
import Derived.TacticsIn
import Derived.RangeFuncRecord
namespace Sl
open _root_.Go _root_.Go.RowKit
set_option linter.all false
set_option linter.unusedSimpArgs false

theorem map_toList {α β : Type} (f : α → β) (l : Array α) : l.map f = (l.toList.map f).toArray := by rw [← Array.toList_map]
abbrev Env := Nat → Value
def upd (ρ : Env) (t : Nat) (v : Value) : Env := fun s => bif Nat.beq s t then v else ρ s
def upds (ρ : Env) : List (Nat × Value) → Env
 | [] => ρ
 | (t, v) :: l => upd (upds ρ l) t v
def agree (ρ : Env) : List (Nat × Value) → Prop
 | [] => True
 | (t, v) :: l => ρ t = v ∧ agree ρ l
theorem upds_of_agree (ρ : Env) : ∀ l, agree ρ l → upds ρ l = ρ
 | [], _ => rfl
 | (t, v) :: l, ⟨h, k⟩ => by
  show upd (upds ρ l) t v = ρ
  rw [upds_of_agree ρ l k]
  funext s
  unfold upd
  cases hs : Nat.beq s t with
  | true => have := Nat.eq_of_beq_eq_true hs; subst this; exact h.symm
  | false => rfl
def act (n : Nat) (ds : List Deferred) (ρ : Env) : Act := ⟨Array.ofFn (n := n) fun i => ρ i, ds⟩
def opv (n : Nat) (ρ : Env) : Operand → Value
 | .tmp t => bif Nat.blt t n then ρ t else undef
 | .const v => v
 | .global g => .pointer (some ⟨g, 0, none⟩)
 | .func f => .func (.func f) #[] #[]
theorem eval_act (n : Nat) (ds : List Deferred) (ρ : Env) : (act n ds ρ).eval = opv n ρ := by
 funext x
 cases x with
 | tmp t =>
  simp only [Act.eval, act, opv, Array.getD_eq_getD_getElem?, Array.getElem?_ofFn]
  by_cases h : t < n
  ·have : Nat.blt t n = true := by simpa [Nat.blt_eq] using h
   simp [h, this]
  ·have : Nat.blt t n = false := by
    cases hb : Nat.blt t n
    ·rfl
    ·exact absurd (by simpa [Nat.blt_eq] using hb) h
   simp [h, this]
 | const v => rfl
 | global g => rfl
 | func f => rfl
theorem put_act {n d : Nat} {ds : List Deferred} (ρ : Env) (v : Value) (h : Nat.blt d n = true) : (act n ds ρ).put (some d) v = act n ds (upd ρ d v) := by
 have hd : d < n := by simpa [Nat.blt_eq] using h
 simp only [Act.put, act, Act.mk.injEq, and_true]
 apply Array.ext
 ·simp
 ·intro i h1 h2
  simp only [Array.getElem_setIfInBounds, Array.getElem_ofFn, upd]
  by_cases e : d = i
  ·subst e; simp
  ·have : Nat.beq i d = false := by
    cases hb : Nat.beq i d
    ·rfl
    ·exact absurd (Nat.eq_of_beq_eq_true hb).symm e
   have h3 : i < (Array.ofFn (n := n) fun i => ρ i).size := by simpa using h1
   rw [this, Array.getElem_setIfInBounds h3, if_neg e]
   exact Array.getElem_ofFn _
def base (f : FuncId) (rd : Option Nat) : Frame := { (default : Frame) with fn := f, kind := .normal, roundOf := rd }
structure Ctx where
 P : Program
 f : FuncId
 n : Nat
 R : Ending → World → Prop
 rd : Option Nat
 ds : List Deferred
 lv : World → World
 okD : World → Prop
 T : List Frame → Machine → Prop
 hT : ∀ cs m m', Steps P m m' → T cs m' → T cs m
 hret : ∀ (fn : Func) (v : Value) (ρ : Env) (w : World), P.funcs[f]? = some fn → okD w → (results fn (act n ds ρ).tmps).run P (lv w) = .ok v (lv w) → R (.returned v) (lv w) →
  rd = none ∧ ∀ cs todo, T cs (lone { (base f rd).atR (act n ds ρ) todo with mode := .returning } cs w)
def Ends (C : Ctx) (k : List Item) (ρ : Env) (w : World) : Prop :=
 ∀ cs, C.T cs (lone ((base C.f C.rd).atR (act C.n C.ds ρ) k) cs w)
def QG (C : Ctx) (k : List Item) : Exit → Act → World → Prop := fun e a w => e = .normal ∧ ∃ ρ, a = act C.n C.ds ρ ∧ Ends C k ρ w
@[reducible] def Ctx.fn (P : Program) (f : FuncId) (n : Nat) (R : Ending → World → Prop) : Ctx where
 P := P
 f := f
 n := n
 R := R
 rd := none
 ds := []
 lv := fun w => w
 okD := fun _ => True
 T := fun cs m => ∃ e w' fr, R e w' ∧ Comes P m (lone fr cs w') e ∧ fr.fn = f ∧ fr.leaving P w' e
 hT := fun cs m m' hs ⟨e, w', fr, r, c, x, y⟩ => ⟨e, w', fr, r, Comes.of_steps hs c, x, y⟩
 hret := fun fn v ρ w hf _ hr h => ⟨rfl, fun cs todo => ⟨.returned v, w, _, h, Steps.refl _ _, rfl, rfl, rfl, rfl, fn, hf, hr⟩⟩
def argEnv (args : Array Value) : Env := fun i => args.getD i undef
theorem enter_act {args : Array Value} {n : Nat} (h : args.size ≤ n) : (⟨args ++ Array.replicate (n - args.size) undef, []⟩ : Act) = act n [] (argEnv args) := by
 simp only [act, Act.mk.injEq, and_true]
 apply Array.ext
 ·simp; omega
 ·intro i h1 h2
  simp only [Array.getElem_append, Array.getElem_ofFn, argEnv, Array.getD_eq_getD_getElem?]
  by_cases hi : i < args.size
  ·simp [hi]
  ·simp [hi]
theorem calls_of_go {P : Program} {f : FuncId} {fn : Func} {c : Code} {args : Array Value} {n : Nat} {w : World} {R : Ending → World → Prop}
  (hf : P.funcs[f]? = some fn) (hb : fn.body = some c) (hn : fn.ntmps = n) (ha : Nat.ble args.size n = true) (h : Ends (Ctx.fn P f n R) [.code c] (argEnv args) w) : Calls P f args w R := by
 intro cs
 have henter : Frame.enter P f args .normal = (base f none).atR (act n [] (argEnv args)) [.code c] := by
  rw [← enter_act (Nat.le_of_ble_eq_true ha)]
  subst hn
  simp [Frame.enter, Frame.atR, hf, hb, base]
 rw [henter]
 exact h cs

section
variable {C : Ctx} {k : List Item} {ρ : Env} {w : World}
theorem Ends.steps {k' : List Item} (hs : ∀ cs, Steps C.P (lone ((base C.f C.rd).atR (act C.n C.ds ρ) k) cs w) (lone ((base C.f C.rd).atR (act C.n C.ds ρ) k') cs w)) (h : Ends C k' ρ w) : Ends C k ρ w :=
 fun cs => C.hT cs _ _ (hs cs) (h cs)
theorem g_seq {x y : Code} (h : Ends C (.code x :: .code y :: k) ρ w) : Ends C (.code (.seq x y) :: k) ρ w := Ends.steps (fun _ => .one stepR_seq) h
theorem g_skip (h : Ends C k ρ w) : Ends C (.code .skip :: k) ρ w := Ends.steps (fun _ => .one stepR_skip) h
theorem g_inBlock {id : Nat} (h : Ends C k ρ w) : Ends C (.inBlock id :: k) ρ w := Ends.steps (fun _ => .one stepR_inBlock) h
theorem g_block {id : Nat} {c : Code} (h : Ends C (.code c :: .inBlock id :: k) ρ w) : Ends C (.code (.block id c) :: k) ρ w := Ends.steps (fun _ => .one stepR_block) h
theorem g_exit {id : Nat} {k' : List Item} (hk : exitTo id k = some k') (h : Ends C k' ρ w) : Ends C (.code (.exit id) :: k) ρ w := Ends.steps (fun _ => .one (stepR_exit hk)) h
theorem g_inLoop {c : Code} (h : Ends C (.code c :: .inLoop c :: k) ρ w) : Ends C (.inLoop c :: k) ρ w := Ends.steps (fun _ => .one stepR_inLoop) h
theorem g_loop {c : Code} (h : Ends C (.code c :: .inLoop c :: k) ρ w) : Ends C (.code (.loop c) :: k) ρ w := Ends.steps (fun _ => .one stepR_loop) h
theorem g_true {c : Operand} {x y : Code} (hc : opv C.n ρ c = .bool true) (h : Ends C (.code x :: k) ρ w) : Ends C (.code (.cond c x y) :: k) ρ w :=
 Ends.steps (k' := .code x :: k) (fun cs => .one (by have := stepR_cond (P := C.P) (b := base C.f C.rd) (a := act C.n C.ds ρ) (k := k) (cs := cs) (w := w) (x := x) (y := y) (c := c) (t := true) (by rw [eval_act]; exact hc); simpa using this)) h
theorem g_false {c : Operand} {x y : Code} (hc : opv C.n ρ c = .bool false) (h : Ends C (.code y :: k) ρ w) : Ends C (.code (.cond c x y) :: k) ρ w :=
 Ends.steps (k' := .code y :: k) (fun cs => .one (by have := stepR_cond (P := C.P) (b := base C.f C.rd) (a := act C.n C.ds ρ) (k := k) (cs := cs) (w := w) (x := x) (y := y) (c := c) (t := false) (by rw [eval_act]; exact hc); simpa using this)) h
theorem g_ret2 {fn : Func} {v : Value} {todo : List Item} (w' : World) (hw : C.lv w = w') (ho : C.okD w) (hf : C.P.funcs[C.f]? = some fn) (hr : (results fn (act C.n C.ds ρ).tmps).run C.P w' = .ok v w') (h : C.R (.returned v) w') : Ends C (.code .ret :: todo) ρ w := by
 subst hw
 intro cs
 obtain ⟨h1, h2⟩ := C.hret fn v ρ w hf ho hr h
 exact C.hT cs _ _ (.one (stepR_ret h1)) (h2 cs _)
theorem g_end2 {fn : Func} {v : Value} (w' : World) (hw : C.lv w = w') (ho : C.okD w) (hf : C.P.funcs[C.f]? = some fn) (hr : (results fn (act C.n C.ds ρ).tmps).run C.P w' = .ok v w') (h : C.R (.returned v) w') : Ends C [] ρ w := by
 subst hw
 intro cs
 obtain ⟨h1, h2⟩ := C.hret fn v ρ w hf ho hr h
 exact C.hT cs _ _ (.one (stepR_end h1)) (h2 cs _)
theorem g_loop_inv {α : Type} {c : Code} (slots : α → List (Nat × Value)) (Inv : α → World → Prop) (μ : α → Nat) (x0 : α) (hρ : agree ρ (slots x0)) (h0 : Inv x0 w)
  (round : ∀ x ρ w, Inv x w → (∀ x' ρ' w', Inv x' w' → μ x' < μ x → agree ρ' (slots x') → Ends C (.inLoop c :: k) ρ' w') → Ends C (.code c :: .inLoop c :: k) (upds ρ (slots x)) w) : Ends C (.code (.loop c) :: k) ρ w := by
 refine g_loop ?_
 have key : ∀ m x ρ w, μ x = m → Inv x w → agree ρ (slots x) → Ends C (.code c :: .inLoop c :: k) ρ w := by
  intro m
  induction m using Nat.strongRecOn with
  | _ m ih =>
   intro x ρ w hm hI ha
   have := round x ρ w hI (fun x' ρ' w' hI' hlt ha' => g_inLoop (ih (μ x') (hm ▸ hlt) x' ρ' w' rfl hI' ha'))
   rwa [upds_of_agree ρ _ ha] at this
 exact key _ x0 ρ w rfl h0 hρ
theorem g_meet {α : Type} {k : List Item} (slots : α → List (Nat × Value)) (Inv : α → World → Prop) (h : ∀ x ρ w, Inv x w → Ends C k (upds ρ (slots x)) w) : ∀ x ρ w, Inv x w → agree ρ (slots x) → Ends C k ρ w := by
 intro x ρ w hI ha
 have := h x ρ w hI
 rwa [upds_of_agree ρ _ ha] at this

theorem g_cut {α : Type} {it : Item} (slots : α → List (Nat × Value)) (Inv : α → World → Prop) (h : ∀ x ρ w, Inv x w → Ends C k (upds ρ (slots x)) w) (body : (∀ x ρ w, Inv x w → agree ρ (slots x) → Ends C k ρ w) → Ends C (it :: k) ρ w) : Ends C (it :: k) ρ w :=
 body (g_meet slots Inv h)
def yld (ops : Array Oper) (n : Nat) (ρ : Env) (j : Nat) : Option Bool :=
 match (ops[j]?).bind (·.dst) with
 | some d => match (bif Nat.blt d n then ρ d else undef : Value) with | .bool b => some b | _ => none
 | none => none
theorem yielded_act {ops : Array Oper} (n : Nat) (ds : List Deferred) (ρ : Env) (j : Nat) : yielded ops (act n ds ρ).tmps j = yld ops n ρ j := by
 unfold yielded yld
 cases (ops[j]?).bind (·.dst) with
 | none => rfl
 | some d =>
  simp only [Option.bind_some, act, Array.getElem?_ofFn]
  by_cases h : d < n
  ·have : Nat.blt d n = true := by simpa [Nat.blt_eq] using h
   simp only [dif_pos h, this, cond_true]
   cases ρ d <;> rfl
  ·have : Nat.blt d n = false := by
    cases hb : Nat.blt d n
    ·rfl
    ·exact absurd (by simpa [Nat.blt_eq] using hb) h
   simp only [dif_neg h, this, cond_false]
   rfl
def Round1 (P : Program) (l : Nat) (f : FuncId) (tmps : Array Value) (assign body : Code) (w : World) (R : Value → World → Prop) : Prop :=
 ∀ (c : Frame) (cs : List Frame), ∃ v w', R v w' ∧ Steps P (lone (Frame.round l f tmps assign body .normal) (c :: cs) w) (lone (c.finish v) cs w')
theorem Round1.mono {P : Program} {l : Nat} {f : FuncId} {tmps : Array Value} {assign body : Code} {w : World} {R R' : Value → World → Prop} (h : Round1 P l f tmps assign body w R) (hr : ∀ v w', R v w' → R' v w') : Round1 P l f tmps assign body w R' :=
 fun c cs => let ⟨v, w', r, s⟩ := h c cs; ⟨v, w', hr _ _ r, s⟩
def upon1 (P : Program) (d : Option Tmp) (a : Act) (K : Act → World → Prop) : Result Next → Prop
 | .ok (.value v) w' => K (a.put d v) w'
 | .ok .skip w' => K (a.put d undef) w'
 | .ok (.enter f args) w' => Calls P f args w' fun e w'' => ∃ v, e = .returned v ∧ K (a.put d v) w''
 | .ok (.row row args) w' => Rows P row args w' fun v w'' => K (a.put d v) w''
 | .ok (.round l f tmps assign body) w' => Round1 P l f tmps assign body w' fun v w'' => K (a.put d v) w''
 | _ => False
def wp1 (P : Program) (o : Oper) (a : Act) (w : World) (K : Act → World → Prop) : Prop := upon1 P o.dst a K ((execOp a.eval o).run P w)
theorem upon1.mono {P : Program} {d : Option Tmp} {a : Act} {K K' : Act → World → Prop} (h : ∀ a w, K a w → K' a w) {r : Result Next} (u : upon1 P d a K r) : upon1 P d a K' r := by
 cases r with
 | ok n w' =>
  cases n <;> simp only [upon1] at u ⊢ <;> first
   | exact h _ _ u
   | exact Calls.mono u (fun e w'' ⟨v, he, hk⟩ => ⟨v, he, h _ _ hk⟩)
   | exact Rows.mono u (fun _ _ he => h _ _ he)
   | exact Round1.mono u (fun _ _ he => h _ _ he)
 | halt x w' => simp only [upon1] at u
theorem wp1.mono {P : Program} {o : Oper} {a : Act} {w : World} {K K' : Act → World → Prop} (h : ∀ a w, K a w → K' a w) (u : wp1 P o a w K) : wp1 P o a w K' := upon1.mono h u
@[reducible] def wideR (rd : Option Nat) : Fence := { Fence.wide with round := rd }
theorem callsR {rd : Option Nat} {n : Nat} {P : Program} {f : FuncId} {args : Array Value} {w : World} {R : Ending → World → Prop} (h : Calls P f args w R) : CallsIn (wideR rd) n P f args w R :=
 (callsIn_wide (n := n)).2 h
theorem stepsR {rd : Option Nat} {P : Program} {m m' : Machine} (h : Steps P m m') : StepsIn (Machine.fenced P (wideR rd)) P m m' := stepsIn_wide.2 h
theorem wp1_in {rd : Option Nat} {P : Program} {o : Oper} {a : Act} {w : World} {K : Act → World → Prop} (u : wp1 P o a w K) : o.wpIn (wideR rd) 0 P a w K (fun _ _ _ => False) := by
 refine ⟨fun _ _ => trivial, ?_⟩
 have hs : (o.semAt rd a.eval).run P w = (execOp a.eval o).run P w := by
  rw [Oper.semAt_eq]
  intro c hc
  unfold wp1 at u
  have e1 : execOp a.eval o = (do let d ← resolve a.eval c o.type; pure (.defer d)) := by
   cases o with | mk dst op type pos after guard => simp only at hc; subst hc; rfl
  rw [e1] at u
  simp only [Sem.run_bind] at u
  cases hr : (resolve a.eval c o.type).run P w with
  | ok d w' => rw [hr] at u; simp only [Result.andThen_ok, Sem.run_pure, upon1] at u
  | halt x w' => rw [hr] at u; simp only [Result.andThen, upon1] at u
 show o.uponIn (wideR rd) 0 P a K (fun _ _ _ => False) ((o.semAt rd a.eval).run P w)
 rw [hs]
 unfold wp1 at u
 generalize (execOp a.eval o).run P w = r at u
 cases r with
 | halt x w' => simp only [upon1] at u
 | ok n w' =>
  cases n <;> simp only [upon1] at u
  case value v => exact u
  case skip => exact u
  case enter f args =>
   refine ⟨fun h => by simp [Fence.wide] at h, callsR (u.mono fun e w'' ⟨v, he, hk⟩ => ?_)⟩
   subst he
   exact hk
  case row row args =>
   refine ⟨fun h => by simp [Fence.wide] at h, fun c cs _ => ?_⟩
   obtain ⟨v, w'', h1, h2⟩ := u c cs
   exact ⟨v, w'', h1, stepsR h2⟩
  case round l f tmps assign body =>
   refine ⟨fun h => by simp [Fence.wide] at h, trivial, fun c cs _ => ?_⟩
   obtain ⟨v, w'', h1, h2⟩ := u c cs
   exact ⟨.returned v, w'', h1, stepsR h2⟩
theorem Oper.wpIn_exit {F : Fence} {n : Nat} {P : Program} {o : Oper} {a : Act} {w : World} {K : Act → World → Prop} {Q Q' : Exit → Act → World → Prop} (hq : ∀ e a w, Q e a w → Q' e a w) (h : o.wpIn F n P a w K Q) : o.wpIn F n P a w K Q' := by
 unfold Oper.wpIn at *
 refine ⟨h.1, ?_⟩
 have h := h.2
 generalize (o.semAt F.round a.eval).run P w = r at *
 cases r with
 | ok n w' =>
  cases n <;> simp only [Oper.uponIn] at h ⊢ <;> first
   | exact h
   | exact ⟨h.1, CallsIn.mono h.2 (fun e w'' he => by cases e <;> first | exact he | exact hq _ _ _ he | (obtain ⟨a0, w0, hh⟩ := he; exact ⟨a0, w0, hq _ _ _ hh⟩))⟩
   | exact ⟨h.1, RoundIn.mono h.2 (fun e w'' he => by cases e <;> first | exact he | exact hq _ _ _ he | (obtain ⟨a0, w0, hh⟩ := he; exact ⟨a0, w0, hq _ _ _ hh⟩))⟩
 | halt x w' => cases x <;> simp only [Oper.uponIn] at h ⊢ <;> first | exact h | exact hq _ _ _ h
def onAct (n : Nat) (ds : List Deferred) (K : Env → World → Prop) : Act → World → Prop := fun a w => ∃ ρ, a = act n ds ρ ∧ K ρ w
def GOp (C : Ctx) (ops : Array Oper) (o : Oper) (K : Env → World → Prop) (ρ : Env) (w : World) : Prop :=
 if Region.wanted o (yielded ops (act C.n C.ds ρ).tmps) then wp1 C.P o (act C.n C.ds ρ) w (onAct C.n C.ds K) else onAct C.n C.ds K ((act C.n C.ds ρ).put o.dst undef) w
def Reg (C : Ctx) (ops : Array Oper) : List Oper → List Item → Env → World → Prop
 | [], k, ρ, w => Ends C k ρ w
 | o :: rest, k, ρ, w => GOp C ops o (Reg C ops rest k) ρ w
variable {ops : Array Oper}
theorem GOp.mono {o : Oper} {K K' : Env → World → Prop} (h : ∀ ρ w, K ρ w → K' ρ w) (g : GOp C ops o K ρ w) : GOp C ops o K' ρ w := by
 unfold GOp at *
 split at g
 ·rename_i hw
  rw [if_pos hw]
  exact wp1.mono (fun a w ⟨ρ, e, k⟩ => ⟨ρ, e, h _ _ k⟩) g
 ·rename_i hw
  rw [if_neg hw]
  obtain ⟨ρ, e, k⟩ := g
  exact ⟨ρ, e, h _ _ k⟩
theorem Reg.list : ∀ (l : List Oper) (ρ : Env) (w : World), Reg C ops l k ρ w → wpListIn (wideR C.rd) 0 C.P ops (QG C k) l (act C.n C.ds ρ) w
 | [], ρ, w, h => ⟨rfl, ρ, rfl, h⟩
 | o :: rest, ρ, w, h => by
  have h : GOp C ops o (Reg C ops rest k) ρ w := h
  unfold wpListIn
  unfold GOp at h
  split at h
  ·rename_i hw
   rw [if_pos hw]
   refine Oper.wpIn_exit (fun _ _ _ h => h.elim) (Oper.wpIn_mono (fun a w ⟨ρ, e, k⟩ => ?_) (wp1_in h))
   rw [e]
   exact Reg.list rest _ _ k
  ·rename_i hw
   rw [if_neg hw]
   obtain ⟨ρ', e, k⟩ := h
   rw [e]
   exact ⟨fun _ _ => trivial, Reg.list rest _ _ k⟩
theorem ends_of_wp {c : Code} (h : c.wpIn (wideR C.rd) 0 C.P (QG C k) (act C.n C.ds ρ) w) : Ends C (.code c :: k) ρ w := by
 intro cs
 obtain ⟨e, a', w', ⟨he, ρ', ha, hg⟩, harr⟩ := h (base C.f C.rd) k cs rfl trivial (room_wide _)
 subst he
 subst ha
 exact C.hT cs _ _ (StepsIn.steps harr) (hg cs)
theorem g_region {id : Nat} {l : List Oper} (h : Reg C l.toArray l k ρ w) : Ends C (.code (.region id l.toArray false) :: k) ρ w :=
 ends_of_wp (wpIn_region_lit (id := id) (Reg.list _ _ _ h))
theorem r_nil (h : Ends C k ρ w) : Reg C ops [] k ρ w := h
theorem r_cons {o : Oper} {rest : List Oper} (h : GOp C ops o (Reg C ops rest k) ρ w) : Reg C ops (o :: rest) k ρ w := h
variable {K : Env → World → Prop} {w' : World} {d ty : Nat} {pos : String} {af : Array Edge} {v : Value}
theorem r_val {o : Oper} (hg : o.guard = none) (hd : o.dst = some d) (hn : Nat.blt d C.n = true) (hr : (execOp (opv C.n ρ) o).run C.P w = .ok (.value v) w') (h : K (upd ρ d v) w') : GOp C ops o K ρ w := by
 unfold GOp
 rw [if_pos (by simp [Region.wanted, hg])]
 unfold wp1
 rw [eval_act, hr]
 simp only [upon1]
 rw [hd, put_act ρ v hn]
 exact ⟨_, rfl, h⟩
theorem r_skip0 {o : Oper} (hg : o.guard = none) (hd : o.dst = none) (hr : (execOp (opv C.n ρ) o).run C.P w = .ok .skip w') (h : K ρ w') : GOp C ops o K ρ w := by
 unfold GOp
 rw [if_pos (by simp [Region.wanted, hg])]
 unfold wp1
 rw [eval_act, hr]
 simp only [upon1]
 rw [hd]
 exact ⟨_, rfl, h⟩
def Ret (Q : Value → World → Prop) : Ending → World → Prop
 | .returned v, w => Q v w
 | _, _ => False
theorem r_enter {o : Oper} {f : FuncId} {args : Array Value} {Q : Value → World → Prop} (hg : o.guard = none) (hd : o.dst = some d) (hn : Nat.blt d C.n = true)
  (hr : (execOp (opv C.n ρ) o).run C.P w = .ok (.enter f args) w) (hc : Calls C.P f args w (Ret Q)) (h : ∀ v w', Q v w' → K (upd ρ d v) w') : GOp C ops o K ρ w := by
 unfold GOp
 rw [if_pos (by simp [Region.wanted, hg])]
 unfold wp1
 rw [eval_act, hr]
 simp only [upon1]
 refine hc.mono fun e w' he => ?_
 cases e with
 | returned v => refine ⟨v, rfl, ?_⟩; rw [hd, put_act ρ v hn]; exact ⟨_, rfl, h v w' he⟩
 | panicked c => exact he.elim
 | outgrown => exact he.elim
theorem r_pass {o : Oper} {j : Nat} {want b : Bool} (hg : o.guard = some (j, want)) (hy : yld ops C.n ρ j = some b) (hb : (b == want) = false) (hd : o.dst = some d) (hn : Nat.blt d C.n = true) (h : K (upd ρ d undef) w) : GOp C ops o K ρ w := by
 have : Region.wanted o (yielded ops (act C.n C.ds ρ).tmps) = false := by
  simp only [Region.wanted, hg, yielded_act, hy]
  cases b <;> cases want <;> simp_all
 unfold GOp
 rw [this, hd, put_act ρ undef hn]
 exact ⟨_, rfl, h⟩
theorem r_passN {o : Oper} {j : Nat} {want : Bool} (hg : o.guard = some (j, want)) (hy : yld ops C.n ρ j = none) (hd : o.dst = some d) (hn : Nat.blt d C.n = true) (h : K (upd ρ d undef) w) : GOp C ops o K ρ w := by
 have : Region.wanted o (yielded ops (act C.n C.ds ρ).tmps) = false := by
  simp only [Region.wanted, hg, yielded_act, hy]
  cases want <;> rfl
 unfold GOp
 rw [this, hd, put_act ρ undef hn]
 exact ⟨_, rfl, h⟩
theorem execOp_guard (e : Operand → Value) (o : Oper) (g : Option (Nat × Bool)) : execOp e { o with guard := g } = execOp e o := by
 cases o with | mk dst op type pos after guard => cases op <;> rfl
theorem r_take {o : Oper} {j : Nat} {want : Bool} (hg : o.guard = some (j, want)) (hy : yld ops C.n ρ j = some want) (h : GOp C ops { o with guard := none } K ρ w) : GOp C ops o K ρ w := by
 unfold GOp at h ⊢
 have : Region.wanted o (yielded ops (act C.n C.ds ρ).tmps) = true := by
  simp only [Region.wanted, hg, yielded_act, hy]
  cases want <;> rfl
 rw [this]
 have h2 : Region.wanted { o with guard := none } (yielded ops (act C.n C.ds ρ).tmps) = true := rfl
 rw [h2] at h
 simp only [if_true] at h ⊢
 unfold wp1 at h ⊢
 rw [execOp_guard] at h
 exact h

end
def xOp (P : Program) (ops : Array Oper) (i : Nat) (K : Act → World → Prop) (a : Act) (w : World) : Prop :=
 match ops[i]? with
 | none => K a w
 | some o => if Region.wanted o (yielded ops a.tmps) then wp1 P o a w K else K (a.put o.dst undef) w
section
variable {P : Program} {ops : Array Oper} {md : Region.Mode} {σ : Type} {V : σ → World → Prop}
theorem xOp_mono {i : Nat} {a : Act} {w : World} {K K' : Act → World → Prop} (h : ∀ a w, K a w → K' a w) (hh : xOp P ops i K a w) : xOp P ops i K' a w := by
 unfold xOp at *
 split
 ·exact h _ _ (by simpa [*] using hh)
 ·rename_i o ho
  simp only [ho] at hh
  split
  ·rename_i hw; simp only [hw, if_true] at hh; exact wp1.mono h hh
  ·rename_i hw; simp only [hw] at hh; exact h _ _ hh
theorem wpOp_of_xOp {rd : Option Nat} {i : Nat} {a : Act} {w : World} {K : Act → World → Prop} {Q : Exit → Act → World → Prop} (hh : xOp P ops i K a w) : wpOpIn (wideR rd) 0 P ops Q i K a w := by
 unfold xOp at hh
 unfold wpOpIn
 split
 ·exact (by simpa [*] using hh)
 ·rename_i o ho
  simp only [ho] at hh
  split
  ·rename_i hw; simp only [hw, if_true] at hh; exact Oper.wpIn_exit (fun _ _ _ h => h.elim) (wp1_in hh)
  ·rename_i hw; simp only [hw] at hh; exact ⟨fun _ _ => trivial, hh⟩
def fAny (P : Program) (md : Region.Mode) (ops : Array Oper) (V : σ → World → Prop) (Q : Act → σ → Prop) : Nat → Array Bool → Act → σ → Prop
 | 0, listed, a, s => Region.ready md ops listed = [] ∧ Q a s
 | fuel + 1, listed, a, s => (Region.ready md ops listed = [] → Q a s) ∧
  ∀ i ∈ Region.ready md ops listed, ∀ w, V s w → xOp P ops i (fun a' w' => ∃ s', fAny P md ops V Q fuel (listed.setIfInBounds i true) a' s' ∧ V s' w') a w
theorem wpAny_of_fAny {rd : Option Nat} {Q : Act → σ → Prop} {Q' : Exit → Act → World → Prop} (hQ : ∀ a s w, V s w → Q a s → Q' .normal a w) : ∀ (fuel : Nat) (listed : Array Bool) (a : Act) (s : σ) (w : World), V s w →
  fAny P md ops V Q fuel listed a s → wpAnyIn (wideR rd) 0 P md ops Q' fuel listed a w
 | 0, _, _, _, _, hw, h => ⟨h.1, hQ _ _ _ hw h.2⟩
 | fuel + 1, _, _, _, _, hw, h => ⟨fun h0 => hQ _ _ _ hw (h.1 h0), fun i hi => wpOp_of_xOp (xOp_mono (fun a' w' ⟨s', hf, hv⟩ => wpAny_of_fAny hQ fuel _ a' s' w' hv hf) (h.2 i hi _ hw))⟩
def YieldsF (P : Program) (ops : Array Oper) (V : σ → World → Prop) (o : Oper) (v : Value) (a : Act) : Prop :=
 (Region.wanted o (yielded ops a.tmps) = true ∧ ∀ s w, V s w → o.quietAt P a (V s) w v) ∨ (Region.wanted o (yielded ops a.tmps) = false ∧ v = undef)
theorem YieldsF.xOp {i : Nat} {o : Oper} {v : Value} {a : Act} (hi : ops[i]? = some o) (hy : YieldsF P ops V o v a) {s : σ} {w : World} (hv : V s w) {K : Act → World → Prop} (h : ∀ w', V s w' → K (a.put o.dst v) w') : xOp P ops i K a w := by
 unfold Sl.xOp
 simp only [hi]
 rcases hy with ⟨hw, hq⟩ | ⟨hw, rfl⟩
 ·simp only [hw, if_true]
  have h3 := hq s w hv
  unfold Oper.quietAt at h3
  unfold wp1
  generalize (execOp a.eval o).run P w = r at *
  cases r with
  | ok n w' =>
   cases n <;> simp only [Oper.quietUpon] at h3 <;> simp only [upon1]
   case value u =>
    obtain ⟨e1, e2⟩ := h3
    rw [e1, e2]
    exact h _ hv
   case skip =>
    obtain ⟨e1, e2⟩ := h3
    rw [e1, ← e2]
    exact h _ hv
   case enter f args =>
    obtain ⟨e1, hc⟩ := h3
    rw [e1]
    exact hc.mono fun e w'' ⟨he, hw''⟩ => ⟨v, he, h _ hw''⟩
  | halt x w' => simp only [Oper.quietUpon] at h3
 ·simp only [hw, Bool.false_eq_true, if_false]
  exact h _ hv
theorem YieldsF.of_same {o : Oper} {v : Value} {a a' : Act} (hy : YieldsF P ops V o v a) (he : execOp a'.eval o = execOp a.eval o)
  (hw : Region.wanted o (yielded ops a'.tmps) = Region.wanted o (yielded ops a.tmps)) : YieldsF P ops V o v a' := by
 unfold YieldsF Oper.quietAt at *
 rw [he, hw]
 exact hy
theorem xOp_put {j : Nat} {oi oj : Oper} {v : Value} (hj : ops[j]? = some oj) (hap : oi.apart ops oj = true)
  (hsi : ∀ cs b, oi.op ≠ .select cs b) (hsj : ∀ cs b, oj.op ≠ .select cs b) {K : Act → World → Prop} {a : Act} {w : World}
  (hy : YieldsF P ops V oi v a) (h : xOp P ops j K (a.put oi.dst v) w) :
  xOp P ops j (fun a' w' => YieldsF P ops V oi v a' ∧ K (a'.put oi.dst v) w') a w := by
 obtain ⟨h1, h2, h3⟩ := Oper.apart_spec hap
 have keep : ∀ (a : Act), YieldsF P ops V oi v a → ∀ u, YieldsF P ops V oi v (a.put oj.dst u) := fun a hy u =>
  hy.of_same (execOp_put oi hsi a oj.dst u h3) (wanted_put oi a oj.dst u h3)
 unfold xOp at *
 simp only [hj] at *
 rw [wanted_put oj a oi.dst v h1] at h
 split
 ·rename_i hw
  simp only [hw, if_true] at h
  unfold wp1 at *
  rw [execOp_put oj hsj a oi.dst v h1] at h
  generalize (execOp a.eval oj).run P w = r at *
  cases r with
  | ok n w' =>
   cases n <;> simp only [upon1] at h ⊢
   case value u => exact ⟨keep a hy u, by rw [← Act.put_comm a v u h2]; exact h⟩
   case skip => exact ⟨keep a hy _, by rw [← Act.put_comm a v undef h2]; exact h⟩
   case enter f args =>
    exact Calls.mono h fun e w'' ⟨u, he, hk⟩ => ⟨u, he, keep a hy u, by rw [← Act.put_comm a v u h2]; exact hk⟩
   case row =>
    exact Rows.mono h fun u w'' he => ⟨keep a hy u, by rw [← Act.put_comm a v u h2]; exact he⟩
   case round =>
    exact Round1.mono h fun u w'' he => ⟨keep a hy u, by rw [← Act.put_comm a v u h2]; exact he⟩
  | halt x w' => simp only [upon1] at h
 ·rename_i hw
  simp only [hw] at h
  exact ⟨keep a hy _, by rw [← Act.put_comm a v undef h2]; exact h⟩
theorem fAny_first {Q : Act → σ → Prop} {i : Nat} {oi : Oper} {v : Value} (hi : ops[i]? = some oi) (hsel : ∀ (j : Nat) (o : Oper) cs b, ops[j]? = some o → o.op ≠ .select cs b) :
  ∀ (fuel : Nat) (listed : Array Bool) (a : Act) (s : σ),
   (∀ j oj, ops[j]? = some oj → j ≠ i → listed.getD j true = false → (∀ e ∈ oj.after, Region.binds md e = true → e.on ≠ i) → oi.apart ops oj = true) →
   i ∈ Region.ready md ops listed → YieldsF P ops V oi v a →
   fAny P md ops V Q fuel (listed.setIfInBounds i true) (a.put oi.dst v) s → fAny P md ops V Q (fuel + 1) listed a s := by
 intro fuel
 induction fuel with
 | zero =>
  intro listed a s _ hr hy H
  refine ⟨fun h => (by rw [h] at hr; cases hr), fun j hj w hw => ?_⟩
  by_cases hji : j = i
  ·subst hji; exact hy.xOp hi hw fun w' hw' => ⟨s, H, hw'⟩
  ·have := ready_mono hj hji
   rw [H.1] at this
   cases this
 | succ fuel ih =>
  intro listed a s hfree hr hy H
  refine ⟨fun h => (by rw [h] at hr; cases hr), fun j hj w hw => ?_⟩
  by_cases hji : j = i
  ·subst hji; exact hy.xOp hi hw fun w' hw' => ⟨s, H, hw'⟩
  ·have h1 := H.2 j (ready_mono hj hji) w hw
   obtain ⟨hjun, oj, hoj, hall⟩ := mem_ready.1 hj
   have hnot : ∀ e ∈ oj.after, Region.binds md e = true → e.on ≠ i := fun e he hb heq => by
    have h1 := hall e he hb
    have h0 := (mem_ready.1 hr).1
    rw [heq] at h1
    rcases Nat.lt_or_ge i listed.size with h' | h'
    ·simp [h'] at h0 h1; rw [h0] at h1; cases h1
    ·simp [Array.getElem?_eq_none h'] at h1
   have h2 := xOp_put hoj (hfree j oj hoj hji hjun hnot) (fun cs b => hsel i oi cs b hi) (fun cs b => hsel j oj cs b hoj) hy h1
   have hfree' : ∀ k ok, ops[k]? = some ok → k ≠ i → (listed.setIfInBounds j true).getD k true = false →
     (∀ e ∈ ok.after, Region.binds md e = true → e.on ≠ i) → oi.apart ops ok = true := fun k ok hk hki hun hno => by
    refine hfree k ok hk hki ?_ hno
    by_cases hjk : j = k
    ·subst hjk; exact hjun
    ·rw [getD_set_ne true hjk] at hun; exact hun
   refine xOp_mono (fun a' w' ⟨h3, s', h4, hv'⟩ => ⟨s', ih (listed.setIfInBounds j true) a' s' hfree' (ready_mono hr (Ne.symm hji)) h3 ?_, hv'⟩) h2
   rw [Array.setIfInBounds_comm _ _ hji]
   exact h4
end
section
variable {C : Ctx} {ρ : Env} {w : World} {k : List Item} {ops : Array Oper} {v : Value} {d : Nat} {σ : Type} {V : σ → World → Prop} {s : σ}
def FReg (C : Ctx) (ops : Array Oper) (V : σ → World → Prop) (k : List Item) (fuel : Nat) (listed : Array Bool) (ρ : Env) (s : σ) : Prop :=
 fAny C.P .any ops V (fun a s => ∃ ρ, a = act C.n C.ds ρ ∧ ∀ w, V s w → Ends C k ρ w) fuel listed (act C.n C.ds ρ) s
def FOp (C : Ctx) (ops : Array Oper) (V : σ → World → Prop) (o : Oper) (K : Env → Prop) (ρ : Env) : Prop :=
 if Region.wanted o (yielded ops (act C.n C.ds ρ).tmps) then ∃ v, (∀ s w, V s w → o.quietAt C.P (act C.n C.ds ρ) (V s) w v) ∧ ∃ ρ', (act C.n C.ds ρ).put o.dst v = act C.n C.ds ρ' ∧ K ρ' else ∃ ρ', (act C.n C.ds ρ).put o.dst undef = act C.n C.ds ρ' ∧ K ρ'
theorem g_mix {id : Nat} {l : List Oper} (V : σ → World → Prop) (s : σ) (hm : C.P.follows .mixedOrders = true) (n : Nat) (hn : l.length = n) (hJ : V s w.drew) (h : FReg C l.toArray V k n (Array.replicate n false) ρ s) : Ends C (.code (.region id l.toArray true) :: k) ρ w := by
 subst hn
 refine ends_of_wp (wpIn_region_any hm ?_)
 have := wpAny_of_fAny (rd := C.rd) (P := C.P) (md := .any) (Q' := QG C k) (fun a s w hv ⟨ρ, e, hE⟩ => ⟨rfl, ρ, e, hE w hv⟩) _ _ _ _ _ hJ h
 simpa using this
theorem f_done {listed : Array Bool} {fuel : Nat} (hr : Region.ready .any ops listed = []) (h : ∀ w, V s w → Ends C k ρ w) : FReg C ops V k fuel listed ρ s := by
 cases fuel with
 | zero => exact ⟨hr, ρ, rfl, h⟩
 | succ n => exact ⟨fun _ => ⟨ρ, rfl, h⟩, by rw [hr]; simp⟩
theorem f_first (i : Nat) {o : Oper} {fuel : Nat} {listed listed' : Array Bool} (hi : ops[i]? = some o) (hs : Region.noSelect ops = true) (hf : Region.free .any ops listed i = true) (hr : (Region.ready .any ops listed).contains i = true) (hl : listed.setIfInBounds i true = listed')
  (h : FOp C ops V o (fun ρ' => FReg C ops V k fuel listed' ρ' s) ρ) : FReg C ops V k (fuel + 1) listed ρ s := by
 subst hl
 unfold FOp at h
 split at h
 ·rename_i hw
  obtain ⟨v, hq, ρ', e, h⟩ := h
  refine fAny_first (v := v) hi (Region.noSelect_spec hs) fuel listed _ s (Region.free_spec hi hf) (by simpa using hr) (.inl ⟨hw, hq⟩) ?_
  rw [e]
  exact h
 ·rename_i hw
  obtain ⟨ρ', e, h⟩ := h
  refine fAny_first (v := undef) hi (Region.noSelect_spec hs) fuel listed _ s (Region.free_spec hi hf) (by simpa using hr) (.inr ⟨by simpa using hw, rfl⟩) ?_
  rw [e]
  exact h
theorem f_all {rs : List Nat} {fuel : Nat} {listed : Array Bool} (hr : Region.ready .any ops listed = rs) (hne : rs ≠ [])
  (h : ∀ i ∈ rs, ∃ o, ops[i]? = some o ∧ ∀ w, V s w → GOp C ops o (fun ρ' w' => ∃ s', FReg C ops V k fuel (listed.setIfInBounds i true) ρ' s' ∧ V s' w') ρ w) : FReg C ops V k (fuel + 1) listed ρ s := by
 refine ⟨fun h0 => absurd (hr ▸ h0) hne, fun i hi w hw => ?_⟩
 obtain ⟨o, ho, g⟩ := h i (hr ▸ hi)
 have g := g w hw
 unfold GOp at g
 unfold xOp
 simp only [ho]
 split at g
 ·rename_i hw
  rw [if_pos hw]
  exact wp1.mono (fun a w ⟨ρ, e, s', hk, hv⟩ => ⟨s', by rw [e]; exact hk, hv⟩) g
 ·rename_i hw
  rw [if_neg hw]
  obtain ⟨ρ', e, s', hk, hv⟩ := g
  exact ⟨s', by rw [e]; exact hk, hv⟩
theorem f_val {K : Env → Prop} {o : Oper} (hg : o.guard = none) (hd : o.dst = some d) (hn : Nat.blt d C.n = true) (hr : ∀ s w, V s w → (execOp (opv C.n ρ) o).run C.P w = .ok (.value v) w) (h : K (upd ρ d v)) : FOp C ops V o K ρ := by
 unfold FOp
 rw [if_pos (by simp [Region.wanted, hg])]
 refine ⟨v, fun s w hw => ?_, _, by rw [hd, put_act ρ v hn], h⟩
 unfold Oper.quietAt
 rw [eval_act, hr s w hw]
 exact ⟨rfl, rfl⟩
theorem f_enter {K : Env → Prop} {o : Oper} {f : FuncId} {args : Array Value} (hg : o.guard = none) (hd : o.dst = some d) (hn : Nat.blt d C.n = true)
  (hr : ∀ w, (execOp (opv C.n ρ) o).run C.P w = .ok (.enter f args) w) (hc : ∀ s w, V s w → Calls C.P f args w (Ret fun u w' => u = v ∧ V s w')) (h : K (upd ρ d v)) : FOp C ops V o K ρ := by
 unfold FOp
 rw [if_pos (by simp [Region.wanted, hg])]
 refine ⟨v, fun s w hw => ?_, _, by rw [hd, put_act ρ v hn], h⟩
 unfold Oper.quietAt
 rw [eval_act, hr w]
 refine ⟨rfl, (hc s w hw).mono fun e w' he => ?_⟩
 cases e with
 | returned u => exact ⟨by rw [he.1], he.2⟩
 | panicked c => exact he.elim
 | outgrown => exact he.elim
theorem f_take {K : Env → Prop} {o : Oper} {j : Nat} {want : Bool} (hg : o.guard = some (j, want)) (hy : yld ops C.n ρ j = some want) (h : FOp C ops V { o with guard := none } K ρ) : FOp C ops V o K ρ := by
 unfold FOp at h ⊢
 have : Region.wanted o (yielded ops (act C.n C.ds ρ).tmps) = true := by
  simp only [Region.wanted, hg, yielded_act, hy]
  cases want <;> rfl
 rw [this]
 have h2 : Region.wanted { o with guard := none } (yielded ops (act C.n C.ds ρ).tmps) = true := rfl
 rw [h2] at h
 simp only [if_true] at h ⊢
 unfold Oper.quietAt at h ⊢
 rw [execOp_guard] at h
 exact h
end
section
variable {C : Ctx} {k : List Item} {ρ : Env} {w : World} {ops : Array Oper} {K : Env → World → Prop} {w' : World} {d ty : Nat} {pos : String} {af : Array Edge} {v : Value}
def QOp (C : Ctx) (ops : Array Oper) (J : World → Prop) (o : Oper) (K : Env → Prop) (ρ : Env) : Prop :=
 if Region.wanted o (yielded ops (act C.n C.ds ρ).tmps) then ∃ v, (∀ w, J w → o.quietAt C.P (act C.n C.ds ρ) J w v) ∧ ∃ ρ', (act C.n C.ds ρ).put o.dst v = act C.n C.ds ρ' ∧ K ρ' else ∃ ρ', (act C.n C.ds ρ).put o.dst undef = act C.n C.ds ρ' ∧ K ρ'
def QReg (C : Ctx) (ops : Array Oper) (J : World → Prop) : List Oper → (Env → Prop) → Env → Prop
 | [], K, ρ => K ρ
 | o :: rest, K, ρ => QOp C ops J o (QReg C ops J rest K) ρ
theorem fAny_lex {P : Program} {ops : Array Oper} {md : Region.Mode} {J : World → Prop} {Q : Act → Prop} (hs : Region.noSelect ops = true) : ∀ (l : List Oper) (k : Nat) (listed : Array Bool) (a : Act), (∀ j, l[j]? = ops[k + j]?) →
  Region.lexFrom md ops l.length k listed = true → wpQuiet P ops J Q l a → fAny P md ops (fun (_ : Unit) w => J w) (fun a _ => Q a) l.length listed a ()
 | [], _, _, _, _, hB, h => ⟨by simpa [Region.lexFrom] using hB, h⟩
 | o :: l, k, listed, a, hl, hB, h => by
  have h0 : ops[k]? = some o := by simpa using (hl 0).symm
  simp only [List.length_cons, Region.lexFrom, Bool.and_eq_true] at hB
  obtain ⟨⟨hr, hf⟩, hB'⟩ := hB
  have hst : qOp P ops J k (wpQuiet P ops J Q l) a := by unfold qOp; simp only [h0]; exact h
  obtain ⟨v, hy, hK⟩ := yieldsIn_of_qOp h0 hst
  have hy' : YieldsF P ops (fun (_ : Unit) w => J w) o v a := by
   rcases hy with ⟨h1, h2⟩ | ⟨h1, h2⟩
   ·exact .inl ⟨h1, fun _ w hw => h2 w hw⟩
   ·exact .inr ⟨h1, h2⟩
  exact fAny_first h0 (Region.noSelect_spec hs) l.length listed a () (Region.free_spec h0 hf) (by simpa using hr) hy'
   (fAny_lex hs l (k + 1) _ _ (fun j => by have := hl (j + 1); simpa [Nat.add_assoc, Nat.add_comm 1 j] using this) hB' hK)
theorem QReg.list {J : World → Prop} {K : Env → Prop} : ∀ (l : List Oper) (ρ : Env), QReg C ops J l K ρ → wpQuiet C.P ops J (fun a => ∃ ρ, a = act C.n C.ds ρ ∧ K ρ) l (act C.n C.ds ρ)
 | [], ρ, h => ⟨ρ, rfl, h⟩
 | o :: rest, ρ, h => by
  have h : QOp C ops J o (QReg C ops J rest K) ρ := h
  unfold QOp at h
  unfold wpQuiet
  split at h
  ·rename_i hw
   rw [if_pos hw]
   obtain ⟨v, h1, ρ', e, h2⟩ := h
   refine ⟨v, h1, ?_⟩
   rw [e]
   exact QReg.list rest ρ' h2
  ·rename_i hw
   rw [if_neg hw]
   obtain ⟨ρ', e, h2⟩ := h
   rw [e]
   exact QReg.list rest ρ' h2
theorem g_quiet {id : Nat} {l : List Oper} (J : World → Prop) (hm : C.P.follows .mixedOrders = true) (hB : Region.lexB .any l.toArray = true) (hJ : J w.drew) (h : QReg C l.toArray J l (fun ρ => ∀ w', J w' → Ends C k ρ w') ρ) : Ends C (.code (.region id l.toArray true) :: k) ρ w := by
 simp only [Region.lexB, Bool.and_eq_true] at hB
 refine ends_of_wp (wpIn_region_any hm ?_)
 have h2 := QReg.list _ _ h
 have h3 := fAny_lex (P := C.P) (md := .any) hB.1 l 0 (Array.replicate l.toArray.size false) _ (by simp) (by simpa using hB.2) h2
 have := wpAny_of_fAny (rd := C.rd) (P := C.P) (md := .any) (Q' := QG C k) (fun a _ w hv ⟨ρ, e, hE⟩ => ⟨rfl, ρ, e, hE w hv⟩) _ _ _ _ w.drew hJ h3
 simpa using this
theorem q_nil {J : World → Prop} {K : Env → Prop} (h : K ρ) : QReg C ops J [] K ρ := h
theorem q_cons {J : World → Prop} {K : Env → Prop} {o : Oper} {rest : List Oper} (h : QOp C ops J o (QReg C ops J rest K) ρ) : QReg C ops J (o :: rest) K ρ := h
theorem q_val {J : World → Prop} {K : Env → Prop} {o : Oper} (hg : o.guard = none) (hd : o.dst = some d) (hn : Nat.blt d C.n = true) (hr : ∀ w, J w → (execOp (opv C.n ρ) o).run C.P w = .ok (.value v) w) (h : K (upd ρ d v)) : QOp C ops J o K ρ := by
 unfold QOp
 rw [if_pos (by simp [Region.wanted, hg])]
 refine ⟨v, fun w hw => ?_, _, by rw [hd, put_act ρ v hn], h⟩
 unfold Oper.quietAt
 rw [eval_act, hr w hw]
 exact ⟨rfl, rfl⟩
theorem q_enter {J : World → Prop} {K : Env → Prop} {o : Oper} {f : FuncId} {args : Array Value} (hg : o.guard = none) (hd : o.dst = some d) (hn : Nat.blt d C.n = true)
  (hr : ∀ w, (execOp (opv C.n ρ) o).run C.P w = .ok (.enter f args) w) (hc : ∀ w, J w → Calls C.P f args w (Ret fun u w' => u = v ∧ J w')) (h : K (upd ρ d v)) : QOp C ops J o K ρ := by
 unfold QOp
 rw [if_pos (by simp [Region.wanted, hg])]
 refine ⟨v, fun w hw => ?_, _, by rw [hd, put_act ρ v hn], h⟩
 unfold Oper.quietAt
 rw [eval_act, hr w]
 refine ⟨rfl, (hc w hw).mono fun e w' he => ?_⟩
 cases e with
 | returned u => exact ⟨by rw [he.1], he.2⟩
 | panicked c => exact he.elim
 | outgrown => exact he.elim
theorem q_pass {J : World → Prop} {K : Env → Prop} {o : Oper} {j : Nat} {want b : Bool} (hg : o.guard = some (j, want)) (hy : yld ops C.n ρ j = some b) (hb : (b == want) = false) (hd : o.dst = some d) (hn : Nat.blt d C.n = true) (h : K (upd ρ d undef)) : QOp C ops J o K ρ := by
 have : Region.wanted o (yielded ops (act C.n C.ds ρ).tmps) = false := by
  simp only [Region.wanted, hg, yielded_act, hy]
  cases b <;> cases want <;> simp_all
 unfold QOp
 rw [this]
 exact ⟨_, by rw [hd, put_act ρ undef hn], h⟩
theorem q_passN {J : World → Prop} {K : Env → Prop} {o : Oper} {j : Nat} {want : Bool} (hg : o.guard = some (j, want)) (hy : yld ops C.n ρ j = none) (hd : o.dst = some d) (hn : Nat.blt d C.n = true) (h : K (upd ρ d undef)) : QOp C ops J o K ρ := by
 have : Region.wanted o (yielded ops (act C.n C.ds ρ).tmps) = false := by
  simp only [Region.wanted, hg, yielded_act, hy]
  cases want <;> rfl
 unfold QOp
 rw [this]
 exact ⟨_, by rw [hd, put_act ρ undef hn], h⟩
theorem q_take {J : World → Prop} {K : Env → Prop} {o : Oper} {j : Nat} {want : Bool} (hg : o.guard = some (j, want)) (hy : yld ops C.n ρ j = some want) (h : QOp C ops J { o with guard := none } K ρ) : QOp C ops J o K ρ := by
 unfold QOp at h ⊢
 have : Region.wanted o (yielded ops (act C.n C.ds ρ).tmps) = true := by
  simp only [Region.wanted, hg, yielded_act, hy]
  cases want <;> rfl
 rw [this]
 have h2 : Region.wanted { o with guard := none } (yielded ops (act C.n C.ds ρ).tmps) = true := rfl
 rw [h2] at h
 simp only [if_true] at h ⊢
 unfold Oper.quietAt at h ⊢
 rw [execOp_guard] at h
 exact h
def AnyG (C : Ctx) (ops : Array Oper) (k : List Item) (fuel : Nat) (listed : Array Bool) (ρ : Env) (w : World) : Prop := FReg C ops (fun (s : World) w => w = s) k fuel listed ρ w
theorem g_any {id : Nat} {l : List Oper} (hm : C.P.follows .mixedOrders = true) (n : Nat) (hn : l.length = n) (h : ∀ w', w' = w.drew → AnyG C l.toArray k n (Array.replicate n false) ρ w') : Ends C (.code (.region id l.toArray true) :: k) ρ w :=
 g_mix (fun (s : World) w => w = s) w.drew hm n hn rfl (h _ rfl)
theorem a_done {listed : Array Bool} {fuel : Nat} (hr : Region.ready .any ops listed = []) (h : Ends C k ρ w) : AnyG C ops k fuel listed ρ w := f_done hr fun w' e => e ▸ h
theorem a_take (i : Nat) {o : Oper} {fuel : Nat} {listed listed' : Array Bool} (hi : ops[i]? = some o) (hs : Region.noSelect ops = true) (hf : Region.free .any ops listed i = true) (hr : (Region.ready .any ops listed).contains i = true) (hl : listed.setIfInBounds i true = listed')
  (hg : o.guard = none) (hd : o.dst = some d) (hn : Nat.blt d C.n = true) (hx : ∀ w, (execOp (opv C.n ρ) o).run C.P w = .ok (.value v) w) (h : AnyG C ops k fuel listed' (upd ρ d v) w) : AnyG C ops k (fuel + 1) listed ρ w :=
 f_first i hi hs hf hr hl (f_val hg hd hn (fun _ w _ => hx w) h)
theorem a_all {rs : List Nat} {fuel : Nat} {listed : Array Bool} (hr : Region.ready .any ops listed = rs) (hne : rs ≠ []) (h : ∀ i ∈ rs, ∃ o, ops[i]? = some o ∧ GOp C ops o (AnyG C ops k fuel (listed.setIfInBounds i true)) ρ w) : AnyG C ops k (fuel + 1) listed ρ w :=
 f_all hr hne fun i hi => by
  obtain ⟨o, ho, g⟩ := h i hi
  exact ⟨o, ho, fun w' e => by subst e; exact g.mono fun ρ w h => ⟨w, h, rfl⟩⟩
theorem a_cons {i : Nat} {l : List Nat} {Q : Nat → Prop} (h1 : Q i) (h2 : ∀ x ∈ l, Q x) : ∀ x ∈ i :: l, Q x := by
 intro x hx
 rcases List.mem_cons.1 hx with rfl | h
 ·exact h1
 ·exact h2 x h
end
attribute [irreducible] Ends GOp Reg QOp QReg AnyG FReg FOp
end Sl
