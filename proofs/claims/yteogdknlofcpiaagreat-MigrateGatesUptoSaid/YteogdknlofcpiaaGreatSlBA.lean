import Derived.Test.YteogdknlofcpiaaGreatSlG
namespace Sl
open _root_.Go _root_.Go.RowKit
set_option linter.all false
set_option linter.unusedSimpArgs false
@[reducible] def mark (D : Nat) : Deferred := { target := .collected D, args := #[] }
@[reducible] def Ctx.more (C : Ctx) (D : Nat) : Ctx where
 P := C.P
 f := C.f
 n := C.n
 R := C.R
 rd := C.rd
 ds := mark D :: C.ds
 lv := fun w => C.lv (w.putObj D (.deferred none))
 okD := fun w => w.heap[D]? = some (.deferred (some [])) ∧ C.okD (w.putObj D (.deferred none))
 T := C.T
 hT := C.hT
 hret := by
  intro fn v ρ w hf ho hr h
  obtain ⟨h1, h2⟩ := C.hret fn v ρ _ hf ho.2 hr h
  refine ⟨h1, fun cs todo => C.hT cs _ _ (.one ?_) (h2 cs todo)⟩
  have := step_collected (P := C.P) (fr := { (base C.f C.rd).atR (act C.n (mark D :: C.ds) ρ) todo with mode := .returning }) (cs := cs) (w := w) (d := mark D) (r := D) (ds := C.ds) (calls := []) (by simp) rfl rfl (run_takeDeferred ho.1)
  exact this
section
variable {W w : World} {F : List Atom} {i : Nat}
theorem St.putObj {b : Nat} {o o' : Obj} (H : St W w F) (hi : F[i]? = some (blk b o)) : St W (w.putObj b o') (F.set i (blk b o')) :=
 H.set_blk hi rfl rfl rfl (World.putObj_heap_same (Array.getElem?_eq_some_iff.1 (H.blk_at hi)).1) (fun k _ hk => World.putObj_heap_other hk)
theorem St.collect {D : Nat} (H : St W w F) (hi : F[i]? = some (blk D (.deferred (some [])))) : w.heap[D]? = some (.deferred (some [])) ∧ St W (w.putObj D (.deferred none)) (F.eraseIdx i) := by
 refine ⟨H.blk_at hi, ?_⟩
 have h := H.putObj (o' := .deferred none) hi
 have h2 : (F.set i (blk D (.deferred none)))[i]? = some (blk D (.deferred none)) := by
  have := (List.getElem?_eq_some_iff.1 hi).1
  simp [this]
 have h3 := h.drop i h2
 have e : (F.set i (blk D (.deferred none))).eraseIdx i = F.eraseIdx i := by simp [List.eraseIdx_set_eq]
 rwa [e] at h3
end
@[reducible] def Ctx.round (P : Program) (f : FuncId) (n l : Nat) (Q : Value → World → Prop) : Ctx where
 P := P
 f := f
 n := n
 R := fun _ _ => False
 rd := some l
 ds := []
 lv := fun w => w
 okD := fun _ => True
 T := fun cs m => ∀ c cs', cs = c :: cs' → ∃ v w', Q v w' ∧ Steps P m (lone (c.finish v) cs' w')
 hT := fun cs m m' hs h c cs' e => let ⟨v, w', q, s⟩ := h c cs' e; ⟨v, w', q, hs.trans s⟩
 hret := fun _ _ _ _ _ _ _ h => h.elim
section
variable {P : Program} {f : FuncId} {n l : Nat} {Q : Value → World → Prop} {W w : World} {F : List Atom} {i : Nat} {ρ : Env} {r : Loop} {k : List Item}
theorem round_of_go {assign body : Code} (h : Ends (Ctx.round P f n l Q) [.code assign, .beginRound, .code body] ρ w) : Round1 P l f (act n [] ρ).tmps assign body w Q := by
 unfold Ends at h
 exact fun c cs => h (c :: cs) c cs rfl
theorem g_beginRound (H : St W w F) (hi : F[i]? = some (blk l (.loop r))) (hr : r.state = .ready)
  (h : ∀ w', St W w' (F.set i (blk l (.loop { r with state := .busy }))) → Ends (Ctx.round P f n l Q) k ρ w') : Ends (Ctx.round P f n l Q) (.beginRound :: k) ρ w := by
 have h1 := h _ (H.putObj hi)
 unfold Ends at h1 ⊢
 intro cs
 exact (Ctx.round P f n l Q).hT cs _ _ (.one (stepR_beginRound (l := l) rfl (run_beginRound (H.blk_at hi) hr))) (h1 cs)
theorem g_round_end (h1 : r.state = .ready) (h2 : r.pending = none) (H : St W w F) (hi : F[i]? = some (blk l (.loop { r with state := .busy }))) (h : ∀ w', St W w' (F.set i (blk l (.loop r))) → Q (.bool true) w') : Ends (Ctx.round P f n l Q) [] ρ w := by
 unfold Ends
 intro cs c cs' e
 subst e
 have e : ({ { r with state := .busy } with state := .ready, pending := none } : Loop) = r := by cases r; simp_all
 exact ⟨.bool true, _, h _ (e ▸ H.putObj hi), .one (stepR_round_end (l := l) rfl rfl (run_endRound none (H.blk_at hi)))⟩
end
def YieldAt (P : Program) (l : Nat) (args : List Value) (w : World) (Q : Value → World → Prop) : Prop :=
 ∃ f tmps assign body, (Instr.yield l args.toArray).run P w = .ok (.round l f tmps assign body) w ∧ Round1 P l f tmps assign body w Q
theorem YieldAt.mono {P : Program} {l : Nat} {args : List Value} {w : World} {Q Q' : Value → World → Prop} (h : YieldAt P l args w Q) (hq : ∀ v w', Q v w' → Q' v w') : YieldAt P l args w Q' :=
 let ⟨f, t, a, b, h1, h2⟩ := h; ⟨f, t, a, b, h1, h2.mono hq⟩
section
variable {C : Ctx} {k : List Item} {ρ : Env} {w : World} {ops : Array Oper} {K' : Env → World → Prop} {d ty : Nat} {pos : String} {af : Array Edge}
theorem s_yield {Q : Value → World → Prop} (l : Nat) (args : List Value) {x : Operand} {ops' : Array Operand} {tys : Array TypeId} (hx : opv C.n ρ x = .func (.yield l) #[] #[]) (ha : ops'.toList.map (opv C.n ρ) = args)
  (hn : Nat.blt d C.n = true) (hY : YieldAt C.P l args w Q) (h : ∀ v w', Q v w' → K' (upd ρ d v) w') : GOp C ops ⟨some d, .call { callee := .value x, args := ops', argTypes := tys }, ty, pos, af, none⟩ K' ρ w := by
 obtain ⟨f, tmps, assign, body, h1, h2⟩ := hY
 unfold GOp
 rw [if_pos (by simp [Region.wanted])]
 unfold wp1
 rw [eval_act]
 have e : (execOp (opv C.n ρ) ⟨some d, .call { callee := .value x, args := ops', argTypes := tys }, ty, pos, af, none⟩).run C.P w = .ok (.round l f tmps assign body) w := by
  subst ha
  have e2 : (ops'.map (opv C.n ρ)) = (ops'.toList.map (opv C.n ρ)).toArray := map_toList _ _
  simp only [execOp, resolve, hx, Deferred.ofValue, Sem.run_bind, Sem.run_pure, Result.andThen_ok, invoke, e2]
  simpa using h1
 rw [e]
 simp only [upon1]
 refine h2.mono fun v w' q => ?_
 rw [put_act ρ v hn]
 exact ⟨_, rfl, h v w' q⟩
end
def loopRec (C : Ctx) (ρ : Env) (ps : Array Tmp) (assign body : Code) (D : Nat) : Loop := { state := .ready, pending := none, fn := C.f, tmps := (act C.n C.ds ρ).tmps, params := ps, assign := assign, body := body, defers := D }
section
variable {C : Ctx} {k : List Item} {ρ : Env} {w : World}
theorem g_rangeFunc {α : Type} {W : World} {F : List Atom} {g : Operand} {ps : Array Tmp} {assign body : Code} (gf : FuncId) (caps : List Value)
  (hrd : C.rd = none) (hg : opv C.n ρ g = .func (.func gf) #[] caps.toArray) (hp : plainFn C.P gf = true)
  (enc : α → List Value) (henc : ∀ x, (enc x).length = ps.size)
  (ρx : α → Env) (htm : ∀ x, ((ps.zip (enc x).toArray).foldl (fun tmps (t, a) => tmps.setIfInBounds t a) (act C.n C.ds ρ).tmps) = (act C.n [] (ρx x)).tmps)
  (X : α → Atom) (I : List α → Atom) (Ix : Code → List α → Atom) (OK : List α → α → Prop) (S Sp : List α → Prop)
  (H : St W w (I [] :: F))
  (hround : ∀ l (r : Loop) w G pre x, r.state = .ready → r.pending = none → OK pre x → St W w (blk l (.loop r) :: I pre :: X x :: G) →
   Ends (Ctx.round C.P C.f C.n l (fun v w' => (v = .bool true ∧ St W w' (blk l (.loop r) :: I (pre ++ [x]) :: G)) ∨ (v = .bool false ∧ ∃ c, St W w' (blk l (.loop { r with state := .done, pending := some c }) :: Ix c (pre ++ [x]) :: G))))
    [.code assign, .beginRound, .code body] (ρx x) w)
  (hit : ∀ (l : Nat) (J Jx : List α → Atom) (B : Atom) (w : World), St W w (J [] :: B :: F) →
   (∀ w G pre x, OK pre x → St W w (J pre :: X x :: G) → YieldAt C.P l (enc x) w (fun v w' => (v = .bool true ∧ St W w' (J (pre ++ [x]) :: G)) ∨ (v = .bool false ∧ St W w' (Jx (pre ++ [x]) :: G)))) →
   Calls C.P gf ((.func (.yield l) #[] #[] :: caps).toArray) w (Ret fun _ w' => ∃ L, (S L ∧ St W w' (J L :: B :: F)) ∨ (Sp L ∧ St W w' (Jx L :: B :: F))))
  (hdone : ∀ D L w, S L → St W w (I L :: blk D (.deferred (some [])) :: F) → Ends (C.more D) k ρ w)
  (hstop : ∀ D c L w, Sp L → St W w (Ix c L :: blk D (.deferred (some [])) :: F) → Ends (C.more D) (.code c :: k) ρ w) : Ends C (.code (.rangeFunc g ps assign body) :: k) ρ w := by
 have hsz : ∀ (w : World) o, (w.alloc o).heap.size = w.heap.size + 1 := fun w o => World.size_alloc w o
 generalize hD : w.heap.size = D at *
 have H1 := (H.alloc (.deferred (some []))).alloc (.loop (loopRec C ρ ps assign body D))
 rw [hsz, hD] at H1
 have H2 := St.shut_star (ls := [blk (D + 1) (.loop (loopRec C ρ ps assign body D)), I []]) ((H1.move 2 rfl).move 1 rfl)
 have hY : ∀ w G pre x, OK pre x → St W w (star [blk (D + 1) (.loop (loopRec C ρ ps assign body D)), I pre] :: X x :: G) → YieldAt C.P (D + 1) (enc x) w
   (fun v w' => (v = .bool true ∧ St W w' (star [blk (D + 1) (.loop (loopRec C ρ ps assign body D)), I (pre ++ [x])] :: G)) ∨
    (v = .bool false ∧ St W w' (ex (fun c => star [blk (D + 1) (.loop { loopRec C ρ ps assign body D with state := .done, pending := some c }), Ix c (pre ++ [x])]) :: G))) := by
  intro w G pre x hx h
  have h' := h.open_star
  have hl := h'.blk_at (i := 0) rfl
  refine ⟨C.f, _, assign, body, run_yield hl (by simp [henc, loopRec]), ?_⟩
  have e := htm x
  show Round1 C.P (D + 1) C.f ((ps.zip (enc x).toArray).foldl (fun tmps (t, a) => tmps.setIfInBounds t a) (act C.n C.ds ρ).tmps) assign body w _
  rw [e]
  refine (round_of_go (hround (D + 1) _ w G pre x rfl rfl hx h')).mono fun v w' hq => ?_
  rcases hq with ⟨hv, hs⟩ | ⟨hv, c, hs⟩
  ·exact .inl ⟨hv, St.shut_star hs⟩
  ·exact .inr ⟨hv, St.shut_ex c (St.shut_star hs)⟩
 have hcall := hit (D + 1) (fun pre => star [blk (D + 1) (.loop (loopRec C ρ ps assign body D)), I pre]) (fun pre => ex (fun c => star [blk (D + 1) (.loop { loopRec C ρ ps assign body D with state := .done, pending := some c }), Ix c pre])) (blk D (.deferred (some []))) _ H2 hY
 unfold Ends
 intro cs
 have he : (Instr.enterLoop (base C.f C.rd).fn (act C.n C.ds ρ).tmps ps assign body (base C.f C.rd).roundOf).run C.P w = .ok (D + 1, [mark D]) ((w.alloc (.deferred (some []))).alloc (.loop (loopRec C ρ ps assign body D))) := by
  have := run_enterLoop_outer (P := C.P) (w := w) C.f (act C.n C.ds ρ).tmps ps assign body
  rw [hD] at this
  show (Instr.enterLoop C.f (act C.n C.ds ρ).tmps ps assign body C.rd).run C.P w = _
  rw [hrd]
  exact this
 have hres : ∀ w1, (resolve (act C.n C.ds ρ).eval (rangeCall g (D + 1)) 0).run C.P w1 = .ok { target := .fn (.func gf) caps.toArray, args := #[.func (.yield (D + 1)) #[] #[]] } w1 := by
  intro w1
  have hc : opv C.n ρ (.const (.func (.yield (D + 1)) #[] #[])) = .func (.yield (D + 1)) #[] #[] := rfl
  rw [eval_act]
  simp [resolve, rangeCall, hg, hc, Deferred.ofValue, Sem.run_bind, Sem.run_pure, Result.andThen_ok]
 have hinv : ∀ w1, (invoke (.fn (.func gf) caps.toArray) #[.func (.yield (D + 1)) #[] #[]]).run C.P w1 = .ok (.enter gf ((.func (.yield (D + 1)) #[] #[] :: caps).toArray)) w1 := by
  intro w1
  have := run_callFunc (P := C.P) hp ((.func (.yield (D + 1)) #[] #[] :: caps).toArray) w1
  simpa [invoke] using this
 have s1 := stepR_rangeFunc (P := C.P) (b := base C.f C.rd) (a := act C.n C.ds ρ) (k := k) (cs := cs) (w := w) he (hres _) (hinv _)
 obtain ⟨e, w', fr, hR, hs, hfn, hl⟩ := hcall ((base C.f C.rd).atR (act C.n (mark D :: C.ds) ρ) (.inRangeFunc (D + 1) :: k) :: cs)
 cases e with
 | panicked c => exact hR.elim
 | outgrown => exact hR.elim
 | returned v =>
  have s2 : Steps C.P (lone fr ((base C.f C.rd).atR (act C.n (mark D :: C.ds) ρ) (.inRangeFunc (D + 1) :: k) :: cs) w') (lone ((base C.f C.rd).atR (act C.n (mark D :: C.ds) ρ) (.endRangeFunc (D + 1) :: k)) cs w') := .one (by
   have h3 := step_leave_returned (c := (base C.f C.rd).atR (act C.n (mark D :: C.ds) ρ) (.inRangeFunc (D + 1) :: k)) (cs := cs) hl
   rwa [finish_atR_inRangeFunc] at h3)
  obtain ⟨L, hq⟩ := hR
  have fin : ∀ (r : Loop) (j : Option Code), w'.heap[D + 1]? = some (.loop r) → r.state ≠ .busy → r.pending = j → ∀ (w2 : World), w2 = w'.putObj (D + 1) (.loop { r with state := .exhausted }) →
    C.T cs (lone ((base C.f C.rd).atR (act C.n (mark D :: C.ds) ρ) ((j.map Item.code).toList ++ k)) cs w2) → C.T cs (lone ((base C.f C.rd).atR (act C.n C.ds ρ) (.code (.rangeFunc g ps assign body) :: k)) cs w) := by
   intro r j h1 h2 h3 w2 h4 h5
   subst h3; subst h4
   refine C.hT cs _ _ (.head s1 (Steps.trans hs (Steps.trans s2 (.one (stepR_endRangeFunc (run_endLoop h1 h2)))))) h5
  rcases hq with ⟨hS, hst⟩ | ⟨hS, hst⟩
  ·have h' := hst.open_star
   have h2 := (h'.putObj (o' := .loop { loopRec C ρ ps assign body D with state := .exhausted }) (i := 0) rfl).tail
   have := hdone D L _ hS h2
   unfold Ends at this
   exact fin _ none (h'.blk_at (i := 0) rfl) (by simp [loopRec]) rfl _ rfl (this cs)
  ·obtain ⟨c, hst⟩ := hst.open_ex
   have h' := hst.open_star
   have h2 := (h'.putObj (o' := .loop { loopRec C ρ ps assign body D with state := .exhausted, pending := some c }) (i := 0) rfl).tail
   have := hstop D c L _ hS h2
   unfold Ends at this
   exact fin _ (some c) (h'.blk_at (i := 0) rfl) (by simp) rfl _ rfl (this cs)
theorem tm0 {n d : Nat} {ds : List Deferred} {ρ : Env} {v : Value} (h : Nat.blt d n = true) : (act n ds ρ).tmps.setIfInBounds d v = (act n [] (upd ρ d v)).tmps :=
 congrArg Act.tmps (put_act (ds := []) ρ v h)
theorem tm1 {n d : Nat} {ds : List Deferred} {ρ : Env} {v : Value} (h : Nat.blt d n = true) : ((#[d].zip ([v] : List Value).toArray).foldl (fun (tmps : Array Value) (x : Nat × Value) => tmps.setIfInBounds x.1 x.2) (act n ds ρ).tmps) = (act n [] (upd ρ d v)).tmps := by
 have := tm0 (ds := ds) (ρ := ρ) (v := v) h
 simpa using this
theorem g_range1 {α : Type} {W : World} {F : List Atom} {g : Operand} {d : Tmp} {assign body : Code} (gf : FuncId) (caps : List Value)
  (hrd : C.rd = none) (hg : opv C.n ρ g = .func (.func gf) #[] caps.toArray) (hp : plainFn C.P gf = true)
  (enc : α → Value) (hd : Nat.blt d C.n = true)
  (X : α → Atom) (I : List α → Atom) (Ix : Code → List α → Atom) (OK : List α → α → Prop) (S Sp : List α → Prop)
  (H : St W w (I [] :: F))
  (hround : ∀ l (r : Loop) w G pre x, r.state = .ready → r.pending = none → OK pre x → St W w (blk l (.loop r) :: I pre :: X x :: G) →
   Ends (Ctx.round C.P C.f C.n l (fun v w' => (v = .bool true ∧ St W w' (blk l (.loop r) :: I (pre ++ [x]) :: G)) ∨ (v = .bool false ∧ ∃ c, St W w' (blk l (.loop { r with state := .done, pending := some c }) :: Ix c (pre ++ [x]) :: G))))
    [.code assign, .beginRound, .code body] (upd ρ d (enc x)) w)
  (hit : ∀ (l : Nat) (J Jx : List α → Atom) (B : Atom) (w : World), St W w (J [] :: B :: F) →
   (∀ w G pre x, OK pre x → St W w (J pre :: X x :: G) → YieldAt C.P l [enc x] w (fun v w' => (v = .bool true ∧ St W w' (J (pre ++ [x]) :: G)) ∨ (v = .bool false ∧ St W w' (Jx (pre ++ [x]) :: G)))) →
   Calls C.P gf ((.func (.yield l) #[] #[] :: caps).toArray) w (Ret fun _ w' => ∃ L, (S L ∧ St W w' (J L :: B :: F)) ∨ (Sp L ∧ St W w' (Jx L :: B :: F))))
  (hdone : ∀ D L w, S L → St W w (I L :: blk D (.deferred (some [])) :: F) → Ends (C.more D) k ρ w)
  (hstop : ∀ D c L w, Sp L → St W w (Ix c L :: blk D (.deferred (some [])) :: F) → Ends (C.more D) (.code c :: k) ρ w) : Ends C (.code (.rangeFunc g #[d] assign body) :: k) ρ w :=
 g_rangeFunc gf caps hrd hg hp (fun x => [enc x]) (fun _ => rfl) (fun x => upd ρ d (enc x)) (fun x => tm1 hd) X I Ix OK S Sp H hround hit hdone hstop
end
end Sl
