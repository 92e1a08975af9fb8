import Derived.Test.YteogdknlofcpiaaGreatSlE
namespace Sl
open _root_.Go _root_.Go.RowKit
set_option linter.all false
set_option linter.unusedSimpArgs false
section
variable {C : Ctx} {k : List Item} {ρ : Env} {w : World}
def ResAt (C : Ctx) (ρ : Env) (w : World) : ResultVar → Value → Prop
 | .tmp t, v => opv C.n ρ (.tmp t) = v
 | .cell a t, v => ∃ p, opv C.n ρ (.tmp a) = .pointer (some p) ∧ (loadVar t p).run C.P w = .ok v w
def ResAll (C : Ctx) (ρ : Env) (w : World) : List ResultVar → List Value → Prop
 | [], [] => True
 | r :: rs, v :: vs => ResAt C ρ w r v ∧ ResAll C ρ w rs vs
 | _, _ => False
def tupleOf : List Value → Value
 | [v] => v
 | vs => .tuple vs.toArray
def resF (tmps : Array Value) : ResultVar → Sem Value
 | .tmp t => pure (tmps.getD t undef)
 | .cell a t => do loadVar t (← asAddr (tmps.getD a undef))
theorem run_resList : ∀ (rs : List ResultVar) (vs : List Value), ResAll C ρ w rs vs → (rs.mapM (resF (act C.n C.ds ρ).tmps)).run C.P w = .ok vs w
 | [], [], _ => rfl
 | [], _ :: _, h => h.elim
 | _ :: _, [], h => h.elim
 | r :: rs, v :: vs, ⟨h1, h2⟩ => by
  have ev : ∀ t, (act C.n C.ds ρ).tmps.getD t undef = opv C.n ρ (.tmp t) := fun t => congrFun (eval_act C.n C.ds ρ) (.tmp t)
  have ih := run_resList rs vs h2
  rw [List.mapM_cons]
  cases r with
  | tmp t =>
   have h1 : opv C.n ρ (.tmp t) = v := h1
   have e1 : (resF (act C.n C.ds ρ).tmps (.tmp t)).run C.P w = .ok v w := by simp only [resF, ev, h1, Sem.run_pure]
   simp only [Sem.run_bind, e1, Result.andThen_ok, ih, Sem.run_pure]
  | cell a t =>
   obtain ⟨p, hp, hl⟩ := h1
   have e1 : (resF (act C.n C.ds ρ).tmps (.cell a t)).run C.P w = .ok v w := by simp only [resF, ev, hp, asAddr, Sem.run_bind, Sem.run_pure, Result.andThen_ok, hl]
   simp only [Sem.run_bind, e1, Result.andThen_ok, ih, Sem.run_pure]
theorem run_results {fn : Func} {rs : List ResultVar} {vs : List Value} (hr : fn.results = rs.toArray) (h : ResAll C ρ w rs vs) : (results fn (act C.n C.ds ρ).tmps).run C.P w = .ok (tupleOf vs) w := by
 have hl := run_resList rs vs h
 have hres : results fn (act C.n C.ds ρ).tmps = (do
   let vs ← fn.results.mapM (resF (act C.n C.ds ρ).tmps)
   pure (if h : vs.size = 1 then vs[0] else .tuple vs)) := by
  unfold results
  congr 1
 rw [hres, hr]
 have e1 : ∀ (f : ResultVar → Sem Value), (rs.toArray.mapM f).run C.P w = ((rs.mapM f).run C.P w).andThen fun l w => .ok l.toArray w := by
  intro f
  rw [List.mapM_toArray]
  cases hh : (rs.mapM f).run C.P w <;> simp [hh, Result.andThen]
 simp only [Sem.run_bind, e1, hl, Result.andThen_ok, Sem.run_pure]
 congr 1
 match vs with
 | [] => rfl
 | [v] => rfl
 | _ :: _ :: _ => simp [tupleOf]
theorem g_ret' {fn : Func} {rs : List ResultVar} (vs : List Value) {todo : List Item} (hf : C.P.funcs[C.f]? = some fn) (hrs : fn.results = rs.toArray) (hr : ResAll C ρ w rs vs) (h : C.R (.returned (tupleOf vs)) w) (hl : C.lv w = w := by rfl) (ho : C.okD w := by trivial) : Ends C (.code .ret :: todo) ρ w :=
 g_ret2 w hl ho hf (run_results hrs hr) h
theorem g_retD {fn : Func} {rs : List ResultVar} (w' : World) (vs : List Value) {todo : List Item} (hf : C.P.funcs[C.f]? = some fn) (hrs : fn.results = rs.toArray) (hl : C.lv w = w') (ho : C.okD w) (hr : ResAll C ρ w' rs vs) (h : C.R (.returned (tupleOf vs)) w') : Ends C (.code .ret :: todo) ρ w :=
 g_ret2 w' hl ho hf (run_results hrs hr) h
theorem g_end' {fn : Func} {rs : List ResultVar} (vs : List Value) (hf : C.P.funcs[C.f]? = some fn) (hrs : fn.results = rs.toArray) (hr : ResAll C ρ w rs vs) (h : C.R (.returned (tupleOf vs)) w) (hl : C.lv w = w := by rfl) (ho : C.okD w := by trivial) : Ends C [] ρ w :=
 g_end2 w hl ho hf (run_results hrs hr) h
theorem res_cell1 {a t B off : Nat} {v : Value} {cs : Array Value} {e : TypeId} {fz : Nat × Nat} (ha : opv C.n ρ (.tmp a) = .pointer (some ⟨B, off, none⟩)) (hagg : isAggB C.P t = false ∧ (C.P.underlying t).isSome = true) (hb : w.heap[B]? = some (.cells cs e fz)) (hv : cs[off]? = some v) : ResAt C ρ w (.cell a t) v :=
 ⟨_, ha, run_loadVar1 hagg.1 hagg.2 hb hv⟩
theorem run_loadVarAgg {P : Program} {t m B off : Nat} {vs : List Value} {cs : Array Value} {e : TypeId} {fz : Nat × Nat} (hagg : isAggB P t = true ∧ (P.info? t).map (·.size) = some m) (hb : w.heap[B]? = some (.cells cs e fz)) (hm : off + m ≤ cs.size) (hv : (cs.toList.drop off).take m = vs) : (loadVar t ⟨B, off, none⟩).run P w = .ok (.agg vs.toArray) w := by
 obtain ⟨h1, h2⟩ := hagg
 have hu : (P.underlying t).isSome = true := by
  unfold isAggB at h1; split at h1 <;> simp_all
 cases hi : P.info? t with
 | none => simp [hi] at h2
 | some ti =>
  have hs : ti.size = m := by simpa [hi] using h2
  subst hs
  simp only [Sem.run_bind, Sem.run_pure, Result.andThen_ok, loadVar, run_isAgg h1 hu, if_true, run_sizeOf hi, run_loadCells hb hm hv]
theorem res_cellN {a t m B off : Nat} {vs : List Value} {cs : Array Value} {e : TypeId} {fz : Nat × Nat} (ha : opv C.n ρ (.tmp a) = .pointer (some ⟨B, off, none⟩)) (hagg : isAggB C.P t = true ∧ (C.P.info? t).map (·.size) = some m) (hb : w.heap[B]? = some (.cells cs e fz)) (hm : off + m ≤ cs.size) (hv : (cs.toList.drop off).take m = vs) : ResAt C ρ w (.cell a t) (.agg vs.toArray) :=
 ⟨_, ha, run_loadVarAgg hagg hb hm hv⟩
end
theorem wi64 {x : Int} (h : -9223372036854775808 ≤ x ∧ x ≤ 9223372036854775807) : IntKind.i64.wrap x = x := by rw [IntKind.wrap_i64]; omega
theorem wu64 {x : Int} (h : 0 ≤ x ∧ x ≤ 18446744073709551615) : IntKind.u64.wrap x = x := by simp only [IntKind.wrap, IntKind.signed, IntKind.bits]; simp; omega
theorem wu8 {x : Int} (h : 0 ≤ x ∧ x ≤ 255) : IntKind.u8.wrap x = x := by simp only [IntKind.wrap, IntKind.signed, IntKind.bits]; simp; omega
theorem wrap_u64 (x : Int) : IntKind.u64.wrap x = x % 18446744073709551616 := by simp only [IntKind.wrap, IntKind.signed, IntKind.bits]; simp
theorem tdiv_pos {a b : Int} (h : 0 ≤ a) : a.tdiv b = a / b := Int.tdiv_eq_ediv_of_nonneg h
theorem tmod_pos {a b : Int} (h : 0 ≤ a) : a.tmod b = a % b := Int.tmod_eq_emod_of_nonneg h
theorem vint {K : IntKind} {a b : Int} (h : a = b) : Value.int K a = .int K b := by rw [h]
theorem dtrue {p : Prop} [Decidable p] (h : p) : decide p = true := decide_eq_true h
theorem dfalse {p : Prop} [Decidable p] (h : ¬ p) : decide p = false := decide_eq_false h
theorem ntrue {p : Prop} [Decidable p] (h : p) : (!decide p) = false := by simp [h]
theorem nfalse {p : Prop} [Decidable p] (h : ¬ p) : (!decide p) = true := by simp [h]
end Sl
