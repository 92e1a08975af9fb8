/- How values and conditions stand, as plain data; a call by an entry of the library that has no body. No condition. -/
import Derived.Test.YtkclljglobeplaaSlBC
import Derived.Laws.Externs
import Derived.Lib.Bytealg
namespace Sl
open _root_.Go _root_.Go.RowKit
set_option linter.all false
set_option linter.unusedSimpArgs false
/-! ### calls -/
def extFn (P : Program) (f : FuncId) (e : Array Value → Sem Value) : Prop := ∃ fn, P.funcs[f]? = some fn ∧ (fn.name == "runtime.NumGoroutine") = false ∧ fn.body.isNone = true ∧ Extern.findNext fn = none ∧ Extern.find fn = some e
section
variable {C : Ctx} {ρ : Env} {w : World} {ops : Array Oper} {K' : Env → World → Prop} {d ty : Nat} {pos : String} {af : Array Edge}
theorem x_callv {f : FuncId} {x : Operand} {ops' : Array Operand} {tys : Array TypeId} (hf : plainFn C.P f = true) (caps args : List Value) (hx : opv C.n ρ x = .func (.func f) #[] caps.toArray) (ha : ops'.toList.map (opv C.n ρ) ++ caps = args) (w : World) : (execOp (opv C.n ρ) ⟨some d, .call { callee := .value x, args := ops', argTypes := tys }, ty, pos, af, none⟩).run C.P w = .ok (.enter f args.toArray) w := by
  subst ha
  simp only [execOp, resolve, Deferred.ofValue, hx, Sem.run_bind, Sem.run_pure, Result.andThen_ok, invoke, run_callFunc hf, Array.append_empty, Array.empty_append, map_toList, List.append_toArray, List.nil_append, List.append_nil]
theorem x_ext {f : FuncId} {e : Array Value → Sem Value} {v : Value} {ops' : Array Operand} {tys : Array TypeId} (hf : extFn C.P f e) (args : List Value) (ha : ops'.toList.map (opv C.n ρ) = args) (hv : ∀ w, (e args.toArray).run C.P w = .ok v w) (w : World) : (execOp (opv C.n ρ) ⟨some d, .call { callee := .value (.func f), args := ops', argTypes := tys }, ty, pos, af, none⟩).run C.P w = .ok (.value v) w := by
  subst ha
  obtain ⟨fn, h1, h2, h3, h4, h5⟩ := hf
  have := run_callFunc_extern (P := C.P) h1 h2 h3 h4 h5 (ops'.toList.map (opv C.n ρ)).toArray w
  rw [hv w] at this
  simp only [execOp, resolve, Deferred.ofValue, opv, Sem.run_bind, Sem.run_pure, Result.andThen_ok, invoke, Array.append_empty, Array.empty_append, map_toList, this]
theorem s_ext {f : FuncId} {e : Array Value → Sem Value} {v : Value} {ops' : Array Operand} {tys : Array TypeId} (hf : extFn C.P f e) (args : List Value) (ha : ops'.toList.map (opv C.n ρ) = args) (hv : ∀ w, (e args.toArray).run C.P w = .ok v w) (hn : Nat.blt d C.n = true) (h : K' (upd ρ d v) w) : GOp C ops ⟨some d, .call { callee := .value (.func f), args := ops', argTypes := tys }, ty, pos, af, none⟩ K' ρ w :=
  r_val rfl rfl hn (x_ext hf args ha hv w) h
end
/-! ### texts -/
/-- How two texts stand. -/
def cmpSt (a b : ByteArray) : Int := if sLt a b = true then -1 else if a = b then 0 else 1
theorem cmpBytes_is : ∀ l m : List UInt8, Lib.compareBytes l m = if Op.bytesLess l m = true then -1 else if l = m then 0 else 1
  | [], [] => by simp [Lib.compareBytes, Op.bytesLess]
  | [], b :: m => by simp [Lib.compareBytes, Op.bytesLess]
  | a :: l, [] => by simp [Lib.compareBytes, Op.bytesLess]
  | a :: l, b :: m => by
    have ih := cmpBytes_is l m
    simp only [Lib.compareBytes, Op.bytesLess]
    by_cases h1 : a < b
    · simp [h1]
    · by_cases h2 : a = b
      · subst h2
        simp only [h1, if_false, beq_self_eq_true, Bool.true_and, decide_false, Bool.false_or, List.cons.injEq, true_and]
        exact ih
      · have h3 : b < a := UInt8.lt_of_le_of_ne (UInt8.not_lt.1 h1) (Ne.symm h2)
        simp [h1, h2, h3]
theorem cmp_run {P : Program} (a b : ByteArray) (w : World) : (Extern.BytealgCompare.compare #[.string a, .string b]).run P w = .ok (.int .i64 (cmpSt a b)) w := by
  rw [Lib.run_compareString, cmpBytes_is]
  have e : cmpSt a b = if Op.bytesLess a.data.toList b.data.toList = true then -1 else if a.data.toList = b.data.toList then 0 else 1 := by
    unfold cmpSt sLt
    rw [ByteArray.toList_eq, ByteArray.toList_eq]
    congr 1
    by_cases h : a = b
    · subst h; simp
    · rw [if_neg h, if_neg]
      intro hd
      apply h
      cases a; cases b
      congr 1
      exact Array.toList_inj.1 hd
  rw [e]
theorem cmpSt_lt {a b : ByteArray} (h : sLt a b = true) : cmpSt a b = -1 := if_pos h
theorem cmpSt_eq {a b : ByteArray} (h : sLt a b = false) (h2 : a = b) : cmpSt a b = 0 := by unfold cmpSt; rw [if_neg (by rw [h]; simp), if_pos h2]
theorem cmpSt_gt {a b : ByteArray} (h : sLt a b = false) (h2 : ¬ a = b) : cmpSt a b = 1 := by unfold cmpSt; rw [if_neg (by rw [h]; simp), if_neg h2]
theorem cmpSt_range (a b : ByteArray) : -1 ≤ cmpSt a b ∧ cmpSt a b ≤ 1 := by unfold cmpSt; split <;> (try split) <;> omega
theorem cmpI_lt {a b : Int} (h : a < b) : cmpI a b = -1 := if_pos h
theorem cmpI_gt {a b : Int} (h : b < a) : cmpI a b = 1 := by unfold cmpI; rw [if_neg (by omega), if_pos h]
theorem cmpI_eq {a b : Int} (h : a = b) : cmpI a b = 0 := by unfold cmpI; rw [if_neg (by omega), if_neg (by omega)]
theorem cmpI_range (a b : Int) : -1 ≤ cmpI a b ∧ cmpI a b ≤ 1 := by unfold cmpI; split <;> (try split) <;> omega
/-! ### values -/
def vOk (a b : ValV) : Bool := decide (a.kind.v = b.kind.v ∧ (a.kind.v = 1 ∨ a.kind.v = 2))
def vCmp (a b : ValV) : Int := if vOk a b = true then (if a.kind.v = 1 then cmpI a.n.v b.n.v else cmpSt a.s.v b.s.v) else 0
def someB (a : ValV) : Bool := decide (a.kind.v = 1 ∨ a.kind.v = 2)
section
variable {a b : ValV} {rel : Int}
theorem vc_no (h : ¬ (a.kind.v = b.kind.v ∧ (a.kind.v = 1 ∨ a.kind.v = 2))) : vCmp a b = 0 ∧ vOk a b = false := by
  have : vOk a b = false := decide_eq_false h
  exact ⟨by unfold vCmp; rw [this]; rfl, this⟩
theorem vc_int (h : a.kind.v = 1) (h2 : b.kind.v = 1) : vCmp a b = cmpI a.n.v b.n.v ∧ vOk a b = true := by
  have : vOk a b = true := decide_eq_true ⟨by omega, .inl h⟩
  exact ⟨by unfold vCmp; rw [if_pos this, if_pos h], this⟩
theorem vc_str (h : a.kind.v = 2) (h2 : b.kind.v = 2) : vCmp a b = cmpSt a.s.v b.s.v ∧ vOk a b = true := by
  have : vOk a b = true := decide_eq_true ⟨by omega, .inr h⟩
  exact ⟨by unfold vCmp; rw [if_pos this, if_neg (by omega)], this⟩
theorem vCmp_range (a b : ValV) : -1 ≤ vCmp a b ∧ vCmp a b ≤ 1 := by
  unfold vCmp
  split
  · split
    · exact cmpI_range _ _
    · exact cmpSt_range _ _
  · omega
def holdsB (rel : Int) (a b : ValV) : Bool :=
  if vOk a b = true then (if rel = 1 then decide (vCmp a b = 0) else if rel = 2 then !decide (vCmp a b = 0) else if rel = 3 then decide (vCmp a b < 0) else if rel = 4 then decide (vCmp a b ≤ 0) else if rel = 5 then decide (0 < vCmp a b) else if rel = 6 then decide (0 ≤ vCmp a b) else false)
  else decide (rel = 2) && someB a && someB b
theorem holds_no (h : vOk a b = false) : holdsB rel a b = (decide (rel = 2) && someB a && someB b) := by unfold holdsB; rw [if_neg (by rw [h]; simp)]
theorem holds_1 (h : vOk a b = true) (hr : rel = 1) : holdsB rel a b = decide (vCmp a b = 0) := by unfold holdsB; rw [if_pos h, if_pos hr]
theorem holds_2 (h : vOk a b = true) (hr : rel = 2) : holdsB rel a b = !decide (vCmp a b = 0) := by unfold holdsB; rw [if_pos h, if_neg (by omega), if_pos hr]
theorem holds_3 (h : vOk a b = true) (hr : rel = 3) : holdsB rel a b = decide (vCmp a b < 0) := by unfold holdsB; rw [if_pos h, if_neg (by omega), if_neg (by omega), if_pos hr]
theorem holds_4 (h : vOk a b = true) (hr : rel = 4) : holdsB rel a b = decide (vCmp a b ≤ 0) := by unfold holdsB; rw [if_pos h, if_neg (by omega), if_neg (by omega), if_neg (by omega), if_pos hr]
theorem holds_5 (h : vOk a b = true) (hr : rel = 5) : holdsB rel a b = decide (0 < vCmp a b) := by unfold holdsB; rw [if_pos h, if_neg (by omega), if_neg (by omega), if_neg (by omega), if_neg (by omega), if_pos hr]
theorem holds_6 (h : vOk a b = true) (hr : rel = 6) : holdsB rel a b = decide (0 ≤ vCmp a b) := by unfold holdsB; rw [if_pos h, if_neg (by omega), if_neg (by omega), if_neg (by omega), if_neg (by omega), if_neg (by omega), if_pos hr]
theorem holds_x (h : vOk a b = true) (hr : ¬ (1 ≤ rel ∧ rel ≤ 6)) : holdsB rel a b = false := by unfold holdsB; rw [if_pos h, if_neg (by omega), if_neg (by omega), if_neg (by omega), if_neg (by omega), if_neg (by omega), if_neg (by omega)]
end
/-! ### the first of a list at which something holds -/
def idxB {α : Type} (p : α → Bool) (L : List α) : Int := if L.findIdx p < L.length then (L.findIdx p : Int) else -1
section
variable {α : Type} [Inhabited α] {p : α → Bool} {L : List α} {i : Nat}
theorem findIdx_at (hz : ∀ j, j < i → p (L.getD j default) = false) (hi : i < L.length) (hp : p (L.getD i default) = true) : L.findIdx p = i := by
  have e : ∀ j (h : j < L.length), L.getD j default = L[j] := fun j h => by rw [List.getD_eq_getElem?_getD, List.getElem?_eq_getElem h]; rfl
  rw [List.findIdx_eq hi]
  refine ⟨by rw [← e i hi]; exact hp, fun j hj => ?_⟩
  have := hz j hj
  rw [e j (by omega)] at this
  simpa using this
theorem idxB_at (hz : ∀ j, j < i → p (L.getD j default) = false) (hi : i < L.length) (hp : p (L.getD i default) = true) : idxB p L = i := by
  have := findIdx_at hz hi hp
  unfold idxB
  rw [this, if_pos hi]
theorem findIdx_none (hz : ∀ j, j < L.length → p (L.getD j default) = false) : L.findIdx p = L.length := by
  rw [List.findIdx_eq_length]
  intro x hx
  obtain ⟨j, hj, rfl⟩ := List.getElem_of_mem hx
  have := hz j hj
  rw [List.getD_eq_getElem?_getD, List.getElem?_eq_getElem hj] at this
  exact this
theorem idxB_none (hz : ∀ j, j < L.length → p (L.getD j default) = false) : idxB p L = -1 := by
  unfold idxB
  rw [findIdx_none hz, if_neg (by omega)]
theorem idxB_range (p : α → Bool) (L : List α) : -1 ≤ idxB p L ∧ idxB p L < (L.length : Int) := by unfold idxB; split <;> omega
theorem idxB_any : decide (0 ≤ idxB p L) = L.any p := by
  unfold idxB
  by_cases h : L.findIdx p < L.length
  · rw [if_pos h, decide_eq_true (by omega)]
    rw [List.findIdx_lt_length] at h
    obtain ⟨x, hx, hp⟩ := h
    exact (List.any_eq_true.2 ⟨x, hx, hp⟩).symm
  · rw [if_neg h, decide_eq_false (by omega)]
    symm
    rw [List.any_eq_false]
    intro x hx hp
    exact h (List.findIdx_lt_length.2 ⟨x, hx, hp⟩)
theorem idxB_is (h : 0 ≤ idxB p L) : ((idxB p L).toNat < L.length) ∧ p (L.getD (idxB p L).toNat default) = true ∧ L.findIdx p = (idxB p L).toNat := by
  unfold idxB at h ⊢
  split at h
  · rename_i hl
    rw [if_pos hl]
    have e : ((L.findIdx p : Nat) : Int).toNat = L.findIdx p := by omega
    rw [e]
    refine ⟨hl, ?_, rfl⟩
    have := List.findIdx_getElem (w := hl)
    rw [List.getD_eq_getElem?_getD, List.getElem?_eq_getElem hl]
    exact this
  · omega
end
/-! ### attributes, operands, conditions -/
def attrVal (a : AttrV) : ValV := ⟨a.kind, a.n, a.s⟩
def hasV (ats : List AttrV) (s : ByteArray) : Bool := ats.any fun x => decide (x.name.v = s)
def getV (ats : List AttrV) (s : ByteArray) : ValV := if 0 ≤ idxB (fun x : AttrV => decide (x.name.v = s)) ats then attrVal (ats.getD (idxB (fun x : AttrV => decide (x.name.v = s)) ats).toNat default) else default
theorem getV_yes {ats : List AttrV} {s : ByteArray} (h : 0 ≤ idxB (fun x : AttrV => decide (x.name.v = s)) ats) : getV ats s = attrVal (ats.getD (idxB (fun x : AttrV => decide (x.name.v = s)) ats).toNat default) ∧ hasV ats s = true := ⟨if_pos h, by unfold hasV; rw [← idxB_any]; exact decide_eq_true h⟩
theorem getV_no {ats : List AttrV} {s : ByteArray} (h : ¬ 0 ≤ idxB (fun x : AttrV => decide (x.name.v = s)) ats) : getV ats s = default ∧ hasV ats s = false := ⟨if_neg h, by unfold hasV; rw [← idxB_any]; exact decide_eq_false h⟩
theorem getV_at {ats : List AttrV} {s : ByteArray} {i : Nat} (hz : ∀ j, j < i → decide ((ats.getD j default).name.v = s) = false) (hi : i < ats.length) (h : (ats.getD i default).name.v = s) : getV ats s = attrVal (ats.getD i default) ∧ hasV ats s = true := by
  have e := idxB_at (p := fun x : AttrV => decide (x.name.v = s)) hz hi (decide_eq_true h)
  have := getV_yes (ats := ats) (s := s) (by rw [e]; omega)
  rw [e] at this
  exact this
theorem getV_none {ats : List AttrV} {s : ByteArray} (hz : ∀ j, j < ats.length → decide ((ats.getD j default).name.v = s) = false) : getV ats s = default ∧ hasV ats s = false :=
  getV_no (by rw [idxB_none (p := fun x : AttrV => decide (x.name.v = s)) hz]; decide)
/-- An operand's value of an event. -/
def ofV (o : OpdV) (ats : List AttrV) : ValV := if o.attr.v = ByteArray.empty then o.val else getV ats o.attr.v
theorem ofV_val {o : OpdV} {ats : List AttrV} (h : o.attr.v = ByteArray.empty) : ofV o ats = o.val := if_pos h
theorem ofV_get {o : OpdV} {ats : List AttrV} (h : ¬ o.attr.v = ByteArray.empty) : ofV o ats = getV ats o.attr.v := if_neg h
def testB (c : CondV) (ats : List AttrV) : Bool := holdsB c.rel.v (ofV c.left ats) (ofV c.right ats)
def termB (kind : Int) (typ : ByteArray) (tests : List CondV) (e : EvM) : Bool := decide (kind = 1) && decide (typ = e.typ.v) && !(tests.any fun c => !testB c e.attrs)
end Sl
