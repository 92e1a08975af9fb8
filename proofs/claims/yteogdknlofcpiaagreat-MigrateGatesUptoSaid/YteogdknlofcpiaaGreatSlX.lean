import Derived.Test.YteogdknlofcpiaaGreatSlE
namespace Sl
open _root_.Go _root_.Go.RowKit
set_option linter.all false
set_option linter.unusedSimpArgs false
section
variable {C : Ctx} {ρ : Env} {d ty : Nat} {pos : String} {af : Array Edge} {x y : Operand} {xt yt : Nat} {K : IntKind} {a b : Int} {B off : Nat} {cs : Array Value} {e : TypeId} {fz : Nat × Nat}
theorem x_move (v : Value) {x : Operand} (hx : opv C.n ρ x = v) (w : World) : (execOp (opv C.n ρ) ⟨some d, .move x, ty, pos, af, none⟩).run C.P w = .ok (.value (v)) w := (by simp only [execOp, hx]; rfl)
theorem x_assign (v : Value) {x : Operand} (hx : opv C.n ρ x = v) (w : World) : (execOp (opv C.n ρ) ⟨some d, .assign x, ty, pos, af, none⟩).run C.P w = .ok (.value (v)) w := (by simp only [execOp, hx]; rfl)
theorem x_pick_t (v : Value) {c a b : Operand} (hc : opv C.n ρ c = .bool true) (hx : opv C.n ρ a = v) (w : World) : (execOp (opv C.n ρ) ⟨some d, .pick c a b, ty, pos, af, none⟩).run C.P w = .ok (.value (v)) w := (by simp only [execOp, hc, hx, asBool]; rfl)
theorem x_pick_f (v : Value) {c a b : Operand} (hc : opv C.n ρ c = .bool false) (hx : opv C.n ρ b = v) (w : World) : (execOp (opv C.n ρ) ⟨some d, .pick c a b, ty, pos, af, none⟩).run C.P w = .ok (.value (v)) w := (by simp only [execOp, hc, hx, asBool]; rfl)
theorem x_nilCheck (v : Value) {x : Operand} (hx : opv C.n ρ x = v) (hv : ∃ a, v = .pointer (some a)) (w : World) : (execOp (opv C.n ρ) ⟨some d, .nilCheck x, ty, pos, af, none⟩).run C.P w = .ok (.value (v)) w := by
 obtain ⟨a, rfl⟩ := hv
 exact (by simp only [execOp, hx]; rfl)
theorem x_not {t : TypeId} (b : Bool) {x : Operand} (hx : opv C.n ρ x = .bool b) (c : Bool) (hc : (!b) = c) (w : World) : (execOp (opv C.n ρ) ⟨some d, .unOp .not t x, ty, pos, af, none⟩).run C.P w = .ok (.value ((.bool c))) w := by
 subst hc
 exact (by simp [execOp, hx, Op.unary])
theorem x_add (c : Int) (hx : opv C.n ρ x = .int K a) (hy : opv C.n ρ y = .int K b) (hc : K.wrap (a + b) = c) (w : World) : (execOp (opv C.n ρ) ⟨some d, .binOp .add xt x y yt, ty, pos, af, none⟩).run C.P w = .ok (.value ((.int K c))) w := by
 subst hc
 exact (run_int_bin hx hy (by simp [binOp, Op.intArith]))
theorem x_sub (c : Int) (hx : opv C.n ρ x = .int K a) (hy : opv C.n ρ y = .int K b) (hc : K.wrap (a - b) = c) (w : World) : (execOp (opv C.n ρ) ⟨some d, .binOp .sub xt x y yt, ty, pos, af, none⟩).run C.P w = .ok (.value ((.int K c))) w := by
 subst hc
 exact (run_int_bin hx hy (by simp [binOp, Op.intArith]))
theorem x_mul (c : Int) (hx : opv C.n ρ x = .int K a) (hy : opv C.n ρ y = .int K b) (hc : K.wrap (a * b) = c) (w : World) : (execOp (opv C.n ρ) ⟨some d, .binOp .mul xt x y yt, ty, pos, af, none⟩).run C.P w = .ok (.value ((.int K c))) w := by
 subst hc
 exact (run_int_bin hx hy (by simp [binOp, Op.intArith]))
theorem x_quo (c : Int) (hx : opv C.n ρ x = .int K a) (hy : opv C.n ρ y = .int K b) (hb : b ≠ 0) (hc : K.wrap (a.tdiv b) = c) (w : World) : (execOp (opv C.n ρ) ⟨some d, .binOp .quo xt x y yt, ty, pos, af, none⟩).run C.P w = .ok (.value ((.int K c))) w := by
 subst hc
 exact (run_int_bin hx hy (by simp [binOp, Op.intDiv, hb]))
theorem x_rem (c : Int) (hx : opv C.n ρ x = .int K a) (hy : opv C.n ρ y = .int K b) (hb : b ≠ 0) (hc : a.tmod b = c) (w : World) : (execOp (opv C.n ρ) ⟨some d, .binOp .rem xt x y yt, ty, pos, af, none⟩).run C.P w = .ok (.value ((.int K c))) w := by
 subst hc
 exact (run_int_bin hx hy (by simp [binOp, Op.intDiv, hb]))
theorem x_or (c : Int) (hx : opv C.n ρ x = .int K a) (hy : opv C.n ρ y = .int K b) (hc : bitOp .or K a b = c) (w : World) : (execOp (opv C.n ρ) ⟨some d, .binOp .or xt x y yt, ty, pos, af, none⟩).run C.P w = .ok (.value ((.int K c))) w := by
 subst hc
 exact (run_int_bin hx hy (by simp [binOp, Op.intBits, bitOp]))
theorem x_shl {L : IntKind} (c : Int) (hx : opv C.n ρ x = .int K a) (hy : opv C.n ρ y = .int L b) (hb : 0 ≤ b) (hc : K.wrap (a * 2 ^ (min b.toNat K.bits)) = c) (w : World) : (execOp (opv C.n ρ) ⟨some d, .binOp .shl xt x y yt, ty, pos, af, none⟩).run C.P w = .ok (.value ((.int K c))) w := by
 subst hc
 exact (run_shift (.inl rfl) hx hy (by simp [Op.shift, show ¬ b < 0 by omega]))
theorem x_shr {L : IntKind} (c : Int) (hx : opv C.n ρ x = .int K a) (hy : opv C.n ρ y = .int L b) (hb : 0 ≤ b) (hc : a.fdiv (2 ^ (min b.toNat K.bits)) = c) (w : World) : (execOp (opv C.n ρ) ⟨some d, .binOp .shr xt x y yt, ty, pos, af, none⟩).run C.P w = .ok (.value ((.int K c))) w := by
 subst hc
 exact (run_shift (.inr rfl) hx hy (by simp [Op.shift, show ¬ b < 0 by omega]))
theorem x_lss (c : Bool) (hx : opv C.n ρ x = .int K a) (hy : opv C.n ρ y = .int K b) (hc : decide (a < b) = c) (w : World) : (execOp (opv C.n ρ) ⟨some d, .binOp .lss xt x y yt, ty, pos, af, none⟩).run C.P w = .ok (.value ((.bool c))) w := by
 subst hc
 exact (run_int_bin hx hy (by simp [binOp, Op.intCmp]))
theorem x_leq (c : Bool) (hx : opv C.n ρ x = .int K a) (hy : opv C.n ρ y = .int K b) (hc : decide (a ≤ b) = c) (w : World) : (execOp (opv C.n ρ) ⟨some d, .binOp .leq xt x y yt, ty, pos, af, none⟩).run C.P w = .ok (.value ((.bool c))) w := by
 subst hc
 exact (run_int_bin hx hy (by simp [binOp, Op.intCmp]))
theorem x_gtr (c : Bool) (hx : opv C.n ρ x = .int K a) (hy : opv C.n ρ y = .int K b) (hc : decide (b < a) = c) (w : World) : (execOp (opv C.n ρ) ⟨some d, .binOp .gtr xt x y yt, ty, pos, af, none⟩).run C.P w = .ok (.value ((.bool c))) w := by
 subst hc
 exact (run_int_bin hx hy (by simp [binOp, Op.intCmp]))
theorem x_geq (c : Bool) (hx : opv C.n ρ x = .int K a) (hy : opv C.n ρ y = .int K b) (hc : decide (b ≤ a) = c) (w : World) : (execOp (opv C.n ρ) ⟨some d, .binOp .geq xt x y yt, ty, pos, af, none⟩).run C.P w = .ok (.value ((.bool c))) w := by
 subst hc
 exact (run_int_bin hx hy (by simp [binOp, Op.intCmp]))
theorem x_neq (c : Bool) (hx : opv C.n ρ x = .int K a) (hy : opv C.n ρ y = .int K b) (hc : (!decide (a = b)) = c) (w : World) : (execOp (opv C.n ρ) ⟨some d, .binOp .neq xt x y yt, ty, pos, af, none⟩).run C.P w = .ok (.value ((.bool c))) w := by
 subst hc
 exact (run_int_bin hx hy (by simp [binOp, Op.intCmp]; rfl))
theorem x_sneq (c : Bool) {s t : ByteArray} (hx : opv C.n ρ x = .string s) (hy : opv C.n ρ y = .string t) (hc : (!decide (s = t)) = c) (w : World) : (execOp (opv C.n ρ) ⟨some d, .binOp .neq xt x y yt, ty, pos, af, none⟩).run C.P w = .ok (.value ((.bool c))) w := by
 subst hc
 exact (run_str_bin ⟨by simp, by simp⟩ hx hy (by simp only [Op.stringOp, ba_beq]; rfl))
theorem x_sleq (c : Bool) {s t : ByteArray} (hx : opv C.n ρ x = .string s) (hy : opv C.n ρ y = .string t) (hc : (sLt s t || decide (s = t)) = c) (w : World) : (execOp (opv C.n ρ) ⟨some d, .binOp .leq xt x y yt, ty, pos, af, none⟩).run C.P w = .ok (.value ((.bool c))) w := by
 subst hc
 exact (run_str_bin ⟨by simp, by simp⟩ hx hy (by simp only [Op.stringOp, ba_beq]; rfl))
theorem x_bin {w : World} {op : BinOp} (r : Value) {u v : Value} (hx : opv C.n ρ x = u) (hy : opv C.n ρ y = v) (hg : (eqGuard op xt x y u v).run C.P w = .ok () w) (hr : (binOp op xt u v).run C.P w = .ok r w) : (execOp (opv C.n ρ) ⟨some d, .binOp op xt x y yt, ty, pos, af, none⟩).run C.P w = .ok (.value (r)) w := (run_bin hx hy hg hr)
theorem x_conv (c : Int) {K L : IntKind} {s t : TypeId} (hx : opv C.n ρ x = .int L a) (hs : (C.P.underlying s).isSome = true) (ht : intKind C.P t = some K) (hc : K.wrap a = c) (w : World) : (execOp (opv C.n ρ) ⟨some d, .convert s t x, ty, pos, af, none⟩).run C.P w = .ok (.value ((.int K c))) w := by
 subst hc
 skip
 obtain ⟨us, hus⟩ := Option.isSome_iff_exists.1 hs
 have hut : C.P.underlying t = some (.int K) := by
  unfold intKind at ht; split at ht <;> simp_all
 simp [execOp, hx, convert, run_underlying hus, run_underlying hut, Conv.intToInt]
theorem x_fieldAddr (s f m off' : Nat) (ft : TypeId) (hx : opv C.n ρ x = .pointer (some ⟨B, off, none⟩)) (hf : fieldOff C.P s f = some (m, ft)) (ho : off + m = off') (w : World) : (execOp (opv C.n ρ) ⟨some d, .fieldAddr s x f, ty, pos, af, none⟩).run C.P w = .ok (.value ((.pointer (some ⟨B, off', none⟩)))) w := by
 subst ho
 skip
 unfold fieldOff at hf
 split at hf
 ·rename_i fs hu
  split at hf
  ·rename_i fd hfd
   split at hf
   ·cases hf
   ·rename_i hz
    injection hf with hf
    injection hf with h1 h2
    subst h1
    subst h2
    have hi : ∃ ti, C.P.info? fd.type = some ti ∧ ti.size ≠ 0 := by
     unfold Program.cellsOf at hz
     cases hh : C.P.info? fd.type with
     | none => simp [hh] at hz
     | some ti => exact ⟨ti, rfl, by simpa [hh] using hz⟩
    obtain ⟨ti, hti, hsz⟩ := hi
    simp only [execOp, hx, Instr.fieldAt, Sem.run_bind, run_underlying hu, Result.andThen_ok, hfd, Instr.sureAddr, fieldPlace, run_sizeOf hti, hsz, if_false, Sem.run_pure]
    simp [addr_add]
  ·cases hf
 ·cases hf
theorem x_load {w : World} (v : Value) {t : TypeId} (hagg : isAggB C.P t = false ∧ (C.P.underlying t).isSome = true) (hx : opv C.n ρ x = .pointer (some ⟨B, off, none⟩)) (hb : w.heap[B]? = some (.cells cs e fz)) (hv : cs[off]? = some v) : (execOp (opv C.n ρ) ⟨some d, .load t x, ty, pos, af, none⟩).run C.P w = .ok (.value (v)) w := (by simp only [execOp, hx, Instr.loadAt, Instr.sureAddr, Sem.run_bind, Sem.run_pure, Result.andThen_ok, run_loadVar1 hagg.1 hagg.2 hb hv])
theorem x_loadAgg {w : World} (vs : List Value) {t : TypeId} (m : Nat) (hagg : isAggB C.P t = true ∧ (C.P.info? t).map (·.size) = some m) (hx : opv C.n ρ x = .pointer (some ⟨B, off, none⟩)) (hb : w.heap[B]? = some (.cells cs e fz)) (hm : off + m ≤ cs.size) (hv : (cs.toList.drop off).take m = vs) : (execOp (opv C.n ρ) ⟨some d, .load t x, ty, pos, af, none⟩).run C.P w = .ok (.value ((.agg vs.toArray))) w := by
 skip
 obtain ⟨h1, h2⟩ := hagg
 have hu : (C.P.underlying t).isSome = true := by
  unfold isAggB at h1; split at h1 <;> simp_all
 cases hi : C.P.info? t with
 | none => simp [hi] at h2
 | some ti =>
  have hs : ti.size = m := by simpa [hi] using h2
  subst hs
  simp only [execOp, hx, Instr.loadAt, Instr.sureAddr, Sem.run_bind, Sem.run_pure, Result.andThen_ok, loadVar, run_isAgg h1 hu, if_true, run_sizeOf hi, run_loadCells hb hm hv]
theorem x_indexAddr {t : TypeId} {K : IntKind} (p : Nat) {n c : Nat} (j : Int) (size off' : Nat) (hx : opv C.n ρ x = .slice (some ⟨p, off, none⟩) n c) (hy : opv C.n ρ y = .int K j) (hs : elemSize C.P t = some (e, size)) (hj : 0 ≤ j ∧ j < (n : Int)) (ho : off + j.toNat * size = off') (w : World) : (execOp (opv C.n ρ) ⟨some d, .indexAddr t x y, ty, pos, af, none⟩).run C.P w = .ok (.value ((.pointer (some ⟨p, off', none⟩)))) w := by
 subst ho
 skip
 unfold elemSize at hs
 split at hs
 ·rename_i e' hu
  split at hs
  ·rename_i ti hti
   injection hs with hs
   injection hs with h1 h2
   subst h1
   subst h2
   simp only [execOp, hx, hy, Instr.indexAt, asIntOf, Sem.run_bind, Sem.run_pure, Result.andThen_ok, run_underlying hu, hj, and_self, if_true, run_sizeOf hti, addr_add]
  ·cases hs
 ·cases hs
theorem x_len (n : Nat) {t : TypeId} {x : Operand} {p : Option Addr} {c : Nat} (hx : opv C.n ρ x = .slice p n c) (ht : ∃ e, C.P.underlying t = some (.slice e)) (w : World) : (execOp (opv C.n ρ) ⟨some d, .call { callee := .builtin .len, args := #[x], argTypes := #[t] }, ty, pos, af, none⟩).run C.P w = .ok (.value ((.int .i64 n))) w := by
 obtain ⟨e, he⟩ := ht
 skip
 simp [execOp, resolve, invoke, builtin, hx, Builtin.len_, run_underlying he, goInt]
theorem x_build {t : TypeId} {parts : Array (Nat × Operand)} (hf : C.P.built t (parts.toList.map fun p => (p.1, opv C.n ρ p.2)) = some cs) (w : World) : (execOp (opv C.n ρ) ⟨some d, .build t parts, ty, pos, af, none⟩).run C.P w = .ok (.value ((.agg cs))) w := (by rw [← Array.toList_map] at hf; simp only [execOp, Sem.run_bind, run_build w t _ cs hf, Result.andThen_ok, Sem.run_pure])
theorem x_call {f : FuncId} {ops' : Array Operand} {tys : Array TypeId} (hf : plainFn C.P f = true) (args : List Value) (ha : ops'.toList.map (opv C.n ρ) = args) (w : World) : (execOp (opv C.n ρ) ⟨some d, .call { callee := .value (.func f), args := ops', argTypes := tys }, ty, pos, af, none⟩).run C.P w = .ok (.enter f args.toArray) w := by
 subst ha
 simp only [execOp, resolve, Deferred.ofValue, opv, Sem.run_bind, Sem.run_pure, Result.andThen_ok, invoke, run_callFunc hf, Array.append_empty, Array.empty_append, map_toList]
end
end Sl
