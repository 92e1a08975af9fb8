import Derived.Test.YteogdknlofcpiaaGreatSlB
import Derived.Laws.Cover3
namespace Sl
open _root_.Go _root_.Go.RowKit
set_option linter.all false
set_option linter.unusedSimpArgs false

def isAggB (P : Program) (t : TypeId) : Bool := match P.underlying t with | some (.struct _) | some (.array _ _) => true | _ => false
def zeroOf (P : Program) (t : TypeId) : Option (Array Value) := ((P.info? t).bind (·.zero)).map Value.cells
def fieldOff (P : Program) (s i : Nat) : Option (Nat × TypeId) :=
 match P.underlying s with
 | some (.struct fs) => match fs[i]? with
  | some f => if P.cellsOf f.type = 0 then none else some (f.offset, f.type)
  | none => none
 | _ => none
def elemSize (P : Program) (t : TypeId) : Option (TypeId × Nat) :=
 match P.underlying t with
 | some (.slice e) => match P.info? e with | some i => some (e, i.size) | none => none
 | _ => none
def intKind (P : Program) (t : TypeId) : Option IntKind := match P.underlying t with | some (.int k) => some k | _ => none
def isStr (P : Program) (t : TypeId) : Bool := match P.underlying t with | some .string => true | _ => false

theorem run_sizeOf {P : Program} {t : TypeId} {i : TypeInfo} (h : P.info? t = some i) (w : World) : (Go.sizeOf t).run P w = .ok i.size w := by
 simp [Go.sizeOf, typeInfo, h]
theorem run_isAgg {P : Program} {t : TypeId} {b : Bool} (h : isAggB P t = b) (hb : (P.underlying t).isSome = true) (w : World) : (isAgg t).run P w = .ok b w := by
 cases hu : P.underlying t with
 | none => simp [hu] at hb
 | some d =>
  simp only [isAggB, hu] at h
  unfold isAgg
  simp only [Sem.run_bind, run_underlying hu, Result.andThen_ok]
  cases d <;> simp_all <;> rfl
theorem addr_add (b off n : Nat) : (⟨b, off, none⟩ : Addr).add n = ⟨b, off + n, none⟩ := by
 unfold Addr.add; split <;> simp_all
theorem cell_of {w : World} {b off : Nat} {cs : Array Value} {e : TypeId} {fz : Nat × Nat} {v : Value} (hb : w.heap[b]? = some (.cells cs e fz)) (hv : cs[off]? = some v) : w.cell? ⟨b, off, none⟩ = some v := by
 simp [World.cell?, hb, hv]
theorem run_load {P : Program} {w : World} {a : Addr} {v : Value} (h : w.cell? a = some v) : (load a).run P w = .ok v w := by
 simp [load, Sem.run, h]
theorem run_loadCellsFrom {P : Program} {w : World} {b off : Nat} {cs : Array Value} {e : TypeId} {fz : Nat × Nat} (hb : w.heap[b]? = some (.cells cs e fz)) :
  ∀ (n i : Nat) (acc : Array Value), off + i + n ≤ cs.size → (loadCellsFrom ⟨b, off, none⟩ i n acc).run P w = .ok (acc ++ ((cs.toList.drop (off + i)).take n).toArray) w
 | 0, i, acc, _ => by simp [loadCellsFrom, Sem.run]
 | n + 1, i, acc, h => by
  have hlt : off + i < cs.size := by omega
  have hc : w.cell? ((⟨b, off, none⟩ : Addr).add i) = some cs[off + i] := by
   rw [addr_add]; exact cell_of hb (by simp [hlt])
  unfold loadCellsFrom
  simp only [Sem.run_bind, run_load hc, Result.andThen_ok]
  rw [run_loadCellsFrom hb n (i + 1) _ (by omega)]
  congr 1
  have hl : off + i < cs.toList.length := by simpa using hlt
  rw [List.drop_eq_getElem_cons hl, List.take_succ_cons]
  simp [Nat.add_assoc]
theorem run_loadCells {P : Program} {w : World} {b off n : Nat} {cs : Array Value} {e : TypeId} {fz : Nat × Nat} {vs : List Value} (hb : w.heap[b]? = some (.cells cs e fz)) (hn : off + n ≤ cs.size) (hv : (cs.toList.drop off).take n = vs) :
  (loadCells ⟨b, off, none⟩ n).run P w = .ok vs.toArray w := by
 unfold loadCells
 rw [run_loadCellsFrom hb n 0 #[] (by omega)]
 simp [hv]

section
variable {C : Ctx} {k : List Item} {ρ : Env} {w : World} {ops : Array Oper} {K' : Env → World → Prop} {d ty : Nat} {pos : String} {af : Array Edge}
variable {W : World} {l : List Atom} {i : Nat}

theorem s_move (v : Value) {x : Operand} (hx : opv C.n ρ x = v) (hn : Nat.blt d C.n = true) (h : K' (upd ρ d v) w) : GOp C ops ⟨some d, .move x, ty, pos, af, none⟩ K' ρ w :=
 r_val rfl rfl hn (by simp only [execOp, hx]; rfl) h
theorem s_assign (v : Value) {x : Operand} (hx : opv C.n ρ x = v) (hn : Nat.blt d C.n = true) (h : K' (upd ρ d v) w) : GOp C ops ⟨some d, .assign x, ty, pos, af, none⟩ K' ρ w :=
 r_val rfl rfl hn (by simp only [execOp, hx]; rfl) h
theorem s_pick_t (v : Value) {c a b : Operand} (hc : opv C.n ρ c = .bool true) (hx : opv C.n ρ a = v) (hn : Nat.blt d C.n = true) (h : K' (upd ρ d v) w) : GOp C ops ⟨some d, .pick c a b, ty, pos, af, none⟩ K' ρ w :=
 r_val rfl rfl hn (by simp only [execOp, hc, hx, asBool]; rfl) h
theorem s_pick_f (v : Value) {c a b : Operand} (hc : opv C.n ρ c = .bool false) (hx : opv C.n ρ b = v) (hn : Nat.blt d C.n = true) (h : K' (upd ρ d v) w) : GOp C ops ⟨some d, .pick c a b, ty, pos, af, none⟩ K' ρ w :=
 r_val rfl rfl hn (by simp only [execOp, hc, hx, asBool]; rfl) h
theorem s_nilCheck (v : Value) {x : Operand} (hx : opv C.n ρ x = v) (hv : ∃ a, v = .pointer (some a)) (hn : Nat.blt d C.n = true) (h : K' (upd ρ d v) w) : GOp C ops ⟨some d, .nilCheck x, ty, pos, af, none⟩ K' ρ w := by
 obtain ⟨a, rfl⟩ := hv
 exact r_val rfl rfl hn (by simp only [execOp, hx]; rfl) h
theorem s_extract (v : Value) {x : Operand} {ix : Nat} (vs : Array Value) (hx : opv C.n ρ x = .tuple vs) (hv : vs[ix]? = some v) (hn : Nat.blt d C.n = true) (h : K' (upd ρ d v) w) : GOp C ops ⟨some d, .extract x ix, ty, pos, af, none⟩ K' ρ w :=
 r_val rfl rfl hn (by simp [execOp, hx, Instr.extract, hv]) h
theorem s_not {t : TypeId} (b : Bool) {x : Operand} (hx : opv C.n ρ x = .bool b) (c : Bool) (hc : (!b) = c) (hn : Nat.blt d C.n = true) (h : K' (upd ρ d (.bool c)) w) : GOp C ops ⟨some d, .unOp .not t x, ty, pos, af, none⟩ K' ρ w := by
 subst hc
 exact r_val rfl rfl hn (by simp [execOp, hx, Op.unary]) h
theorem s_makeFunc (v : Value) {fn : Fn} {first cap : Array Operand} (hv : Value.func fn (first.toList.map (opv C.n ρ)).toArray (cap.toList.map (opv C.n ρ)).toArray = v) (hn : Nat.blt d C.n = true) (h : K' (upd ρ d v) w) : GOp C ops ⟨some d, .makeFunc fn first cap, ty, pos, af, none⟩ K' ρ w := by
 subst hv
 exact r_val rfl rfl hn (by simp only [execOp, Instr.makeFunc, map_toList, Sem.run_bind, Sem.run_pure, Result.andThen_ok]) h

variable {x y : Operand} {xt yt : Nat} {K : IntKind} {a b : Int}
theorem run_int_bin {op : BinOp} {v : Value} (hx : opv C.n ρ x = .int K a) (hy : opv C.n ρ y = .int K b) (hr : (binOp op xt (.int K a) (.int K b)).run C.P w = .ok v w) :
  (execOp (opv C.n ρ) ⟨some d, .binOp op xt x y yt, ty, pos, af, none⟩).run C.P w = .ok (.value v) w := by
 have hg : ∀ w, (eqGuard op xt x y (.int K a) (.int K b)).run C.P w = .ok () w := by
  intro w; unfold eqGuard; cases op <;> rfl
 simp only [execOp, hx, hy, Sem.run_bind, hg, Result.andThen_ok, hr]
 rfl
theorem s_add (c : Int) (hx : opv C.n ρ x = .int K a) (hy : opv C.n ρ y = .int K b) (hc : K.wrap (a + b) = c) (hn : Nat.blt d C.n = true) (h : K' (upd ρ d (.int K c)) w) : GOp C ops ⟨some d, .binOp .add xt x y yt, ty, pos, af, none⟩ K' ρ w := by
 subst hc
 exact r_val rfl rfl hn (run_int_bin hx hy (by simp [binOp, Op.intArith])) h
theorem s_sub (c : Int) (hx : opv C.n ρ x = .int K a) (hy : opv C.n ρ y = .int K b) (hc : K.wrap (a - b) = c) (hn : Nat.blt d C.n = true) (h : K' (upd ρ d (.int K c)) w) : GOp C ops ⟨some d, .binOp .sub xt x y yt, ty, pos, af, none⟩ K' ρ w := by
 subst hc
 exact r_val rfl rfl hn (run_int_bin hx hy (by simp [binOp, Op.intArith])) h
theorem s_mul (c : Int) (hx : opv C.n ρ x = .int K a) (hy : opv C.n ρ y = .int K b) (hc : K.wrap (a * b) = c) (hn : Nat.blt d C.n = true) (h : K' (upd ρ d (.int K c)) w) : GOp C ops ⟨some d, .binOp .mul xt x y yt, ty, pos, af, none⟩ K' ρ w := by
 subst hc
 exact r_val rfl rfl hn (run_int_bin hx hy (by simp [binOp, Op.intArith])) h
theorem s_quo (c : Int) (hx : opv C.n ρ x = .int K a) (hy : opv C.n ρ y = .int K b) (hb : b ≠ 0) (hc : K.wrap (a.tdiv b) = c) (hn : Nat.blt d C.n = true) (h : K' (upd ρ d (.int K c)) w) : GOp C ops ⟨some d, .binOp .quo xt x y yt, ty, pos, af, none⟩ K' ρ w := by
 subst hc
 exact r_val rfl rfl hn (run_int_bin hx hy (by simp [binOp, Op.intDiv, hb])) h
theorem s_rem (c : Int) (hx : opv C.n ρ x = .int K a) (hy : opv C.n ρ y = .int K b) (hb : b ≠ 0) (hc : a.tmod b = c) (hn : Nat.blt d C.n = true) (h : K' (upd ρ d (.int K c)) w) : GOp C ops ⟨some d, .binOp .rem xt x y yt, ty, pos, af, none⟩ K' ρ w := by
 subst hc
 exact r_val rfl rfl hn (run_int_bin hx hy (by simp [binOp, Op.intDiv, hb])) h
def bitOp (op : BinOp) (K : IntKind) (a b : Int) : Int :=
 let x := BitVec.ofInt K.bits a
 let y := BitVec.ofInt K.bits b
 K.wrap (match op with | .and => (x &&& y).toNat | .or => (x ||| y).toNat | .xor => (x ^^^ y).toNat | _ => (x &&& ~~~y).toNat)
theorem s_and (c : Int) (hx : opv C.n ρ x = .int K a) (hy : opv C.n ρ y = .int K b) (hc : bitOp .and K a b = c) (hn : Nat.blt d C.n = true) (h : K' (upd ρ d (.int K c)) w) : GOp C ops ⟨some d, .binOp .and xt x y yt, ty, pos, af, none⟩ K' ρ w := by
 subst hc
 exact r_val rfl rfl hn (run_int_bin hx hy (by simp [binOp, Op.intBits, bitOp])) h
theorem s_or (c : Int) (hx : opv C.n ρ x = .int K a) (hy : opv C.n ρ y = .int K b) (hc : bitOp .or K a b = c) (hn : Nat.blt d C.n = true) (h : K' (upd ρ d (.int K c)) w) : GOp C ops ⟨some d, .binOp .or xt x y yt, ty, pos, af, none⟩ K' ρ w := by
 subst hc
 exact r_val rfl rfl hn (run_int_bin hx hy (by simp [binOp, Op.intBits, bitOp])) h
theorem s_xor (c : Int) (hx : opv C.n ρ x = .int K a) (hy : opv C.n ρ y = .int K b) (hc : bitOp .xor K a b = c) (hn : Nat.blt d C.n = true) (h : K' (upd ρ d (.int K c)) w) : GOp C ops ⟨some d, .binOp .xor xt x y yt, ty, pos, af, none⟩ K' ρ w := by
 subst hc
 exact r_val rfl rfl hn (run_int_bin hx hy (by simp [binOp, Op.intBits, bitOp])) h
theorem run_shift {op : BinOp} {L : IntKind} {v : Value} (ho : op = .shl ∨ op = .shr) (hx : opv C.n ρ x = .int K a) (hy : opv C.n ρ y = .int L b) (hr : (Op.shift op K a L b).run C.P w = .ok v w) :
  (execOp (opv C.n ρ) ⟨some d, .binOp op xt x y yt, ty, pos, af, none⟩).run C.P w = .ok (.value v) w := by
 have hg : ∀ w, (eqGuard op xt x y (.int K a) (.int L b)).run C.P w = .ok () w := by
  intro w; unfold eqGuard; rcases ho with rfl | rfl <;> rfl
 have hb : (binOp op xt (.int K a) (.int L b)).run C.P w = .ok v w := by
  rcases ho with rfl | rfl <;> exact hr
 simp only [execOp, hx, hy, Sem.run_bind, hg, Result.andThen_ok, hb]
 rfl
theorem s_shl {L : IntKind} (c : Int) (hx : opv C.n ρ x = .int K a) (hy : opv C.n ρ y = .int L b) (hb : 0 ≤ b) (hc : K.wrap (a * 2 ^ (min b.toNat K.bits)) = c) (hn : Nat.blt d C.n = true) (h : K' (upd ρ d (.int K c)) w) : GOp C ops ⟨some d, .binOp .shl xt x y yt, ty, pos, af, none⟩ K' ρ w := by
 subst hc
 exact r_val rfl rfl hn (run_shift (.inl rfl) hx hy (by simp [Op.shift, show ¬ b < 0 by omega])) h
theorem s_shr {L : IntKind} (c : Int) (hx : opv C.n ρ x = .int K a) (hy : opv C.n ρ y = .int L b) (hb : 0 ≤ b) (hc : a.fdiv (2 ^ (min b.toNat K.bits)) = c) (hn : Nat.blt d C.n = true) (h : K' (upd ρ d (.int K c)) w) : GOp C ops ⟨some d, .binOp .shr xt x y yt, ty, pos, af, none⟩ K' ρ w := by
 subst hc
 exact r_val rfl rfl hn (run_shift (.inr rfl) hx hy (by simp [Op.shift, show ¬ b < 0 by omega])) h
theorem s_lss (c : Bool) (hx : opv C.n ρ x = .int K a) (hy : opv C.n ρ y = .int K b) (hc : decide (a < b) = c) (hn : Nat.blt d C.n = true) (h : K' (upd ρ d (.bool c)) w) : GOp C ops ⟨some d, .binOp .lss xt x y yt, ty, pos, af, none⟩ K' ρ w := by
 subst hc
 exact r_val rfl rfl hn (run_int_bin hx hy (by simp [binOp, Op.intCmp])) h
theorem s_leq (c : Bool) (hx : opv C.n ρ x = .int K a) (hy : opv C.n ρ y = .int K b) (hc : decide (a ≤ b) = c) (hn : Nat.blt d C.n = true) (h : K' (upd ρ d (.bool c)) w) : GOp C ops ⟨some d, .binOp .leq xt x y yt, ty, pos, af, none⟩ K' ρ w := by
 subst hc
 exact r_val rfl rfl hn (run_int_bin hx hy (by simp [binOp, Op.intCmp])) h
theorem s_gtr (c : Bool) (hx : opv C.n ρ x = .int K a) (hy : opv C.n ρ y = .int K b) (hc : decide (b < a) = c) (hn : Nat.blt d C.n = true) (h : K' (upd ρ d (.bool c)) w) : GOp C ops ⟨some d, .binOp .gtr xt x y yt, ty, pos, af, none⟩ K' ρ w := by
 subst hc
 exact r_val rfl rfl hn (run_int_bin hx hy (by simp [binOp, Op.intCmp])) h
theorem s_geq (c : Bool) (hx : opv C.n ρ x = .int K a) (hy : opv C.n ρ y = .int K b) (hc : decide (b ≤ a) = c) (hn : Nat.blt d C.n = true) (h : K' (upd ρ d (.bool c)) w) : GOp C ops ⟨some d, .binOp .geq xt x y yt, ty, pos, af, none⟩ K' ρ w := by
 subst hc
 exact r_val rfl rfl hn (run_int_bin hx hy (by simp [binOp, Op.intCmp])) h
theorem s_eql (c : Bool) (hx : opv C.n ρ x = .int K a) (hy : opv C.n ρ y = .int K b) (hc : decide (a = b) = c) (hn : Nat.blt d C.n = true) (h : K' (upd ρ d (.bool c)) w) : GOp C ops ⟨some d, .binOp .eql xt x y yt, ty, pos, af, none⟩ K' ρ w := by
 subst hc
 exact r_val rfl rfl hn (run_int_bin hx hy (by simp [binOp, Op.intCmp]; rfl)) h
theorem s_neq (c : Bool) (hx : opv C.n ρ x = .int K a) (hy : opv C.n ρ y = .int K b) (hc : (!decide (a = b)) = c) (hn : Nat.blt d C.n = true) (h : K' (upd ρ d (.bool c)) w) : GOp C ops ⟨some d, .binOp .neq xt x y yt, ty, pos, af, none⟩ K' ρ w := by
 subst hc
 exact r_val rfl rfl hn (run_int_bin hx hy (by simp [binOp, Op.intCmp]; rfl)) h

theorem run_str_bin {op : BinOp} {v : Value} {s t : ByteArray} (hs : op ≠ .shl ∧ op ≠ .shr) (hx : opv C.n ρ x = .string s) (hy : opv C.n ρ y = .string t) (hr : (Op.stringOp op s t).run C.P w = .ok v w) :
  (execOp (opv C.n ρ) ⟨some d, .binOp op xt x y yt, ty, pos, af, none⟩).run C.P w = .ok (.value v) w := by
 have hg : ∀ w, (eqGuard op xt x y (.string s) (.string t)).run C.P w = .ok () w := by
  intro w; unfold eqGuard; cases op <;> rfl
 have hb : (binOp op xt (.string s) (.string t)).run C.P w = .ok v w := by
  cases op <;> first | exact hr | (exact absurd rfl hs.1) | (exact absurd rfl hs.2)
 simp only [execOp, hx, hy, Sem.run_bind, hg, Result.andThen_ok, hb]
 rfl
theorem ba_beq (s t : ByteArray) : (s.toList == t.toList) = decide (s = t) := by
 rw [Bool.eq_iff_iff]
 simp only [beq_iff_eq, decide_eq_true_eq]
 constructor
 ·intro h
  rw [ByteArray.toList_eq, ByteArray.toList_eq] at h
  cases s; cases t
  congr 1
  exact Array.toList_inj.1 h
 ·rintro rfl; rfl
theorem s_seql (c : Bool) {s t : ByteArray} (hx : opv C.n ρ x = .string s) (hy : opv C.n ρ y = .string t) (hc : decide (s = t) = c) (hn : Nat.blt d C.n = true) (h : K' (upd ρ d (.bool c)) w) : GOp C ops ⟨some d, .binOp .eql xt x y yt, ty, pos, af, none⟩ K' ρ w := by
 subst hc
 exact r_val rfl rfl hn (run_str_bin ⟨by simp, by simp⟩ hx hy (by simp only [Op.stringOp, ba_beq]; rfl)) h
theorem s_sneq (c : Bool) {s t : ByteArray} (hx : opv C.n ρ x = .string s) (hy : opv C.n ρ y = .string t) (hc : (!decide (s = t)) = c) (hn : Nat.blt d C.n = true) (h : K' (upd ρ d (.bool c)) w) : GOp C ops ⟨some d, .binOp .neq xt x y yt, ty, pos, af, none⟩ K' ρ w := by
 subst hc
 exact r_val rfl rfl hn (run_str_bin ⟨by simp, by simp⟩ hx hy (by simp only [Op.stringOp, ba_beq]; rfl)) h
def sLt (s t : ByteArray) : Bool := Op.bytesLess s.toList t.toList
theorem run_bin {op : BinOp} {u v r : Value} (hx : opv C.n ρ x = u) (hy : opv C.n ρ y = v) (hg : (eqGuard op xt x y u v).run C.P w = .ok () w) (hr : (binOp op xt u v).run C.P w = .ok r w) :
  (execOp (opv C.n ρ) ⟨some d, .binOp op xt x y yt, ty, pos, af, none⟩).run C.P w = .ok (.value r) w := by
 simp only [execOp, hx, hy, Sem.run_bind, hg, Result.andThen_ok, hr]
 rfl
theorem s_bin {op : BinOp} (r : Value) {u v : Value} (hx : opv C.n ρ x = u) (hy : opv C.n ρ y = v) (hg : (eqGuard op xt x y u v).run C.P w = .ok () w) (hr : (binOp op xt u v).run C.P w = .ok r w) (hn : Nat.blt d C.n = true) (h : K' (upd ρ d r) w) : GOp C ops ⟨some d, .binOp op xt x y yt, ty, pos, af, none⟩ K' ρ w :=
 r_val rfl rfl hn (run_bin hx hy hg hr) h
theorem s_peql (c : Bool) {p : Option Addr} {te : TypeId} (ht : C.P.underlying xt = some (.pointer te)) (hx : opv C.n ρ x = .pointer p) (hy : opv C.n ρ y = .pointer none) (hc : p.isNone = c) (hn : Nat.blt d C.n = true) (h : K' (upd ρ d (.bool c)) w) : GOp C ops ⟨some d, .binOp .eql xt x y yt, ty, pos, af, none⟩ K' ρ w := by
 subst hc
 have hp : C.P.underlying xt = some (.pointer (C.P.pointee xt)) := by simp [Program.pointee, ht]
 exact s_bin (.bool p.isNone) hx hy rfl (by rw [run_eql_pointer_nil w xt p hp]) hn h
theorem s_pneq (c : Bool) {p : Option Addr} {te : TypeId} (ht : C.P.underlying xt = some (.pointer te)) (hx : opv C.n ρ x = .pointer p) (hy : opv C.n ρ y = .pointer none) (hc : p.isSome = c) (hn : Nat.blt d C.n = true) (h : K' (upd ρ d (.bool c)) w) : GOp C ops ⟨some d, .binOp .neq xt x y yt, ty, pos, af, none⟩ K' ρ w := by
 subst hc
 have hp : C.P.underlying xt = some (.pointer (C.P.pointee xt)) := by simp [Program.pointee, ht]
 exact s_bin (.bool p.isSome) hx hy rfl (by rw [run_neq_pointer_nil w xt p hp]; cases p <;> rfl) hn h
theorem s_sleql (c : Bool) {p : Option Addr} {n m : Nat} {te : TypeId} (ht : C.P.underlying xt = some (.slice te)) (hx : opv C.n ρ x = .slice p n m) (hy : opv C.n ρ y = .slice none 0 0) (hc : p.isNone = c) (hn : Nat.blt d C.n = true) (h : K' (upd ρ d (.bool c)) w) : GOp C ops ⟨some d, .binOp .eql xt x y yt, ty, pos, af, none⟩ K' ρ w := by
 subst hc
 exact s_bin (.bool p.isNone) hx hy rfl (by have := run_equal_slice_nil (P := C.P) w xt te p n m ht; simp [binOp, this]) hn h
theorem s_conv (c : Int) {K L : IntKind} {s t : TypeId} (hx : opv C.n ρ x = .int L a) (hs : (C.P.underlying s).isSome = true) (ht : intKind C.P t = some K) (hc : K.wrap a = c) (hn : Nat.blt d C.n = true) (h : K' (upd ρ d (.int K c)) w) : GOp C ops ⟨some d, .convert s t x, ty, pos, af, none⟩ K' ρ w := by
 subst hc
 refine r_val rfl rfl hn ?_ h
 obtain ⟨us, hus⟩ := Option.isSome_iff_exists.1 hs
 have hut : C.P.underlying t = some (.int K) := by
  unfold intKind at ht; split at ht <;> simp_all
 simp [execOp, hx, convert, run_underlying hus, run_underlying hut, Conv.intToInt]

variable {B off : Nat} {cs : Array Value} {e : TypeId} {fz : Nat × Nat}
theorem s_fieldAddr (s f m off' : Nat) (ft : TypeId) (hx : opv C.n ρ x = .pointer (some ⟨B, off, none⟩)) (hf : fieldOff C.P s f = some (m, ft)) (ho : off + m = off') (hn : Nat.blt d C.n = true) (h : K' (upd ρ d (.pointer (some ⟨B, off', none⟩))) w) : GOp C ops ⟨some d, .fieldAddr s x f, ty, pos, af, none⟩ K' ρ w := by
 subst ho
 refine r_val rfl rfl hn ?_ h
 unfold fieldOff at hf
 split at hf
 ·rename_i fs hu
  split at hf
  ·rename_i fd hfd
   split at hf
   ·cases hf
   ·rename_i hz
    injection hf with hf
    injection hf with h1 h2
    subst h1
    subst h2
    have hi : ∃ ti, C.P.info? fd.type = some ti ∧ ti.size ≠ 0 := by
     unfold Program.cellsOf at hz
     cases hh : C.P.info? fd.type with
     | none => simp [hh] at hz
     | some ti => exact ⟨ti, rfl, by simpa [hh] using hz⟩
    obtain ⟨ti, hti, hsz⟩ := hi
    simp only [execOp, hx, Instr.fieldAt, Sem.run_bind, run_underlying hu, Result.andThen_ok, hfd, Instr.sureAddr, fieldPlace, run_sizeOf hti, hsz, if_false, Sem.run_pure]
    simp [addr_add]
  ·cases hf
 ·cases hf
theorem run_loadVar1 {P : Program} {t : TypeId} {v : Value} (hagg : isAggB P t = false) (ht : (P.underlying t).isSome = true) (hb : w.heap[B]? = some (.cells cs e fz)) (hv : cs[off]? = some v) : (loadVar t ⟨B, off, none⟩).run P w = .ok v w := by
 unfold loadVar
 simp only [Sem.run_bind, run_isAgg hagg ht, Result.andThen_ok, Bool.false_eq_true, if_false]
 exact run_load (cell_of hb hv)
theorem s_load (v : Value) {t : TypeId} (hagg : isAggB C.P t = false ∧ (C.P.underlying t).isSome = true) (hx : opv C.n ρ x = .pointer (some ⟨B, off, none⟩)) (hb : w.heap[B]? = some (.cells cs e fz)) (hv : cs[off]? = some v) (hn : Nat.blt d C.n = true) (h : K' (upd ρ d v) w) : GOp C ops ⟨some d, .load t x, ty, pos, af, none⟩ K' ρ w :=
 r_val rfl rfl hn (by simp only [execOp, hx, Instr.loadAt, Instr.sureAddr, Sem.run_bind, Sem.run_pure, Result.andThen_ok, run_loadVar1 hagg.1 hagg.2 hb hv]) h
theorem s_loadAgg (vs : List Value) {t : TypeId} (m : Nat) (hagg : isAggB C.P t = true ∧ (C.P.info? t).map (·.size) = some m) (hx : opv C.n ρ x = .pointer (some ⟨B, off, none⟩)) (hb : w.heap[B]? = some (.cells cs e fz)) (hm : off + m ≤ cs.size) (hv : (cs.toList.drop off).take m = vs) (hn : Nat.blt d C.n = true) (h : K' (upd ρ d (.agg vs.toArray)) w) : GOp C ops ⟨some d, .load t x, ty, pos, af, none⟩ K' ρ w := by
 refine r_val rfl rfl hn ?_ h
 obtain ⟨h1, h2⟩ := hagg
 have hu : (C.P.underlying t).isSome = true := by
  unfold isAggB at h1; split at h1 <;> simp_all
 cases hi : C.P.info? t with
 | none => simp [hi] at h2
 | some ti =>
  have hs : ti.size = m := by simpa [hi] using h2
  subst hs
  simp only [execOp, hx, Instr.loadAt, Instr.sureAddr, Sem.run_bind, Sem.run_pure, Result.andThen_ok, loadVar, run_isAgg h1 hu, if_true, run_sizeOf hi, run_loadCells hb hm hv]
theorem s_alloc (H : St W w l) (t : TypeId) (hz : zeroOf C.P t = some cs) (hn : Nat.blt d C.n = true) (h : ∀ b w', St W w' (blk b (.cells cs t) :: l) → K' (upd ρ d (.pointer (some ⟨b, 0, none⟩))) w') : GOp C ops ⟨some d, .alloc t, ty, pos, af, none⟩ K' ρ w := by
 refine r_val rfl rfl hn ?_ (h _ _ (H.alloc _))
 unfold zeroOf at hz
 cases hi : C.P.info? t with
 | none => simp [hi] at hz
 | some ti =>
  cases hzz : ti.zero with
  | none => simp [hi, hzz] at hz
  | some z =>
   have : z.cells = cs := by simpa [hi, hzz] using hz
   subst this
   simp only [execOp, Instr.alloc, zeroValue, typeInfo, hi, hzz, newVar, newRow, newObj, Sem.run_bind, run_program, Result.andThen_ok, Sem.run_pure]
   rfl
theorem s_box (H : St W w l) (t : TypeId) (v : Value) (hx : opv C.n ρ x = v) (hv : v.cells = cs) (hn : Nat.blt d C.n = true) (h : ∀ b w', St W w' (blk b (.cells cs t) :: l) → K' (upd ρ d (.pointer (some ⟨b, 0, none⟩))) w') : GOp C ops ⟨some d, .box t x, ty, pos, af, none⟩ K' ρ w := by
 subst hv
 refine r_val rfl rfl hn ?_ (h _ _ (H.alloc _))
 simp only [execOp, Instr.box, hx, newVar, newRow, newObj, Sem.run_bind, Result.andThen_ok, Sem.run_pure]
 rfl
end
end Sl
