/- clear; texts in order; a condition's variables. No condition. -/
import Derived.Test.YtfflafpcpbeciaaSlBD
namespace Sl
open _root_.Go _root_.Go.RowKit
set_option linter.all false
set_option linter.unusedSimpArgs false
section
variable {C : Ctx} {ρ : Env} {w : World} {ops : Array Oper} {K' : Env → World → Prop} {d ty : Nat} {pos : String} {af : Array Edge}
theorem r_val0 {o : Oper} {v : Value} {w' : World} {K : Env → World → Prop} (hg : o.guard = none) (hd : o.dst = none) (hr : (execOp (opv C.n ρ) o).run C.P w = .ok (.value v) w') (h : K ρ w') : GOp C ops o K ρ w := by
  unfold GOp
  rw [if_pos (by simp [Region.wanted, hg])]
  unfold wp1
  rw [eval_act, hr]
  simp only [upon1]
  rw [hd]
  exact ⟨_, rfl, h⟩
theorem run_zeroVal {P : Program} {e : TypeId} {z : Value} {w : World} {size bytes : Nat} (hi : (P.info? e).map (fun i => (i.zero, i.size, i.bytes)) = some (some z, size, bytes)) : (zeroValue e).run P w = .ok z w := by
  cases hh : P.info? e with
  | none => simp [hh] at hi
  | some ti =>
    simp only [hh, Option.map_some, Option.some.injEq, Prod.mk.injEq] at hi
    obtain ⟨h1, _, _⟩ := hi
    simp [zeroValue, Sem.run_bind, run_typeInfo w hh, Result.andThen, h1]
variable {W : World} {l : List Atom} {B off : Nat} {cs cs' : Array Value} {e : TypeId} {x : Operand}
theorem s_clear (H : St W w l) (i : Nat) {t e' : TypeId} {n c size bytes : Nat} {z : Value} (hi : l[i]? = some (blk B (.cells cs e (0, 0)))) (hx : opv C.n ρ x = .slice (some ⟨B, off, none⟩) n c) (hn0 : 0 < n) (ht : C.P.underlying t = some (.slice e'))
    (hz : (C.P.info? e').map (fun i => (i.zero, i.size, i.bytes)) = some (some z, size, bytes)) (h1 : ∀ v ∈ (Builtin.zeroCells z.cells n).toList, v.oneCell' = true) (ho : off + n * z.cells.size ≤ cs.size) (hv : writes cs off (Builtin.zeroCells z.cells n).toList = cs')
    (h : ∀ w', St W w' (l.set i (blk B (.cells cs' e (0, 0)))) → K' ρ w') : GOp C ops ⟨none, .call { callee := .builtin .clear, args := #[x], argTypes := #[t] }, ty, pos, af, none⟩ K' ρ w := by
  subst hv
  have hsz : (Builtin.zeroCells z.cells n).toList.length = n * z.cells.size := by simp [Builtin.zeroCells]
  obtain ⟨w', hr, H'⟩ := run_storeMany (P := C.P) (off := off) (Builtin.zeroCells z.cells n).toList 0 cs l w H hi (by rw [hsz]; omega) (fun o _ _ => by simp) h1
  refine r_val0 (v := .tuple #[]) rfl rfl ?_ (h w' (by simpa using H'))
  obtain ⟨m, rfl⟩ : ∃ m, n = m + 1 := ⟨n - 1, by omega⟩
  simp only [execOp, resolve, invoke, builtin, List.map_toArray, List.map_cons, List.map_nil, hx, Builtin.clear_, Sem.run_bind, Sem.run_pure, Result.andThen_ok, run_underlying ht]
  simp [Sem.run_bind, run_underlying ht, run_zeroVal hz, hr, Result.andThen]
end
/-! ### the order of texts -/
theorem bl_irrefl : ∀ l : List UInt8, Op.bytesLess l l = false
  | [] => rfl
  | a :: l => by simp [Op.bytesLess, bl_irrefl l]
theorem bl_total : ∀ l m : List UInt8, Op.bytesLess l m = false → Op.bytesLess m l = false → l = m
  | [], [], _, _ => rfl
  | [], b :: m, h, _ => by simp [Op.bytesLess] at h
  | a :: l, [], _, h => by simp [Op.bytesLess] at h
  | a :: l, b :: m, h1, h2 => by
    simp only [Op.bytesLess, Bool.or_eq_false_iff, decide_eq_false_iff_not, Bool.and_eq_false_iff, beq_eq_false_iff_ne] at h1 h2
    have hab : a = b := UInt8.le_antisymm (UInt8.not_lt.1 h2.1) (UInt8.not_lt.1 h1.1)
    subst hab
    simp at h1 h2
    rw [bl_total l m h1 h2]
theorem bl_asymm : ∀ l m : List UInt8, Op.bytesLess l m = true → Op.bytesLess m l = false
  | [], [], h => by simp [Op.bytesLess] at h
  | [], b :: m, _ => rfl
  | a :: l, [], h => by simp [Op.bytesLess] at h
  | a :: l, b :: m, h => by
    simp only [Op.bytesLess, Bool.or_eq_true, decide_eq_true_eq, Bool.and_eq_true, beq_iff_eq] at h
    simp only [Op.bytesLess, Bool.or_eq_false_iff, decide_eq_false_iff_not, Bool.and_eq_false_iff, beq_eq_false_iff_ne]
    rcases h with h | ⟨rfl, h⟩
    · exact ⟨UInt8.not_lt.2 (UInt8.le_of_lt h), .inl fun e => by subst e; exact UInt8.lt_irrefl _ h⟩
    · exact ⟨UInt8.lt_irrefl a, .inr (bl_asymm l m h)⟩
theorem bl_trans : ∀ l m n : List UInt8, Op.bytesLess l m = true → Op.bytesLess m n = true → Op.bytesLess l n = true
  | _, [], _, h, _ => by cases ‹List UInt8› <;> simp [Op.bytesLess] at h
  | _, _ :: _, [], _, h => by simp [Op.bytesLess] at h
  | [], _ :: _, _ :: _, _, _ => rfl
  | a :: l, b :: m, c :: n, h1, h2 => by
    simp only [Op.bytesLess, Bool.or_eq_true, decide_eq_true_eq, Bool.and_eq_true, beq_iff_eq] at h1 h2 ⊢
    rcases h1 with h1 | ⟨rfl, h1⟩
    · rcases h2 with h2 | ⟨rfl, h2⟩
      · exact .inl (UInt8.lt_trans h1 h2)
      · exact .inl h1
    · rcases h2 with h2 | ⟨rfl, h2⟩
      · exact .inl h2
      · exact .inr ⟨rfl, bl_trans l m n h1 h2⟩
theorem sLt_irrefl (a : ByteArray) : sLt a a = false := bl_irrefl _
theorem sLt_asymm {a b : ByteArray} (h : sLt a b = true) : sLt b a = false := bl_asymm _ _ h
theorem sLt_trans {a b c : ByteArray} (h : sLt a b = true) (h2 : sLt b c = true) : sLt a c = true := bl_trans _ _ _ h h2
theorem sLt_total {a b : ByteArray} (h : sLt a b = false) (h2 : sLt b a = false) : a = b := by
  have := bl_total _ _ h h2
  rw [ByteArray.toList_eq, ByteArray.toList_eq] at this
  cases a; cases b
  congr 1
  exact Array.toList_inj.1 this
/-! ### a condition's variables -/
def namesV (c : CondV) : List Str :=
  if c.left.attr.v = ByteArray.empty then (if c.right.attr.v = ByteArray.empty then [] else [c.right.var])
  else if c.right.attr.v = ByteArray.empty then [c.left.var]
  else if c.left.var.v = c.right.var.v then [c.left.var]
  else if sLt c.left.var.v c.right.var.v = true then [c.left.var, c.right.var] else [c.right.var, c.left.var]
section
variable {c : CondV}
end
def hasS (L : List Str) (s : ByteArray) : Bool := L.any fun x => decide (s = x.v)
def readyB (c : CondV) (vars : List Str) : Bool := !((namesV c).any fun x => !hasS vars x.v)
theorem Row.cut {W w : World} {F : List Atom} {i : Nat} {e : TypeId} {g c n m size : Nat} {cur : Array Value} {xs : List Value} (H : St W w F) (hi : F[i]? = some (blk g (.cells cur e (0, 0)))) (hm : m ≤ c) (hc : c ≤ maxLen) (hs : cur.size = c * size) (ht : (cur.toList.drop 0).take (m * size) = xs) (hone : ∀ x ∈ xs, x.oneCell' = true) : St W w (F.set i (Row e size (.slice (some ⟨g, 0, none⟩) m c) m xs)) :=
  Row.shut2 H hi rfl hm hc hs ht hone
/-! ## looking through a list -/
section
variable {α : Type} [Inhabited α] {p : α → Bool} {L : List α}
end
theorem hasS_comm (L : List Str) (s : ByteArray) : (L.any fun x => decide (x.v = s)) = hasS L s := by
  unfold hasS; congr 1; funext x; exact decide_eq_decide.2 ⟨Eq.symm, Eq.symm⟩
/-- Lists of texts are the same. -/
def eqS (L M : List Str) : Bool := decide (L.map Str.v = M.map Str.v)
end Sl
