/- The sum sees what is spoilt. No condition. -/
import Derived.Test.YtcomkhcpifcgmaaSlAD
namespace Sl
open _root_.Go _root_.Go.RowKit
set_option linter.all false
theorem crcBit_test {s : Nat} (hs : s < 4294967296) (i : Nat) : (crcBit s).testBit i = ((decide (i < 32) && (decide (1 ≤ i) && s.testBit (i - 1))) ^^ (s.testBit 31 && (79764919 : Nat).testBit i)) := by
  have h2 : (2 * s % 4294967296).testBit i = (decide (i < 32) && (decide (1 ≤ i) && s.testBit (i - 1))) := by
    rw [show 4294967296 = 2 ^ 32 from rfl, Nat.testBit_mod_two_pow, show 2 * s = s <<< 1 by rw [Nat.shiftLeft_eq]; omega, Nat.testBit_shiftLeft]
  have h3 : s.testBit 31 = decide (2147483648 ≤ s) := by
    rw [Nat.testBit_eq_decide_div_mod_eq]
    congr 1
    rw [show 2 ^ 31 = 2147483648 from rfl]
    apply propext
    omega
  unfold crcBit
  rw [h3]
  by_cases h : 2147483648 ≤ s
  · rw [if_pos h, Nat.testBit_xor, h2, decide_eq_true h, Bool.true_and]
  · rw [if_neg h, h2, decide_eq_false h, Bool.false_and, Bool.xor_false]
theorem crcBit_xor {a b : Nat} (ha : a < 4294967296) (hb : b < 4294967296) : crcBit (a ^^^ b) = crcBit a ^^^ crcBit b := by
  have hab : a ^^^ b < 4294967296 := Nat.xor_lt_two_pow (n := 32) ha hb
  refine Nat.eq_of_testBit_eq fun i => ?_
  rw [Nat.testBit_xor, crcBit_test hab, crcBit_test ha, crcBit_test hb, Nat.testBit_xor, Nat.testBit_xor]
  cases decide (i < 32) <;> cases decide (1 ≤ i) <;> cases a.testBit (i - 1) <;> cases b.testBit (i - 1) <;> cases a.testBit 31 <;> cases b.testBit 31 <;> cases (79764919 : Nat).testBit i <;> rfl
theorem crcBit_zero {s : Nat} (hs : s < 4294967296) (h : crcBit s = 0) : s = 0 := by
  by_cases h1 : 2147483648 ≤ s
  · rw [crcBit_hi h1] at h
    have h2 := congrArg (fun n : Nat => n.testBit 0) h
    simp only [Nat.testBit_xor] at h2
    have h3 : (2 * s % 4294967296).testBit 0 = false := by
      rw [Nat.testBit_zero]
      simp
    rw [h3] at h2
    exact absurd h2 (by decide)
  · rw [crcBit_lo h1] at h; omega
theorem crcBits_zero {s : Nat} (hs : s < 4294967296) : ∀ k, crcBits k s = 0 → s = 0
  | 0, h => h
  | k + 1, h => crcBits_zero hs k (crcBit_zero (crcBits_lt hs k) h)
theorem crcBits_front (s : Nat) : ∀ k, crcBits (k + 1) s = crcBits k (crcBit s)
  | 0 => rfl
  | k + 1 => by show crcBit (crcBits (k + 1) s) = crcBit (crcBits k (crcBit s)); rw [crcBits_front s k]
theorem crcBits_0 : ∀ k, crcBits k 0 = 0
  | 0 => rfl
  | k + 1 => by show crcBit (crcBits k 0) = 0; rw [crcBits_0 k]; rfl
/-- The sum, bit by bit. -/
def crcS (s : Nat) (b : Bool) : Nat := crcBit (s ^^^ (b.toNat * 2147483648))
def crcF (s : Nat) (l : List Bool) : Nat := l.foldl crcS s
theorem top_lt (b : Bool) : b.toNat * 2147483648 < 4294967296 := by cases b <;> decide
theorem crcS_lt {s : Nat} (b : Bool) (h : s < 4294967296) : crcS s b < 4294967296 := crcBit_lt (Nat.xor_lt_two_pow (n := 32) h (top_lt b))
theorem crcF_cons (s : Nat) (b : Bool) (l : List Bool) : crcF s (b :: l) = crcF (crcS s b) l := by unfold crcF; rw [List.foldl_cons]
theorem crcF_append (s : Nat) (l m : List Bool) : crcF s (l ++ m) = crcF (crcF s l) m := by unfold crcF; rw [List.foldl_append]
theorem crcF_lt : ∀ (l : List Bool) {s : Nat}, s < 4294967296 → crcF s l < 4294967296
  | [], s, h => h
  | b :: l, s, h => by rw [crcF_cons]; exact crcF_lt l (crcS_lt b h)
theorem crcF_zip : ∀ (l m : List Bool) {a b : Nat}, l.length = m.length → a < 4294967296 → b < 4294967296 → crcF (a ^^^ b) (List.zipWith xor l m) = crcF a l ^^^ crcF b m
  | [], [], a, b, _, _, _ => rfl
  | [], _ :: _, a, b, h, _, _ => by simp at h
  | _ :: _, [], a, b, h, _, _ => by simp at h
  | x :: l, y :: m, a, b, h, ha, hb => by
    rw [List.zipWith_cons_cons, crcF_cons, crcF_cons, crcF_cons, ← crcF_zip l m (by simpa using h) (crcS_lt x ha) (crcS_lt y hb)]
    congr 1
    unfold crcS
    rw [← crcBit_xor (Nat.xor_lt_two_pow (n := 32) ha (top_lt x)) (Nat.xor_lt_two_pow (n := 32) hb (top_lt y))]
    congr 1
    have : (xor x y).toNat * 2147483648 = (x.toNat * 2147483648) ^^^ (y.toNat * 2147483648) := by cases x <;> cases y <;> decide
    rw [this, Nat.xor_assoc, Nat.xor_assoc]
    congr 1
    rw [← Nat.xor_assoc, Nat.xor_comm b, Nat.xor_assoc]
/-- A word of bits goes into the sum at once. -/
theorem crcF_word : ∀ (l : List Bool) {s : Nat}, l.length ≤ 32 → s < 4294967296 → crcF s l = crcBits l.length (s ^^^ valOf l * 2 ^ (32 - l.length))
  | [], s, _, _ => by show s = s ^^^ valOf [] * 2 ^ 32; rw [valOf_nil, Nat.zero_mul, Nat.xor_zero]
  | b :: l, s, h, hs => by
    have h1 : l.length + 1 ≤ 32 := h
    have hv := valOf_lt l
    rw [crcF_cons, crcF_word l (by omega) (crcS_lt b hs), List.length_cons, crcBits_front, valOf_cons]
    congr 1
    obtain ⟨q, hq⟩ : ∃ q, 31 = l.length + q := ⟨31 - l.length, by omega⟩
    have e1 : 32 - l.length = q + 1 := by omega
    have e2 : 32 - (l.length + 1) = q := by omega
    have e3 : 2 ^ l.length * 2 ^ q = 2147483648 := by rw [← Nat.pow_add, ← hq]
    have hlt : valOf l * 2 ^ q < 2 ^ 31 := by
      have : valOf l * 2 ^ q < 2 ^ l.length * 2 ^ q := Nat.mul_lt_mul_of_pos_right hv (Nat.pow_pos (by decide))
      rw [e3] at this
      exact this
    rw [e1, e2, Nat.add_mul, Nat.mul_assoc, e3]
    have hx : b.toNat * 2147483648 + valOf l * 2 ^ q = (b.toNat * 2147483648) ^^^ (valOf l * 2 ^ q) := by
      rw [Nat.mul_comm b.toNat, show (2147483648 : Nat) = 2 ^ 31 from rfl, Nat.two_pow_add_eq_or_of_lt hlt]
      refine Nat.eq_of_testBit_eq fun i => ?_
      rw [Nat.testBit_or, Nat.testBit_xor, Nat.testBit_two_pow_mul]
      by_cases hi : 31 ≤ i
      · rw [Nat.testBit_lt_two_pow (x := valOf l * 2 ^ q) (Nat.lt_of_lt_of_le hlt (Nat.pow_le_pow_right (by decide) hi))]; simp
      · rw [decide_eq_false hi]; simp
    rw [hx, ← Nat.xor_assoc, crcBit_xor (Nat.xor_lt_two_pow (n := 32) hs (top_lt b)) (Nat.lt_trans hlt (by decide))]
    unfold crcS
    congr 1
    rw [crcBit_lo (by have : (2 : Nat) ^ 31 = 2147483648 := rfl; omega), Nat.pow_succ]
    have : (2 : Nat) ^ 31 = 2147483648 := rfl
    generalize hg : 2 ^ q = g at *
    rw [← Nat.mul_assoc]
    generalize valOf l * g = y at *
    omega
theorem crcByte_F {s : Nat} (x : UInt8) (h : s < 4294967296) : crcByte s x = crcF s (lowB x.toNat 8) := by
  rw [crcF_word _ (by rw [lowB_len]; decide) h, lowB_len, valOf_lowB, Nat.mod_eq_of_lt x.toNat_lt]
  rfl
theorem crcL_F : ∀ (l : List UInt8) {s : Nat}, s < 4294967296 → crcL s l = crcF s (bitsOf l)
  | [], s, _ => by rw [crcL_nil]; rfl
  | x :: l, s, h => by rw [crcL_cons, bitsOf_cons, crcF_append, ← crcByte_F x h, crcL_F l (crcByte_lt x h)]
theorem valOf_sumB {n : Nat} (h : n < 4294967296) : valOf (bitsOf (sumB n)) = n := by
  have e : sumB n = [UInt8.ofNat (n / 16777216), UInt8.ofNat (n / 65536 % 256), UInt8.ofNat (n / 256 % 256), UInt8.ofNat (n % 256)] := rfl
  rw [e, bitsOf_flat]
  simp only [List.flatMap_cons, List.flatMap_nil, List.append_nil, valOf_append, List.length_append, lowB_len, valOf_lowB]
  rw [u8_nat (by omega), u8_nat (by omega), u8_nat (by omega), u8_nat (by omega)]
  simp only [show 2 ^ 8 = 256 from rfl, show 2 ^ (8 + 8) = 65536 from rfl, show 2 ^ (8 + (8 + 8)) = 16777216 from rfl]
  omega
/-- Behind its own sum the sum is always the same. -/
theorem sum_rest (hd : List UInt8) : crcF 4294967295 (bitsOf (hd ++ sumB (sumN hd))) = crcBits 32 4294967295 := by
  have hl : (bitsOf (sumB (sumN hd))).length = 32 := by rw [bitsOf_len, sumB_len]
  have hc := crcL_lt hd (s := 4294967295) (by decide)
  rw [bitsOf_flat, List.flatMap_append, ← bitsOf_flat, ← bitsOf_flat, crcF_append, ← crcL_F hd (by decide), crcF_word _ (by omega) hc, hl, valOf_sumB (sumN_lt hd)]
  congr 1
  unfold sumN
  rw [Nat.sub_self, Nat.pow_zero, Nat.mul_one, ← Nat.xor_assoc, Nat.xor_self, Nat.zero_xor]
theorem crcF_zeros : ∀ (n : Nat), crcF 0 (List.replicate n false) = 0
  | 0 => rfl
  | n + 1 => by rw [List.replicate_succ, crcF_cons]; exact crcF_zeros n
theorem crcF_zeros' : ∀ (n : Nat) {s : Nat}, crcF s (List.replicate n false) = crcBits n s
  | 0, s => rfl
  | n + 1, s => by
    rw [List.replicate_succ, crcF_cons, crcF_zeros' n, crcBits_front]
    unfold crcS
    simp
/-- A change of up to 32 bits, one behind the other, is seen. -/
theorem burst_seen {a r : Nat} {P : List Bool} (hP : P.length ≤ 32) (h : crcF 0 (List.replicate a false ++ (P ++ List.replicate r false)) = 0) : P = List.replicate P.length false := by
  rw [crcF_append, crcF_append, crcF_zeros, crcF_zeros'] at h
  have h1 : crcF 0 P = 0 := crcBits_zero (crcF_lt P (by decide)) _ h
  rw [crcF_word P hP (by decide), Nat.zero_xor] at h1
  have hv := valOf_lt P
  have hlt : valOf P * 2 ^ (32 - P.length) < 4294967296 := by
    have : valOf P * 2 ^ (32 - P.length) < 2 ^ P.length * 2 ^ (32 - P.length) := Nat.mul_lt_mul_of_pos_right hv (Nat.pow_pos (by decide))
    rw [← Nat.pow_add, show P.length + (32 - P.length) = 32 by omega] at this
    exact this
  have h2 := crcBits_zero hlt _ h1
  have h3 : 0 < 2 ^ (32 - P.length) := Nat.pow_pos (by decide)
  have h4 : valOf P = 0 := by
    rcases Nat.mul_eq_zero.1 h2 with h | h
    · exact h
    · omega
  exact valOf_inj _ _ (by simp) (by rw [h4, valOf_zeros])
/-! ### the change -/
def flipB (x : UInt8) (t : Nat) : UInt8 := UInt8.ofNat (x.toNat ^^^ (128 / 2 ^ t))
def spoilC (N wv f j : Nat) : Bool := decide (f + j < 8 * N ∧ wv / 2 ^ j % 2 = 1)
def spoil (bs : List UInt8) (wv f : Nat) : Nat → List UInt8
  | 0 => bs
  | j + 1 => if spoilC bs.length wv f j then (spoil bs wv f j).set ((f + j) / 8) (flipB ((spoil bs wv f j).getD ((f + j) / 8) 0) ((f + j) % 8)) else spoil bs wv f j
def changed (N wv f : Nat) : Nat → Bool
  | 0 => false
  | j + 1 => if spoilC N wv f j then true else changed N wv f j
theorem spoil_len (bs : List UInt8) (wv f : Nat) : ∀ j, (spoil bs wv f j).length = bs.length
  | 0 => rfl
  | j + 1 => by
    unfold spoil
    split
    · rw [List.length_set, spoil_len bs wv f j]
    · exact spoil_len bs wv f j
theorem spoil_no {bs : List UInt8} {wv f : Nat} : ∀ {j}, changed bs.length wv f j = false → spoil bs wv f j = bs
  | 0, _ => rfl
  | j + 1, h => by
    unfold changed at h
    unfold spoil
    split at h
    · cases h
    · rename_i hc
      rw [if_neg hc]
      exact spoil_no h
theorem changed_is {N wv f : Nat} : ∀ {j}, changed N wv f j = true → ∃ i, i < j ∧ spoilC N wv f i = true
  | 0, h => by cases h
  | j + 1, h => by
    unfold changed at h
    split at h
    · rename_i hc; exact ⟨j, by omega, hc⟩
    · obtain ⟨i, hi, hc⟩ := changed_is h; exact ⟨i, by omega, hc⟩
theorem flip_lt (x : UInt8) (t : Nat) : x.toNat ^^^ (128 / 2 ^ t) < 256 := Nat.xor_lt_two_pow (n := 8) x.toNat_lt (Nat.lt_of_le_of_lt (Nat.div_le_self _ _) (by decide))
theorem flip_bit (x : UInt8) {t i : Nat} (ht : t < 8) (hi : i < 8) : (flipB x t).toNat.testBit (7 - i) = (x.toNat.testBit (7 - i) ^^ decide (i = t)) := by
  unfold flipB
  rw [u8_nat (flip_lt x t), Nat.testBit_xor]
  congr 1
  have h128 : 128 / 2 ^ t = 2 ^ (7 - t) := by
    rw [show 128 = 2 ^ 7 from rfl, Nat.pow_div (by omega) (by decide)]
  rw [h128, Nat.testBit_two_pow]
  congr 1
  apply propext
  omega
theorem bitAt_set {l : List UInt8} {q t : Nat} (hq : q < l.length) (ht : t < 8) (k : Nat) : bitAt (l.set q (flipB (l.getD q 0) t)) k = (bitAt l k ^^ decide (k = 8 * q + t)) := by
  unfold bitAt
  by_cases h : k / 8 = q
  · subst h
    rw [show (l.set (k / 8) (flipB (l.getD (k / 8) 0) t)).getD (k / 8) 0 = flipB (l.getD (k / 8) 0) t by simp [List.getD_eq_getElem?_getD, hq], flip_bit _ ht (by omega)]
    congr 2
    apply propext
    omega
  · rw [show (l.set q (flipB (l.getD q 0) t)).getD (k / 8) 0 = l.getD (k / 8) 0 by simp [List.getD_eq_getElem?_getD, List.getElem?_set_ne (Ne.symm h)], decide_eq_false (by omega), Bool.xor_false]
theorem spoil_bit (bs : List UInt8) (wv f : Nat) : ∀ (j k : Nat), k < 8 * bs.length → bitAt (spoil bs wv f j) k = (bitAt bs k ^^ (decide (f ≤ k ∧ k < f + j) && wv.testBit (k - f)))
  | 0, k, _ => by
    show bitAt bs k = _
    rw [decide_eq_false (by omega), Bool.false_and, Bool.xor_false]
  | j + 1, k, hk => by
    have ih := spoil_bit bs wv f j k hk
    unfold spoil
    by_cases hc : spoilC bs.length wv f j = true
    · rw [if_pos hc]
      obtain ⟨h1, h2⟩ := of_decide_eq_true hc
      rw [bitAt_set (by rw [spoil_len]; omega) (by omega), ih]
      by_cases hkj : k = f + j
      · subst hkj
        have hb : wv.testBit j = true := by rw [Nat.testBit_eq_decide_div_mod_eq]; exact decide_eq_true h2
        rw [decide_eq_false (show ¬ (f ≤ f + j ∧ f + j < f + j) by omega), decide_eq_true (show f ≤ f + j ∧ f + j < f + (j + 1) by omega), decide_eq_true (show f + j = 8 * ((f + j) / 8) + (f + j) % 8 by omega), Nat.add_sub_cancel_left, hb]
        simp
      · rw [decide_eq_false (show ¬ k = 8 * ((f + j) / 8) + (f + j) % 8 by omega), Bool.xor_false]
        congr 2
        congr 1
        apply propext
        omega
    · rw [if_neg hc, ih]
      by_cases hkj : k = f + j
      · subst hkj
        have hb : wv.testBit j = false := by
          rw [Nat.testBit_eq_decide_div_mod_eq]
          refine decide_eq_false fun h2 => hc (decide_eq_true ⟨hk, h2⟩)
        rw [Nat.add_sub_cancel_left, hb]
        simp
      · congr 2
        congr 1
        apply propext
        omega
theorem spoil_seen {bs : List UInt8} {wv f : Nat} (hs : 6 ≤ bs.length) (hb : crcF 4294967295 (bitsOf bs) = crcBits 32 4294967295) (hc : changed bs.length wv f 32 = true) (hf : f ≤ 8 * bs.length) : ¬ decE (spoil bs wv f 32) = 0 := by
  intro h0
  have hl := spoil_len bs wv f 32
  generalize hcs : spoil bs wv f 32 = cs at h0 hl
  have h6 : ¬ cs.length < 6 := by omega
  have ht : tailOf cs = sumB (sumN (headOf cs)) := Decidable.byContradiction fun hn => absurd ((decE_20 h6 hn).symm.trans h0) (by decide)
  have hcat : headOf cs ++ sumB (sumN (headOf cs)) = cs := by rw [← ht]; exact List.take_append_drop _ _
  have hr := sum_rest (headOf cs)
  rw [hcat] at hr
  obtain ⟨m, hm1, hm2⟩ : ∃ m, m ≤ 32 ∧ m = min 32 (8 * bs.length - f) := ⟨_, Nat.min_le_left _ _, rfl⟩
  let P : List Bool := (List.range m).map fun i => wv.testBit i
  have hPl : P.length = m := by simp [P]
  have hD : bitsOf cs = List.zipWith xor (bitsOf bs) (List.replicate f false ++ (P ++ List.replicate (8 * bs.length - f - m) false)) := by
    refine List.ext_getElem (by simp [bitsOf_len, hl, hPl]; omega) fun k h1 h2 => ?_
    have hk : k < 8 * bs.length := by rw [bitsOf_len, hl] at h1; exact h1
    have e1 : (bitsOf cs)[k] = bitAt cs k := by simp [bitsOf]
    have e2 : (bitsOf bs)[k]'(by rw [bitsOf_len]; exact hk) = bitAt bs k := by simp [bitsOf]
    rw [List.getElem_zipWith, e1, e2, ← hcs, spoil_bit bs wv f 32 k hk]
    congr 1
    by_cases ha : k < f
    · rw [List.getElem_append_left (by simpa using ha), List.getElem_replicate, decide_eq_false (by omega), Bool.false_and]
    · rw [List.getElem_append_right (by simpa using ha)]
      by_cases hb2 : k - f < m
      · rw [List.getElem_append_left (by simp [hPl]; omega), decide_eq_true (by omega), Bool.true_and]
        simp [P]
      · rw [List.getElem_append_right (by simp [hPl]; omega), List.getElem_replicate, decide_eq_false (by omega), Bool.false_and]
  have hz := crcF_zip (bitsOf bs) (List.replicate f false ++ (P ++ List.replicate (8 * bs.length - f - m) false)) (a := 4294967295) (b := 0) (by simp [bitsOf_len, hPl]; omega) (by decide) (by decide)
  rw [← hD, Nat.xor_zero, hr, hb] at hz
  have hz0 : crcF 0 (List.replicate f false ++ (P ++ List.replicate (8 * bs.length - f - m) false)) = 0 := by
    have := congrArg (fun x => crcBits 32 4294967295 ^^^ x) hz
    simp only [← Nat.xor_assoc, Nat.xor_self, Nat.zero_xor] at this
    exact this.symm
  have hP0 := burst_seen (by omega) hz0
  obtain ⟨i, hi, hci⟩ := changed_is hc
  obtain ⟨hi1, hi2⟩ := of_decide_eq_true hci
  have him : i < m := by omega
  have e : P.getD i false = true := by
    rw [List.getD_eq_getElem?_getD, List.getElem?_eq_getElem (by rw [hPl]; exact him)]
    simp only [P, List.getElem_map, List.getElem_range, Option.getD_some]
    rw [Nat.testBit_eq_decide_div_mod_eq]
    exact decide_eq_true hi2
  rw [hP0] at e
  simp [List.getD_eq_getElem?_getD, List.getElem?_replicate] at e
  split at e <;> cases e
theorem spoilt {d : DgM} (hd : dgE d = 0) (wv f : Nat) (hf : f ≤ 8 * (dgBytes d).length) : (decE (spoil (dgBytes d) wv f 32) = 0) ↔ ¬ changed (dgBytes d).length wv f 32 = true := by
  constructor
  · intro h hc
    refine spoil_seen ?_ ?_ hc hf h
    · refine Decidable.byContradiction fun hn => ?_
      have := decE_10 (bs := dgBytes d) (by omega)
      rw [(dec_enc hd).1] at this
      cases this
    · rw [dgBytes_yes hd]
      exact sum_rest _
  · intro h
    rw [spoil_no (by simpa using h)]
    exact (dec_enc hd).1
theorem dgBytes_6 {d : DgM} (hd : dgE d = 0) : 6 ≤ (dgBytes d).length := by
  refine Decidable.byContradiction fun hn => ?_
  have := decE_10 (bs := dgBytes d) (by omega)
  rw [(dec_enc hd).1] at this
  cases this
theorem spoilt_b {d : DgM} (hd : dgE d = 0) {wv f j : Nat} (hf : f < 8 * (dgBytes d).length) (hj : j = 32) : ¬ decide (decE (spoil (dgBytes d) wv f j) = 0) = changed (dgBytes d).length wv f j := by
  subst hj
  have h := spoilt hd wv f (Nat.le_of_lt hf)
  intro e
  cases hc : changed (dgBytes d).length wv f 32 with
  | true => rw [hc] at e; exact h.1 (of_decide_eq_true e) hc
  | false => rw [hc] at e; exact (of_decide_eq_false e) (h.2 (by rw [hc]; decide))
theorem spoil_yes {bs : List UInt8} {wv f j N : Nat} (hN : N = bs.length) (h : spoilC N wv f j = true) : (spoil bs wv f j).set ((f + j) / 8) (flipB ((spoil bs wv f j).getD ((f + j) / 8) 0) ((f + j) % 8)) = spoil bs wv f (j + 1) := by subst hN; exact (if_pos h).symm
theorem spoil_skip {bs : List UInt8} {wv f j N : Nat} (hN : N = bs.length) (h : ¬ spoilC N wv f j = true) : spoil bs wv f j = spoil bs wv f (j + 1) := by subst hN; exact (if_neg h).symm
theorem changed_yes {wv f j N : Nat} (h : spoilC N wv f j = true) : true = changed N wv f (j + 1) := (if_pos h).symm
theorem changed_skip {wv f j N : Nat} (h : ¬ spoilC N wv f j = true) : changed N wv f j = changed N wv f (j + 1) := (if_neg h).symm
theorem and_one32 (v : Nat) (hv : v < 4294967296) : bitOp .and .u32 (v : Int) 1 = ((v % 2 : Nat) : Int) := by
  have := bit_and (K := .u32) (a := v) (b := 1) hv (by decide)
  rw [Nat.and_one_is_mod] at this
  have h2 : ((1 : Nat) : Int) = 1 := rfl
  rw [h2] at this
  rw [this]
  exact wu32 (by omega)
end Sl
