import Derived.Test.YteogdknlofcpiaaGreatSlN
namespace Sl
open _root_.Go _root_.Go.RowKit
set_option linter.all false
def bitAt (bs : List UInt8) (k : Nat) : Bool := (bs.getD (k / 8) 0).toNat.testBit (7 - k % 8)
def bitsOf (bs : List UInt8) : List Bool := (List.range (8 * bs.length)).map (bitAt bs)
theorem bitsOf_len (bs : List UInt8) : (bitsOf bs).length = 8 * bs.length := by simp [bitsOf]
theorem bitsOf_getD {bs : List UInt8} {k : Nat} (h : k < 8 * bs.length) : (bitsOf bs).getD k false = bitAt bs k := by
 simp [bitsOf, List.getD_eq_getElem?_getD, h]
def remB (bs : List UInt8) (p : Nat) : List Bool := (bitsOf bs).drop p
theorem remB_len (bs : List UInt8) (p : Nat) : (remB bs p).length = 8 * bs.length - p := by simp [remB, bitsOf_len]
theorem remB_drop (bs : List UInt8) (p n : Nat) : (remB bs p).drop n = remB bs (p + n) := by simp [remB, List.drop_drop]
theorem getD_drop {L : List Bool} {p k : Nat} : (L.drop p).getD k false = L.getD (p + k) false := by simp [List.getD_eq_getElem?_getD]
theorem remB_getD {bs : List UInt8} {p k : Nat} (h : p + k < 8 * bs.length) : (remB bs p).getD k false = bitAt bs (p + k) := by
 unfold remB; rw [getD_drop, bitsOf_getD h]
def valOf (l : List Bool) : Nat := l.foldl (fun u b => 2 * u + b.toNat) 0
theorem valOf_snoc (l : List Bool) (b : Bool) : valOf (l ++ [b]) = 2 * valOf l + b.toNat := by simp [valOf]
theorem valOf_take {l : List Bool} {j : Nat} (h : j < l.length) : valOf (l.take (j + 1)) = 2 * valOf (l.take j) + (l.getD j false).toNat := by
 rw [take_snoc h, valOf_snoc]
theorem valOf_lt : ∀ (l : List Bool), valOf l < 2 ^ l.length := by
 intro l
 have key : ∀ (l : List Bool) (u : Nat), l.foldl (fun u b => 2 * u + b.toNat) u < (u + 1) * 2 ^ l.length := by
  intro l
  induction l with
  | nil => intro u; simp
  | cons b l ih =>
   intro u
   have := ih (2 * u + b.toNat)
   rw [List.foldl_cons, List.length_cons, Nat.pow_succ]
   have hb : b.toNat ≤ 1 := by cases b <;> decide
   have h2 : (2 * u + b.toNat + 1) * 2 ^ l.length ≤ (2 * (u + 1)) * 2 ^ l.length := Nat.mul_le_mul_right _ (by omega)
   have h3 : (u + 1) * (2 ^ l.length * 2) = 2 * (u + 1) * 2 ^ l.length := by rw [Nat.mul_comm (2 ^ l.length) 2, ← Nat.mul_assoc, Nat.mul_comm (u + 1) 2]
   omega
 have := key l 0
 simpa [valOf] using this
theorem valOf_take_lt (l : List Bool) (j : Nat) : valOf (l.take j) < 2 ^ j := by
 have h := valOf_lt (l.take j)
 have h2 : 2 ^ (l.take j).length ≤ 2 ^ j := Nat.pow_le_pow_right (by decide) (List.length_take_le _ _)
 omega
def srcE (R : List Bool) (n : Int) : Int := if n < 0 ∨ 64 < n then 1 else if (R.length : Int) < n then 10 else 0
def srcU (R : List Bool) (n : Int) : Nat := if srcE R n = 0 then valOf (R.take n.toNat) else 0
def srcN (R : List Bool) (n : Int) : Nat := if srcE R n = 0 then n.toNat else 0
theorem srcE_1 {R : List Bool} {n : Int} (h : n < 0 ∨ 64 < n) : srcE R n = 1 := if_pos h
theorem srcE_10 {R : List Bool} {n : Int} (h : ¬ (n < 0 ∨ 64 < n)) (h2 : (R.length : Int) < n) : srcE R n = 10 := by unfold srcE; rw [if_neg h, if_pos h2]
theorem srcE_0 {R : List Bool} {n : Int} (h : ¬ (n < 0 ∨ 64 < n)) (h2 : ¬ (R.length : Int) < n) : srcE R n = 0 := by unfold srcE; rw [if_neg h, if_neg h2]
theorem srcE_is {R : List Bool} {n : Int} (h : srcE R n = 0) : 0 ≤ n ∧ n ≤ 64 ∧ n ≤ R.length := by
 unfold srcE at h
 split at h
 ·cases h
 ·split at h
  ·cases h
  ·omega
theorem srcU_0 {R : List Bool} {n : Int} (h : srcE R n = 0) : srcU R n = valOf (R.take n.toNat) := if_pos h
theorem srcU_no {R : List Bool} {n : Int} (h : ¬ srcE R n = 0) : srcU R n = 0 := if_neg h
theorem srcN_0 {R : List Bool} {n : Int} (h : srcE R n = 0) : srcN R n = n.toNat := if_pos h
theorem srcN_no {R : List Bool} {n : Int} (h : ¬ srcE R n = 0) : srcN R n = 0 := if_neg h
theorem srcN_le (R : List Bool) (n : Int) : srcN R n ≤ R.length := by
 unfold srcN
 split
 ·rename_i h
  have := srcE_is h
  omega
 ·omega
def zerosK : Nat → List Bool → Nat
 | 0, _ => 0
 | _ + 1, [] => 0
 | m + 1, b :: l => if b then 0 else zerosK m l + 1
def zeros (R : List Bool) : Nat := zerosK 65 R
theorem zerosK_is : ∀ (m : Nat) (R : List Bool) (k : Nat), k ≤ m → k ≤ R.length → (∀ j, j < k → R.getD j false = false) → (k = m ∨ k = R.length ∨ R.getD k false = true) → zerosK m R = k
 | 0, R, k, h1, _, _, _ => by rw [zerosK]; omega
 | m + 1, [], k, h1, h2, _, _ => by simp at h2; rw [zerosK, h2]
 | m + 1, b :: l, k, h1, h2, h3, h4 => by
  rw [zerosK]
  by_cases hk : k = 0
  ·subst hk
   rcases h4 with h | h | h
   ·omega
   ·simp at h
   ·simp at h; simp [h]
  ·have hb := h3 0 (by omega)
   simp at hb
   subst hb
   have := zerosK_is m l (k - 1) (by omega) (by simp at h2; omega) (fun j hj => by have := h3 (j + 1) (by omega); simpa using this) (by
    rcases h4 with h | h | h
    ·left; omega
    ·right; left; simp at h; omega
    ·right; right
     have e : k = (k - 1) + 1 := by omega
     rw [e] at h
     simpa using h)
   simp [this]; omega
theorem zerosK_le : ∀ (m : Nat) (R : List Bool), zerosK m R ≤ m ∧ zerosK m R ≤ R.length
 | 0, R => ⟨Nat.le_refl _, Nat.zero_le _⟩
 | m + 1, [] => ⟨Nat.zero_le _, Nat.le_refl _⟩
 | m + 1, b :: l => by
  have := zerosK_le m l
  rw [zerosK]
  split <;> simp <;> omega
theorem zeros_is {R : List Bool} {k : Nat} (h1 : k ≤ 65) (h2 : k ≤ R.length) (h3 : ∀ j, j < k → R.getD j false = false) (h4 : k = 65 ∨ k = R.length ∨ R.getD k false = true) : zeros R = k := zerosK_is 65 R k h1 h2 h3 h4
def natE (R : List Bool) : Int := if zeros R = 65 then 11 else if R.length < 2 * zeros R + 1 then 10 else if zeros R = 64 ∧ ¬ valOf ((R.drop (zeros R + 1)).take (zeros R)) = 0 then 11 else 0
def natU (R : List Bool) : Nat := if natE R = 0 then (if zeros R = 64 then 18446744073709551615 else valOf ((R.drop (zeros R + 1)).take (zeros R)) + 2 ^ zeros R - 1) else 0
def natN (R : List Bool) : Nat := if natE R = 0 then 2 * zeros R + 1 else 0
theorem natE_65 {R : List Bool} (h : zeros R = 65) : natE R = 11 := if_pos h
theorem natE_10 {R : List Bool} (h : ¬ zeros R = 65) (h2 : R.length < 2 * zeros R + 1) : natE R = 10 := by unfold natE; rw [if_neg h, if_pos h2]
theorem natE_11 {R : List Bool} (h : zeros R = 64) (h2 : ¬ R.length < 2 * zeros R + 1) (h3 : ¬ valOf ((R.drop (zeros R + 1)).take (zeros R)) = 0) : natE R = 11 := by unfold natE; rw [if_neg (by omega), if_neg h2, if_pos ⟨h, h3⟩]
theorem natE_0 {R : List Bool} (h : ¬ zeros R = 65) (h2 : ¬ R.length < 2 * zeros R + 1) (h3 : ¬ (zeros R = 64 ∧ ¬ valOf ((R.drop (zeros R + 1)).take (zeros R)) = 0)) : natE R = 0 := by unfold natE; rw [if_neg h, if_neg h2, if_neg h3]
theorem natE_is {R : List Bool} (h : natE R = 0) : zeros R ≤ 64 ∧ 2 * zeros R + 1 ≤ R.length := by
 have hz := zerosK_le 65 R
 unfold natE at h
 split at h
 ·cases h
 ·rename_i h1
  split at h
  ·cases h
  ·rename_i h2
   have : zeros R ≤ 65 := hz.1
   omega
theorem natU_lt (R : List Bool) : natU R < 18446744073709551616 := by
 unfold natU
 split
 ·rename_i h
  have := natE_is h
  split
  ·decide
  ·have h2 := valOf_take_lt (R.drop (zeros R + 1)) (zeros R)
   have h3 : 2 ^ zeros R ≤ 2 ^ 63 := Nat.pow_le_pow_right (by decide) (by omega)
   omega
 ·decide
theorem natN_le (R : List Bool) : natN R ≤ R.length := by
 unfold natN
 split
 ·rename_i h; exact (natE_is h).2
 ·omega
def zagN (u : Nat) : Int := if u % 2 = 1 then -((u / 2 : Nat) : Int) - 1 else ((u / 2 : Nat) : Int)
def textE (R : List Bool) : Int := if ¬ natE R = 0 then natE R else if (R.length - natN R) / 8 < natU R then 10 else 0
def byteT (R : List Bool) (j : Nat) : UInt8 := UInt8.ofNat (valOf ((R.drop (natN R + 8 * j)).take 8))
def textBytes (R : List Bool) : List UInt8 := if textE R = 0 then (List.range (natU R)).map (byteT R) else []
def textS (R : List Bool) : ByteArray := ⟨(textBytes R).toArray⟩
def textN (R : List Bool) : Nat := if textE R = 0 then natN R + 8 * natU R else 0
theorem textE_nat {R : List Bool} (h : ¬ natE R = 0) : textE R = natE R := if_pos h
theorem textE_10 {R : List Bool} (h : natE R = 0) (h2 : (R.length - natN R) / 8 < natU R) : textE R = 10 := by unfold textE; rw [if_neg (by simpa using h), if_pos h2]
theorem textE_0 {R : List Bool} (h : natE R = 0) (h2 : ¬ (R.length - natN R) / 8 < natU R) : textE R = 0 := by unfold textE; rw [if_neg (by simpa using h), if_neg h2]
theorem textE_is {R : List Bool} (h : textE R = 0) : natE R = 0 ∧ natU R ≤ (R.length - natN R) / 8 := by
 unfold textE at h
 split at h
 ·rename_i h1; exact absurd h h1
 ·rename_i h1
  split at h
  ·cases h
  ·exact ⟨by simpa using h1, by omega⟩
theorem textN_le (R : List Bool) : textN R ≤ R.length := by
 unfold textN
 split
 ·rename_i h; have h1 := textE_is h; have := natN_le R; omega
 ·omega
def endE (R : List Bool) : Int := if 8 ≤ R.length then 12 else if R.any id then 12 else 0
theorem endE_long {R : List Bool} (h : 8 ≤ R.length) : endE R = 12 := if_pos h
theorem endE_bit {R : List Bool} {j : Nat} (h : ¬ 8 ≤ R.length) (h2 : R.getD j false = true) : endE R = 12 := by
 unfold endE
 rw [if_neg h, if_pos ?_]
 by_cases hj : j < R.length
 ·refine List.any_eq_true.2 ⟨R[j], List.getElem_mem hj, ?_⟩
  simpa [List.getD_eq_getElem?_getD, List.getElem?_eq_getElem hj] using h2
 ·rw [getD_ge (by omega)] at h2; cases h2
theorem endE_0 {R : List Bool} (h : ¬ 8 ≤ R.length) (h2 : ∀ j, j < R.length → R.getD j false = false) : endE R = 0 := by
 unfold endE
 rw [if_neg h, if_neg ?_]
 intro ha
 obtain ⟨b, hb, hb2⟩ := List.any_eq_true.1 ha
 obtain ⟨j, hj, rfl⟩ := List.getElem_of_mem hb
 have := h2 j hj
 simp [List.getD_eq_getElem?_getD, List.getElem?_eq_getElem hj] at this
 simp [this] at hb2
theorem or_low (u b : Nat) (h : u < 9223372036854775808) (hb : b ≤ 1) : bitOp .or .u64 ((2 * u : Nat) : Int) (b : Int) = ((2 * u + b : Nat) : Int) := by
 rw [bit_or (K := .u64) (by show 2 * u < 18446744073709551616; omega) (by show b < 18446744073709551616; omega)]
 have h1 : 2 * u ||| b = 2 * u + b := by
  have := Nat.two_pow_add_eq_or_of_lt (i := 1) (b := b) (by omega) u
  rw [Nat.pow_one] at this
  exact this.symm
 rw [h1]
 exact wu64 (by omega)
theorem and_one8 (v : Nat) (hv : v < 256) : bitOp .and .u8 (v : Int) 1 = ((v % 2 : Nat) : Int) := by
 have := bit_and (K := .u8) (a := v) (b := 1) hv (by decide)
 rw [Nat.and_one_is_mod] at this
 have h2 : ((1 : Nat) : Int) = 1 := rfl
 rw [h2] at this
 rw [this]
 exact wu8 (by omega)
theorem bit_nat (u k : Nat) : u / 2 ^ k % 2 = (u.testBit k).toNat := by
 rw [Nat.testBit_eq_decide_div_mod_eq]
 have : u / 2 ^ k % 2 < 2 := Nat.mod_lt _ (by decide)
 by_cases h : u / 2 ^ k % 2 = 1
 ·simp [h]
 ·simp [h]; omega
theorem zag_bits (u : Nat) (h : u < 18446744073709551616) : bitOp .xor .i64 (((u / 2 ^ 1 : Nat) : Int)) (-((u % 2 : Nat) : Int)) = zagN u := by
 have key : ∀ a b : Int, bitOp .xor .i64 a b = IntKind.i64.wrap (((BitVec.ofInt 64 a) ^^^ (BitVec.ofInt 64 b)).toNat : Int) := fun _ _ => rfl
 rw [key]
 unfold zagN
 have hm : u % 2 = 0 ∨ u % 2 = 1 := by omega
 rcases hm with h0 | h0
 ·rw [h0, if_neg (by omega)]
  have hz : (BitVec.ofInt 64 (-((0 : Nat) : Int))) = 0#64 := rfl
  rw [hz, BitVec.xor_zero, BitVec.toNat_ofInt, IntKind.wrap_i64, Nat.pow_one]
  omega
 ·rw [h0, if_pos rfl]
  have hz : (BitVec.ofInt 64 (-((1 : Nat) : Int))) = BitVec.allOnes 64 := by decide
  rw [hz, BitVec.xor_allOnes, BitVec.toNat_not, BitVec.toNat_ofInt, IntKind.wrap_i64, Nat.pow_one]
  omega
end Sl
namespace Sl
open _root_.Go _root_.Go.RowKit
set_option linter.all false
theorem shl_one {k : Nat} {j : Int} (hj : j = k) (hk : k < 64) : IntKind.u64.wrap (1 * 2 ^ (min j.toNat 64)) = ((2 ^ k : Nat) : Int) := by
 subst hj
 rw [Int.toNat_natCast, Nat.min_eq_left (by omega), Int.one_mul]
 have h : 2 ^ k ≤ 2 ^ 63 := Nat.pow_le_pow_right (by decide) (by omega)
 have e : (2 : Int) ^ k = ((2 ^ k : Nat) : Int) := by norm_cast
 rw [e]
 generalize 2 ^ k = q at *
 exact wu64 (by omega)
theorem shl1 {v : Nat} (h : v < 9223372036854775808) : IntKind.u64.wrap ((v : Int) * 2 ^ (min (1 : Int).toNat 64)) = ((2 * v : Nat) : Int) := by
 rw [show (2 : Int) ^ (min (1 : Int).toNat 64) = 2 from by decide]
 exact (wu64 (by omega)).trans (by omega)
theorem val_take_lt63 (R : List Bool) {j : Nat} (h : j ≤ 63) : valOf (R.take j) < 9223372036854775808 := by
 have h1 := valOf_take_lt R j
 have h2 : 2 ^ j ≤ 2 ^ 63 := Nat.pow_le_pow_right (by decide) h
 omega
theorem valOf_take_rem {bs : List UInt8} {p j : Nat} (h : p + j < 8 * bs.length) : valOf ((remB bs p).take (j + 1)) = 2 * valOf ((remB bs p).take j) + (bitAt bs (p + j)).toNat := by
 rw [valOf_take (by rw [remB_len]; omega), remB_getD h]
theorem toNat_1 {b : Bool} : ((b.toNat : Nat) : Int) = 0 ↔ b = false := by cases b <;> simp
theorem textS_0 {R : List Bool} (h : ¬ textE R = 0) : textS R = ByteArray.empty := by
 unfold textS textBytes
 rw [if_neg h]
 rfl
def textP (R : List Bool) (j : Nat) : List UInt8 := (List.range (natU R)).map fun q => if q < j then byteT R q else 0
theorem textP_len (R : List Bool) (j : Nat) : (textP R j).length = natU R := by simp [textP]
theorem textP_0 (R : List Bool) : textP R 0 = List.replicate (natU R) 0 := by
 unfold textP
 refine List.ext_getElem (by simp) fun i h1 h2 => by simp
theorem textP_succ {R : List Bool} {j : Nat} (h : j < natU R) : textP R (j + 1) = (textP R j).set j (byteT R j) := by
 unfold textP
 refine List.ext_getElem (by simp) fun q h1 h2 => ?_
 rw [List.getElem_set]
 simp only [List.getElem_map, List.getElem_range]
 by_cases hq : j = q
 ·subst hq; rw [if_pos rfl, if_pos (by omega)]
 ·rw [if_neg hq]
  by_cases h3 : q < j
  ·rw [if_pos (by omega), if_pos h3]
  ·rw [if_neg (by omega), if_neg h3]
theorem textP_all {R : List Bool} (h : textE R = 0) : textP R (natU R) = textBytes R := by
 unfold textP textBytes
 rw [if_pos h]
 refine List.map_congr_left fun q hq => ?_
 rw [if_pos (by simpa using hq)]
theorem srcU_lt_pow {R : List Bool} {k : Nat} : srcU R (k : Int) < 2 ^ k := by
 unfold srcU
 split
 ·rw [Int.toNat_natCast]; exact valOf_take_lt R k
 ·exact Nat.pow_pos (by decide)
theorem pow_le63 {k : Nat} (h : k ≤ 63) : 2 ^ k ≤ 9223372036854775808 := Nat.pow_le_pow_right (n := 2) (by decide) h
theorem natU_64 {R : List Bool} (h : natE R = 0) (h2 : zeros R = 64) : natU R = 18446744073709551615 := by unfold natU; rw [if_pos h, if_pos h2]
theorem natU_is {R : List Bool} (h : natE R = 0) (h2 : ¬ zeros R = 64) : natU R = valOf ((R.drop (zeros R + 1)).take (zeros R)) + 2 ^ zeros R - 1 := by unfold natU; rw [if_pos h, if_neg h2]
theorem natU_no {R : List Bool} (h : ¬ natE R = 0) : natU R = 0 := if_neg h
theorem natN_0 {R : List Bool} (h : natE R = 0) : natN R = 2 * zeros R + 1 := if_pos h
theorem natN_no {R : List Bool} (h : ¬ natE R = 0) : natN R = 0 := if_neg h
theorem textN_0 {R : List Bool} (h : textE R = 0) : textN R = natN R + 8 * natU R := if_pos h
theorem textN_no {R : List Bool} (h : ¬ textE R = 0) : textN R = 0 := if_neg h
theorem natN_pos {bs : List UInt8} {p : Nat} (h : p ≤ 8 * bs.length) : p + natN (remB bs p) ≤ 8 * bs.length := by
 have := natN_le (remB bs p); rw [remB_len] at this; omega
theorem srcN_pos {bs : List UInt8} {p : Nat} {n : Int} (h : p ≤ 8 * bs.length) : p + srcN (remB bs p) n ≤ 8 * bs.length := by
 have := srcN_le (remB bs p) n; rw [remB_len] at this; omega
theorem textN_pos {bs : List UInt8} {p : Nat} (h : p ≤ 8 * bs.length) : p + textN (remB bs p) ≤ 8 * bs.length := by
 have := textN_le (remB bs p); rw [remB_len] at this; omega
theorem lowB_succ (u n : Nat) : lowB u (n + 1) = u.testBit n :: lowB u n := by
 unfold lowB lowK
 rw [List.range_succ_eq_map, List.map_cons, List.map_map]
 congr 1
 refine List.map_congr_left fun j hj => ?_
 have : j < n := by simpa using hj
 show u.testBit (n + 1 - 1 - (j + 1)) = u.testBit (n - 1 - j)
 congr 1
 omega
theorem valOf_cons (b : Bool) (l : List Bool) : valOf (b :: l) = b.toNat * 2 ^ l.length + valOf l := by
 have key : ∀ (l : List Bool) (u : Nat), l.foldl (fun u b => 2 * u + b.toNat) u = u * 2 ^ l.length + valOf l := by
  intro l
  induction l with
  | nil => intro u; simp [valOf]
  | cons c l ih =>
   intro u
   rw [List.foldl_cons, ih]
   have h2 : valOf (c :: l) = c.toNat * 2 ^ l.length + valOf l := by
    show l.foldl (fun u b => 2 * u + b.toNat) (2 * 0 + c.toNat) = _
    rw [ih]
    simp
   rw [h2, List.length_cons, Nat.pow_succ, Nat.add_mul]
   have h3 : 2 * u * 2 ^ l.length = u * (2 ^ l.length * 2) := by
    rw [Nat.mul_comm 2 u, Nat.mul_assoc, Nat.mul_comm 2]
   rw [h3, Nat.add_assoc]
 show l.foldl (fun u b => 2 * u + b.toNat) (2 * 0 + b.toNat) = _
 rw [key]
 simp
theorem valOf_lowB : ∀ (n u : Nat), valOf (lowB u n) = u % 2 ^ n
 | 0, u => by simp [lowB, lowK, valOf, Nat.mod_one]
 | n + 1, u => by
  rw [lowB_succ, valOf_cons, valOf_lowB n u, lowB_len, ← bit_nat, Nat.pow_succ]
  have := Nat.mod_mul (x := u) (a := 2 ^ n) (b := 2)
  rw [this, Nat.mul_comm (2 ^ n)]
  omega
theorem zerosK_rep : ∀ (k m : Nat) (T : List Bool), k < m → zerosK m (List.replicate k false ++ true :: T) = k
 | 0, m + 1, T, _ => by simp [zerosK]
 | k + 1, m + 1, T, h => by
  rw [List.replicate_succ, List.cons_append, zerosK, zerosK_rep k m T (by omega)]
  simp
theorem bitLen_bit {v : Nat} (h : 0 < v) : v.testBit (bitLen v - 1) = true ∧ v % 2 ^ (bitLen v - 1) + 2 ^ (bitLen v - 1) = v := by
 have h1 : v < 2 ^ bitLen v := bitLen_le.1 (Nat.le_refl _)
 have h0 := bitLen_pos h
 have h2 : 2 ^ (bitLen v - 1) ≤ v := by
  refine Nat.le_of_not_lt fun hh => ?_
  have := bitLen_le.2 hh
  omega
 have h3 : 2 ^ bitLen v = 2 ^ (bitLen v - 1) * 2 := by rw [← Nat.pow_succ]; congr 1; omega
 have h4 : v / 2 ^ (bitLen v - 1) = 1 := by
  rw [Nat.div_eq_iff (Nat.pow_pos (by decide))]
  omega
 have h5 := Nat.div_add_mod v (2 ^ (bitLen v - 1))
 rw [h4] at h5
 refine ⟨?_, by omega⟩
 rw [Nat.testBit_eq_decide_div_mod_eq, h4]
 rfl
theorem natB_read {u : Nat} (hu : u < 18446744073709551616) (T : List Bool) : natE (natB u ++ T) = 0 ∧ natU (natB u ++ T) = u ∧ natN (natB u ++ T) = (natB u).length := by
 by_cases hm : u = 18446744073709551615
 ·have hB := natB_1 hm
  have hz : zeros (natB u ++ T) = 64 := by
   rw [hB]
   have e : ∀ k : Nat, List.replicate k false ++ [true] ++ List.replicate k false ++ T = List.replicate k false ++ true :: (List.replicate k false ++ T) := by intro k; simp
   rw [e]
   exact zerosK_rep 64 65 _ (by decide)
  have hlen : (natB u ++ T).length = 129 + T.length := by rw [hB]; simp only [List.length_append, List.length_replicate, List.length_singleton]
  have hlow : valOf (((natB u ++ T).drop (zeros (natB u ++ T) + 1)).take (zeros (natB u ++ T))) = 0 := by
   rw [hz, hB]
   have : ((List.replicate 64 false ++ [true] ++ List.replicate 64 false ++ T).drop 65).take 64 = List.replicate 64 false := by
    rw [show List.replicate 64 false ++ [true] ++ List.replicate 64 false ++ T = (List.replicate 64 false ++ [true]) ++ (List.replicate 64 false ++ T) by simp]
    rw [List.drop_append_of_le_length (by simp), List.drop_of_length_le (by simp), List.nil_append, List.take_append_of_le_length (by simp), List.take_of_length_le (by simp)]
   rw [this]
   decide
  have hE : natE (natB u ++ T) = 0 := natE_0 (by omega) (by omega) (by rw [hlow]; simp)
  refine ⟨hE, ?_, ?_⟩
  ·rw [natU_64 hE hz, hm]
  ·rw [natN_0 hE, hz, hB]; simp only [List.length_append, List.length_replicate, List.length_singleton]
 ·have hB := natB_2 hm
  have hk := bitLen_le64 (u := u + 1) (by omega)
  have hp := bitLen_pos (u := u + 1) (by omega)
  have hb := bitLen_bit (v := u + 1) (by omega)
  generalize hK : bitLen (u + 1) - 1 = k at hB hb
  rw [lowB_succ, hb.1] at hB
  have hR : natB u ++ T = List.replicate k false ++ true :: (lowB (u + 1) k ++ T) := by rw [hB]; simp
  have hz : zeros (natB u ++ T) = k := by rw [hR]; exact zerosK_rep k 65 _ (by omega)
  have hlen : (natB u ++ T).length = k + 1 + k + T.length := by rw [hR]; simp [lowB_len]; omega
  have hlow : valOf (((natB u ++ T).drop (zeros (natB u ++ T) + 1)).take (zeros (natB u ++ T))) = (u + 1) % 2 ^ k := by
   rw [hz, hR]
   have : ((List.replicate k false ++ true :: (lowB (u + 1) k ++ T)).drop (k + 1)).take k = lowB (u + 1) k := by
    rw [show List.replicate k false ++ true :: (lowB (u + 1) k ++ T) = (List.replicate k false ++ [true]) ++ (lowB (u + 1) k ++ T) by simp]
    rw [List.drop_append_of_le_length (by simp), List.drop_of_length_le (by simp), List.nil_append, List.take_append_of_le_length (by simp [lowB_len]), List.take_of_length_le (by simp [lowB_len])]
   rw [this, valOf_lowB]
  have hE : natE (natB u ++ T) = 0 := natE_0 (by omega) (by omega) (by omega)
  refine ⟨hE, ?_, ?_⟩
  ·rw [natU_is hE (by omega), hlow, hz]
   have := hb.2
   generalize 2 ^ k = q at *
   omega
  ·rw [natN_0 hE, hz, hB]; simp [lowB_len]; omega
theorem low8 (c : UInt8) : lowB c.toNat 8 = (List.range 8).map fun j => c.toNat.testBit (7 - j) := rfl
theorem bitsOf_cons (c : UInt8) (l : List UInt8) : bitsOf (c :: l) = lowB c.toNat 8 ++ bitsOf l := by
 refine List.ext_getElem? fun k => ?_
 have hlen : (lowB c.toNat 8).length = 8 := lowB_len _ _
 unfold bitsOf
 by_cases h8 : k < 8
 ·rw [List.getElem?_append_left (by omega), List.getElem?_map, List.getElem?_range (by simp; omega), low8, List.getElem?_map, List.getElem?_range h8]
  simp only [Option.map_some, bitAt]
  rw [Nat.div_eq_of_lt h8, Nat.mod_eq_of_lt h8]
  rfl
 ·rw [List.getElem?_append_right (by omega), hlen, List.getElem?_map, List.getElem?_map]
  by_cases hk : k < 8 * (l.length + 1)
  ·rw [List.getElem?_range (by simpa using hk), List.getElem?_range (by omega)]
   simp only [Option.map_some, bitAt]
   have e1 : k / 8 = (k - 8) / 8 + 1 := by omega
   have e2 : k % 8 = (k - 8) % 8 := by omega
   rw [e1, e2]
   simp
  ·rw [List.getElem?_eq_none (by simp; omega), List.getElem?_eq_none (by simp; omega)]; rfl
theorem bitsOf_flat : ∀ l : List UInt8, bitsOf l = l.flatMap fun c => lowB c.toNat 8
 | [] => rfl
 | c :: l => by rw [bitsOf_cons, bitsOf_flat l, List.flatMap_cons]
end Sl
