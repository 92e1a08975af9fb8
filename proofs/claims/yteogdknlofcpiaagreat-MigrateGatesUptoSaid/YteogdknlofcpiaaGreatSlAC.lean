import Derived.Test.YteogdknlofcpiaaGreatSlL
namespace Sl
open _root_.Go _root_.Go.RowKit
set_option linter.all false
theorem valOf_inj : ∀ (l m : List Bool), l.length = m.length → valOf l = valOf m → l = m
 | [], [], _, _ => rfl
 | [], _ :: _, h, _ => by simp at h
 | _ :: _, [], h, _ => by simp at h
 | b :: l, c :: m, h, hv => by
  have hl : l.length = m.length := by simpa using h
  rw [valOf_cons, valOf_cons, hl] at hv
  have h1 := valOf_lt l
  have h2 := valOf_lt m
  rw [hl] at h1
  generalize 2 ^ m.length = q at hv h1 h2
  have hbc : b = c ∧ valOf l = valOf m := by
   cases b <;> cases c <;> simp at hv ⊢ <;> omega
  rw [hbc.1, valOf_inj l m hl hbc.2]
theorem low_val (l : List Bool) : lowB (valOf l) l.length = l :=
 valOf_inj _ _ (lowB_len _ _) (by rw [valOf_lowB, Nat.mod_eq_of_lt (valOf_lt l)])
theorem low_val' {l : List Bool} {n : Nat} (h : l.length = n) : lowB (valOf l) n = l := by subst h; exact low_val l
theorem zerosK_take : ∀ (m : Nat) (R : List Bool), R.take (zerosK m R) = List.replicate (zerosK m R) false
 | 0, R => by simp [zerosK]
 | m + 1, [] => by simp [zerosK]
 | m + 1, b :: l => by
  rw [zerosK]
  cases b with
  | true => simp
  | false => simp [List.replicate_succ, zerosK_take m l]
theorem zerosK_one : ∀ (m : Nat) (R : List Bool), zerosK m R < m → zerosK m R < R.length → R.getD (zerosK m R) false = true
 | 0, R, h, _ => by simp at h
 | m + 1, [], _, h => by simp at h
 | m + 1, b :: l, h1, h2 => by
  rw [zerosK] at h1 h2 ⊢
  cases b with
  | true => simp
  | false =>
   simp at h1 h2 ⊢
   have := zerosK_one m l h1 h2
   simpa using this
theorem valOf_zeros (n : Nat) : valOf (List.replicate n false) = 0 := by
 induction n with
 | zero => rfl
 | succ n ih => rw [List.replicate_succ, valOf_cons, ih]; simp
theorem nat_back {R : List Bool} (h : natE R = 0) : natB (natU R) = R.take (natN R) ∧ natN R ≤ R.length := by
 refine ⟨?_, natN_le R⟩
 obtain ⟨hz, hl⟩ := natE_is h
 have hN : natN R = 2 * zeros R + 1 := if_pos h
 have ht : R.take (zeros R) = List.replicate (zeros R) false := zerosK_take 65 R
 have ho : R.getD (zeros R) false = true := zerosK_one 65 R (by show zeros R < 65; omega) (by show zeros R < _; omega)
 have hM : ((R.drop (zeros R + 1)).take (zeros R)).length = zeros R := by rw [List.length_take, List.length_drop]; omega
 have hS : R.take (natN R) = List.replicate (zeros R) false ++ (true :: (R.drop (zeros R + 1)).take (zeros R)) := by
  rw [hN, ← ht, show 2 * zeros R + 1 = zeros R + (1 + zeros R) by omega, List.take_add]
  congr 1
  rw [List.take_add, List.drop_drop]
  have h1 : (R.drop (zeros R)).take 1 = [true] := by
   rw [List.drop_eq_getElem_cons (by omega)]
   simp [List.getD_eq_getElem?_getD, List.getElem?_eq_getElem (show zeros R < R.length by omega)] at ho
   simp [ho]
  rw [h1]
  rfl
 rw [hS]
 have hv := valOf_lt ((R.drop (zeros R + 1)).take (zeros R))
 rw [hM] at hv
 have hU : natU R = if zeros R = 64 then 18446744073709551615 else valOf ((R.drop (zeros R + 1)).take (zeros R)) + 2 ^ zeros R - 1 := if_pos h
 by_cases h64 : zeros R = 64
 ·rw [if_pos h64] at hU
  rw [natB_1 hU]
  have hv0 : valOf ((R.drop (zeros R + 1)).take (zeros R)) = 0 := by
   refine Decidable.byContradiction fun hn => ?_
   have := natE_11 h64 (by omega) hn
   rw [this] at h
   cases h
  have : (R.drop (zeros R + 1)).take (zeros R) = List.replicate 64 false := valOf_inj _ _ (by rw [hM, List.length_replicate, h64]) (by rw [hv0, valOf_zeros])
  rw [this, h64]
  simp only [List.append_assoc, List.cons_append, List.nil_append]
 ·rw [if_neg h64] at hU
  generalize hMM : (R.drop (zeros R + 1)).take (zeros R) = M at *
  generalize hzz : zeros R = z at *
  have hp : 2 ^ z ≤ 2 ^ 63 := Nat.pow_le_pow_right (by decide) (by omega)
  have hp0 : 0 < 2 ^ z := Nat.pow_pos (by decide)
  have h1 : natU R + 1 = valOf M + 2 ^ z := by omega
  have hb : bitLen (natU R + 1) = z + 1 := by
   have a1 : bitLen (natU R + 1) ≤ z + 1 := bitLen_le.2 (by rw [h1, Nat.pow_succ]; omega)
   have a2 : ¬ bitLen (natU R + 1) ≤ z := fun hh => by have := bitLen_le.1 hh; omega
   omega
  rw [natB_2 (by omega), hb, show z + 1 - 1 = z from rfl, h1]
  congr 1
  have e : valOf M + 2 ^ z = valOf (true :: M) := by rw [valOf_cons, hM]; simp; omega
  rw [e]
  exact low_val' (by simp [hM])
theorem byteT_low {R : List Bool} {j : Nat} (h : natN R + 8 * (j + 1) ≤ R.length) : lowB (byteT R j).toNat 8 = (R.drop (natN R + 8 * j)).take 8 := by
 have hl : ((R.drop (natN R + 8 * j)).take 8).length = 8 := by rw [List.length_take, List.length_drop]; omega
 have hv := valOf_lt ((R.drop (natN R + 8 * j)).take 8)
 rw [hl] at hv
 unfold byteT
 rw [u8_nat hv]
 exact low_val' hl
theorem bytesT_bits {R : List Bool} : ∀ (n : Nat), natN R + 8 * n ≤ R.length → bitsOf ((List.range n).map (byteT R)) = (R.drop (natN R)).take (8 * n)
 | 0, _ => by simp [bitsOf]
 | n + 1, h => by
  have ih := bytesT_bits (R := R) n (by omega)
  rw [bitsOf_flat] at ih ⊢
  rw [List.range_succ, List.map_append, List.flatMap_append, ih, show 8 * (n + 1) = 8 * n + 8 by omega, List.take_add, List.drop_drop]
  congr 1
  rw [← byteT_low h]
  simp
theorem text_back {R : List Bool} (h : textE R = 0) : natB (textBytes R).length ++ bitsOf (textBytes R) = R.take (textN R) ∧ textN R ≤ R.length ∧ (textBytes R).length = natU R := by
 obtain ⟨h1, h2⟩ := textE_is h
 obtain ⟨a, b⟩ := nat_back h1
 have ht : textBytes R = (List.range (natU R)).map (byteT R) := if_pos h
 have hlen : (textBytes R).length = natU R := by rw [ht]; simp
 refine ⟨?_, textN_le R, hlen⟩
 rw [hlen, ht, textN_0 h, a, bytesT_bits _ (by omega), List.take_add]
end Sl
