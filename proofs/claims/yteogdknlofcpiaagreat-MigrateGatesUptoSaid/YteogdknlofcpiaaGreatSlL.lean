import Derived.Test.YteogdknlofcpiaaGreatSlK
namespace Sl
open _root_.Go _root_.Go.RowKit
set_option linter.all false
theorem low_read {u : Nat} {n : Int} (h : fitsB u n = true) (T : List Bool) : srcE (lowB u n.toNat ++ T) n = 0 ∧ srcU (lowB u n.toNat ++ T) n = u ∧ srcN (lowB u n.toNat ++ T) n = n.toNat := by
 obtain ⟨h0, h1, h2⟩ := of_decide_eq_true h
 have hE : srcE (lowB u n.toNat ++ T) n = 0 := srcE_0 (by omega) (by rw [List.length_append, lowB_len]; omega)
 refine ⟨hE, ?_, srcN_0 hE⟩
 rw [srcU_0 hE, List.take_append_of_le_length (by rw [lowB_len]; exact Nat.le_refl _), List.take_of_length_le (by rw [lowB_len]; exact Nat.le_refl _), valOf_lowB, Nat.mod_eq_of_lt h2]
theorem zag_zig {n : Int} (h1 : -9223372036854775808 ≤ n) (h2 : n ≤ 9223372036854775807) : zagN (zigN n) = n := by
 unfold zagN
 rcases Int.lt_or_le n 0 with h | h
 ·have := zig_neg h; rw [if_pos (by omega)]; omega
 ·have := zig_pos h; rw [if_neg (by omega)]; omega
theorem flat_low_drop : ∀ (l : List UInt8) (j : Nat), (l.flatMap fun c => lowB c.toNat 8).drop (8 * j) = (l.drop j).flatMap fun c => lowB c.toNat 8
 | l, 0 => by simp
 | [], j + 1 => by simp
 | c :: l, j + 1 => by
  rw [List.flatMap_cons, List.drop_succ_cons, ← flat_low_drop l j, show 8 * (j + 1) = (lowB c.toNat 8).length + 8 * j from by rw [lowB_len]; omega, List.drop_append]
  rw [List.drop_of_length_le (by omega), List.nil_append, Nat.add_sub_cancel_left]
theorem text_read {s : ByteArray} (hs : s.size ≤ 1099511627776) (T : List Bool) : textE (textB s ++ T) = 0 ∧ textS (textB s ++ T) = s ∧ textN (textB s ++ T) = (textB s).length := by
 have hR : textB s ++ T = natB s.size ++ ((s.data.toList.flatMap fun c => lowB c.toNat 8) ++ T) := by unfold textB; rw [List.append_assoc]
 obtain ⟨a, b, c⟩ := natB_read (u := s.size) (by omega) ((s.data.toList.flatMap fun c => lowB c.toNat 8) ++ T)
 rw [← hR] at a b c
 have hsz : s.data.toList.length = s.size := by rw [Array.length_toList]; rfl
 have hlen : (textB s ++ T).length = (natB s.size).length + (8 * s.size + T.length) := by rw [hR, List.length_append, List.length_append, flatLow_len, hsz]
 have hE : textE (textB s ++ T) = 0 := textE_0 a (by rw [b, c, hlen]; omega)
 have hdrop : ∀ j, (textB s ++ T).drop (natN (textB s ++ T) + 8 * j) = ((s.data.toList.flatMap fun c => lowB c.toNat 8) ++ T).drop (8 * j) := by
  intro j
  rw [c, hR, ← List.drop_drop, List.drop_append_of_le_length (Nat.le_refl _), List.drop_of_length_le (Nat.le_refl _), List.nil_append]
 have hb : ∀ j, (h : j < s.data.toList.length) → byteT (textB s ++ T) j = s.data.toList[j] := by
  intro j h
  unfold byteT
  rw [hdrop, List.drop_append_of_le_length (by rw [flatLow_len]; omega), flat_low_drop, List.drop_eq_getElem_cons h, List.flatMap_cons, List.append_assoc, List.take_append_of_le_length (by rw [lowB_len]; omega), List.take_of_length_le (by rw [lowB_len]; omega), valOf_lowB]
  have := (s.data.toList[j]).toNat_lt
  rw [Nat.mod_eq_of_lt (by omega)]
  exact UInt8.ofNat_toNat
 refine ⟨hE, ?_, ?_⟩
 ·unfold textS textBytes
  rw [if_pos hE, b]
  have : (List.range s.size).map (byteT (textB s ++ T)) = s.data.toList := by
   refine List.ext_getElem (by simp [hsz]) fun i h1 h2 => ?_
   rw [List.getElem_map, List.getElem_range]
   exact hb i h2
  rw [this]
 ·rw [textN_0 hE, b, c, textB_len, natB_len]
theorem bsum_bit (f : Nat → Bool) (t : Nat) (ht : t < 8) : (bsum f 8).testBit (7 - t) = f t := by
 have key : ∀ a0 a1 a2 a3 a4 a5 a6 a7 : Bool, (bsum (fun i => [a0, a1, a2, a3, a4, a5, a6, a7].getD i false) 8).testBit 7 = a0 ∧ (bsum (fun i => [a0, a1, a2, a3, a4, a5, a6, a7].getD i false) 8).testBit 6 = a1 ∧
   (bsum (fun i => [a0, a1, a2, a3, a4, a5, a6, a7].getD i false) 8).testBit 5 = a2 ∧ (bsum (fun i => [a0, a1, a2, a3, a4, a5, a6, a7].getD i false) 8).testBit 4 = a3 ∧ (bsum (fun i => [a0, a1, a2, a3, a4, a5, a6, a7].getD i false) 8).testBit 3 = a4 ∧
   (bsum (fun i => [a0, a1, a2, a3, a4, a5, a6, a7].getD i false) 8).testBit 2 = a5 ∧ (bsum (fun i => [a0, a1, a2, a3, a4, a5, a6, a7].getD i false) 8).testBit 1 = a6 ∧ (bsum (fun i => [a0, a1, a2, a3, a4, a5, a6, a7].getD i false) 8).testBit 0 = a7 := by decide +kernel
 have hf : bsum f 8 = bsum (fun i => [f 0, f 1, f 2, f 3, f 4, f 5, f 6, f 7].getD i false) 8 := bsum_congr fun i hi => by
  match i, hi with
  | 0, _ | 1, _ | 2, _ | 3, _ | 4, _ | 5, _ | 6, _ | 7, _ => rfl
 rw [hf]
 obtain ⟨h0, h1, h2, h3, h4, h5, h6, h7⟩ := key (f 0) (f 1) (f 2) (f 3) (f 4) (f 5) (f 6) (f 7)
 match t, ht with
 | 0, _ => exact h0
 | 1, _ => exact h1
 | 2, _ => exact h2
 | 3, _ => exact h3
 | 4, _ => exact h4
 | 5, _ => exact h5
 | 6, _ => exact h6
 | 7, _ => exact h7
def padB (L : List Bool) : List Bool := List.replicate (8 * ((L.length + 7) / 8) - L.length) false
theorem bits_pk (L : List Bool) : bitsOf (pk L) = L ++ padB L := by
 refine List.ext_getElem (by simp [bitsOf_len, pk_len, padB]; omega) fun k h1 h2 => ?_
 have h3 : k < 8 * ((L.length + 7) / 8) := by simpa [bitsOf_len, pk_len] using h1
 have e0 : (bitsOf (pk L))[k] = bitAt (pk L) k := by simp [bitsOf]
 rw [e0]
 have e1 : (pk L).getD (k / 8) 0 = UInt8.ofNat (byteN L (k / 8)) := by
  unfold pk
  rw [List.getD_eq_getElem?_getD, List.getElem?_map, List.getElem?_range (by omega)]; rfl
 unfold bitAt
 rw [e1, u8_nat (byteN_lt _ _)]
 unfold byteN
 rw [bsum_bit _ _ (Nat.mod_lt _ (by decide)), show 8 * (k / 8) + k % 8 = k from by omega]
 by_cases hk : k < L.length
 ·rw [List.getElem_append_left hk, List.getD_eq_getElem?_getD, List.getElem?_eq_getElem hk]; rfl
 ·rw [List.getElem_append_right (by omega), getD_ge (by omega)]; simp [padB]
theorem pad_end (L : List Bool) : endE (padB L) = 0 := endE_0 (by simp [padB]; omega) (fun j hj => by simp [padB, List.getD_eq_getElem?_getD, List.getElem?_replicate]; split <;> rfl)
theorem drop_part {A T : List Bool} {n : Nat} (h : n = A.length) : (A ++ T).drop n = T := by subst h; simp
end Sl
