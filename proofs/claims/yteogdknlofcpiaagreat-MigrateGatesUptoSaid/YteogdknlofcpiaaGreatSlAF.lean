import Derived.Test.YteogdknlofcpiaaGreatSlI
import Derived.Test.YteogdknlofcpiaaGreatSlH
import Derived.Test.YteogdknlofcpiaaGreatSlAC
namespace Sl
open _root_.Go _root_.Go.RowKit
set_option linter.all false
structure RX where
 e : Int
 R : List Bool
def stB (n : Int) (X : RX) : Nat × RX := if X.e = 0 then (srcU X.R n, ⟨srcE X.R n, X.R.drop (srcN X.R n)⟩) else (0, X)
def stN (X : RX) : Nat × RX := if X.e = 0 then (natU X.R, ⟨natE X.R, X.R.drop (natN X.R)⟩) else (0, X)
def stT (X : RX) : ByteArray × RX := if X.e = 0 then (textS X.R, ⟨textE X.R, X.R.drop (textN X.R)⟩) else (ByteArray.empty, X)
def stK (e : Int) (X : RX) : RX := ⟨if X.e = 0 then e else X.e, X.R⟩
def str' (s : ByteArray) : Str := if h : s.size ≤ 140737488355328 then ⟨s, h⟩ else Str.none
theorem str'_v {s : ByteArray} (h : s.size ≤ 140737488355328) : (str' s).v = s := by unfold str'; rw [dif_pos h]
section
variable {X : RX} {n : Int}
theorem stB_no (h : ¬ X.e = 0) : stB n X = (0, X) := if_neg h
theorem stN_no (h : ¬ X.e = 0) : stN X = (0, X) := if_neg h
theorem stT_no (h : ¬ X.e = 0) : stT X = (ByteArray.empty, X) := if_neg h
theorem stB_yes (h : X.e = 0) : stB n X = (srcU X.R n, ⟨srcE X.R n, X.R.drop (srcN X.R n)⟩) := if_pos h
theorem stN_yes (h : X.e = 0) : stN X = (natU X.R, ⟨natE X.R, X.R.drop (natN X.R)⟩) := if_pos h
theorem stT_yes (h : X.e = 0) : stT X = (textS X.R, ⟨textE X.R, X.R.drop (textN X.R)⟩) := if_pos h
theorem stB_lt {k : Nat} : (stB (k : Int) X).1 < 2 ^ k := by
 unfold stB
 split
 ·exact srcU_lt_pow
 ·exact Nat.pow_pos (by decide)
theorem stN_lt : (stN X).1 < 18446744073709551616 := by
 unfold stN
 split
 ·exact natU_lt _
 ·exact Nat.zero_lt_succ _
theorem stB_len : (stB n X).2.R.length ≤ X.R.length := by
 unfold stB
 split
 ·simp
 ·exact Nat.le_refl _
theorem stN_len : (stN X).2.R.length ≤ X.R.length := by
 unfold stN
 split
 ·simp
 ·exact Nat.le_refl _
theorem stT_len : (stT X).2.R.length ≤ X.R.length := by
 unfold stT
 split
 ·simp
 ·exact Nat.le_refl _
theorem textS_size_le (R : List Bool) : 8 * (textS R).size ≤ R.length := by
 by_cases h : textE R = 0
 ·obtain ⟨h1, h2⟩ := textE_is h
  have : (textS R).size = natU R := (text_back h).2.2
  omega
 ·rw [textS_0 h]; simp
theorem stT_size : 8 * (stT X).1.size ≤ X.R.length := by
 unfold stT
 split
 ·exact textS_size_le _
 ·simp
end
def stV (X : RX) : (Int × Int × ByteArray) × RX :=
 if (stB 2 X).1 = 1 then ((1, zagN (stN (stB 2 X).2).1, ByteArray.empty), (stN (stB 2 X).2).2)
 else if (stB 2 X).1 = 2 then ((2, 0, (stT (stB 2 X).2).1), (stT (stB 2 X).2).2)
 else (((stB 2 X).1, 0, ByteArray.empty), stK 40 (stB 2 X).2)
theorem stV_1 {X : RX} (h : (stB 2 X).1 = 1) : stV X = ((1, zagN (stN (stB 2 X).2).1, ByteArray.empty), (stN (stB 2 X).2).2) := if_pos h
theorem stV_2 {X : RX} (h : (stB 2 X).1 = 2) : stV X = ((2, 0, (stT (stB 2 X).2).1), (stT (stB 2 X).2).2) := by unfold stV; rw [if_neg (by omega), if_pos h]
theorem stV_3 {X : RX} (h1 : ¬ (stB 2 X).1 = 1) (h2 : ¬ (stB 2 X).1 = 2) : stV X = ((((stB 2 X).1 : Int), 0, ByteArray.empty), stK 40 (stB 2 X).2) := by unfold stV; rw [if_neg h1, if_neg h2]
def stA (X : RX) : AttrV × RX := (⟨str' (stT X).1, i64' (stV (stT X).2).1.1, i64' (stV (stT X).2).1.2.1, str' (stV (stT X).2).1.2.2⟩, (stV (stT X).2).2)
theorem zagN_range {u : Nat} (h : u < 18446744073709551616) : -9223372036854775808 ≤ zagN u ∧ zagN u ≤ 9223372036854775807 := by unfold zagN; split <;> omega
theorem stV_range {X : RX} : (-9223372036854775808 ≤ (stV X).1.1 ∧ (stV X).1.1 ≤ 9223372036854775807) ∧ (-9223372036854775808 ≤ (stV X).1.2.1 ∧ (stV X).1.2.1 ≤ 9223372036854775807) ∧ 8 * (stV X).1.2.2.size ≤ X.R.length ∧ (stV X).2.R.length ≤ X.R.length := by
 have hk : (stB 2 X).1 < 4 := stB_lt (k := 2)
 have hl : (stB 2 X).2.R.length ≤ X.R.length := stB_len
 by_cases h1 : (stB 2 X).1 = 1
 ·rw [stV_1 h1]
  have := zagN_range (stN_lt (X := (stB 2 X).2))
  have h3 : (stN (stB 2 X).2).2.R.length ≤ _ := stN_len
  refine ⟨by dsimp only; omega, this, ?_, by exact Nat.le_trans h3 hl⟩
  show 8 * 0 ≤ _
  omega
 ·by_cases h2 : (stB 2 X).1 = 2
  ·rw [stV_2 h2]
   have h3 : (stT (stB 2 X).2).2.R.length ≤ _ := stT_len
   have h4 := stT_size (X := (stB 2 X).2)
   exact ⟨by dsimp only; omega, by dsimp only; omega, by exact Nat.le_trans h4 hl, by exact Nat.le_trans h3 hl⟩
  ·rw [stV_3 h1 h2]
   refine ⟨by dsimp only; omega, by dsimp only; omega, ?_, ?_⟩
   ·show 8 * 0 ≤ _
    omega
   ·unfold stK; exact hl
theorem stA_cells {X : RX} (h : X.R.length ≤ 1125899906842624) : (stA X).1.name.v = (stT X).1 ∧ (stA X).1.kind.v = (stV (stT X).2).1.1 ∧ (stA X).1.n.v = (stV (stT X).2).1.2.1 ∧ (stA X).1.s.v = (stV (stT X).2).1.2.2 := by
 have h1 := stT_size (X := X)
 have h2 : (stT X).2.R.length ≤ X.R.length := stT_len
 obtain ⟨a, b, c, d⟩ := stV_range (X := (stT X).2)
 exact ⟨str'_v (by omega), i64'_v a, i64'_v b, str'_v (by omega)⟩
def ats : Nat → RX → List AttrV × RX
 | 0, X => ([], X)
 | j + 1, X => if (ats j X).2.e = 0 then ((ats j X).1 ++ [(stA (ats j X).2).1], (stA (ats j X).2).2) else ats j X
section
variable {X : RX} {j n : Nat}
theorem ats_yes (h : (ats j X).2.e = 0) : ats (j + 1) X = ((ats j X).1 ++ [(stA (ats j X).2).1], (stA (ats j X).2).2) := if_pos h
theorem ats_no (h : ¬ (ats j X).2.e = 0) : ats (j + 1) X = ats j X := if_neg h
theorem ats_stop (h : ¬ (ats j X).2.e = 0) : ∀ n, j ≤ n → ats n X = ats j X
 | 0, hn => by rw [show j = 0 by omega]
 | n + 1, hn => by
  by_cases hj : j = n + 1
  ·rw [hj]
  ·have ih := ats_stop h n (by omega)
   rw [ats_no (by rw [ih]; exact h), ih]
theorem ats_le : ∀ n, (ats n X).1.length ≤ n
 | 0 => Nat.le_refl _
 | n + 1 => by
  by_cases h : (ats n X).2.e = 0
  ·rw [ats_yes h]; have := ats_le n; simp; omega
  ·rw [ats_no h]; have := ats_le n; omega
end
def v1 (X : RX) : RX := (stB 4 X).2
def v2 (X : RX) : RX := (stN (v1 X)).2
def v3 (X : RX) : RX := (stN (v2 X)).2
def v4 (X : RX) : RX := (stT (v3 X)).2
def v5 (X : RX) : RX := (stB 4 (v4 X)).2
def vn (X : RX) : Nat := (stB 4 (v4 X)).1
def v6 (X : RX) : RX := if 8 < vn X then stK 40 (v5 X) else v5 X
def v7 (X : RX) : RX := (ats (vn X) (v6 X)).2
def evS (f : Nat → Int) (X : RX) : EvM := ⟨i64' (stB 4 X).1, i64' (f (stN (v1 X)).1), i64' (f (stN (v2 X)).1), str' (stT (v3 X)).1, (ats (vn X) (v6 X)).1⟩
def evC (f : Nat → Int) (X : RX) : Int := if (v7 X).e = 0 then evE (evS f X) else (v7 X).e
section
variable {X : RX}
theorem v7_at {j : Nat} (hj : j ≤ vn X) (h : ¬ (ats j (v6 X)).2.e = 0) : (v7 X).e = (ats j (v6 X)).2.e := by unfold v7; rw [ats_stop h _ hj]
theorem evC_no {f : Nat → Int} (h : ¬ (v7 X).e = 0) : evC f X = (v7 X).e := if_neg h
theorem evC_yes {f : Nat → Int} (h : (v7 X).e = 0) : evC f X = evE (evS f X) := if_pos h
theorem evS_src {f : Nat → Int} : (evS f X).src.v = ((stB 4 X).1 : Int) := i64'_v (by have : (stB 4 X).1 < 16 := stB_lt (k := 4); omega)
theorem evS_seq {f : Nat → Int} (hf : ∀ u, u < 18446744073709551616 → -9223372036854775808 ≤ f u ∧ f u ≤ 9223372036854775807) : (evS f X).seq.v = f (stN (v1 X)).1 := i64'_v (hf _ stN_lt)
theorem evS_time {f : Nat → Int} (hf : ∀ u, u < 18446744073709551616 → -9223372036854775808 ≤ f u ∧ f u ≤ 9223372036854775807) : (evS f X).time.v = f (stN (v2 X)).1 := i64'_v (hf _ stN_lt)
theorem v1_len : (v1 X).R.length ≤ X.R.length := stB_len
theorem v2_len : (v2 X).R.length ≤ X.R.length := Nat.le_trans stN_len v1_len
theorem v3_len : (v3 X).R.length ≤ X.R.length := Nat.le_trans stN_len v2_len
theorem evS_typ {f : Nat → Int} (h : X.R.length ≤ 1125899906842624) : (evS f X).typ.v = (stT (v3 X)).1 := str'_v (by have := stT_size (X := v3 X); have := v3_len (X := X); omega)
theorem tm_ok (u : Nat) (h : u < 18446744073709551616) : -9223372036854775808 ≤ tmN u ∧ tmN u ≤ 9223372036854775807 := by have := tmN_range u; omega
end
def evZ : EvM := ⟨⟨0, by decide, by decide⟩, ⟨0, by decide, by decide⟩, ⟨0, by decide, by decide⟩, Str.none, []⟩
def tkE (R : List Bool) : Int := evC tmN ⟨0, R⟩
def tkV (R : List Bool) : EvM := if tkE R = 0 then evS tmN ⟨0, R⟩ else evZ
def tkR (R : List Bool) : List Bool := if tkE R = 0 then (v7 ⟨0, R⟩).R else R
theorem tkV_yes {R : List Bool} (h : tkE R = 0) : tkV R = evS tmN ⟨0, R⟩ := if_pos h
theorem tkV_no {R : List Bool} (h : ¬ tkE R = 0) : tkV R = evZ := if_neg h
theorem tkR_yes {R : List Bool} (h : tkE R = 0) : tkR R = (v7 ⟨0, R⟩).R := if_pos h
theorem tkR_no {R : List Bool} (h : ¬ tkE R = 0) : tkR R = R := if_neg h
section
variable {X : RX}
end
end Sl
