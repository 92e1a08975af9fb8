import Derived.Test.YteogdknlofcpiaaGreatSlW
import Derived.Test.YteogdknlofcpiaaGreatSlP
namespace Sl
open _root_.Go _root_.Go.RowKit
set_option linter.all false
def u8c (b : UInt8) : List Value := [.int .u8 (b.toNat : Int)]
def blc (b : Bool) : List Value := [.bool b]
theorem u8c_len (b : UInt8) : (u8c b).length = 1 := rfl
theorem blc_len (b : Bool) : (blc b).length = 1 := rfl
instance : Inhabited UInt8 := ⟨0⟩
theorem bytesV_flat (l : List UInt8) : bytesV l = l.flatMap u8c := by
 induction l with
 | nil => rfl
 | cons a l ih => simp only [List.flatMap_cons, ← ih]; rfl
theorem flat1 {α : Type} {f : α → List Value} (hf : ∀ a, (f a).length = 1) (l : List α) : (l.flatMap f).length = l.length := by rw [flat_len hf]; omega
theorem flat_snoc {α : Type} (f : α → List Value) (l : List α) (a : α) : (l ++ [a]).flatMap f = l.flatMap f ++ f a := by simp
section
variable {W w : World} {l : List Atom} {i : Nat} {e : TypeId} {size n c : Nat} {p : Option Addr} {xs : List Value}
theorem Row.open2 (H : St W w l) (hi : l[i]? = some (Row e size (.slice p n c) n xs)) (h0 : 0 < n) : ∃ (g : Nat) (cur : Array Value), p = some ⟨g, 0, none⟩ ∧ n ≤ c ∧ c ≤ maxLen ∧ cur.size = c * size ∧ (cur.toList.drop 0).take (n * size) = xs ∧ (∀ x ∈ xs, x.oneCell' = true) ∧ St W w (l.set i (blk g (.cells cur e (0, 0)))) := by
 obtain ⟨g, cap, cur, hv, h1, h2, h3, h4, h5, H2⟩ := Row.open_ H hi h0
 injection hv with hp hn hc
 subst hp; subst hc
 exact ⟨g, cur, rfl, h1, h2, h3, by simpa using h4, h5, H2⟩
theorem Row.shut2 {g : Nat} {cur : Array Value} (H : St W w l) (hi : l[i]? = some (blk g (.cells cur e (0, 0)))) (hp : p = some ⟨g, 0, none⟩) (hc : n ≤ c) (hm : c ≤ maxLen) (hs : cur.size = c * size) (ht : (cur.toList.drop 0).take (n * size) = xs) (hone : ∀ x ∈ xs, x.oneCell' = true) : St W w (l.set i (Row e size (.slice p n c) n xs)) := by
 subst hp
 exact Row.shut H hi hc hm hs (by simpa using ht) hone
end
theorem row_set {α : Type} {f : α → List Value} {s : Nat} (hf : ∀ a, (f a).length = s) {L : List α} {cur : Array Value} (hx : (cur.toList.drop 0).take (L.length * s) = L.flatMap f) (hs : L.length * s ≤ cur.size) {j : Nat} (hj : j < L.length) (d : α) (t : Nat) (ht : t < s) (x : Value) (a' : α) (h : (f (L.getD j d)).set t x = f a') :
  ((cur.setIfInBounds (0 + j * s + t) x).toList.drop 0).take ((L.set j a').length * s) = (L.set j a').flatMap f := by
 rw [Array.toList_setIfInBounds, List.length_set, Nat.zero_add]
 have h1 : j * s + t < L.length * s := by
  have : (j + 1) * s ≤ L.length * s := Nat.mul_le_mul_right s hj
  rw [Nat.add_mul] at this; omega
 rw [List.drop_zero, List.take_set]
 rw [List.drop_zero] at hx
 rw [hx]
 exact flat_set hf a' t x L j d hj ht h
theorem row_set1 {α : Type} {f : α → List Value} (hf : ∀ a, (f a).length = 1) {L : List α} {cur : Array Value} (hx : (cur.toList.drop 0).take (L.length * 1) = L.flatMap f) (hs : L.length * 1 ≤ cur.size) {j : Nat} (hj : j < L.length) (d : α) (x : Value) (a' : α) (h : (f (L.getD j d)).set 0 x = f a') :
  ((cur.setIfInBounds (0 + j * 1) x).toList.drop 0).take ((L.set j a').length * 1) = (L.set j a').flatMap f := row_set hf hx hs hj d 0 (by decide) x a' h
theorem one_u8 (l : List UInt8) (x : Value) (h : x ∈ l.flatMap u8c) : x.oneCell' = true := by
 obtain ⟨a, _, ha⟩ := List.mem_flatMap.1 h
 simp [u8c] at ha
 subst ha; rfl
theorem one_bl (l : List Bool) (x : Value) (h : x ∈ l.flatMap blc) : x.oneCell' = true := by
 obtain ⟨a, _, ha⟩ := List.mem_flatMap.1 h
 simp [blc] at ha
 subst ha; rfl
def lowK (u n i : Nat) : List Bool := (List.range i).map fun j => u.testBit (n - 1 - j)
def lowB (u n : Nat) : List Bool := lowK u n n
theorem lowK_succ (u n i : Nat) : lowK u n (i + 1) = lowK u n i ++ [u.testBit (n - 1 - i)] := by simp [lowK, List.range_succ]
theorem lowK_len (u n i : Nat) : (lowK u n i).length = i := by simp [lowK]
theorem lowB_len (u n : Nat) : (lowB u n).length = n := lowK_len u n n
theorem shr_nat {u k m : Nat} {j : Int} (hj : j = k) (hk : k ≤ m) : (u : Int).fdiv (2 ^ (min j.toNat m)) = ((u / 2 ^ k : Nat) : Int) := by
 subst hj
 rw [Int.toNat_natCast, Nat.min_eq_left hk, Int.fdiv_eq_ediv_of_nonneg _ (Int.le_of_lt (Int.pow_pos (by omega)))]
 norm_cast
theorem bv_nat {m v : Nat} (hv : v < 2 ^ m) : (BitVec.ofInt m (v : Int)).toNat = v := by
 rw [BitVec.ofInt_natCast, BitVec.toNat_ofNat, Nat.mod_eq_of_lt hv]
theorem bit_and {K : IntKind} {a b : Nat} (ha : a < 2 ^ K.bits) (hb : b < 2 ^ K.bits) : bitOp .and K (a : Int) (b : Int) = K.wrap ((a &&& b : Nat) : Int) := by
 show K.wrap (((BitVec.ofInt K.bits (a : Int)) &&& (BitVec.ofInt K.bits (b : Int))).toNat : Int) = _
 rw [BitVec.toNat_and, bv_nat ha, bv_nat hb]
theorem bit_or {K : IntKind} {a b : Nat} (ha : a < 2 ^ K.bits) (hb : b < 2 ^ K.bits) : bitOp .or K (a : Int) (b : Int) = K.wrap ((a ||| b : Nat) : Int) := by
 show K.wrap (((BitVec.ofInt K.bits (a : Int)) ||| (BitVec.ofInt K.bits (b : Int))).toNat : Int) = _
 rw [BitVec.toNat_or, bv_nat ha, bv_nat hb]
theorem and_one (v : Nat) (hv : v < 18446744073709551616) : bitOp .and .u64 (v : Int) 1 = ((v % 2 : Nat) : Int) := by
 have := bit_and (K := .u64) (a := v) (b := 1) hv (by decide)
 rw [Nat.and_one_is_mod] at this
 have h2 : ((1 : Nat) : Int) = 1 := rfl
 rw [h2] at this
 rw [this]
 exact wu64 (by omega)
theorem bit_is (u k : Nat) : decide (((u / 2 ^ k % 2 : Nat) : Int) = 1) = u.testBit k := by
 rw [Nat.testBit_eq_decide_div_mod_eq]
 congr 1
 apply propext
 omega
theorem or_bit (a k : Nat) (ha : a < 256) (hk : k < 8) (h0 : a % 2 ^ (k + 1) = 0) : bitOp .or .u8 (a : Int) ((2 ^ k : Nat) : Int) = ((a + 2 ^ k : Nat) : Int) := by
 have hk2 : (2 : Nat) ^ k ≤ 2 ^ 7 := Nat.pow_le_pow_right (by decide) (by omega)
 rw [bit_or (K := .u8) (by exact ha) (by show 2 ^ k < 256; omega)]
 obtain ⟨q, hq⟩ := Nat.dvd_of_mod_eq_zero h0
 have h1 : a ||| 2 ^ k = a + 2 ^ k := by
  rw [hq, Nat.two_pow_add_eq_or_of_lt (Nat.pow_lt_pow_right (by decide) (by omega))]
 rw [h1]
 refine wu8 ⟨by omega, ?_⟩
 have h2 : a + 2 ^ k ≤ 255 := by
  have h3 : a ||| 2 ^ k < 2 ^ 8 := Nat.or_lt_two_pow (by omega) (by omega)
  omega
 omega
def bsum (f : Nat → Bool) : Nat → Nat
 | 0 => 0
 | t + 1 => bsum f t + (if f t then 2 ^ (7 - t) else 0)
def byteN (L : List Bool) (j : Nat) : Nat := bsum (fun t => L.getD (8 * j + t) false) 8
def pk (L : List Bool) : List UInt8 := (List.range ((L.length + 7) / 8)).map fun j => UInt8.ofNat (byteN L j)
theorem pk_len (L : List Bool) : (pk L).length = (L.length + 7) / 8 := by simp [pk]
theorem bsum_le (f : Nat → Bool) : ∀ t, t ≤ 8 → bsum f t + 2 ^ (8 - t) ≤ 256
 | 0, _ => by simp [bsum]
 | t + 1, h => by
  have h1 := bsum_le f t (by omega)
  have h2 : 2 ^ (8 - t) = 2 * 2 ^ (7 - t) := by rw [show 8 - t = (7 - t) + 1 by omega, Nat.pow_succ]; omega
  have h3 : 8 - (t + 1) = 7 - t := by omega
  unfold bsum
  rw [h3]
  split <;> omega
theorem byteN_lt (L : List Bool) (j : Nat) : byteN L j < 256 := by have h := bsum_le (fun t => L.getD (8 * j + t) false) 8 (by omega); rw [show 2 ^ (8 - 8) = 1 from rfl] at h; unfold byteN; omega
theorem bsum_congr {f g : Nat → Bool} : ∀ {n}, (∀ t, t < n → f t = g t) → bsum f n = bsum g n
 | 0, _ => rfl
 | n + 1, h => by unfold bsum; rw [bsum_congr (fun t ht => h t (by omega)), h n (by omega)]
theorem bsum_zero {f : Nat → Bool} : ∀ {n m}, m ≤ n → (∀ t, m ≤ t → t < n → f t = false) → bsum f n = bsum f m
 | 0, m, hm, _ => by rw [show m = 0 by omega]
 | n + 1, m, hm, h => by
  by_cases he : m = n + 1
  ·rw [he]
  ·rw [bsum, h n (by omega) (by omega), bsum_zero (n := n) (m := m) (by omega) (fun t h1 h2 => h t h1 (by omega))]
   rfl
theorem bsum_mod (f : Nat → Bool) : ∀ t, t ≤ 8 → bsum f t % 2 ^ (8 - t) = 0
 | 0, _ => by simp [bsum]
 | t + 1, h => by
  have h1 := bsum_mod f t (by omega)
  have h3 : 8 - (t + 1) = 7 - t := by omega
  have h2 : 2 ^ (8 - t) = 2 ^ (7 - t) * 2 := by rw [show 8 - t = (7 - t) + 1 by omega, Nat.pow_succ]
  unfold bsum
  rw [h3]
  have h4 : bsum f t % 2 ^ (7 - t) = 0 := by
   have := Nat.mod_mul_right_mod (bsum f t) (2 ^ (7 - t)) 2
   rw [← h2, h1] at this
   simpa using this.symm
  split
  ·rw [Nat.add_mod_right]; exact h4
  ·exact h4
theorem getD_snoc_lt {L : List Bool} {x : Bool} {i : Nat} (h : i < L.length) : (L ++ [x]).getD i false = L.getD i false := by
 simp [List.getD_eq_getElem?_getD, List.getElem?_append_left h]
theorem getD_snoc_eq {L : List Bool} {x : Bool} : (L ++ [x]).getD L.length false = x := by
 simp [List.getD_eq_getElem?_getD]
theorem getD_ge {L : List Bool} {i : Nat} (h : L.length ≤ i) : L.getD i false = false := by
 simp [List.getD_eq_getElem?_getD, List.getElem?_eq_none h]
theorem getD_snoc_gt {L : List Bool} {x : Bool} {i : Nat} (h : L.length < i) : (L ++ [x]).getD i false = false := getD_ge (by simp; omega)
theorem byteN_snoc_other (L : List Bool) (x : Bool) (j : Nat) (h : j ≠ L.length / 8) : byteN (L ++ [x]) j = byteN L j := by
 refine bsum_congr fun t ht => ?_
 by_cases h1 : 8 * j + t < L.length
 ·exact getD_snoc_lt h1
 ·rw [getD_ge (L := L) (by omega), getD_snoc_gt (by omega)]
theorem byteN_last (L : List Bool) : byteN L (L.length / 8) = bsum (fun t => L.getD (8 * (L.length / 8) + t) false) (L.length % 8) := by
 unfold byteN
 refine bsum_zero (by omega) fun t h1 h2 => getD_ge (by omega)
theorem byteN_snoc (L : List Bool) (x : Bool) : byteN (L ++ [x]) (L.length / 8) = byteN L (L.length / 8) + (if x then 2 ^ (7 - L.length % 8) else 0) := by
 rw [byteN_last]
 unfold byteN
 rw [bsum_zero (n := 8) (m := L.length % 8 + 1) (by omega) (fun t h1 h2 => getD_snoc_gt (by omega))]
 have e : (L ++ [x]).getD (8 * (L.length / 8) + L.length % 8) false = x := by rw [Nat.div_add_mod]; exact getD_snoc_eq
 show bsum _ (L.length % 8) + (if (L ++ [x]).getD (8 * (L.length / 8) + L.length % 8) false then _ else 0) = _
 rw [e, bsum_congr (fun t ht => getD_snoc_lt (by omega))]
theorem byteN_last_mod (L : List Bool) : byteN L (L.length / 8) % 2 ^ (7 - L.length % 8 + 1) = 0 := by
 rw [byteN_last]
 have := bsum_mod (fun t => L.getD (8 * (L.length / 8) + t) false) (L.length % 8) (by omega)
 rwa [show 8 - L.length % 8 = 7 - L.length % 8 + 1 by omega] at this
theorem u8_nat {n : Nat} (h : n < 256) : (UInt8.ofNat n).toNat = n := by simp; omega
def pkp (L : List Bool) : List UInt8 := (List.range (L.length / 8 + 1)).map fun j => UInt8.ofNat (byteN L j)
theorem pkp_len (L : List Bool) : (pkp L).length = L.length / 8 + 1 := by simp [pkp]
theorem pkp_of (L : List Bool) (h : L.length % 8 ≠ 0) : pkp L = pk L := by unfold pkp pk; rw [show (L.length + 7) / 8 = L.length / 8 + 1 by omega]
theorem pkp_new (L : List Bool) (h : L.length % 8 = 0) : pkp L = pk L ++ [0] := by
 unfold pkp pk
 rw [show (L.length + 7) / 8 = L.length / 8 by omega, List.range_succ, List.map_append]
 congr 1
 show [UInt8.ofNat (byteN L (L.length / 8))] = [0]
 rw [byteN_last, h]
 rfl
theorem pk_snoc_false (L : List Bool) : pk (L ++ [false]) = pkp L := by
 unfold pkp pk
 rw [List.length_append, show (L.length + [false].length + 7) / 8 = L.length / 8 + 1 by simp; omega]
 refine List.map_congr_left fun j _ => ?_
 by_cases h : j = L.length / 8
 ·subst h; rw [byteN_snoc]; simp
 ·rw [byteN_snoc_other _ _ _ h]
theorem pkp_getD (L : List Bool) : (pkp L).getD (L.length / 8) 0 = UInt8.ofNat (byteN L (L.length / 8)) := by
 simp [pkp, List.getD_eq_getElem?_getD]
theorem pk_snoc_true (L : List Bool) : pk (L ++ [true]) = (pkp L).set (L.length / 8) (UInt8.ofNat (byteN L (L.length / 8) + 2 ^ (7 - L.length % 8))) := by
 unfold pk pkp
 rw [List.length_append, show (L.length + [true].length + 7) / 8 = L.length / 8 + 1 by simp; omega]
 refine List.ext_getElem (by simp) fun j h1 h2 => ?_
 rw [List.getElem_set]
 simp only [List.length_map, List.length_range] at h1
 split
 ·rename_i h; subst h; simp [byteN_snoc]
 ·rename_i h; simp [byteN_snoc_other _ _ _ (Ne.symm h)]
def bitLen (u : Nat) : Nat := if u = 0 then 0 else Nat.log2 u + 1
theorem bitLen_le {u n : Nat} : bitLen u ≤ n ↔ u < 2 ^ n := by
 unfold bitLen
 split
 ·rename_i h; subst h; simp [Nat.pow_pos]
 ·rename_i h
  exact Nat.log2_lt h
theorem bitLen_div {u k : Nat} (h : 2 ^ k ≤ u) : bitLen u = k + bitLen (u / 2 ^ k) := by
 have key : ∀ n, bitLen u ≤ n ↔ k + bitLen (u / 2 ^ k) ≤ n := fun n => by
  rw [bitLen_le]
  by_cases hn : k ≤ n
  ·rw [show k + bitLen (u / 2 ^ k) ≤ n ↔ bitLen (u / 2 ^ k) ≤ n - k by omega, bitLen_le, Nat.div_lt_iff_lt_mul (Nat.pow_pos (by decide)), ← Nat.pow_add, show n - k + k = n by omega]
  ·constructor
   ·intro h2
    have := Nat.pow_le_pow_right (n := 2) (by decide) (show n ≤ k by omega)
    omega
   ·intro h2; omega
 have h1 := (key (bitLen u)).1 (Nat.le_refl _)
 have h2 := (key (k + bitLen (u / 2 ^ k))).2 (Nat.le_refl _)
 omega
theorem bitLen_half {u : Nat} (h : 0 < u) : bitLen u = bitLen (u / 2) + 1 := by
 by_cases h1 : u = 1
 ·subst h1; decide
 ·have := bitLen_div (u := u) (k := 1) (by rw [Nat.pow_one]; omega)
  rw [Nat.pow_one] at this
  omega
theorem bitLen_zero : bitLen 0 = 0 := rfl
theorem bitLen_pos {u : Nat} (h : 0 < u) : 0 < bitLen u := by rw [bitLen_half h]; omega
theorem bitLen_le64 {u : Nat} (h : u < 18446744073709551616) : bitLen u ≤ 64 := bitLen_le.2 h
def sizeU (u : Nat) : Nat := if u = 18446744073709551615 then 129 else 2 * bitLen (u + 1) - 1
def natB (u : Nat) : List Bool := if u = 18446744073709551615 then List.replicate 64 false ++ [true] ++ List.replicate 64 false else List.replicate (bitLen (u + 1) - 1) false ++ lowB (u + 1) (bitLen (u + 1) - 1 + 1)
theorem natB_len (u : Nat) : (natB u).length = sizeU u := by
 unfold natB sizeU
 split
 ·rfl
 ·have := bitLen_pos (u := u + 1) (by omega)
  simp [lowB_len]; omega
theorem sizeU_le {u : Nat} (h : u < 18446744073709551616) : sizeU u ≤ 129 := by
 unfold sizeU
 split
 ·omega
 ·have := bitLen_le64 (u := u + 1) (by omega); omega
theorem sizeU_half {u : Nat} (h : ¬ u = 18446744073709551615) : sizeU u / 2 = bitLen (u + 1) - 1 := by
 unfold sizeU; rw [if_neg h]; have := bitLen_pos (u := u + 1) (by omega); omega
theorem lowK_zero (n i : Nat) : lowK 0 n i = List.replicate i false := by
 unfold lowK
 refine List.ext_getElem (by simp) fun j h1 h2 => by simp
theorem lowB_zero (n : Nat) : lowB 0 n = List.replicate n false := lowK_zero n n
def zigN (n : Int) : Nat := if 0 ≤ n then (2 * n).toNat else (-2 * n - 1).toNat
def textB (s : ByteArray) : List Bool := natB s.size ++ s.data.toList.flatMap fun c => lowB c.toNat 8
theorem textB_len (s : ByteArray) : (textB s).length = sizeU s.size + 8 * s.size := by
 unfold textB
 rw [List.length_append, natB_len]
 congr 1
 have : ∀ l : List UInt8, (l.flatMap fun c => lowB c.toNat 8).length = 8 * l.length := by
  intro l
  induction l with
  | nil => rfl
  | cons a l ih => rw [List.flatMap_cons, List.length_append, ih, lowB_len, List.length_cons]; omega
 rw [this]
 rfl
theorem shr128 {j : Int} (n : Nat) (hj : j = ((n % 8 : Nat) : Int)) : (128 : Int).fdiv (2 ^ (min j.toNat 8)) = ((2 ^ (7 - n % 8) : Nat) : Int) := by
 subst hj
 rw [Int.toNat_natCast]
 have h : n % 8 < 8 := Nat.mod_lt _ (by decide)
 generalize n % 8 = m at *
 have : m = 0 ∨ m = 1 ∨ m = 2 ∨ m = 3 ∨ m = 4 ∨ m = 5 ∨ m = 6 ∨ m = 7 := by omega
 rcases this with rfl | rfl | rfl | rfl | rfl | rfl | rfl | rfl <;> decide
theorem u8_set {a : UInt8} {n : Nat} (h : n < 256) : (u8c a).set 0 (.int .u8 (n : Int)) = u8c (UInt8.ofNat n) := by
 show [Value.int .u8 (n : Int)] = [Value.int .u8 (((UInt8.ofNat n).toNat : Nat) : Int)]
 rw [u8_nat h]
theorem byte_or_lt (L : List Bool) : byteN L (L.length / 8) + 2 ^ (7 - L.length % 8) < 256 := by
 have := byteN_snoc L true
 have h2 := byteN_lt (L ++ [true]) (L.length / 8)
 simp only [if_true] at this
 omega
theorem or_put (L : List Bool) : bitOp .or .u8 (((pkp L).getD (L.length / 8) 0).toNat : Int) ((2 ^ (7 - L.length % 8) : Nat) : Int) = ((byteN L (L.length / 8) + 2 ^ (7 - L.length % 8) : Nat) : Int) := by
 rw [pkp_getD, u8_nat (byteN_lt _ _)]
 exact or_bit _ _ (byteN_lt _ _) (by omega) (byteN_last_mod L)
theorem snoc_len (L : List Bool) (x : Bool) : ((L ++ [x]).length : Int) = (L.length : Int) + 1 := by simp
theorem snoc_bytes (L : List Bool) (x : Bool) : ((L ++ [x]).length + 7) / 8 = L.length / 8 + 1 := by simp; omega
theorem sizeU_64 {u : Nat} (hu : u < 18446744073709551616) : sizeU u / 2 = 64 ↔ u = 18446744073709551615 := by
 constructor
 ·intro h
  refine Classical.byContradiction fun hn => ?_
  rw [sizeU_half hn] at h
  have := bitLen_le64 (u := u + 1) (by omega)
  omega
 ·rintro rfl; decide
theorem natB_max {u : Nat} (h : u = 18446744073709551615) : natB u = lowB 0 (sizeU u / 2) ++ [true] ++ lowB 0 64 := by
 subst h
 rw [lowB_zero, lowB_zero]
 rfl
theorem natB_is {u : Nat} (h : ¬ u = 18446744073709551615) : natB u = lowB 0 (sizeU u / 2) ++ lowB (u + 1) (sizeU u / 2 + 1) := by
 rw [lowB_zero, sizeU_half h]
 unfold natB
 rw [if_neg h]
def putE (L : List Bool) (n : Int) : Int := if (1048576 : Int) - (L.length : Int) < n then 3 else 0
def putL (L M : List Bool) : List Bool := if putE L (M.length : Int) = 0 then L ++ M else L
theorem putE_3 {L : List Bool} {n : Int} (h : (1048576 : Int) - (L.length : Int) < n) : putE L n = 3 := if_pos h
theorem putE_0 {L : List Bool} {n : Int} (h : ¬ (1048576 : Int) - (L.length : Int) < n) : putE L n = 0 := if_neg h
theorem putL_0 {L M : List Bool} {n : Int} (hn : (M.length : Int) = n) (h : putE L n = 0) : putL L M = L ++ M := by subst hn; exact if_pos h
theorem putL_no {L M : List Bool} {n : Int} (hn : (M.length : Int) = n) (h : ¬ putE L n = 0) : putL L M = L := by subst hn; exact if_neg h
theorem putE_room {L : List Bool} {n : Int} (h : putE L n = 0) : (L.length : Int) + n ≤ 1048576 := by
 unfold putE at h
 split at h
 ·cases h
 ·omega
theorem putL_le {L M : List Bool} (h : L.length ≤ 1048576) : (putL L M).length ≤ 1048576 := by
 unfold putL
 split
 ·rename_i h1
  have := putE_room h1
  rw [List.length_append]; omega
 ·exact h
def fitsB (u : Nat) (n : Int) : Bool := decide (0 ≤ n ∧ n ≤ 64 ∧ u < 2 ^ n.toNat)
def bitsE (L : List Bool) (u : Nat) (n : Int) : Int := if fitsB u n = true then putE L n else 1
def bitsL (L : List Bool) (u : Nat) (n : Int) : List Bool := if fitsB u n = true then putL L (lowB u n.toNat) else L
theorem bitsL_le {L : List Bool} {u : Nat} {n : Int} (h : L.length ≤ 1048576) : (bitsL L u n).length ≤ 1048576 := by
 unfold bitsL
 split
 ·exact putL_le h
 ·exact h
theorem fits_not1 {u : Nat} {n : Int} (h : n < 0 ∨ 64 < n) : fitsB u n = false := decide_eq_false (by omega)
theorem fits_not2 {u : Nat} {n : Int} (h : ¬ ((u / 2 ^ n.toNat : Nat) : Int) = 0) : fitsB u n = false := decide_eq_false fun ⟨_, _, h3⟩ => h (by rw [Nat.div_eq_of_lt h3]; rfl)
theorem fits_yes {u : Nat} {n : Int} (h1 : 0 ≤ n) (h2 : n ≤ 64) (h : ((u / 2 ^ n.toNat : Nat) : Int) = 0) : fitsB u n = true := decide_eq_true ⟨h1, h2, by
 have h0 : u / 2 ^ n.toNat = 0 := by omega
 have hp : 0 < 2 ^ n.toNat := Nat.pow_pos (by decide)
 exact (Nat.div_eq_zero_iff_lt hp).1 h0⟩
theorem fits_64 {u : Nat} {n : Int} (hu : u < 18446744073709551616) (h : n = 64) : fitsB u n = true := decide_eq_true ⟨by omega, by omega, by subst h; exact hu⟩
def RdA (A : Atom) (size : Nat) (v : Value) (n : Nat) (xs : List Value) : Prop := ∀ (W w : World) (l : List Atom) (i : Nat), St W w l → l[i]? = some A → Rd w size v n xs ∧ n ≤ 9223372036854775807
theorem RdA.row {e : TypeId} {size n : Nat} {v : Value} {xs : List Value} : RdA (Row e size v n xs) size v n xs := fun W w l i H hi => ⟨Row.rd H hi, Row.max H hi⟩
theorem RdA.im {size n : Nat} {v : Value} {xs : List Value} : RdA (Im size v n xs) size v n xs := fun W w l i H hi => ⟨Im.rd H hi, Im.len H hi⟩
theorem Rd.shape {w : World} {size n : Nat} {v : Value} {xs : List Value} (h : Rd w size v n xs) : ∃ (p : Option Addr) (c : Nat), v = .slice p n c ∧ (p = none → n = 0 ∧ c = 0 ∧ xs = []) := by
 obtain ⟨hl, _, h⟩ := h
 rcases h with ⟨rfl, rfl⟩ | ⟨a, c, rfl, _⟩
 ·exact ⟨none, 0, rfl, fun _ => ⟨rfl, rfl, List.eq_nil_of_length_eq_zero (by simpa using hl)⟩⟩
 ·exact ⟨some a, c, rfl, fun h => by cases h⟩
def len8tab : ByteArray := ⟨#[0, 1, 2, 2, 3, 3, 3, 3, 4, 4, 4, 4, 4, 4, 4, 4, 5, 5, 5, 5, 5, 5, 5, 5, 5, 5, 5, 5, 5, 5, 5, 5, 6, 6, 6, 6, 6, 6, 6, 6, 6, 6, 6, 6, 6, 6, 6, 6, 6, 6, 6, 6, 6, 6, 6, 6, 6, 6, 6, 6, 6, 6, 6, 6, 7, 7, 7, 7, 7, 7, 7, 7, 7, 7, 7, 7, 7, 7, 7, 7, 7, 7, 7, 7, 7, 7, 7, 7, 7, 7, 7, 7, 7, 7, 7, 7, 7, 7, 7, 7, 7, 7, 7, 7, 7, 7, 7, 7, 7, 7, 7, 7, 7, 7, 7, 7, 7, 7, 7, 7, 7, 7, 7, 7, 7, 7, 7, 7, 8, 8, 8, 8, 8, 8, 8, 8, 8, 8, 8, 8, 8, 8, 8, 8, 8, 8, 8, 8, 8, 8, 8, 8, 8, 8, 8, 8, 8, 8, 8, 8, 8, 8, 8, 8, 8, 8, 8, 8, 8, 8, 8, 8, 8, 8, 8, 8, 8, 8, 8, 8, 8, 8, 8, 8, 8, 8, 8, 8, 8, 8, 8, 8, 8, 8, 8, 8, 8, 8, 8, 8, 8, 8, 8, 8, 8, 8, 8, 8, 8, 8, 8, 8, 8, 8, 8, 8, 8, 8, 8, 8, 8, 8, 8, 8, 8, 8, 8, 8, 8, 8, 8, 8, 8, 8, 8, 8, 8, 8, 8, 8, 8, 8, 8, 8, 8, 8, 8, 8, 8, 8, 8, 8, 8, 8, 8, 8]⟩
theorem len8_all : ∀ n : Nat, n < 256 → (len8tab[n]?).map (fun b => (b.toNat : Int)) = some (bitLen n : Int) := by decide +kernel
theorem len8_str {j : Int} {n : Nat} (hj : j = n) (h : n < 256) : (len8tab[j.toNat]?).map (fun b => (b.toNat : Int)) = some (bitLen n : Int) := by
 subst hj
 rw [Int.toNat_natCast]
 exact len8_all n h
theorem bitLen_le8 (n : Nat) (h : n < 256) : bitLen n ≤ 8 := bitLen_le.2 h
end Sl
namespace Sl
open _root_.Go _root_.Go.RowKit
set_option linter.all false
theorem app_lowK (L : List Bool) (u n i : Nat) : L ++ lowK u n i ++ [u.testBit (n - 1 - i)] = L ++ lowK u n (i + 1) := by rw [lowK_succ, List.append_assoc]
theorem zig_pos {n : Int} (h : 0 ≤ n) : ((zigN n : Nat) : Int) = 2 * n := by unfold zigN; rw [if_pos h]; omega
theorem zig_neg {n : Int} (h : n < 0) : ((zigN n : Nat) : Int) = -2 * n - 1 := by unfold zigN; rw [if_neg (by omega)]; omega
theorem zigN_lt {n : Int} (h1 : -9223372036854775808 ≤ n) (h2 : n ≤ 9223372036854775807) : zigN n < 18446744073709551616 := by unfold zigN; split <;> omega
theorem zig_bits {n : Int} (h1 : -9223372036854775808 ≤ n) (h2 : n ≤ 9223372036854775807) : IntKind.u64.wrap (bitOp .xor .i64 (IntKind.i64.wrap (n * 2 ^ (min (1 : Int).toNat 64))) (n.fdiv (2 ^ (min (63 : Int).toNat 64)))) = ((zigN n : Nat) : Int) := by
 have e1 : (2 : Int) ^ (min (1 : Int).toNat 64) = 2 := by decide
 have e2 : (2 : Int) ^ (min (63 : Int).toNat 64) = 9223372036854775808 := by decide
 have key : ∀ a b : Int, bitOp .xor .i64 a b = IntKind.i64.wrap (((BitVec.ofInt 64 a) ^^^ (BitVec.ofInt 64 b)).toNat : Int) := fun _ _ => rfl
 rw [e1, e2, key]
 by_cases h : 0 ≤ n
 ·have hd : n.fdiv 9223372036854775808 = 0 := by rw [Int.fdiv_eq_ediv_of_nonneg _ (by decide)]; omega
  rw [hd, zig_pos h, wrap_u64]
  have hz : (BitVec.ofInt 64 0) = 0#64 := rfl
  rw [hz, BitVec.xor_zero, BitVec.toNat_ofInt, IntKind.wrap_i64, IntKind.wrap_i64]
  omega
 ·have hd : n.fdiv 9223372036854775808 = -1 := by rw [Int.fdiv_eq_ediv_of_nonneg _ (by decide)]; omega
  rw [hd, zig_neg (by omega), wrap_u64]
  have hz : (BitVec.ofInt 64 (-1)) = BitVec.allOnes 64 := by decide
  rw [hz, BitVec.xor_allOnes, BitVec.toNat_not, BitVec.toNat_ofInt, IntKind.wrap_i64, IntKind.wrap_i64]
  omega
end Sl
namespace Sl
open _root_.Go _root_.Go.RowKit
set_option linter.all false
def textK (s : ByteArray) (j : Nat) : List Bool := (s.data.toList.take j).flatMap fun c => lowB c.toNat 8
theorem textK_succ {s : ByteArray} {j : Nat} (h : j < s.size) : textK s (j + 1) = textK s j ++ lowB (s.data.toList.getD j 0).toNat 8 := by
 have hl : j < s.data.toList.length := by simpa using h
 unfold textK
 rw [List.take_succ, List.flatMap_append, List.getElem?_eq_getElem hl]
 simp [List.getD_eq_getElem?_getD, List.getElem?_eq_getElem hl]
theorem textK_all (s : ByteArray) : textB s = natB s.size ++ textK s s.size := by
 unfold textB textK
 rw [List.take_of_length_le (by simp)]
theorem flatLow_len (l : List UInt8) : (l.flatMap fun c => lowB c.toNat 8).length = 8 * l.length := by
 induction l with
 | nil => rfl
 | cons a l ih => rw [List.flatMap_cons, List.length_append, ih, lowB_len, List.length_cons]; omega
theorem textK_len (s : ByteArray) (j : Nat) : (textK s j).length ≤ 8 * j := by
 unfold textK
 rw [flatLow_len]
 have := List.length_take_le j s.data.toList
 omega
theorem take_snoc {l : List Bool} {j : Nat} (h : j < l.length) : l.take (j + 1) = l.take j ++ [l.getD j false] := by
 rw [List.take_succ, List.getElem?_eq_getElem h]
 simp [List.getD_eq_getElem?_getD, List.getElem?_eq_getElem h]
theorem byteAt_lt (s : ByteArray) (j : Nat) : (s.data.toList.getD j 0).toNat < 256 := (s.data.toList.getD j 0).toNat_lt
end Sl
namespace Sl
open _root_.Go _root_.Go.RowKit
set_option linter.all false
theorem made_of {z : Array Value} {v : Value} (hz : z = #[v]) (k : Nat) : madeCells z (k * 1) = (List.replicate k v).toArray := by
 subst hz
 rw [Nat.mul_one]
 unfold madeCells
 apply Array.ext'
 simp only [Array.toList_map, Array.toList_range]
 refine List.ext_getElem (by simp) fun i h1 h2 => ?_
 simp [Nat.mod_one]
theorem flat_rep {α : Type} {f : α → List Value} {a : α} {v : Value} (h : f a = [v]) : ∀ k, (List.replicate k a).flatMap f = List.replicate k v
 | 0 => rfl
 | k + 1 => by rw [List.replicate_succ, List.flatMap_cons, h, flat_rep h k]; rfl
theorem made_bools (k : Nat) : madeCells (Value.cells (.bool false)) (k * 1) = ((List.replicate k false).flatMap blc).toArray := by rw [flat_rep (f := blc) (a := false) rfl]; exact made_of rfl k
theorem made_bytes (k : Nat) : madeCells (Value.cells (.int .u8 0)) (k * 1) = ((List.replicate k (0 : UInt8)).flatMap u8c).toArray := by rw [flat_rep (f := u8c) (a := 0) rfl]; exact made_of rfl k
theorem zero_bools (k : Nat) : (Builtin.zeroCells (Value.cells (.bool false)) k).toList = (List.replicate k false).flatMap blc := by
 have h : Builtin.zeroCells (Value.cells (.bool false)) k = madeCells (Value.cells (.bool false)) (k * 1) := rfl
 rw [h, made_bools]
section
variable {W w : World} {l : List Atom} {i : Nat} {e : TypeId}
theorem Row.of_list {b n size : Nat} {xs : List Value} (H : St W w l) (hi : l[i]? = some (blk b (.cells xs.toArray e (0, 0)))) (hm : n ≤ maxLen) (hs : xs.length = n * size) (hone : ∀ x ∈ xs, x.oneCell' = true) : St W w (l.set i (Row e size (.slice (some ⟨b, 0, none⟩) n n) n xs)) :=
 Row.of_blk (cs := xs.toArray) H hi hm (by simpa using hs) (by simpa using hone)
end
def pkA (L : List Bool) (j : Nat) : List UInt8 := (List.range ((L.length + 7) / 8)).map fun q => UInt8.ofNat (byteN (L.take j) q)
theorem pkA_len (L : List Bool) (j : Nat) : (pkA L j).length = (L.length + 7) / 8 := by simp [pkA]
theorem byteN_nil (q : Nat) : byteN [] q = 0 := by
 unfold byteN
 rw [bsum_zero (n := 8) (m := 0) (by omega) (fun t _ _ => by simp)]
 rfl
theorem pkA_zero (L : List Bool) : pkA L 0 = List.replicate ((L.length + 7) / 8) 0 := by
 unfold pkA
 refine List.ext_getElem (by simp) fun i h1 h2 => ?_
 simp [byteN_nil]
theorem pkA_all (L : List Bool) : pkA L L.length = pk L := by unfold pkA pk; rw [List.take_length]
theorem take_len {L : List Bool} {j : Nat} (h : j ≤ L.length) : (L.take j).length = j := by rw [List.length_take]; omega
theorem pkA_getD {L : List Bool} {j : Nat} (h : j < L.length) : (pkA L j).getD (j / 8) 0 = UInt8.ofNat (byteN (L.take j) (j / 8)) := by
 have : j / 8 < (L.length + 7) / 8 := by omega
 simp [pkA, List.getD_eq_getElem?_getD, this]
theorem pkA_false {L : List Bool} {j : Nat} (h : j < L.length) (hx : L.getD j false = false) : pkA L (j + 1) = pkA L j := by
 unfold pkA
 rw [take_snoc h, hx]
 refine List.map_congr_left fun q _ => ?_
 by_cases hq : q = (L.take j).length / 8
 ·subst hq; rw [byteN_snoc]; simp
 ·rw [byteN_snoc_other _ _ _ hq]
theorem pkA_true {L : List Bool} {j : Nat} (h : j < L.length) (hx : L.getD j false = true) : pkA L (j + 1) = (pkA L j).set (j / 8) (UInt8.ofNat (byteN (L.take j) (j / 8) + 2 ^ (7 - j % 8))) := by
 unfold pkA
 rw [take_snoc h, hx]
 have hl := take_len (Nat.le_of_lt h)
 refine List.ext_getElem (by simp) fun q h1 h2 => ?_
 rw [List.getElem_set]
 simp only [List.length_map, List.length_range] at h1
 split
 ·rename_i hq; subst hq
  have := byteN_snoc (L.take j) true
  rw [hl] at this
  simp [this]
 ·rename_i hq
  have := byteN_snoc_other (L.take j) true q (by rw [hl]; exact Ne.symm hq)
  simp [this]
theorem pkA_lt {L : List Bool} {j : Nat} (h : j ≤ L.length) : byteN (L.take j) (j / 8) + 2 ^ (7 - j % 8) < 256 := by
 have := byte_or_lt (L.take j)
 rwa [take_len h] at this
theorem natB_1 {u : Nat} (h : u = 18446744073709551615) : natB u = List.replicate 64 false ++ [true] ++ List.replicate 64 false := if_pos h
theorem natB_2 {u : Nat} (h : ¬ u = 18446744073709551615) : natB u = List.replicate (bitLen (u + 1) - 1) false ++ lowB (u + 1) (bitLen (u + 1) - 1 + 1) := if_neg h
theorem sizeU_2 {u : Nat} (h : ¬ u = 18446744073709551615) : sizeU u = (bitLen (u + 1) - 1) + (bitLen (u + 1) - 1 + 1) := by rw [← natB_len, natB_2 h]; simp [lowB_len]
theorem lit_bytes {xs ys : List UInt8} : decide ((⟨xs.toArray⟩ : ByteArray) = ⟨ys.toArray⟩) = decide (xs = ys) := by
 congr 1
 apply propext
 constructor
 ·intro h
  have h2 : xs.toArray = ys.toArray := congrArg ByteArray.data h
  simpa using h2
 ·rintro rfl; rfl
theorem Im.cut {W w : World} {l : List Atom} {i : Nat} {α : Type} {f : α → List Value} (hf : ∀ a, (f a).length = 1) {R : List α} {p : Option Addr} {n c : Nat} (a b : Nat) (H : St W w l) (hi : l[i]? = some (Im 1 (.slice p n c) n (R.flatMap f))) (hab : a ≤ b) (hb : b ≤ n) :
  St W w (Im 1 (.slice (cutAt p a c 1) (b - a) (c - a)) (b - a) (((R.drop a).take (b - a)).flatMap f) :: l) := by
 have H2 := H.dup hi (Im_pers _ _ _ _)
 have hfm : ∀ (L : List α) (k : Nat), (L.flatMap f).drop k = (L.drop k).flatMap f := by
  intro L
  induction L with
  | nil => intro k; simp
  | cons x L ih =>
   intro k
   cases k with
   | zero => rfl
   | succ k =>
    have h1 := hf x
    match hx : f x, h1 with
    | [y], _ => rw [List.flatMap_cons, hx, List.drop_succ_cons, ← ih]; rfl
 have hft : ∀ (L : List α) (k : Nat), (L.flatMap f).take k = (L.take k).flatMap f := by
  intro L
  induction L with
  | nil => intro k; simp
  | cons x L ih =>
   intro k
   cases k with
   | zero => rfl
   | succ k =>
    have h1 := hf x
    match hx : f x, h1 with
    | [y], _ => rw [List.take_succ_cons, List.flatMap_cons, List.flatMap_cons, hx, ← ih]; rfl
 refine H2.conv (i := 0) (A' := Im 1 (.slice (cutAt p a c 1) (b - a) (c - a)) (b - a) (((R.drop a).take (b - a)).flatMap f)) rfl ?_
 rintro I h1 ⟨e1, h2, h3, p', c', h4, h5, h6⟩
 injection h4 with q1 q2 q3
 subst q1
 subst q3
 have hRn : R.length = n := by have := h3.1; rw [flat1 hf] at this; omega
 refine ⟨e1, fun x hx => ?_, ⟨?_, by omega⟩, _, _, rfl, ⟨fun h => ?_, by omega⟩, fun hm => ?_⟩
 ·rw [← hft, ← hfm] at hx
  exact h2 x (List.mem_of_mem_drop (List.mem_of_mem_take hx))
 ·rw [flat1 hf, List.length_take, List.length_drop]; omega
 ·have hp : p = none := by
   unfold cutAt at h
   split at h
   ·exact h
   ·simpa using h
  have := h5.1 hp
  omega
 ·obtain ⟨g, o, k, e, z, a1, b1, c1, d1⟩ := h6 (by omega)
  subst a1
  refine ⟨g, o + a, k, e, z, ?_, b1, by omega, ?_⟩
  ·unfold cutAt
   rw [if_neg (by omega), Option.map_some, addr_add]; simp
  ·rw [← hft, ← hfm, ← d1, List.drop_take, List.take_take, List.drop_drop]
   congr 1
   omega
theorem Im.cut_l {W w : World} {l : List Atom} {i : Nat} {α : Type} {f : α → List Value} (hf : ∀ a, (f a).length = 1) {R : List α} {p : Option Addr} {n c : Nat} (a : Nat) (H : St W w l) (hi : l[i]? = some (Im 1 (.slice p n c) n (R.flatMap f))) (ha : a ≤ n) :
  St W w (Im 1 (.slice (cutAt p a c 1) (n - a) (c - a)) (n - a) ((R.drop a).flatMap f) :: l) := by
 have hl : R.length = n := by
  obtain ⟨I, h1, _, hI, hh, _, h2, h3, _⟩ := H.get hi
  have := h3.1
  rw [flat1 hf] at this
  omega
 have h := Im.cut hf a n H hi ha (Nat.le_refl _)
 rwa [List.take_of_length_le (show (R.drop a).length ≤ n - a by rw [List.length_drop]; omega)] at h
end Sl
