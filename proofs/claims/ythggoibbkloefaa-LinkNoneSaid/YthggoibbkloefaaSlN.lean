/- Bits as lists, bytes of bits, codes of numbers: plain laws. And rows that are opened for reading and writing. No condition. -/
import Derived.Test.YthggoibbkloefaaSlW
import Derived.Test.YthggoibbkloefaaSlG
namespace Sl
open _root_.Go _root_.Go.RowKit
set_option linter.all false
def u8c (b : UInt8) : List Value := [.int .u8 (b.toNat : Int)]
theorem u8c_len (b : UInt8) : (u8c b).length = 1 := rfl
instance : Inhabited UInt8 := ⟨0⟩
theorem bytesV_flat (l : List UInt8) : bytesV l = l.flatMap u8c := by
 induction l with
 | nil => rfl
 | cons a l ih => simp only [List.flatMap_cons, ← ih]; rfl
theorem flat1 {α : Type} {f : α → List Value} (hf : ∀ a, (f a).length = 1) (l : List α) : (l.flatMap f).length = l.length := by rw [flat_len hf]; omega
/-! ### rows, opened -/
section
variable {W w : World} {l : List Atom} {i : Nat} {e : TypeId} {size n c : Nat} {p : Option Addr} {xs : List Value}
theorem Row.open2 (H : St W w l) (hi : l[i]? = some (Row e size (.slice p n c) n xs)) (h0 : 0 < n) : ∃ (g : Nat) (cur : Array Value), p = some ⟨g, 0, none⟩ ∧ n ≤ c ∧ c ≤ maxLen ∧ cur.size = c * size ∧ (cur.toList.drop 0).take (n * size) = xs ∧ (∀ x ∈ xs, x.oneCell' = true) ∧ St W w (l.set i (blk g (.cells cur e (0, 0)))) := by
 obtain ⟨g, cap, cur, hv, h1, h2, h3, h4, h5, H2⟩ := Row.open_ H hi h0
 injection hv with hp hn hc
 subst hp; subst hc
 exact ⟨g, cur, rfl, h1, h2, h3, by simpa using h4, h5, H2⟩
theorem Row.shut2 {g : Nat} {cur : Array Value} (H : St W w l) (hi : l[i]? = some (blk g (.cells cur e (0, 0)))) (hp : p = some ⟨g, 0, none⟩) (hc : n ≤ c) (hm : c ≤ maxLen) (hs : cur.size = c * size) (ht : (cur.toList.drop 0).take (n * size) = xs) (hone : ∀ x ∈ xs, x.oneCell' = true) : St W w (l.set i (Row e size (.slice p n c) n xs)) := by
 subst hp
 exact Row.shut H hi hc hm hs (by simpa using ht) hone
end
theorem row_set {α : Type} {f : α → List Value} {s : Nat} (hf : ∀ a, (f a).length = s) {L : List α} {cur : Array Value} (hx : (cur.toList.drop 0).take (L.length * s) = L.flatMap f) (hs : L.length * s ≤ cur.size) {j : Nat} (hj : j < L.length) (d : α) (t : Nat) (ht : t < s) (x : Value) (a' : α) (h : (f (L.getD j d)).set t x = f a') :
  ((cur.setIfInBounds (0 + j * s + t) x).toList.drop 0).take ((L.set j a').length * s) = (L.set j a').flatMap f := by
 rw [Array.toList_setIfInBounds, List.length_set, Nat.zero_add]
 have h1 : j * s + t < L.length * s := by
  have : (j + 1) * s ≤ L.length * s := Nat.mul_le_mul_right s hj
  rw [Nat.add_mul] at this; omega
 rw [List.drop_zero, List.take_set]
 rw [List.drop_zero] at hx
 rw [hx]
 exact flat_set hf a' t x L j d hj ht h
theorem row_set1 {α : Type} {f : α → List Value} (hf : ∀ a, (f a).length = 1) {L : List α} {cur : Array Value} (hx : (cur.toList.drop 0).take (L.length * 1) = L.flatMap f) (hs : L.length * 1 ≤ cur.size) {j : Nat} (hj : j < L.length) (d : α) (x : Value) (a' : α) (h : (f (L.getD j d)).set 0 x = f a') :
  ((cur.setIfInBounds (0 + j * 1) x).toList.drop 0).take ((L.set j a').length * 1) = (L.set j a').flatMap f := row_set hf hx hs hj d 0 (by decide) x a' h
theorem one_u8 (l : List UInt8) (x : Value) (h : x ∈ l.flatMap u8c) : x.oneCell' = true := by
 obtain ⟨a, _, ha⟩ := List.mem_flatMap.1 h
 simp [u8c] at ha
 subst ha; rfl
theorem bv_nat {m v : Nat} (hv : v < 2 ^ m) : (BitVec.ofInt m (v : Int)).toNat = v := by
 rw [BitVec.ofInt_natCast, BitVec.toNat_ofNat, Nat.mod_eq_of_lt hv]
theorem bit_xor {K : IntKind} {a b : Nat} (ha : a < 2 ^ K.bits) (hb : b < 2 ^ K.bits) : bitOp .xor K (a : Int) (b : Int) = K.wrap ((a ^^^ b : Nat) : Int) := by
 show K.wrap (((BitVec.ofInt K.bits (a : Int)) ^^^ (BitVec.ofInt K.bits (b : Int))).toNat : Int) = _
 rw [BitVec.toNat_xor, bv_nat ha, bv_nat hb]
theorem u8_nat {n : Nat} (h : n < 256) : (UInt8.ofNat n).toNat = n := by simp; omega
theorem u8_set {a : UInt8} {n : Nat} (h : n < 256) : (u8c a).set 0 (.int .u8 (n : Int)) = u8c (UInt8.ofNat n) := by
 show [Value.int .u8 (n : Int)] = [Value.int .u8 (((UInt8.ofNat n).toNat : Nat) : Int)]
 rw [u8_nat h]
/-- What is read as a slice by an atom. -/
def RdA (A : Atom) (size : Nat) (v : Value) (n : Nat) (xs : List Value) : Prop := ∀ (W w : World) (l : List Atom) (i : Nat), St W w l → l[i]? = some A → Rd w size v n xs ∧ n ≤ 9223372036854775807
theorem RdA.row {e : TypeId} {size n : Nat} {v : Value} {xs : List Value} : RdA (Row e size v n xs) size v n xs := fun W w l i H hi => ⟨Row.rd H hi, Row.max H hi⟩
theorem RdA.im {size n : Nat} {v : Value} {xs : List Value} : RdA (Im size v n xs) size v n xs := fun W w l i H hi => ⟨Im.rd H hi, Im.len H hi⟩
theorem Rd.shape {w : World} {size n : Nat} {v : Value} {xs : List Value} (h : Rd w size v n xs) : ∃ (p : Option Addr) (c : Nat), v = .slice p n c ∧ (p = none → n = 0 ∧ c = 0 ∧ xs = []) := by
 obtain ⟨hl, _, h⟩ := h
 rcases h with ⟨rfl, rfl⟩ | ⟨a, c, rfl, _⟩
 ·exact ⟨none, 0, rfl, fun _ => ⟨rfl, rfl, List.eq_nil_of_length_eq_zero (by simpa using hl)⟩⟩
 ·exact ⟨some a, c, rfl, fun h => by cases h⟩
end Sl
namespace Sl
open _root_.Go _root_.Go.RowKit
set_option linter.all false
end Sl
namespace Sl
open _root_.Go _root_.Go.RowKit
set_option linter.all false
end Sl
namespace Sl
open _root_.Go _root_.Go.RowKit
set_option linter.all false
section
variable {W w : World} {l : List Atom} {i : Nat} {e : TypeId}
end
theorem lit_bytes {xs ys : List UInt8} : decide ((⟨xs.toArray⟩ : ByteArray) = ⟨ys.toArray⟩) = decide (xs = ys) := by
 congr 1
 apply propext
 constructor
 ·intro h
  have h2 : xs.toArray = ys.toArray := congrArg ByteArray.data h
  simpa using h2
 ·rintro rfl; rfl
/-- A part of a slice that is read is read too. -/
theorem Im.cut {W w : World} {l : List Atom} {i : Nat} {α : Type} {f : α → List Value} (hf : ∀ a, (f a).length = 1) {R : List α} {p : Option Addr} {n c : Nat} (a b : Nat) (H : St W w l) (hi : l[i]? = some (Im 1 (.slice p n c) n (R.flatMap f))) (hab : a ≤ b) (hb : b ≤ n) :
  St W w (Im 1 (.slice (cutAt p a c 1) (b - a) (c - a)) (b - a) (((R.drop a).take (b - a)).flatMap f) :: l) := by
 have H2 := H.dup hi (Im_pers _ _ _ _)
 have hfm : ∀ (L : List α) (k : Nat), (L.flatMap f).drop k = (L.drop k).flatMap f := by
  intro L
  induction L with
  | nil => intro k; simp
  | cons x L ih =>
   intro k
   cases k with
   | zero => rfl
   | succ k =>
    have h1 := hf x
    match hx : f x, h1 with
    | [y], _ => rw [List.flatMap_cons, hx, List.drop_succ_cons, ← ih]; rfl
 have hft : ∀ (L : List α) (k : Nat), (L.flatMap f).take k = (L.take k).flatMap f := by
  intro L
  induction L with
  | nil => intro k; simp
  | cons x L ih =>
   intro k
   cases k with
   | zero => rfl
   | succ k =>
    have h1 := hf x
    match hx : f x, h1 with
    | [y], _ => rw [List.take_succ_cons, List.flatMap_cons, List.flatMap_cons, hx, ← ih]; rfl
 refine H2.conv (i := 0) (A' := Im 1 (.slice (cutAt p a c 1) (b - a) (c - a)) (b - a) (((R.drop a).take (b - a)).flatMap f)) rfl ?_
 rintro I h1 ⟨e1, h2, h3, p', c', h4, h5, h6⟩
 injection h4 with q1 q2 q3
 subst q1
 subst q3
 have hRn : R.length = n := by have := h3.1; rw [flat1 hf] at this; omega
 refine ⟨e1, fun x hx => ?_, ⟨?_, by omega⟩, _, _, rfl, ⟨fun h => ?_, by omega⟩, fun hm => ?_⟩
 ·rw [← hft, ← hfm] at hx
  exact h2 x (List.mem_of_mem_drop (List.mem_of_mem_take hx))
 ·rw [flat1 hf, List.length_take, List.length_drop]; omega
 ·have hp : p = none := by
   unfold cutAt at h
   split at h
   ·exact h
   ·simpa using h
  have := h5.1 hp
  omega
 ·obtain ⟨g, o, k, e, z, a1, b1, c1, d1⟩ := h6 (by omega)
  subst a1
  refine ⟨g, o + a, k, e, z, ?_, b1, by omega, ?_⟩
  ·unfold cutAt
   rw [if_neg (by omega), Option.map_some, addr_add]; simp
  ·rw [← hft, ← hfm, ← d1, List.drop_take, List.take_take, List.drop_drop]
   congr 1
   omega
theorem cutAt_0 (p : Option Addr) (c s : Nat) : cutAt p 0 c s = p := by
 unfold cutAt
 split
 ·rfl
 ·cases p <;> simp [Addr.add]
theorem Im.cut_h {W w : World} {l : List Atom} {i : Nat} {α : Type} {f : α → List Value} (hf : ∀ a, (f a).length = 1) {R : List α} {p : Option Addr} {n c : Nat} (b : Nat) (H : St W w l) (hi : l[i]? = some (Im 1 (.slice p n c) n (R.flatMap f))) (hb : b ≤ n) :
  St W w (Im 1 (.slice p b c) b ((R.take b).flatMap f) :: l) := by
 have h := Im.cut hf 0 b H hi (Nat.zero_le _) hb
 rwa [cutAt_0, Nat.sub_zero, Nat.sub_zero, List.drop_zero] at h
end Sl
