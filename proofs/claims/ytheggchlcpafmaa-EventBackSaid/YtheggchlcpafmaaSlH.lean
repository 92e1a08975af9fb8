/- Datagrams, their sum, and their bits. No condition. -/
import Derived.Test.YtheggchlcpafmaaSlI
namespace Sl
open _root_.Go _root_.Go.RowKit
set_option linter.all false
structure DgM where
  frm : I64
  to_ : I64
  kind : I64
  seq : I64
  ack : I64
  body : List UInt8
instance : Inhabited DgM := ⟨⟨default, default, default, default, default, []⟩⟩
def dgCell (d : DgM) (bv : Value) : List Value := [.int .i64 d.frm.v, .int .i64 d.to_.v, .int .i64 d.kind.v, .int .i64 d.seq.v, .int .i64 d.ack.v, bv]
def brB (n : Int) : Bool := decide (0 ≤ n ∧ n < 16)
def dgOk (d : DgM) : Prop := 0 ≤ d.frm.v ∧ d.frm.v < 16 ∧ 0 ≤ d.to_.v ∧ d.to_.v < 16 ∧ ¬ d.frm.v = d.to_.v ∧ 0 ≤ d.seq.v ∧ d.seq.v ≤ 1099511627776 ∧ 0 ≤ d.ack.v ∧ d.ack.v ≤ 1099511627776 ∧ (d.body.length : Int) ≤ 16384 ∧ (d.kind.v = 1 ∨ (d.kind.v = 2 ∧ d.seq.v = 0 ∧ (d.body.length : Int) = 0))
instance (d : DgM) : Decidable (dgOk d) := by unfold dgOk; infer_instance
def dgE (d : DgM) : Int := if dgOk d then 0 else 21
theorem dgE_0 {d : DgM} (h : dgOk d) : dgE d = 0 := if_pos h
theorem dgE_21 {d : DgM} (h : ¬ dgOk d) : dgE d = 21 := if_neg h
theorem dgE_is {d : DgM} (h : dgE d = 0) : dgOk d := by
  unfold dgE at h
  split at h
  · assumption
  · cases h
def dgSame (a b : DgM) : Bool := decide (a.frm.v = b.frm.v ∧ a.to_.v = b.to_.v ∧ a.kind.v = b.kind.v ∧ a.seq.v = b.seq.v ∧ a.ack.v = b.ack.v ∧ a.body = b.body)
theorem dgSame_self (a : DgM) : dgSame a a = true := decide_eq_true ⟨rfl, rfl, rfl, rfl, rfl, rfl⟩
theorem bodyEq {a b : List UInt8} (h : (⟨a.toArray⟩ : ByteArray) = ⟨b.toArray⟩) : a = b := by
  injection h with h
  exact List.toArray_inj h
/-! ### the sum -/
def crcBit (s : Nat) : Nat := if 2147483648 ≤ s then (2 * s % 4294967296) ^^^ 79764919 else 2 * s % 4294967296
theorem crcBit_lt {s : Nat} (h : s < 4294967296) : crcBit s < 4294967296 := by
  unfold crcBit
  split
  · exact Nat.xor_lt_two_pow (n := 32) (Nat.mod_lt _ (by decide)) (by decide)
  · exact Nat.mod_lt _ (by decide)
def crcBits : Nat → Nat → Nat
  | 0, s => s
  | k + 1, s => crcBit (crcBits k s)
theorem crcBits_lt {s : Nat} (h : s < 4294967296) : ∀ k, crcBits k s < 4294967296
  | 0 => h
  | k + 1 => crcBit_lt (crcBits_lt h k)
def crcX (s : Nat) (x : UInt8) : Nat := s ^^^ (x.toNat * 16777216)
theorem crcX_lt {s : Nat} (x : UInt8) (h : s < 4294967296) : crcX s x < 4294967296 := Nat.xor_lt_two_pow (n := 32) h (by have := x.toNat_lt; omega)
def crcByte (s : Nat) (x : UInt8) : Nat := crcBits 8 (crcX s x)
def crcL (s : Nat) (l : List UInt8) : Nat := l.foldl crcByte s
theorem crcByte_lt {s : Nat} (x : UInt8) (h : s < 4294967296) : crcByte s x < 4294967296 := by
  unfold crcByte
  exact crcBits_lt (crcX_lt x h) 8
theorem crcL_cons (s : Nat) (x : UInt8) (l : List UInt8) : crcL s (x :: l) = crcL (crcByte s x) l := by
  unfold crcL
  rw [List.foldl_cons]
theorem crcL_nil (s : Nat) : crcL s [] = s := by
  unfold crcL
  rw [List.foldl_nil]
theorem crcL_lt : ∀ (l : List UInt8) {s : Nat}, s < 4294967296 → crcL s l < 4294967296
  | [], s, h => by rw [crcL_nil]; exact h
  | x :: l, s, h => by rw [crcL_cons]; exact crcL_lt l (crcByte_lt x h)
theorem crcL_snoc (s : Nat) (l : List UInt8) (x : UInt8) : crcL s (l ++ [x]) = crcByte (crcL s l) x := by unfold crcL; rw [List.foldl_append, List.foldl_cons, List.foldl_nil]
theorem crcL_append (s : Nat) (l m : List UInt8) : crcL s (l ++ m) = crcL (crcL s l) m := by unfold crcL; rw [List.foldl_append]
theorem crcL_take {s : Nat} {l : List UInt8} {j : Nat} (h : j < l.length) : crcL s (l.take (j + 1)) = crcByte (crcL s (l.take j)) (l.getD j 0) := by rw [take_snocU h, crcL_snoc]
def sumN (l : List UInt8) : Nat := crcL 4294967295 l ^^^ 4294967295
theorem sumN_lt (l : List UInt8) : sumN l < 4294967296 := Nat.xor_lt_two_pow (n := 32) (crcL_lt l (by decide)) (by decide)
def sumB (n : Nat) : List UInt8 := [UInt8.ofNat (n / 16777216), UInt8.ofNat (n / 65536 % 256), UInt8.ofNat (n / 256 % 256), UInt8.ofNat (n % 256)]
theorem crcBit_hi {s : Nat} (h : 2147483648 ≤ s) : crcBit s = (2 * s % 4294967296) ^^^ 79764919 := if_pos h
theorem crcBit_lo {s : Nat} (h : ¬ 2147483648 ≤ s) : crcBit s = 2 * s % 4294967296 := if_neg h
theorem crc_xor {S : Nat} (x : UInt8) (h : S < 4294967296) : bitOp .xor .u32 (S : Int) ((x.toNat * 16777216 : Nat) : Int) = ((crcX S x : Nat) : Int) := by
  have hx : x.toNat * 16777216 < 4294967296 := by have := x.toNat_lt; omega
  rw [bit_xor (K := .u32) (by exact h) (by exact hx)]
  have := crcX_lt x h
  unfold crcX at this ⊢
  exact wu32 (by omega)
theorem crc_shl24 (x : UInt8) : IntKind.u32.wrap ((x.toNat : Int) * 2 ^ (min (24 : Int).toNat 32)) = ((x.toNat * 16777216 : Nat) : Int) := by
  have := x.toNat_lt
  show IntKind.u32.wrap ((x.toNat : Int) * 16777216) = _
  exact (wu32 (by omega)).trans (by omega)
theorem wrap32 (n : Nat) : IntKind.u32.wrap (n : Int) = ((n % 4294967296 : Nat) : Int) := by
  unfold IntKind.wrap
  show (if (false && decide ((n : Int) % 4294967296 ≥ 2147483648)) = true then _ else (n : Int) % 4294967296) = _
  simp
theorem crc_shl1 (s : Nat) : IntKind.u32.wrap ((s : Int) * 2 ^ (min (1 : Int).toNat 32)) = ((2 * s % 4294967296 : Nat) : Int) := by
  show IntKind.u32.wrap ((s : Int) * 2) = _
  rw [show (s : Int) * 2 = ((2 * s : Nat) : Int) by omega, wrap32]
theorem crc_mul2 (s : Nat) : IntKind.u32.wrap ((s : Int) * 2) = ((2 * s % 4294967296 : Nat) : Int) := crc_shl1 s
theorem crc_poly {t : Nat} (h : t < 4294967296) : bitOp .xor .u32 (t : Int) 79764919 = ((t ^^^ 79764919 : Nat) : Int) := by
  rw [show (79764919 : Int) = ((79764919 : Nat) : Int) from rfl, bit_xor (K := .u32) (by exact h) (by decide)]
  have : t ^^^ 79764919 < 4294967296 := Nat.xor_lt_two_pow (n := 32) h (by decide)
  exact wu32 (by omega)
theorem crc_not {s : Nat} (h : s < 4294967296) : bitOp .xor .u32 (if IntKind.u32.signed = true then -1 else IntKind.u32.max) (s : Int) = ((s ^^^ 4294967295 : Nat) : Int) := by
  show bitOp .xor .u32 4294967295 (s : Int) = _
  rw [show (4294967295 : Int) = ((4294967295 : Nat) : Int) from rfl, bit_xor (K := .u32) (by decide) (by exact h), Nat.xor_comm]
  have : s ^^^ 4294967295 < 4294967296 := Nat.xor_lt_two_pow (n := 32) h (by decide)
  exact wu32 (by omega)
/-! ### the bits -/
def dgBits (d : DgM) : List Bool := lowB d.kind.v.toNat 2 ++ lowB d.frm.v.toNat 4 ++ lowB d.to_.v.toNat 4 ++ natB d.ack.v.toNat ++ (if d.kind.v = 1 then natB d.seq.v.toNat ++ (natB d.body.length ++ bitsOf d.body) else [])
def dgHead (d : DgM) : List UInt8 := pk (dgBits d)
def dgBytes (d : DgM) : List UInt8 := if dgE d = 0 then dgHead d ++ sumB (sumN (dgHead d)) else []
theorem dgBytes_no {d : DgM} (h : ¬ dgE d = 0) : dgBytes d = [] := if_neg h
theorem dgBytes_yes {d : DgM} (h : dgE d = 0) : dgBytes d = dgHead d ++ sumB (sumN (dgHead d)) := if_pos h
theorem dgBits_le {d : DgM} (h : dgE d = 0) : (dgBits d).length ≤ 140000 := by
  obtain ⟨h1, h2, h3, h4, h5, h6, h7, h8, h9, h10, h11⟩ := dgE_is h
  have s1 := sizeU_le (u := d.ack.v.toNat) (by omega)
  have s2 := sizeU_le (u := d.seq.v.toNat) (by omega)
  have s3 := sizeU_le (u := d.body.length) (by omega)
  unfold dgBits
  split
  · simp only [List.length_append, lowB_len, natB_len, bitsOf_len]; omega
  · simp only [List.length_append, lowB_len, natB_len, List.length_nil]; omega
def bstr (l : List UInt8) : ByteArray := ⟨l.toArray⟩
theorem bstr_size (l : List UInt8) : (bstr l).size = l.length := rfl
theorem textB_bytes (l : List UInt8) : textB (bstr l) = natB l.length ++ bitsOf l := by
  unfold textB
  rw [bitsOf_flat]
  rfl
theorem wrap8 (n : Nat) : IntKind.u8.wrap (n : Int) = ((n % 256 : Nat) : Int) := by
  unfold IntKind.wrap
  show (if (false && decide ((n : Int) % 256 ≥ 128)) = true then _ else (n : Int) % 256) = _
  simp
theorem sumB_cells {n : Nat} (h : n < 4294967296) : (sumB n).flatMap u8c = [.int .u8 ((n / 2 ^ 24 : Nat) : Int), .int .u8 ((n / 2 ^ 16 % 256 : Nat) : Int), .int .u8 ((n / 2 ^ 8 % 256 : Nat) : Int), .int .u8 ((n % 256 : Nat) : Int)] := by
  show [Value.int .u8 ((UInt8.ofNat (n / 16777216)).toNat : Int), .int .u8 ((UInt8.ofNat (n / 65536 % 256)).toNat : Int), .int .u8 ((UInt8.ofNat (n / 256 % 256)).toNat : Int), .int .u8 ((UInt8.ofNat (n % 256)).toNat : Int)] = _
  rw [u8_nat (by omega), u8_nat (by omega), u8_nat (by omega), u8_nat (by omega)]
theorem sumB_len (n : Nat) : (sumB n).length = 4 := rfl
def dgAck : DgM := ⟨⟨0, by decide, by decide⟩, ⟨1, by decide, by decide⟩, ⟨2, by decide, by decide⟩, ⟨0, by decide, by decide⟩, ⟨0, by decide, by decide⟩, []⟩
def dgZero : DgM := ⟨⟨0, by decide, by decide⟩, ⟨0, by decide, by decide⟩, ⟨0, by decide, by decide⟩, ⟨0, by decide, by decide⟩, ⟨0, by decide, by decide⟩, []⟩
/-! ### what any bits say -/
def fr1 (R : List Bool) := R.drop (srcN R 2)
def fr2 (R : List Bool) := (fr1 R).drop (srcN (fr1 R) 4)
def fr3 (R : List Bool) := (fr2 R).drop (srcN (fr2 R) 4)
def fr4 (R : List Bool) := (fr3 R).drop (natN (fr3 R))
def fr5 (R : List Bool) := (fr4 R).drop (natN (fr4 R))
def frEnd (R : List Bool) := if srcU R 2 = 1 then (fr5 R).drop (textN (fr5 R)) else fr4 R
def bodyE (R : List Bool) : Int := if ¬ natE R = 0 then natE R else if 16384 < natU R then 21 else textE R
def tmN (u : Nat) : Int := if 1099511627776 < u then -1 else (u : Int)
def frV (R : List Bool) : DgM := ⟨i64' (srcU (fr1 R) 4), i64' (srcU (fr2 R) 4), i64' (srcU R 2), i64' (if srcU R 2 = 1 then tmN (natU (fr4 R)) else 0), i64' (tmN (natU (fr3 R))), if srcU R 2 = 1 then textBytes (fr5 R) else []⟩
def rdE (R : List Bool) : Int :=
  if ¬ srcE R 2 = 0 then srcE R 2
  else if ¬ (srcU R 2 = 1 ∨ srcU R 2 = 2) then 21
  else if ¬ srcE (fr1 R) 4 = 0 then srcE (fr1 R) 4
  else if ¬ srcE (fr2 R) 4 = 0 then srcE (fr2 R) 4
  else if ¬ natE (fr3 R) = 0 then natE (fr3 R)
  else if srcU R 2 = 2 then 0
  else if ¬ natE (fr4 R) = 0 then natE (fr4 R)
  else bodyE (fr5 R)
def frE (R : List Bool) : Int := if ¬ rdE R = 0 then rdE R else if ¬ endE (frEnd R) = 0 then endE (frEnd R) else dgE (frV R)
section
variable {R : List Bool}
theorem rdE_a (h : ¬ srcE R 2 = 0) : rdE R = srcE R 2 := if_pos h
theorem rdE_b (h0 : srcE R 2 = 0) (h : ¬ (srcU R 2 = 1 ∨ srcU R 2 = 2)) : rdE R = 21 := by unfold rdE; rw [if_neg (by simpa using h0), if_pos h]
theorem rdE_c (h0 : srcE R 2 = 0) (hk : srcU R 2 = 1 ∨ srcU R 2 = 2) (h : ¬ srcE (fr1 R) 4 = 0) : rdE R = srcE (fr1 R) 4 := by unfold rdE; rw [if_neg (by simpa using h0), if_neg (fun hn => hn hk), if_pos h]
theorem rdE_d (h0 : srcE R 2 = 0) (hk : srcU R 2 = 1 ∨ srcU R 2 = 2) (h1 : srcE (fr1 R) 4 = 0) (h : ¬ srcE (fr2 R) 4 = 0) : rdE R = srcE (fr2 R) 4 := by unfold rdE; rw [if_neg (by simpa using h0), if_neg (fun hn => hn hk), if_neg (by simpa using h1), if_pos h]
theorem rdE_e (h0 : srcE R 2 = 0) (hk : srcU R 2 = 1 ∨ srcU R 2 = 2) (h1 : srcE (fr1 R) 4 = 0) (h2 : srcE (fr2 R) 4 = 0) (h : ¬ natE (fr3 R) = 0) : rdE R = natE (fr3 R) := by unfold rdE; rw [if_neg (by simpa using h0), if_neg (fun hn => hn hk), if_neg (by simpa using h1), if_neg (by simpa using h2), if_pos h]
theorem rdE_ack (h0 : srcE R 2 = 0) (hk : srcU R 2 = 2) (h1 : srcE (fr1 R) 4 = 0) (h2 : srcE (fr2 R) 4 = 0) (h3 : natE (fr3 R) = 0) : rdE R = 0 := by unfold rdE; rw [if_neg (by simpa using h0), if_neg (fun hn => hn (.inr hk)), if_neg (by simpa using h1), if_neg (by simpa using h2), if_neg (by simpa using h3), if_pos hk]
theorem rdE_f (h0 : srcE R 2 = 0) (hk : srcU R 2 = 1) (h1 : srcE (fr1 R) 4 = 0) (h2 : srcE (fr2 R) 4 = 0) (h3 : natE (fr3 R) = 0) (h : ¬ natE (fr4 R) = 0) : rdE R = natE (fr4 R) := by unfold rdE; rw [if_neg (by simpa using h0), if_neg (fun hn => hn (.inl hk)), if_neg (by simpa using h1), if_neg (by simpa using h2), if_neg (by simpa using h3), if_neg (by omega), if_pos h]
theorem rdE_g (h0 : srcE R 2 = 0) (hk : srcU R 2 = 1) (h1 : srcE (fr1 R) 4 = 0) (h2 : srcE (fr2 R) 4 = 0) (h3 : natE (fr3 R) = 0) (h4 : natE (fr4 R) = 0) : rdE R = bodyE (fr5 R) := by unfold rdE; rw [if_neg (by simpa using h0), if_neg (fun hn => hn (.inl hk)), if_neg (by simpa using h1), if_neg (by simpa using h2), if_neg (by simpa using h3), if_neg (by omega), if_neg (by simpa using h4)]
theorem frE_rd (h : ¬ rdE R = 0) : frE R = rdE R := if_pos h
theorem frE_end (h0 : rdE R = 0) (h : ¬ endE (frEnd R) = 0) : frE R = endE (frEnd R) := by unfold frE; rw [if_neg (by simpa using h0), if_pos h]
theorem frE_dg (h0 : rdE R = 0) (h : endE (frEnd R) = 0) : frE R = dgE (frV R) := by unfold frE; rw [if_neg (by simpa using h0), if_neg (by simpa using h)]
end
def headOf (bs : List UInt8) : List UInt8 := bs.take (bs.length - 4)
def tailOf (bs : List UInt8) : List UInt8 := bs.drop (bs.length - 4)
def decE (bs : List UInt8) : Int := if bs.length < 6 then 10 else if ¬ tailOf bs = sumB (sumN (headOf bs)) then 20 else frE (bitsOf (headOf bs))
def decV (bs : List UInt8) : DgM := if decE bs = 0 then frV (bitsOf (headOf bs)) else dgZero
theorem i64'_v {n : Int} (h : -9223372036854775808 ≤ n ∧ n ≤ 9223372036854775807) : (i64' n).v = n := by unfold i64'; rw [dif_pos h]
theorem tmN_range (u : Nat) : -1 ≤ tmN u ∧ tmN u ≤ 1099511627776 := by unfold tmN; split <;> omega
theorem bodyE_nat {R : List Bool} (h : ¬ natE R = 0) : bodyE R = natE R := if_pos h
theorem bodyE_21 {R : List Bool} (h : natE R = 0) (h2 : 16384 < natU R) : bodyE R = 21 := by unfold bodyE; rw [if_neg (by simpa using h), if_pos h2]
theorem bodyE_text {R : List Bool} (h : natE R = 0) (h2 : ¬ 16384 < natU R) : bodyE R = textE R := by unfold bodyE; rw [if_neg (by simpa using h), if_neg h2]
theorem src_lt (R : List Bool) (k : Nat) : srcU R (k : Int) < 2 ^ k := srcU_lt_pow
theorem natE_10or {R : List Bool} : natE R = 0 ∨ natE R = 10 ∨ natE R = 11 := by unfold natE; split; omega; split; omega; split <;> omega
section
variable {R : List Bool}
theorem frV_frm : (frV R).frm.v = (srcU (fr1 R) 4 : Int) := i64'_v (by have : srcU (fr1 R) 4 < 16 := srcU_lt_pow (k := 4); omega)
theorem frV_to : (frV R).to_.v = (srcU (fr2 R) 4 : Int) := i64'_v (by have : srcU (fr2 R) 4 < 16 := srcU_lt_pow (k := 4); omega)
theorem frV_kind : (frV R).kind.v = (srcU R 2 : Int) := i64'_v (by have : srcU R 2 < 4 := srcU_lt_pow (k := 2); omega)
theorem frV_ack : (frV R).ack.v = tmN (natU (fr3 R)) := i64'_v (by have := tmN_range (natU (fr3 R)); omega)
theorem frV_seq1 (h : srcU R 2 = 1) : (frV R).seq.v = tmN (natU (fr4 R)) := by
  have h1 : (frV R).seq = i64' (if srcU R 2 = 1 then tmN (natU (fr4 R)) else 0) := rfl
  rw [h1, if_pos h]
  exact i64'_v (by have := tmN_range (natU (fr4 R)); omega)
theorem frV_seq2 (h : ¬ srcU R 2 = 1) : (frV R).seq.v = 0 := by
  have h1 : (frV R).seq = i64' (if srcU R 2 = 1 then tmN (natU (fr4 R)) else 0) := rfl
  rw [h1, if_neg h]
  exact i64'_v (by omega)
theorem frV_body1 (h : srcU R 2 = 1) : (frV R).body = textBytes (fr5 R) := if_pos h
theorem frV_body2 (h : ¬ srcU R 2 = 1) : (frV R).body = [] := if_neg h
end
theorem decE_10 {bs : List UInt8} (h : bs.length < 6) : decE bs = 10 := if_pos h
theorem decE_20 {bs : List UInt8} (h : ¬ bs.length < 6) (h2 : ¬ tailOf bs = sumB (sumN (headOf bs))) : decE bs = 20 := by unfold decE; rw [if_neg h, if_pos h2]
theorem decE_fr {bs : List UInt8} (h : ¬ bs.length < 6) (h2 : tailOf bs = sumB (sumN (headOf bs))) : decE bs = frE (bitsOf (headOf bs)) := by unfold decE; rw [if_neg h, if_neg (by simpa using h2)]
theorem decV_no {bs : List UInt8} (h : ¬ decE bs = 0) : decV bs = dgZero := if_neg h
theorem decV_yes {bs : List UInt8} (h : decE bs = 0) : decV bs = frV (bitsOf (headOf bs)) := if_pos h
theorem src8_10 {R : List Bool} (h : ¬ srcE R 8 = 0) : srcE R 8 = 10 ∧ R.length < 8 := by
  by_cases h2 : (R.length : Int) < 8
  · exact ⟨srcE_10 (by omega) h2, by omega⟩
  · exact absurd (srcE_0 (by omega) h2) h
/-- How far a body is read: so many bytes, without an error, or with one. -/
def bodyInv (bs : List UInt8) (p j : Nat) (ee : Int) (L : List UInt8) (pj : Nat) : Prop :=
  (ee = 0 ∧ L = (List.range j).map (byteT (remB bs p)) ∧ remB bs pj = (remB bs p).drop (natN (remB bs p) + 8 * j) ∧ natN (remB bs p) + 8 * j ≤ (remB bs p).length ∧ pj ≤ 8 * bs.length) ∨ (¬ ee = 0 ∧ textE (remB bs p) = ee)
theorem bodyInv_step {bs : List UInt8} {p j pj p2 : Nat} {L : List UInt8} (hE : natE (remB bs p) = 0) (hj : j < natU (remB bs p)) (h : bodyInv bs p j 0 L pj) (he : srcE (remB bs pj) 8 = 0) (hR : remB bs p2 = (remB bs pj).drop (srcN (remB bs pj) 8)) (hp2 : p2 ≤ 8 * bs.length) :
    bodyInv bs p (j + 1) 0 (L ++ [UInt8.ofNat (srcU (remB bs pj) 8)]) p2 := by
  rcases h with ⟨_, hL, hpj, hlen, _⟩ | ⟨h, _⟩
  · have hn : srcN (remB bs pj) 8 = 8 := srcN_0 he
    have h3 := (srcE_is he).2.2
    have h4 : (remB bs pj).length = (remB bs p).length - (natN (remB bs p) + 8 * j) := by rw [hpj, List.length_drop]
    refine .inl ⟨rfl, ?_, ?_, by omega, hp2⟩
    · rw [List.range_succ, List.map_append, ← hL]
      show L ++ _ = L ++ [byteT (remB bs p) j]
      rw [srcU_0 he]
      unfold byteT
      rw [← hpj]
      rfl
    · rw [hR, hn, hpj, List.drop_drop]
      congr 1
  · exact absurd rfl h
theorem bodyInv_bad {bs : List UInt8} {p j pj : Nat} {L M : List UInt8} {p2 : Nat} (hE : natE (remB bs p) = 0) (hj : j < natU (remB bs p)) (h : bodyInv bs p j 0 L pj) (he : ¬ srcE (remB bs pj) 8 = 0) : bodyInv bs p (j + 1) (srcE (remB bs pj) 8) M p2 := by
  rcases h with ⟨_, hL, hpj, hlen, _⟩ | ⟨h, _⟩
  · obtain ⟨h1, h2⟩ := src8_10 he
    have h4 : (remB bs pj).length = (remB bs p).length - (natN (remB bs p) + 8 * j) := by rw [hpj, List.length_drop]
    refine .inr ⟨he, ?_⟩
    rw [h1]
    exact textE_10 hE (by omega)
  · exact absurd rfl h
theorem bodyInv_end {bs : List UInt8} {p j pj : Nat} {L : List UInt8} {ee : Int} (hE : natE (remB bs p) = 0) (hs : ¬ 16384 < natU (remB bs p)) (hj : j ≤ natU (remB bs p)) (h2 : ¬ (ee = 0 ∧ j < natU (remB bs p))) (h : bodyInv bs p j ee L pj) :
    (bodyE (remB bs p) = 0 ∧ ee = 0 ∧ L = textBytes (remB bs p) ∧ L.length = natU (remB bs p) ∧ remB bs pj = (remB bs p).drop (textN (remB bs p)) ∧ pj ≤ 8 * bs.length) ∨ (¬ bodyE (remB bs p) = 0 ∧ ee = bodyE (remB bs p)) := by
  rw [bodyE_text hE hs]
  rcases h with ⟨h0, hL, hpj, hlen, hp⟩ | ⟨h0, hT⟩
  · have hj2 : j = natU (remB bs p) := by omega
    subst hj2
    have hT : textE (remB bs p) = 0 := textE_0 hE (by omega)
    refine .inl ⟨hT, h0, ?_, by rw [hL]; simp, ?_, hp⟩
    · rw [hL]; unfold textBytes; rw [if_pos hT]
    · rw [hpj, textN_0 hT]
  · exact .inr ⟨by rw [hT]; exact h0, hT.symm⟩
theorem bodyInv_0 {bs : List UInt8} {p pj : Nat} (hR : remB bs pj = (remB bs p).drop (natN (remB bs p))) (hp : pj ≤ 8 * bs.length) : bodyInv bs p 0 0 [] pj := .inl ⟨rfl, rfl, hR, natN_le _, hp⟩
theorem srcU_lt8 {R : List Bool} {k : Int} (h : 0 ≤ k ∧ k ≤ 8) : srcU R k < 256 := by
  obtain ⟨m, rfl⟩ := Int.eq_ofNat_of_zero_le h.1
  exact Nat.lt_of_lt_of_le srcU_lt_pow (Nat.pow_le_pow_right (n := 2) (by decide) (show m ≤ 8 by omega))
theorem headOf_len (bs : List UInt8) : (headOf bs).length = bs.length - 4 := by unfold headOf; rw [List.length_take]; omega
theorem tailOf_len {bs : List UInt8} : (tailOf bs).length = bs.length - (bs.length - 4) := by unfold tailOf; rw [List.length_drop]
theorem body_len {R : List Bool} (h : bodyE R = 0) : (textBytes R).length = natU R := by
  have hn : natE R = 0 := Decidable.byContradiction fun hn => hn (by rw [← bodyE_nat hn]; exact h)
  have h2 : ¬ 16384 < natU R := fun h2 => by rw [bodyE_21 hn h2] at h; cases h
  have hT : textE R = 0 := by rw [← bodyE_text hn h2]; exact h
  unfold textBytes
  rw [if_pos hT]
  simp
theorem decE_fr0 {bs : List UInt8} (h : ¬ bs.length < 6) (h2 : tailOf bs = sumB (sumN (headOf bs))) : decE bs = frE (remB (headOf bs) 0) := decE_fr h h2
theorem decV_yes0 {bs : List UInt8} (h : decE bs = 0) : decV bs = frV (remB (headOf bs) 0) := decV_yes h
/-! ### as the document reads -/
theorem valOf_append (a b : List Bool) : valOf (a ++ b) = valOf a * 2 ^ b.length + valOf b := by
  induction a with
  | nil => simp [valOf]
  | cons x a ih => rw [List.cons_append, valOf_cons, ih, valOf_cons, List.length_append, Nat.pow_add, Nat.add_mul, Nat.mul_assoc, Nat.add_assoc]
theorem srcE_len {R : List Bool} {n : Int} (h : 0 ≤ n ∧ n ≤ 64) : srcE R n = if (R.length : Int) < n then 10 else 0 := by
  unfold srcE
  rw [if_neg (by omega)]
theorem bits8_ok {R : List Bool} (h : srcE R 8 = 0) : srcE R 4 = 0 ∧ srcE (R.drop (srcN R 4)) 4 = 0 ∧ R.drop (srcN R 8) = (R.drop (srcN R 4)).drop (srcN (R.drop (srcN R 4)) 4) ∧ srcU R 8 / 16 = srcU R 4 ∧ srcU R 8 % 16 = srcU (R.drop (srcN R 4)) 4 := by
  have h8 := (srcE_is h).2.2
  have h4 : srcE R 4 = 0 := srcE_0 (by omega) (by omega)
  have n4 : srcN R 4 = 4 := srcN_0 h4
  have h4b : srcE (R.drop 4) 4 = 0 := srcE_0 (by omega) (by rw [List.length_drop]; omega)
  have n4b : srcN (R.drop 4) 4 = 4 := srcN_0 h4b
  have hv : valOf (R.take 8) = valOf (R.take 4) * 16 + valOf ((R.drop 4).take 4) := by
    rw [show R.take 8 = R.take 4 ++ (R.drop 4).take 4 from by rw [← List.take_append_drop 4 (R.take 8), List.take_take, List.drop_take]; rfl, valOf_append]
    rw [List.length_take, List.length_drop, Nat.min_eq_left (by omega)]
  have hlt : valOf ((R.drop 4).take 4) < 16 := valOf_take_lt _ 4
  rw [n4, n4b, srcN_0 h, srcU_0 h, srcU_0 h4, srcU_0 h4b]
  refine ⟨h4, h4b, by rw [List.drop_drop]; rfl, ?_, ?_⟩
  · show valOf (R.take 8) / 16 = valOf (R.take 4)
    omega
  · show valOf (R.take 8) % 16 = valOf ((R.drop 4).take 4)
    omega
theorem bits8_no {R : List Bool} (h : ¬ srcE R 8 = 0) : srcE R 8 = 10 ∧ ((¬ srcE R 4 = 0 ∧ srcE R 4 = 10) ∨ (srcE R 4 = 0 ∧ ¬ srcE (R.drop (srcN R 4)) 4 = 0 ∧ srcE (R.drop (srcN R 4)) 4 = 10)) := by
  rw [srcE_len (by omega)] at h ⊢
  rw [srcE_len (by omega)]
  by_cases h8 : (R.length : Int) < 8
  · rw [if_pos h8]
    refine ⟨rfl, ?_⟩
    by_cases h4 : (R.length : Int) < 4
    · rw [if_pos h4]; exact .inl ⟨by decide, rfl⟩
    · have h40 : srcE R 4 = 0 := by rw [srcE_len (by omega), if_neg h4]
      have n4 : srcN R 4 = 4 := srcN_0 h40
      rw [if_neg h4, n4, srcE_len (by omega), List.length_drop, if_pos (by omega)]
      exact .inr ⟨rfl, by decide, rfl⟩
  · rw [if_neg h8] at h; exact absurd rfl h
theorem rdE_8 {R : List Bool} (h0 : srcE R 2 = 0) (hk : srcU R 2 = 1 ∨ srcU R 2 = 2) (h : ¬ srcE (fr1 R) 8 = 0) : rdE R = srcE (fr1 R) 8 := by
  obtain ⟨e, ⟨a, b⟩ | ⟨a, b, c⟩⟩ := bits8_no h
  · rw [rdE_c h0 hk a, b, e]
  · rw [rdE_d h0 hk a b]
    show srcE ((fr1 R).drop (srcN (fr1 R) 4)) 4 = _
    rw [c, e]
def frW (R : List Bool) : DgM := ⟨i64' (srcU (fr1 R) 4), i64' (srcU (fr2 R) 4), i64' (srcU R 2), i64' (if srcU R 2 = 1 then s64 (natU (fr4 R)) else 0), i64' (s64 (natU (fr3 R))), if srcU R 2 = 1 then textBytes (fr5 R) else []⟩
section
variable {R : List Bool}
theorem frW_frm : (frW R).frm.v = (srcU (fr1 R) 4 : Int) := i64'_v (by have : srcU (fr1 R) 4 < 16 := srcU_lt_pow (k := 4); omega)
theorem frW_to : (frW R).to_.v = (srcU (fr2 R) 4 : Int) := i64'_v (by have : srcU (fr2 R) 4 < 16 := srcU_lt_pow (k := 4); omega)
theorem frW_kind : (frW R).kind.v = (srcU R 2 : Int) := i64'_v (by have : srcU R 2 < 4 := srcU_lt_pow (k := 2); omega)
theorem frW_ack : (frW R).ack.v = s64 (natU (fr3 R)) := by
  have h1 : (frW R).ack = i64' (s64 (natU (fr3 R))) := rfl
  rw [h1]
  exact i64'_v (n := s64 (natU (fr3 R))) ⟨s64_lo (natU_lt _), s64_hi (natU_lt _)⟩
theorem frW_seq1 (h : srcU R 2 = 1) : (frW R).seq.v = s64 (natU (fr4 R)) := by
  have h1 : (frW R).seq = i64' (if srcU R 2 = 1 then s64 (natU (fr4 R)) else 0) := rfl
  rw [h1, if_pos h]
  exact i64'_v (n := s64 (natU (fr4 R))) ⟨s64_lo (natU_lt _), s64_hi (natU_lt _)⟩
theorem frW_seq2 (h : ¬ srcU R 2 = 1) : (frW R).seq.v = 0 := by
  have h1 : (frW R).seq = i64' (if srcU R 2 = 1 then s64 (natU (fr4 R)) else 0) := rfl
  rw [h1, if_neg h]
  exact i64'_v (by omega)
theorem frW_body1 (h : srcU R 2 = 1) : (frW R).body = textBytes (fr5 R) := if_pos h
theorem frW_body2 (h : ¬ srcU R 2 = 1) : (frW R).body = [] := if_neg h
theorem tm_s64 {u : Nat} (h : u < 18446744073709551616) : (u ≤ 1099511627776 ∧ s64 u = tmN u) ∨ (¬ (0 ≤ s64 u ∧ s64 u ≤ 1099511627776) ∧ ¬ (0 ≤ tmN u ∧ tmN u ≤ 1099511627776)) := by
  rw [s64_is h]
  unfold tmN
  by_cases h1 : u ≤ 1099511627776
  · rw [if_pos (by omega), if_neg (by omega)]; exact .inl ⟨h1, rfl⟩
  · rw [if_pos (show 1099511627776 < u by omega)]
    refine .inr ⟨?_, by omega⟩
    split <;> omega
theorem frW_same : (frW R = frV R) ∨ (dgE (frW R) = 21 ∧ dgE (frV R) = 21) := by
  rcases tm_s64 (natU_lt (fr3 R)) with ⟨_, ha⟩ | ⟨ha1, ha2⟩
  · by_cases hk : srcU R 2 = 1
    · rcases tm_s64 (natU_lt (fr4 R)) with ⟨_, hs⟩ | ⟨hs1, hs2⟩
      · left; unfold frW frV; rw [ha, hs]
      · right
        refine ⟨dgE_21 fun h => hs1 ?_, dgE_21 fun h => hs2 ?_⟩
        · have := frW_seq1 hk; unfold dgOk at h; rw [this] at h; omega
        · have := frV_seq1 hk; unfold dgOk at h; rw [this] at h; omega
    · left; unfold frW frV; simp only [ha, if_neg hk]
  · right
    refine ⟨dgE_21 fun h => ha1 ?_, dgE_21 fun h => ha2 ?_⟩
    · have := frW_ack (R := R); unfold dgOk at h; rw [this] at h; omega
    · have := frV_ack (R := R); unfold dgOk at h; rw [this] at h; omega
theorem frW_dgE : dgE (frW R) = dgE (frV R) := by
  rcases frW_same (R := R) with h | ⟨h1, h2⟩
  · rw [h]
  · rw [h1, h2]
theorem frW_is (h : dgE (frW R) = 0) : frW R = frV R := by
  rcases frW_same (R := R) with h1 | ⟨h1, h2⟩
  · exact h1
  · rw [h1] at h; cases h
end
theorem tail_is {bs : List UInt8} (h : 6 ≤ bs.length) {n : Nat} (hn : n < 4294967296) : tailOf bs = sumB n ↔ (((bs.getD (bs.length - 4) 0).toNat : Int) = ((n / 2 ^ 24 : Nat) : Int) ∧ ((bs.getD (bs.length - 4 + 1) 0).toNat : Int) = ((n / 2 ^ 16 % 256 : Nat) : Int) ∧ ((bs.getD (bs.length - 4 + 2) 0).toNat : Int) = ((n / 2 ^ 8 % 256 : Nat) : Int) ∧ ((bs.getD (bs.length - 4 + 3) 0).toNat : Int) = ((n % 256 : Nat) : Int)) := by
  have ht : tailOf bs = [bs.getD (bs.length - 4) 0, bs.getD (bs.length - 4 + 1) 0, bs.getD (bs.length - 4 + 2) 0, bs.getD (bs.length - 4 + 3) 0] := by
    unfold tailOf
    refine List.ext_getElem (by rw [List.length_drop]; simp; omega) fun i h1 h2 => ?_
    rw [List.getElem_drop]
    have hi : i < 4 := by simpa using h2
    match i, hi with
    | 0, _ => simp [List.getD_eq_getElem?_getD, List.getElem?_eq_getElem (show bs.length - 4 < bs.length by omega)]
    | 1, _ => simp [List.getD_eq_getElem?_getD, List.getElem?_eq_getElem (show bs.length - 4 + 1 < bs.length by omega)]
    | 2, _ => simp [List.getD_eq_getElem?_getD, List.getElem?_eq_getElem (show bs.length - 4 + 2 < bs.length by omega)]
    | 3, _ => simp [List.getD_eq_getElem?_getD, List.getElem?_eq_getElem (show bs.length - 4 + 3 < bs.length by omega)]
  have key : ∀ (a : UInt8) (m : Nat), m < 256 → (a = UInt8.ofNat m ↔ (a.toNat : Int) = (m : Int)) := fun a m hm => ⟨fun e => by rw [e, u8_nat hm], fun e => by rw [← UInt8.ofNat_toNat (x := a)]; congr 1; omega⟩
  rw [ht]
  unfold sumB
  rw [List.cons.injEq, List.cons.injEq, List.cons.injEq, List.cons.injEq, key _ _ (by omega), key _ _ (by omega), key _ _ (by omega), key _ _ (by omega)]
  constructor
  · rintro ⟨a, b, c, d, _⟩; exact ⟨a, b, c, d⟩
  · rintro ⟨a, b, c, d⟩; exact ⟨a, b, c, d, rfl⟩
theorem body_err {R : List Bool} {j : Nat} (hE : natE R = 0) (hs : ¬ 16384 < natU R) (hj : j < natU R) (hl : natN R + 8 * j ≤ R.length) (h : ¬ srcE (R.drop (natN R + 8 * j)) 8 = 0) : bodyE R = srcE (R.drop (natN R + 8 * j)) 8 := by
  obtain ⟨h1, h2⟩ := src8_10 h
  rw [List.length_drop] at h2
  rw [bodyE_text hE hs, h1]
  exact textE_10 hE (by omega)
theorem body_ok {R : List Bool} (hE : natE R = 0) (hs : ¬ 16384 < natU R) (hl : natN R + 8 * natU R ≤ R.length) : bodyE R = 0 ∧ textBytes R = (List.range (natU R)).map (byteT R) ∧ textN R = natN R + 8 * natU R := by
  have hT : textE R = 0 := textE_0 hE (by omega)
  refine ⟨by rw [bodyE_text hE hs, hT], ?_, textN_0 hT⟩
  unfold textBytes
  rw [if_pos hT]
theorem row_snoc {f : Nat → UInt8} {j : Nat} {c : Value} (h : c = .int .u8 ((f j).toNat : Int)) : ((List.range j).map f).flatMap u8c ++ [c] = ((List.range (j + 1)).map f).flatMap u8c := by
  rw [List.range_succ, List.map_append, List.flatMap_append, h]
  rfl
theorem drop_step8 {L : List Bool} {a j : Nat} : L.drop (a + 8 * (j + 1)) = (L.drop (a + 8 * j)).drop 8 := by
  rw [List.drop_drop]
  congr 1
end Sl
