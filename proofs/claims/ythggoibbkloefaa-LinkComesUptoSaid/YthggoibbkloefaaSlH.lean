/- Datagrams, their sum, and their bits. No condition. -/
import Derived.Test.YthggoibbkloefaaSlI
namespace Sl
open _root_.Go _root_.Go.RowKit
set_option linter.all false
structure DgM where
  frm : I64
  to_ : I64
  kind : I64
  seq : I64
  ack : I64
  body : List UInt8
instance : Inhabited DgM := ⟨⟨default, default, default, default, default, []⟩⟩
def dgCell (d : DgM) (bv : Value) : List Value := [.int .i64 d.frm.v, .int .i64 d.to_.v, .int .i64 d.kind.v, .int .i64 d.seq.v, .int .i64 d.ack.v, bv]
def brB (n : Int) : Bool := decide (0 ≤ n ∧ n < 16)
def dgOk (d : DgM) : Prop := 0 ≤ d.frm.v ∧ d.frm.v < 16 ∧ 0 ≤ d.to_.v ∧ d.to_.v < 16 ∧ ¬ d.frm.v = d.to_.v ∧ 0 ≤ d.seq.v ∧ d.seq.v ≤ 1099511627776 ∧ 0 ≤ d.ack.v ∧ d.ack.v ≤ 1099511627776 ∧ (d.body.length : Int) ≤ 16384 ∧ (d.kind.v = 1 ∨ (d.kind.v = 2 ∧ d.seq.v = 0 ∧ (d.body.length : Int) = 0))
instance (d : DgM) : Decidable (dgOk d) := by unfold dgOk; infer_instance
def dgE (d : DgM) : Int := if dgOk d then 0 else 21
theorem dgE_0 {d : DgM} (h : dgOk d) : dgE d = 0 := if_pos h
theorem dgE_21 {d : DgM} (h : ¬ dgOk d) : dgE d = 21 := if_neg h
theorem dgE_is {d : DgM} (h : dgE d = 0) : dgOk d := by
  unfold dgE at h
  split at h
  · assumption
  · cases h
def dgSame (a b : DgM) : Bool := decide (a.frm.v = b.frm.v ∧ a.to_.v = b.to_.v ∧ a.kind.v = b.kind.v ∧ a.seq.v = b.seq.v ∧ a.ack.v = b.ack.v ∧ a.body = b.body)
/-! ### the sum -/
def crcBit (s : Nat) : Nat := if 2147483648 ≤ s then (2 * s % 4294967296) ^^^ 79764919 else 2 * s % 4294967296
def crcBits : Nat → Nat → Nat
  | 0, s => s
  | k + 1, s => crcBit (crcBits k s)
def crcX (s : Nat) (x : UInt8) : Nat := s ^^^ (x.toNat * 16777216)
def crcByte (s : Nat) (x : UInt8) : Nat := crcBits 8 (crcX s x)
def crcL (s : Nat) (l : List UInt8) : Nat := l.foldl crcByte s
def sumN (l : List UInt8) : Nat := crcL 4294967295 l ^^^ 4294967295
def sumB (n : Nat) : List UInt8 := [UInt8.ofNat (n / 16777216), UInt8.ofNat (n / 65536 % 256), UInt8.ofNat (n / 256 % 256), UInt8.ofNat (n % 256)]
/-! ### the bits -/
def dgBits (d : DgM) : List Bool := lowB d.kind.v.toNat 2 ++ lowB d.frm.v.toNat 4 ++ lowB d.to_.v.toNat 4 ++ natB d.ack.v.toNat ++ (if d.kind.v = 1 then natB d.seq.v.toNat ++ (natB d.body.length ++ bitsOf d.body) else [])
def dgHead (d : DgM) : List UInt8 := pk (dgBits d)
def dgBytes (d : DgM) : List UInt8 := if dgE d = 0 then dgHead d ++ sumB (sumN (dgHead d)) else []
def bstr (l : List UInt8) : ByteArray := ⟨l.toArray⟩
def dgAck : DgM := ⟨⟨0, by decide, by decide⟩, ⟨1, by decide, by decide⟩, ⟨2, by decide, by decide⟩, ⟨0, by decide, by decide⟩, ⟨0, by decide, by decide⟩, []⟩
def dgZero : DgM := ⟨⟨0, by decide, by decide⟩, ⟨0, by decide, by decide⟩, ⟨0, by decide, by decide⟩, ⟨0, by decide, by decide⟩, ⟨0, by decide, by decide⟩, []⟩
/-! ### what any bits say -/
def fr1 (R : List Bool) := R.drop (srcN R 2)
def fr2 (R : List Bool) := (fr1 R).drop (srcN (fr1 R) 4)
def fr3 (R : List Bool) := (fr2 R).drop (srcN (fr2 R) 4)
def fr4 (R : List Bool) := (fr3 R).drop (natN (fr3 R))
def fr5 (R : List Bool) := (fr4 R).drop (natN (fr4 R))
def frEnd (R : List Bool) := if srcU R 2 = 1 then (fr5 R).drop (textN (fr5 R)) else fr4 R
def bodyE (R : List Bool) : Int := if ¬ natE R = 0 then natE R else if 16384 < natU R then 21 else textE R
def tmN (u : Nat) : Int := if 1099511627776 < u then -1 else (u : Int)
def frV (R : List Bool) : DgM := ⟨i64' (srcU (fr1 R) 4), i64' (srcU (fr2 R) 4), i64' (srcU R 2), i64' (if srcU R 2 = 1 then tmN (natU (fr4 R)) else 0), i64' (tmN (natU (fr3 R))), if srcU R 2 = 1 then textBytes (fr5 R) else []⟩
def rdE (R : List Bool) : Int :=
  if ¬ srcE R 2 = 0 then srcE R 2
  else if ¬ (srcU R 2 = 1 ∨ srcU R 2 = 2) then 21
  else if ¬ srcE (fr1 R) 4 = 0 then srcE (fr1 R) 4
  else if ¬ srcE (fr2 R) 4 = 0 then srcE (fr2 R) 4
  else if ¬ natE (fr3 R) = 0 then natE (fr3 R)
  else if srcU R 2 = 2 then 0
  else if ¬ natE (fr4 R) = 0 then natE (fr4 R)
  else bodyE (fr5 R)
def frE (R : List Bool) : Int := if ¬ rdE R = 0 then rdE R else if ¬ endE (frEnd R) = 0 then endE (frEnd R) else dgE (frV R)
section
variable {R : List Bool}
end
def headOf (bs : List UInt8) : List UInt8 := bs.take (bs.length - 4)
def tailOf (bs : List UInt8) : List UInt8 := bs.drop (bs.length - 4)
def decE (bs : List UInt8) : Int := if bs.length < 6 then 10 else if ¬ tailOf bs = sumB (sumN (headOf bs)) then 20 else frE (bitsOf (headOf bs))
def decV (bs : List UInt8) : DgM := if decE bs = 0 then frV (bitsOf (headOf bs)) else dgZero
section
variable {R : List Bool}
end
/-- How far a body is read: so many bytes, without an error, or with one. -/
def bodyInv (bs : List UInt8) (p j : Nat) (ee : Int) (L : List UInt8) (pj : Nat) : Prop :=
  (ee = 0 ∧ L = (List.range j).map (byteT (remB bs p)) ∧ remB bs pj = (remB bs p).drop (natN (remB bs p) + 8 * j) ∧ natN (remB bs p) + 8 * j ≤ (remB bs p).length ∧ pj ≤ 8 * bs.length) ∨ (¬ ee = 0 ∧ textE (remB bs p) = ee)
def frW (R : List Bool) : DgM := ⟨i64' (srcU (fr1 R) 4), i64' (srcU (fr2 R) 4), i64' (srcU R 2), i64' (if srcU R 2 = 1 then s64 (natU (fr4 R)) else 0), i64' (s64 (natU (fr3 R))), if srcU R 2 = 1 then textBytes (fr5 R) else []⟩
section
variable {R : List Bool}
end
end Sl
