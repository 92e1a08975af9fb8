/- What is taken off bits: plain laws. No condition. -/
import Derived.Test.YthggoibbkloefaaSlN
namespace Sl
open _root_.Go _root_.Go.RowKit
set_option linter.all false
def bitAt (bs : List UInt8) (k : Nat) : Bool := (bs.getD (k / 8) 0).toNat.testBit (7 - k % 8)
def bitsOf (bs : List UInt8) : List Bool := (List.range (8 * bs.length)).map (bitAt bs)
/-- What is left behind so many bits. -/
def remB (bs : List UInt8) (p : Nat) : List Bool := (bitsOf bs).drop p
/-- The number of bits. -/
def valOf (l : List Bool) : Nat := l.foldl (fun u b => 2 * u + b.toNat) 0
/-- The next n bits: an error. -/
def srcE (R : List Bool) (n : Int) : Int := if n < 0 ∨ 64 < n then 1 else if (R.length : Int) < n then 10 else 0
def srcU (R : List Bool) (n : Int) : Nat := if srcE R n = 0 then valOf (R.take n.toNat) else 0
def srcN (R : List Bool) (n : Int) : Nat := if srcE R n = 0 then n.toNat else 0
/-- How many of the next bits are 0, of no more than 65. -/
def zerosK : Nat → List Bool → Nat
  | 0, _ => 0
  | _ + 1, [] => 0
  | m + 1, b :: l => if b then 0 else zerosK m l + 1
def zeros (R : List Bool) : Nat := zerosK 65 R
/-- The next natural number: an error, the number, how many bits it takes. -/
def natE (R : List Bool) : Int := if zeros R = 65 then 11 else if R.length < 2 * zeros R + 1 then 10 else if zeros R = 64 ∧ ¬ valOf ((R.drop (zeros R + 1)).take (zeros R)) = 0 then 11 else 0
def natU (R : List Bool) : Nat := if natE R = 0 then (if zeros R = 64 then 18446744073709551615 else valOf ((R.drop (zeros R + 1)).take (zeros R)) + 2 ^ zeros R - 1) else 0
def natN (R : List Bool) : Nat := if natE R = 0 then 2 * zeros R + 1 else 0
/-- A number with a sign out of its natural number. -/
def zagN (u : Nat) : Int := if u % 2 = 1 then -((u / 2 : Nat) : Int) - 1 else ((u / 2 : Nat) : Int)
/-- The next text. -/
def textE (R : List Bool) : Int := if ¬ natE R = 0 then natE R else if (R.length - natN R) / 8 < natU R then 10 else 0
def byteT (R : List Bool) (j : Nat) : UInt8 := UInt8.ofNat (valOf ((R.drop (natN R + 8 * j)).take 8))
def textBytes (R : List Bool) : List UInt8 := if textE R = 0 then (List.range (natU R)).map (byteT R) else []
def textS (R : List Bool) : ByteArray := ⟨(textBytes R).toArray⟩
def textN (R : List Bool) : Nat := if textE R = 0 then natN R + 8 * natU R else 0
/-- What is left is nothing but padding? -/
def endE (R : List Bool) : Int := if 8 ≤ R.length then 12 else if R.any id then 12 else 0
end Sl
namespace Sl
open _root_.Go _root_.Go.RowKit
set_option linter.all false
def textP (R : List Bool) (j : Nat) : List UInt8 := (List.range (natU R)).map fun q => if q < j then byteT R q else 0
end Sl
