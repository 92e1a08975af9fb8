/- What is taken off bits: plain laws. No condition. -/
import Derived.Test.YteogdknlofcpiaaSlN
namespace Sl
open _root_.Go _root_.Go.RowKit
set_option linter.all false
/-- The number of bits. -/
def valOf (l : List Bool) : Nat := l.foldl (fun u b => 2 * u + b.toNat) 0
/-- How many of the next bits are 0, of no more than 65. -/
def zerosK : Nat → List Bool → Nat
  | 0, _ => 0
  | _ + 1, [] => 0
  | m + 1, b :: l => if b then 0 else zerosK m l + 1
def zeros (R : List Bool) : Nat := zerosK 65 R
/-- The next natural number: an error, the number, how many bits it takes. -/
def natE (R : List Bool) : Int := if zeros R = 65 then 11 else if R.length < 2 * zeros R + 1 then 10 else if zeros R = 64 ∧ ¬ valOf ((R.drop (zeros R + 1)).take (zeros R)) = 0 then 11 else 0
def natU (R : List Bool) : Nat := if natE R = 0 then (if zeros R = 64 then 18446744073709551615 else valOf ((R.drop (zeros R + 1)).take (zeros R)) + 2 ^ zeros R - 1) else 0
def natN (R : List Bool) : Nat := if natE R = 0 then 2 * zeros R + 1 else 0
/-- The next text. -/
def textE (R : List Bool) : Int := if ¬ natE R = 0 then natE R else if (R.length - natN R) / 8 < natU R then 10 else 0
def textN (R : List Bool) : Nat := if textE R = 0 then natN R + 8 * natU R else 0
end Sl
namespace Sl
open _root_.Go _root_.Go.RowKit
set_option linter.all false
end Sl
