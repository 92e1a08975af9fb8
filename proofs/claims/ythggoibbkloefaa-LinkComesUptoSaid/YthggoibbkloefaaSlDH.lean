/- The bytes of pieces. No condition. -/
import Derived.Test.YthggoibbkloefaaSlDD
import Derived.Test.YthggoibbkloefaaSlAA
import Derived.Test.YthggoibbkloefaaSlAC
import Derived.Test.YthggoibbkloefaaSlI
namespace Sl
open _root_.Go _root_.Go.RowKit
set_option linter.all false
set_option linter.unusedSimpArgs false
def pcRange (p : PieceV) : Prop := 1 ≤ p.many.v ∧ p.many.v ≤ 1024 ∧ 0 ≤ p.index.v ∧ p.index.v < p.many.v ∧ p.data.length ≤ 4096
instance (p : PieceV) : Decidable (pcRange p) := inferInstanceAs (Decidable (_ ∧ _))
def pieceB (o m i : Int) (n : Nat) : Bool := timeB o && decide (1 ≤ m ∧ m ≤ 1024 ∧ 0 ≤ i ∧ i < m ∧ n ≤ 4096)
def pieceOk (p : PieceV) : Bool := pieceB p.op.v p.many.v p.index.v p.data.length
def pcE (p : PieceV) : Int := if pieceOk p = true then 0 else 242
def pcB (p : PieceV) : List Bool := natB p.op.v.toNat ++ natB p.many.v.toNat ++ natB p.index.v.toNat ++ textB (bstr p.data)
def pcBytes (p : PieceV) : List UInt8 := if pieceOk p = true then pk (pcB p) else []
/-! ## what bits say -/
def ppR1 (R : List Bool) : List Bool := R.drop (natN R)
def ppR2 (R : List Bool) : List Bool := (ppR1 R).drop (natN (ppR1 R))
def ppR3 (R : List Bool) : List Bool := (ppR2 R).drop (natN (ppR2 R))
def ppR4 (R : List Bool) : List Bool := (ppR3 R).drop (textN (ppR3 R))
def ppP (R : List Bool) : PieceV := ⟨i64N (natU R), i64N (natU (ppR1 R)), i64N (natU (ppR2 R)), textBytes (ppR3 R)⟩
def ppE (R : List Bool) : Int :=
  if ¬ natE R = 0 then natE R else if 1099511627776 < natU R then 242
  else if ¬ natE (ppR1 R) = 0 then natE (ppR1 R) else if 1024 < natU (ppR1 R) then 242
  else if ¬ natE (ppR2 R) = 0 then natE (ppR2 R) else if natU (ppR1 R) ≤ natU (ppR2 R) then 242
  else if ¬ textE (ppR3 R) = 0 then textE (ppR3 R) else if ¬ endE (ppR4 R) = 0 then endE (ppR4 R) else pcE (ppP R)
def zeroP : PieceV := ⟨i64N 0, i64N 0, i64N 0, []⟩
def ppV (R : List Bool) : PieceV := if ppE R = 0 then ppP R else zeroP
section
variable {R : List Bool}
end
def clipN (u : Nat) : Int := if 1099511627777 < u then -1 else u
section
variable {R R1 R2 R3 R4 : List Bool} (g1 : R1 = R.drop (natN R)) (g2 : R2 = R1.drop (natN R1)) (g3 : R3 = R2.drop (natN R2)) (g4 : R4 = R3.drop (textN R3))
include g1
include g2
include g3
include g4
end
end Sl
