/- The bytes of pieces. No condition. -/
import Derived.Test.YteogdknlofcpiaaSlDD
import Derived.Test.YteogdknlofcpiaaSlH
import Derived.Test.YteogdknlofcpiaaSlY
import Derived.Test.YteogdknlofcpiaaSlZ
import Derived.Test.YteogdknlofcpiaaSlN
import Derived.Test.YteogdknlofcpiaaSlK
import Derived.Test.YteogdknlofcpiaaSlR
namespace Sl
open _root_.Go _root_.Go.RowKit
set_option linter.all false
set_option linter.unusedSimpArgs false
def pcRange (p : PieceV) : Prop := 1 ≤ p.many.v ∧ p.many.v ≤ 1024 ∧ 0 ≤ p.index.v ∧ p.index.v < p.many.v ∧ p.data.length ≤ 4096
instance (p : PieceV) : Decidable (pcRange p) := inferInstanceAs (Decidable (_ ∧ _))
def pieceB (o m i : Int) (n : Nat) : Bool := timeB o && decide (1 ≤ m ∧ m ≤ 1024 ∧ 0 ≤ i ∧ i < m ∧ n ≤ 4096)
theorem pieceB_t {o m i : Int} {n : Nat} (h : timeB o = true) (h2 : 1 ≤ m ∧ m ≤ 1024 ∧ 0 ≤ i ∧ i < m ∧ n ≤ 4096) : pieceB o m i n = true := by unfold pieceB; rw [h, decide_eq_true h2]; rfl
theorem pieceB_1 {o m i : Int} {n : Nat} (h : timeB o = false) : pieceB o m i n = false := by unfold pieceB; rw [h]; rfl
theorem pieceB_2 {o m i : Int} {n : Nat} (h : ¬ (1 ≤ m ∧ m ≤ 1024 ∧ 0 ≤ i ∧ i < m ∧ n ≤ 4096)) : pieceB o m i n = false := by unfold pieceB; rw [decide_eq_false h, Bool.and_false]
def pieceOk (p : PieceV) : Bool := pieceB p.op.v p.many.v p.index.v p.data.length
theorem pieceOk_is {p : PieceV} (h : pieceOk p = true) : 0 ≤ p.op.v ∧ p.op.v ≤ 1099511627776 ∧ 1 ≤ p.many.v ∧ p.many.v ≤ 1024 ∧ 0 ≤ p.index.v ∧ p.index.v < p.many.v ∧ p.data.length ≤ 4096 := by
  unfold pieceOk pieceB at h
  rw [Bool.and_eq_true] at h
  obtain ⟨h1, h2⟩ := timeB_range h.1
  exact ⟨h1, h2, of_decide_eq_true h.2⟩
section
variable {R : List Bool}
end
section
variable {R R1 R2 R3 R4 : List Bool} (g1 : R1 = R.drop (natN R)) (g2 : R2 = R1.drop (natN R1)) (g3 : R3 = R2.drop (natN R2)) (g4 : R4 = R3.drop (textN R3))
include g1
include g2
include g3
include g4
end
end Sl
