/- Events in lists, each with its attributes' slice; what the document's streams answer. No condition. -/
import Derived.Test.YthggoibbkloefaaSlBA
import Derived.Test.YthggoibbkloefaaSlN
import Derived.Test.YthggoibbkloefaaSlY
namespace Sl
open _root_.Go _root_.Go.RowKit
set_option linter.all false
set_option linter.unusedSimpArgs false
instance : Inhabited EvD := ⟨⟨default, none, 0⟩⟩
def evdCell (e : EvD) : List Value := evCell e.ev e.av
def evA (L : List EvD) : Atom := allA (L.map fun e => (e.av, e.ev.attrs))
section
variable {W w : World} {F : List Atom} {i : Nat}
end
/-! ### what the document says of streams -/
def cntK (evs : List EvM) (s : Int) : Nat → Int
  | 0 => 0
  | k + 1 => if (evs.getD k default).src.v = s then cntK evs s k + 1 else cntK evs s k
def lastK (evs : List EvM) (s : Int) : Nat → Int
  | 0 => 0
  | k + 1 => if (evs.getD k default).src.v = s then (evs.getD k default).time.v else lastK evs s k
def rClosed (many : Int) (gone : List Bool) (s : Int) : Bool := if 0 ≤ s ∧ s < many then gone.getD s.toNat false else false
def rMark (many : Int) (evs : List EvM) (gone : List Bool) (s : Int) : Int := if rClosed many gone s = true then 1099511627777 else lastK evs s evs.length
def rAcc (many : Int) (evs : List EvM) (gone : List Bool) (e : EvM) : Int :=
  if ¬ evE e = 0 then evE e
  else if ¬ (0 ≤ e.src.v ∧ e.src.v < many) then 40
  else if gone.getD e.src.v.toNat false = true then 43
  else if ¬ e.seq.v = cntK evs e.src.v evs.length then 42
  else if e.time.v < rMark many evs gone e.src.v then 41
  else if (65536 : Int) ≤ evs.length then 3 else 0
def rClose (many : Int) (gone : List Bool) (s : Int) : Int := if 0 ≤ s ∧ s < many then (if gone.getD s.toNat false = true then 43 else 0) else 1
def rGone (many : Int) (gone : List Bool) (s : Int) : List Bool := if rClose many gone s = 0 then gone.set s.toNat true else gone
/-- The program's streams are the document's. -/
structure SR (many : Int) (st : List S3) (evs : List EvM) (gone : List Bool) : Prop where
  l16 : st.length = 16
  lm : gone.length = many.toNat
  m1 : 1 ≤ many
  m16 : many ≤ 16
  at_ : ∀ s : Nat, (s : Int) < many → (st.getD s default).next = cntK evs s evs.length ∧ (st.getD s default).last = lastK evs s evs.length ∧ (st.getD s default).closed = gone.getD s false
  out : ∀ s : Int, ¬ (0 ≤ s ∧ s < many) → cntK evs s evs.length = 0 ∧ lastK evs s evs.length = 0
section
variable {many : Int} {st : List S3} {evs : List EvM} {gone : List Bool}
theorem SR.at' (h : SR many st evs gone) {n : Int} (hn : 0 ≤ n ∧ n < many) : (st.getD n.toNat default).next = cntK evs n evs.length ∧ (st.getD n.toNat default).last = lastK evs n evs.length ∧ (st.getD n.toNat default).closed = gone.getD n.toNat false := by
  have := h.at_ n.toNat (by omega)
  rwa [show ((n.toNat : Nat) : Int) = n from by omega] at this
theorem SR.next (h : SR many st evs gone) (n : Int) : nextOf many st n = cntK evs n evs.length := by
  unfold nextOf
  split
  · rename_i hn; exact (h.at' hn).1
  · rename_i hn; exact (h.out n hn).1.symm
theorem SR.acc (h : SR many st evs gone) (e : EvM) : acceptE many st evs.length e = rAcc many evs gone e := by
  unfold acceptE rAcc
  by_cases h1 : evE e = 0
  · by_cases hn : 0 ≤ e.src.v ∧ e.src.v < many
    · obtain ⟨a1, a2, a3⟩ := h.at' hn
      have k1 : ¬ ¬ evE e = 0 := not_not_intro h1
      have k2 : ¬ ¬ (0 ≤ e.src.v ∧ e.src.v < many) := not_not_intro hn
      rw [if_neg k1, if_neg k1, if_neg k2, if_neg k2, a1, a2, a3]
      by_cases hg : gone.getD e.src.v.toNat false = true
      · rw [if_pos hg, if_pos hg]
      · have hc : rClosed many gone e.src.v = false := by unfold rClosed; rw [if_pos hn]; simpa using hg
        rw [if_neg hg, if_neg hg]
        unfold rMark
        rw [hc]
        simp
    · have k1 : ¬ ¬ evE e = 0 := not_not_intro h1
      rw [if_neg k1, if_neg k1, if_pos hn, if_pos hn]
  · rw [if_pos h1, if_pos h1]
end
end Sl
namespace Sl
open _root_.Go _root_.Go.RowKit
section
variable {L : List EvD} {s : Int} {i : Nat}
variable {many : Int} {evs : List EvM} {gone : List Bool} {e : EvM}
/-- The list of what was accepted, behind an event that is handed in. -/
def rList (many : Int) (evs : List EvM) (gone : List Bool) (e : EvM) : List EvM := if rAcc many evs gone e = 0 then evs ++ [e] else evs
theorem SR.list {st : List S3} (h : SR many st evs gone) (e : EvM) : accEvs many st evs e = rList many evs gone e := by unfold accEvs rList; rw [h.acc]
end
/-- Are just these events told? -/
instance : DecidableEq EvM := fun a b => decidable_of_iff (sameEv a b = true) sameEv_iff
def toldB (evs want : List EvM) : Bool := decide (evs = want)
end Sl
namespace Sl
open _root_.Go _root_.Go.RowKit
section
variable {evs : List EvM} {L Lw pre : List EvD} {x : EvD} {j n : Nat}
end
end Sl
namespace Sl
open _root_.Go _root_.Go.RowKit
/-- What was accepted may be, and is not too much. -/
def okEvs (evs : List EvM) : Prop := (∀ e ∈ evs, evE e = 0) ∧ evs.length ≤ 65536
end Sl
namespace Sl
open _root_.Go _root_.Go.RowKit
end Sl
