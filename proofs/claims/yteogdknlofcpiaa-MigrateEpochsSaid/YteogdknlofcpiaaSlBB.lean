/- Events in lists, each with its attributes' slice; what the document's streams answer. No condition. -/
import Derived.Test.YteogdknlofcpiaaSlBA
import Derived.Test.YteogdknlofcpiaaSlN
import Derived.Test.YteogdknlofcpiaaSlY
namespace Sl
open _root_.Go _root_.Go.RowKit
set_option linter.all false
set_option linter.unusedSimpArgs false
instance : Inhabited EvD := ⟨⟨default, none, 0⟩⟩
def evdCell (e : EvD) : List Value := evCell e.ev e.av
def evA (L : List EvD) : Atom := allA (L.map fun e => (e.av, e.ev.attrs))
theorem evA_pers (L : List EvD) : (evA L).pers := allA_pers _
section
variable {W w : World} {F : List Atom} {i : Nat}
theorem evA_at {L : List EvD} {j : Nat} (H : St W w F) (hi : F[i]? = some (evA L)) (hj : j < L.length) : St W w (Attrs (L.getD j default).av (L.getD j default).ev.attrs :: F) := by
  refine allA_at H hi (j := j) (x := ((L.getD j default).av, (L.getD j default).ev.attrs)) ?_
  simp [List.getD_eq_getElem?_getD, List.getElem?_eq_getElem hj]
theorem evA_nil (H : St W w F) : St W w (evA [] :: F) :=
  H.cons_emp.conv (i := 0) rfl fun I h e => ⟨e, by simp⟩
theorem St.merge {A B C : Atom} (H : St W w (A :: B :: F)) (h : ∀ I h1 h2, A.sat I h1 → B.sat I h2 → h1.disj h2 → C.sat I (h1.union h2)) : St W w (C :: F) := by
  obtain ⟨I, g, dI, hI, hh, h1, h2, d, e, a, h3, h4, d2, e2, b, s⟩ := H.mem
  subst e2
  have ⟨d13, d14⟩ := Heap.disj_union_right.1 d
  exact ⟨H.os, H.tape, H.output, I, g, dI, hI, hh, h1.union h3, h4, Heap.disj_union_left.2 ⟨d14, d2⟩, by rw [e, Heap.union_assoc], h I h1 h3 a b d13, s⟩
theorem evA_snoc {L : List EvD} {e : EvD} (H : St W w (Attrs e.av e.ev.attrs :: evA L :: F)) : St W w (evA (L ++ [e]) :: F) :=
  H.merge fun I h1 h2 a b _ => by
    have e1 := Attrs_pers _ _ _ _ a
    have e2 := evA_pers _ _ _ b
    subst e1; subst e2
    refine ⟨rfl, fun x hx => ?_⟩
    simp only [List.map_append, List.mem_append, List.map_cons, List.map_nil, List.mem_singleton] at hx
    rcases hx with hx | hx
    · exact b.2 x hx
    · subst hx; exact a
end
/-! ### what the document says of streams -/
def cntK (evs : List EvM) (s : Int) : Nat → Int
  | 0 => 0
  | k + 1 => if (evs.getD k default).src.v = s then cntK evs s k + 1 else cntK evs s k
def lastK (evs : List EvM) (s : Int) : Nat → Int
  | 0 => 0
  | k + 1 => if (evs.getD k default).src.v = s then (evs.getD k default).time.v else lastK evs s k
def rClosed (many : Int) (gone : List Bool) (s : Int) : Bool := if 0 ≤ s ∧ s < many then gone.getD s.toNat false else false
def rMark (many : Int) (evs : List EvM) (gone : List Bool) (s : Int) : Int := if rClosed many gone s = true then 1099511627777 else lastK evs s evs.length
def rAcc (many : Int) (evs : List EvM) (gone : List Bool) (e : EvM) : Int :=
  if ¬ evE e = 0 then evE e
  else if ¬ (0 ≤ e.src.v ∧ e.src.v < many) then 40
  else if gone.getD e.src.v.toNat false = true then 43
  else if ¬ e.seq.v = cntK evs e.src.v evs.length then 42
  else if e.time.v < rMark many evs gone e.src.v then 41
  else if (65536 : Int) ≤ evs.length then 3 else 0
def rClose (many : Int) (gone : List Bool) (s : Int) : Int := if 0 ≤ s ∧ s < many then (if gone.getD s.toNat false = true then 43 else 0) else 1
def rGone (many : Int) (gone : List Bool) (s : Int) : List Bool := if rClose many gone s = 0 then gone.set s.toNat true else gone
/-- The program's streams are the document's. -/
structure SR (many : Int) (st : List S3) (evs : List EvM) (gone : List Bool) : Prop where
  l16 : st.length = 16
  lm : gone.length = many.toNat
  m1 : 1 ≤ many
  m16 : many ≤ 16
  at_ : ∀ s : Nat, (s : Int) < many → (st.getD s default).next = cntK evs s evs.length ∧ (st.getD s default).last = lastK evs s evs.length ∧ (st.getD s default).closed = gone.getD s false
  out : ∀ s : Int, ¬ (0 ≤ s ∧ s < many) → cntK evs s evs.length = 0 ∧ lastK evs s evs.length = 0
section
variable {many : Int} {st : List S3} {evs : List EvM} {gone : List Bool}
theorem SR.at' (h : SR many st evs gone) {n : Int} (hn : 0 ≤ n ∧ n < many) : (st.getD n.toNat default).next = cntK evs n evs.length ∧ (st.getD n.toNat default).last = lastK evs n evs.length ∧ (st.getD n.toNat default).closed = gone.getD n.toNat false := by
  have := h.at_ n.toNat (by omega)
  rwa [show ((n.toNat : Nat) : Int) = n from by omega] at this
theorem SR.next (h : SR many st evs gone) (n : Int) : nextOf many st n = cntK evs n evs.length := by
  unfold nextOf
  split
  · rename_i hn; exact (h.at' hn).1
  · rename_i hn; exact (h.out n hn).1.symm
theorem SR.acc (h : SR many st evs gone) (e : EvM) : acceptE many st evs.length e = rAcc many evs gone e := by
  unfold acceptE rAcc
  by_cases h1 : evE e = 0
  · by_cases hn : 0 ≤ e.src.v ∧ e.src.v < many
    · obtain ⟨a1, a2, a3⟩ := h.at' hn
      have k1 : ¬ ¬ evE e = 0 := not_not_intro h1
      have k2 : ¬ ¬ (0 ≤ e.src.v ∧ e.src.v < many) := not_not_intro hn
      rw [if_neg k1, if_neg k1, if_neg k2, if_neg k2, a1, a2, a3]
      by_cases hg : gone.getD e.src.v.toNat false = true
      · rw [if_pos hg, if_pos hg]
      · have hc : rClosed many gone e.src.v = false := by unfold rClosed; rw [if_pos hn]; simpa using hg
        rw [if_neg hg, if_neg hg]
        unfold rMark
        rw [hc]
        simp
    · have k1 : ¬ ¬ evE e = 0 := not_not_intro h1
      rw [if_neg k1, if_neg k1, if_pos hn, if_pos hn]
  · rw [if_pos h1, if_pos h1]
theorem SR.close (h : SR many st evs gone) (n : Int) : closeE many st n = rClose many gone n := by
  unfold closeE rClose
  split
  · rename_i hn; rw [(h.at' hn).2.2]
  · rfl
end
end Sl
namespace Sl
open _root_.Go _root_.Go.RowKit
section
variable {L : List EvD} {s : Int} {i : Nat}
variable {many : Int} {evs : List EvM} {gone : List Bool} {e : EvM}
/-- The list of what was accepted, behind an event that is handed in. -/
def rList (many : Int) (evs : List EvM) (gone : List Bool) (e : EvM) : List EvM := if rAcc many evs gone e = 0 then evs ++ [e] else evs
theorem SR.list {st : List S3} (h : SR many st evs gone) (e : EvM) : accEvs many st evs e = rList many evs gone e := by unfold accEvs rList; rw [h.acc]
end
/-- Are just these events told? -/
instance : DecidableEq EvM := fun a b => decidable_of_iff (sameEv a b = true) sameEv_iff
def toldB (evs want : List EvM) : Bool := decide (evs = want)
end Sl
namespace Sl
open _root_.Go _root_.Go.RowKit
theorem evA_atD {W w : World} {F : List Atom} {i : Nat} {L : List EvD} (j : Nat) (H : St W w F) (hi : F[i]? = some (evA L)) : St W w (Attrs (L.getD j default).av (L.getD j default).ev.attrs :: F) := by
  by_cases hj : j < L.length
  · exact evA_at H hi hj
  · have e : L.getD j default = default := by simp [List.getD_eq_getElem?_getD, List.getElem?_eq_none (Nat.le_of_not_lt hj)]
    rw [e]
    exact Row.im (Row.nil_intro H 0 4) (i := 0) rfl
section
variable {evs : List EvM} {L Lw pre : List EvD} {x : EvD} {j n : Nat}
end
end Sl
namespace Sl
open _root_.Go _root_.Go.RowKit
/-- What was accepted may be, and is not too much. -/
def okEvs (evs : List EvM) : Prop := (∀ e ∈ evs, evE e = 0) ∧ evs.length ≤ 65536
end Sl
namespace Sl
open _root_.Go _root_.Go.RowKit
end Sl
