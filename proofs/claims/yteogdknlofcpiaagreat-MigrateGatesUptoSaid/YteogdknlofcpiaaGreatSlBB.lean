import Derived.Test.YteogdknlofcpiaaGreatSlBA
import Derived.Test.YteogdknlofcpiaaGreatSlN
import Derived.Test.YteogdknlofcpiaaGreatSlY
namespace Sl
open _root_.Go _root_.Go.RowKit
set_option linter.all false
set_option linter.unusedSimpArgs false
instance : Inhabited EvD := ⟨⟨default, none, 0⟩⟩
def evA (L : List EvD) : Atom := allA (L.map fun e => (e.av, e.ev.attrs))
theorem evA_pers (L : List EvD) : (evA L).pers := allA_pers _
section
variable {W w : World} {F : List Atom} {i : Nat}
theorem evA_at {L : List EvD} {j : Nat} (H : St W w F) (hi : F[i]? = some (evA L)) (hj : j < L.length) : St W w (Attrs (L.getD j default).av (L.getD j default).ev.attrs :: F) := by
 refine allA_at H hi (j := j) (x := ((L.getD j default).av, (L.getD j default).ev.attrs)) ?_
 simp [List.getD_eq_getElem?_getD, List.getElem?_eq_getElem hj]
theorem evA_nil (H : St W w F) : St W w (evA [] :: F) :=
 H.cons_emp.conv (i := 0) rfl fun I h e => ⟨e, by simp⟩
theorem St.merge {A B C : Atom} (H : St W w (A :: B :: F)) (h : ∀ I h1 h2, A.sat I h1 → B.sat I h2 → h1.disj h2 → C.sat I (h1.union h2)) : St W w (C :: F) := by
 obtain ⟨I, g, dI, hI, hh, h1, h2, d, e, a, h3, h4, d2, e2, b, s⟩ := H.mem
 subst e2
 have ⟨d13, d14⟩ := Heap.disj_union_right.1 d
 exact ⟨H.os, H.tape, H.output, I, g, dI, hI, hh, h1.union h3, h4, Heap.disj_union_left.2 ⟨d14, d2⟩, by rw [e, Heap.union_assoc], h I h1 h3 a b d13, s⟩
theorem evA_snoc {L : List EvD} {e : EvD} (H : St W w (Attrs e.av e.ev.attrs :: evA L :: F)) : St W w (evA (L ++ [e]) :: F) :=
 H.merge fun I h1 h2 a b _ => by
  have e1 := Attrs_pers _ _ _ _ a
  have e2 := evA_pers _ _ _ b
  subst e1; subst e2
  refine ⟨rfl, fun x hx => ?_⟩
  simp only [List.map_append, List.mem_append, List.map_cons, List.map_nil, List.mem_singleton] at hx
  rcases hx with hx | hx
  ·exact b.2 x hx
  ·subst hx; exact a
end
section
variable {many : Int} {st : List S3} {evs : List EvM} {gone : List Bool}
end
end Sl
namespace Sl
open _root_.Go _root_.Go.RowKit
section
variable {L : List EvD} {s : Int} {i : Nat}
variable {many : Int} {evs : List EvM} {gone : List Bool} {e : EvM}
end
instance : DecidableEq EvM := fun a b => decidable_of_iff (sameEv a b = true) sameEv_iff
end Sl
namespace Sl
open _root_.Go _root_.Go.RowKit
theorem evA_atD {W w : World} {F : List Atom} {i : Nat} {L : List EvD} (j : Nat) (H : St W w F) (hi : F[i]? = some (evA L)) : St W w (Attrs (L.getD j default).av (L.getD j default).ev.attrs :: F) := by
 by_cases hj : j < L.length
 ·exact evA_at H hi hj
 ·have e : L.getD j default = default := by simp [List.getD_eq_getElem?_getD, List.getElem?_eq_none (Nat.le_of_not_lt hj)]
  rw [e]
  exact Row.im (Row.nil_intro H 0 4) (i := 0) rfl
section
variable {evs : List EvM} {L Lw pre : List EvD} {x : EvD} {j n : Nat}
end
end Sl
namespace Sl
open _root_.Go _root_.Go.RowKit
end Sl
namespace Sl
open _root_.Go _root_.Go.RowKit
end Sl
