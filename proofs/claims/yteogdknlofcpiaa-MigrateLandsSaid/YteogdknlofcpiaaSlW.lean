/- What a stream of events holds, in memory and as plain data. No condition. -/
import Derived.Test.YteogdknlofcpiaaSlV
namespace Sl
open _root_.Go _root_.Go.RowKit
set_option linter.all false
/-- What a source has said. -/
structure S3 where
  next : Int
  last : Int
  closed : Bool
instance : Inhabited S3 := ⟨⟨0, 0, false⟩⟩
section
variable {W w : World} {l : List Atom}
end
theorem evE_40 {e : EvM} (h : e.src.v < 0 ∨ 16 ≤ e.src.v ∨ timeB e.seq.v = false ∨ timeB e.time.v = false ∨ nameB e.typ.v = false) : evE e = 40 := if_pos h
theorem evE_in {e : EvM} (h1 : 0 ≤ e.src.v) (h2 : e.src.v < 16) (h3 : timeB e.seq.v = true) (h4 : timeB e.time.v = true) (h5 : nameB e.typ.v = true) : evE e = attrsE e.attrs :=
  if_neg (by rintro (h | h | h | h | h) <;> first | omega | simp_all)
theorem isNone_t {α : Type} {p : Option α} (h : p = none) : p.isNone = true := by rw [h]; rfl
theorem isNone_f {α : Type} {p : Option α} (h : ¬ p = none) : p.isNone = false := by cases p with | none => exact absurd rfl h | some _ => rfl
section
variable {many : Int} {st : List S3} {n : Nat} {e : EvM}
end
end Sl
