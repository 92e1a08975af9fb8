/- Conditions of bound events; conditions that are parted. No condition. -/
import Derived.Test.YthggoibbkloefaaSlBE
import Derived.Test.YthggoibbkloefaaSlG
namespace Sl
open _root_.Go _root_.Go.RowKit
set_option linter.all false
set_option linter.unusedSimpArgs false
section
variable {o : OpdV} {bs : List BoundD}
end
/-- What is written no more may be told twice. -/
theorem blk_imm {W w : World} {F : List Atom} {i : Nat} {g : Nat} {o : Obj} (H : St W w F) (hi : F[i]? = some (blk g o)) : St W w (F.set i (imm g o)) := by
 have H2 := H.share hi
 have hi2 : (F.set i (shared (blk g o)))[i]? = some (shared (blk g o)) := by
  have := (List.getElem?_eq_some_iff.1 hi).1
  simp [this]
 have H3 := H2.conv (A' := imm g o) hi2 (by
  rintro I h1 ⟨hn, h2, hle, a⟩
  refine ⟨hn, ?_⟩
  have e : h2 = Heap.one g o := a
  subst e
  exact Heap.of_one_le hle)
 rwa [List.set_set] at H3
section
variable {P : Program} (w : World)
end
section
variable {C : Ctx} {ρ : Env} {w W : World} {l : List Atom} {ops : Array Oper} {K' : Env → World → Prop} {d ty : Nat} {pos : String} {af : Array Edge} {x y : Operand} {e : TypeId} {size : Nat}
end
end Sl
