import Derived.Test.YteogdknlofcpiaaGreatSlBE
import Derived.Test.YteogdknlofcpiaaGreatSlP
namespace Sl
open _root_.Go _root_.Go.RowKit
set_option linter.all false
set_option linter.unusedSimpArgs false
def bndsA (L : List BoundD) : Atom := evA (L.map BoundD.ev)
theorem bndsA_pers (L : List BoundD) : (bndsA L).pers := evA_pers _
theorem getD_map_ev (L : List BoundD) (j : Nat) : (L.map BoundD.ev).getD j default = (L.getD j default).ev := by
 rw [List.getD_eq_getElem?_getD, List.getElem?_map, List.getD_eq_getElem?_getD]
 cases L[j]? <;> rfl
theorem bndsA_at {W w : World} {F : List Atom} {i : Nat} {L : List BoundD} (j : Nat) (H : St W w F) (hi : F[i]? = some (bndsA L)) : St W w (Attrs (L.getD j default).ev.av (L.getD j default).ev.ev.attrs :: F) := by
 have h := evA_atD j H (i := i) hi
 rw [getD_map_ev] at h
 exact h
section
variable {o : OpdV} {bs : List BoundD}
end
theorem take_getD {α : Type} [Inhabited α] {L : List α} {j : Nat} (h : j < L.length) : L.take (j + 1) = L.take j ++ [L.getD j default] := by
 rw [List.take_succ, List.getElem?_eq_getElem h, List.getD_eq_getElem?_getD, List.getElem?_eq_getElem h]; rfl
theorem blk_imm {W w : World} {F : List Atom} {i : Nat} {g : Nat} {o : Obj} (H : St W w F) (hi : F[i]? = some (blk g o)) : St W w (F.set i (imm g o)) := by
 have H2 := H.share hi
 have hi2 : (F.set i (shared (blk g o)))[i]? = some (shared (blk g o)) := by
  have := (List.getElem?_eq_some_iff.1 hi).1
  simp [this]
 have H3 := H2.conv (A' := imm g o) hi2 (by
  rintro I h1 ⟨hn, h2, hle, a⟩
  refine ⟨hn, ?_⟩
  have e : h2 = Heap.one g o := a
  subst e
  exact Heap.of_one_le hle)
 rwa [List.set_set] at H3
theorem bnds_sat {I : Heap} {L : List BoundD} (h : ∀ b ∈ L, evdOk I b.ev) : (bndsA L).sat I Heap.none :=
 ⟨rfl, fun x hx => by
  obtain ⟨e, he, rfl⟩ := List.mem_map.1 hx
  obtain ⟨b, hb, rfl⟩ := List.mem_map.1 he
  exact h b hb⟩
section
variable {P : Program} (w : World)
end
section
variable {C : Ctx} {ρ : Env} {w W : World} {l : List Atom} {ops : Array Oper} {K' : Env → World → Prop} {d ty : Nat} {pos : String} {af : Array Edge} {x y : Operand} {e : TypeId} {size : Nat}
end
end Sl
