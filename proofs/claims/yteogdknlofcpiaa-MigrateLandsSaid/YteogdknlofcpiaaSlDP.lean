/- Maps that are cloned. No condition. -/
import Derived.Test.YteogdknlofcpiaaSlCB
import Derived.Shelf.SlMaps.Clone
namespace Sl
open _root_.Go _root_.Go.RowKit _root_.Go.Proofs
set_option linter.all false
set_option linter.unusedSimpArgs false
theorem clone_map {P : Program} {ρ : Shelf.Ren} (Ly : SlLaysW.n5 P ρ) {W w : World} {F : List Atom} {i r : Nat} {L : List (Value × Value)} (hi : F[i]? = some (MapA r L)) (H : St W w F) :
    Calls P (ρ.f 5) #[.map (some r)] w (Ret fun v w' => ∃ r2, v = .map (some r2) ∧ St W w' (MapA r2 L :: F)) := by
  obtain ⟨es, clk, ⟨he, hn, hc⟩, H2⟩ := MapA.open H hi
  have hlt := (List.getElem?_eq_some_iff.1 hi).1
  have hi2 : (F.set i (blk r (.map es clk)))[i]? = some (blk r (.map es clk)) := by simp [hlt]
  refine (AnyW.maps_Clone Ly r es clk w (H2.blk_at hi2)).mono ?_
  rintro e' w' ⟨rfl, rfl⟩
  refine ⟨w.heap.size, rfl, ?_⟩
  have H3 := H2.alloc (.map es clk)
  have H4 := MapA.shut (i := 0) H3 rfl he hn hc
  have H5 := MapA.shut (i := i + 1) (l := (blk w.heap.size (.map es clk) :: F.set i (blk r (.map es clk))).set 0 (MapA w.heap.size L)) H4 (by simpa using hi2) he hn hc
  have hid : (F.set i (blk r (.map es clk))).set i (MapA r L) = F := by
    rw [List.set_set]
    refine List.ext_getElem? fun j => ?_
    by_cases hj : i = j
    · subst hj; rw [List.getElem?_set_self hlt, hi]
    · rw [List.getElem?_set_ne hj]
  simp only [List.set_cons_zero, List.set_cons_succ, hid] at H5
  exact H5
end Sl
