/- What is lent for a call comes back. No condition. -/
import Derived.Test.YtfflafpcpbeciaaSlN
namespace Sl
open _root_.Go _root_.Go.RowKit
set_option linter.all false
def Atom.solid (A : Atom) : Prop := ∀ I J h, A.sat I h → A.sat J h
/-- The rest, told without what is lent. -/
def kept (ha : Heap) (G : List Atom) : Atom := ⟨fun J h => ha.le J ∧ ∃ I0 : Heap, I0.le J ∧ I0.disj ha ∧ Stars I0 G h, fun I J h hl ⟨a, I0, b, c, d⟩ => ⟨Heap.le_trans a hl, I0, Heap.le_trans b hl, c, d⟩⟩
section
variable {W w : World} {A B : Atom} {G : List Atom}
theorem St.lent (hAB : ∀ I h, A.sat I h → h.le I → B.sat I Heap.none) (H : St W w (A :: G)) : ∃ I ha, A.sat I ha ∧ St W w [B, kept ha G] := by
  obtain ⟨I, h, dI, hI, hh, ha, hg, d, e, a, s⟩ := H.mem
  subst e
  have ⟨dI1, dI2⟩ := Heap.disj_union_right.1 dI
  have hle : I.le (I.union ha) := Heap.le_union_left I ha
  have hla : ha.le (I.union ha) := Heap.le_union_right dI1
  refine ⟨I, ha, a, ⟨H.os, H.tape, H.output, I.union ha, hg, Heap.disj_union_left.2 ⟨dI2, d⟩, Heap.union_le hI (Heap.le_trans (Heap.le_union_left ha hg) hh), Heap.le_trans (Heap.le_union_right d) hh, ?_⟩⟩
  refine ⟨Heap.none, hg, Heap.none_disj hg, (Heap.none_union hg).symm, hAB _ _ (A.mono _ _ _ hle a) hla, ?_⟩
  exact ⟨hg, Heap.none, Heap.disj_none hg, (Heap.union_none hg).symm, ⟨hla, I, hle, dI1, s⟩, rfl⟩
end
end Sl
