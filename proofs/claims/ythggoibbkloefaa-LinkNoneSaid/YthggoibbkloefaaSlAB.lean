/- What is lent for a call comes back. No condition. -/
import Derived.Test.YthggoibbkloefaaSlN
namespace Sl
open _root_.Go _root_.Go.RowKit
set_option linter.all false
def Atom.solid (A : Atom) : Prop := ∀ I J h, A.sat I h → A.sat J h
theorem Row_solid (e : TypeId) (size : Nat) (v : Value) (n : Nat) (xs : List Value) : (Row e size v n xs).solid := fun _ _ _ h => h
theorem emp_solid : emp.solid := fun _ _ _ h => h
/-- The rest, told without what is lent. -/
def kept (ha : Heap) (G : List Atom) : Atom := ⟨fun J h => ha.le J ∧ ∃ I0 : Heap, I0.le J ∧ I0.disj ha ∧ Stars I0 G h, fun I J h hl ⟨a, I0, b, c, d⟩ => ⟨Heap.le_trans a hl, I0, Heap.le_trans b hl, c, d⟩⟩
section
variable {W w : World} {A B : Atom} {G : List Atom}
theorem St.lent (hAB : ∀ I h, A.sat I h → h.le I → B.sat I Heap.none) (H : St W w (A :: G)) : ∃ I ha, A.sat I ha ∧ St W w [B, kept ha G] := by
 obtain ⟨I, h, dI, hI, hh, ha, hg, d, e, a, s⟩ := H.mem
 subst e
 have ⟨dI1, dI2⟩ := Heap.disj_union_right.1 dI
 have hle : I.le (I.union ha) := Heap.le_union_left I ha
 have hla : ha.le (I.union ha) := Heap.le_union_right dI1
 refine ⟨I, ha, a, ⟨H.os, H.tape, H.output, I.union ha, hg, Heap.disj_union_left.2 ⟨dI2, d⟩, Heap.union_le hI (Heap.le_trans (Heap.le_union_left ha hg) hh), Heap.le_trans (Heap.le_union_right d) hh, ?_⟩⟩
 refine ⟨Heap.none, hg, Heap.none_disj hg, (Heap.none_union hg).symm, hAB _ _ (A.mono _ _ _ hle a) hla, ?_⟩
 exact ⟨hg, Heap.none, Heap.disj_none hg, (Heap.union_none hg).symm, ⟨hla, I, hle, dI1, s⟩, rfl⟩
theorem St.unlent {w' : World} {X : Atom} {I0 ha : Heap} (hX : X.solid) (hA : A.solid) (a : A.sat I0 ha) (hB : B.pers) (H : St W w' [X, B, kept ha G]) : St W w' (X :: A :: G) := by
 obtain ⟨J, h, dJ, hJ, hh, hx, h1, d1, e1, x, hb, h2, d2, e2, b, hk, h3, d3, e3, k, e4⟩ := H.mem
 subst e4
 rw [Heap.union_none] at e3
 subst e3
 have := hB _ _ b
 subst this
 rw [Heap.none_union] at e2
 subst e2 e1
 obtain ⟨hla, I, hIJ, hIa, s⟩ := k
 have ⟨dJx, dJk⟩ := Heap.disj_union_right.1 dJ
 have dsub : ∀ {a b c : Heap}, a.le b → b.disj c → a.disj c := fun {a b c} hl hd i => by
  rcases hd i with h | h
  ·left
   cases ha : a i with
   | none => rfl
   | some o => have := hl i o ha; rw [h] at this; cases this
  ·exact .inr h
 have hax : ha.disj hx := dsub hla dJx
 have hak : ha.disj h1 := dsub hla dJk
 refine ⟨H.os, H.tape, H.output, I, hx.union (ha.union h1), ?_, Heap.le_trans hIJ hJ, ?_, hx, ha.union h1, ?_, rfl, hX _ _ _ x, ha, h1, hak, rfl, hA _ _ _ a, s⟩
 ·exact Heap.disj_union_right.2 ⟨dsub hIJ dJx, Heap.disj_union_right.2 ⟨hIa, dsub hIJ dJk⟩⟩
 ·exact Heap.union_le (Heap.le_trans (Heap.le_union_left hx h1) hh) (Heap.union_le (Heap.le_trans hla hJ) (Heap.le_trans (Heap.le_union_right d1) hh))
 ·exact Heap.disj_union_right.2 ⟨Heap.disj_comm hax, d1⟩
theorem Row_lends {e : TypeId} {size n : Nat} {v : Value} {xs : List Value} : ∀ I h, (Row e size v n xs).sat I h → h.le I → (Im size v n xs).sat I Heap.none := by
 rintro I h ⟨hone, hlen, a⟩ hle
 refine ⟨rfl, hone, ⟨hlen, ?_⟩, ?_⟩
 ·rcases a with ⟨rfl, rfl, _⟩ | ⟨g, cap, cur, rfl, hc, hm, hs, ht, rfl⟩
  ·omega
  ·exact Nat.le_trans hc hm
 ·rcases a with ⟨rfl, rfl, _⟩ | ⟨g, cap, cur, rfl, hc, hm, hs, ht, rfl⟩
  ·exact ⟨none, 0, rfl, ⟨fun _ => ⟨rfl, rfl⟩, Nat.le_refl 0⟩, fun h => absurd h (by omega)⟩
  ·refine ⟨some ⟨g, 0, none⟩, cap, rfl, ⟨(by intro h; cases h), hc⟩, fun h0 => ⟨g, 0, cur, e, (0, 0), rfl, Heap.of_one_le hle, ?_, by simpa using ht⟩⟩
   rw [hs, Nat.zero_add]
   exact Nat.mul_le_mul_right _ hc
end
end Sl
