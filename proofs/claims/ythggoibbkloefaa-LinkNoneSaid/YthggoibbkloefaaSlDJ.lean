/- Rows whose elements have several cells. No condition. -/
import Derived.Test.YthggoibbkloefaaSlT
import Derived.Test.YthggoibbkloefaaSlE
import Derived.Test.YthggoibbkloefaaSlN
namespace Sl
open _root_.Go _root_.Go.RowKit
set_option linter.all false
set_option linter.unusedSimpArgs false
theorem flat_drop {α : Type} {f : α → List Value} {s : Nat} (hf : ∀ a, (f a).length = s) : ∀ (L : List α) (k : Nat), (L.flatMap f).drop (k * s) = (L.drop k).flatMap f
 | [], k => by simp
 | x :: L, 0 => by simp
 | x :: L, k + 1 => by
  have h := hf x
  rw [List.flatMap_cons, List.drop_append, List.drop_succ_cons, ← flat_drop hf L k, h, Nat.add_mul, Nat.one_mul]
  rw [List.drop_eq_nil_of_le (by rw [h]; omega), List.nil_append]
  congr 1
  omega
theorem flat_take {α : Type} {f : α → List Value} {s : Nat} (hf : ∀ a, (f a).length = s) : ∀ (L : List α) (k : Nat), (L.flatMap f).take (k * s) = (L.take k).flatMap f
 | [], k => by simp
 | x :: L, 0 => by simp
 | x :: L, k + 1 => by
  have h := hf x
  rw [List.flatMap_cons, List.take_append, List.take_succ_cons, List.flatMap_cons, ← flat_take hf L k, h, Nat.add_mul, Nat.one_mul]
  rw [List.take_of_length_le (by rw [h]; omega)]
  congr 2
  omega
/-- A part of a slice that is read is read too: elements of several cells. -/
theorem Im.cutN {W w : World} {l : List Atom} {i : Nat} {α : Type} {f : α → List Value} {s : Nat} (hf : ∀ a, (f a).length = s) (h0 : 0 < s) {R : List α} {p : Option Addr} {n c : Nat} (a b : Nat) (H : St W w l) (hi : l[i]? = some (Im s (.slice p n c) n (R.flatMap f))) (hab : a ≤ b) (hb : b ≤ n) :
  St W w (Im s (.slice (cutAt p a c s) (b - a) (c - a)) (b - a) (((R.drop a).take (b - a)).flatMap f) :: l) := by
 have H2 := H.dup hi (Im_pers _ _ _ _)
 refine H2.conv (i := 0) (A' := Im s (.slice (cutAt p a c s) (b - a) (c - a)) (b - a) (((R.drop a).take (b - a)).flatMap f)) rfl ?_
 rintro I h1 ⟨e1, h2, h3, p', c', h4, h5, h6⟩
 injection h4 with q1 q2 q3
 subst q1
 subst q3
 have hRn : R.length = n := by
  have := h3.1
  rw [flat_len hf] at this
  exact Nat.eq_of_mul_eq_mul_right h0 this
 refine ⟨e1, fun x hx => ?_, ⟨?_, by omega⟩, _, _, rfl, ⟨fun h => ?_, by omega⟩, fun hm => ?_⟩
 ·rw [← flat_take hf, ← flat_drop hf] at hx
  exact h2 x (List.mem_of_mem_drop (List.mem_of_mem_take hx))
 ·rw [flat_len hf, List.length_take, List.length_drop]
  congr 1; omega
 ·have hp : p = none := by
   unfold cutAt at h
   split at h
   ·exact h
   ·simpa using h
  have := h5.1 hp
  omega
 ·obtain ⟨g, o, k, e, z, a1, b1, c1, d1⟩ := h6 (by omega)
  subst a1
  have hbs : b * s ≤ n * s := Nat.mul_le_mul_right _ hb
  have hsub : (b - a) * s = b * s - a * s := Nat.sub_mul b a s
  have has : a * s ≤ b * s := Nat.mul_le_mul_right _ hab
  refine ⟨g, o + a * s, k, e, z, ?_, b1, by omega, ?_⟩
  ·unfold cutAt
   rw [if_neg (by omega), Option.map_some, addr_add]
  ·rw [← flat_take hf, ← flat_drop hf, ← d1, List.drop_take, List.take_take, List.drop_drop]
   congr 1
   omega
theorem Im.cutN_h {W w : World} {l : List Atom} {i : Nat} {α : Type} {f : α → List Value} {s : Nat} (hf : ∀ a, (f a).length = s) (h0 : 0 < s) {R : List α} {p : Option Addr} {n c : Nat} (b : Nat) (H : St W w l) (hi : l[i]? = some (Im s (.slice p n c) n (R.flatMap f))) (hb : b ≤ n) :
  St W w (Im s (.slice p b c) b ((R.take b).flatMap f) :: l) := by
 have h := Im.cutN hf h0 0 b H hi (Nat.zero_le _) hb
 rwa [cutAt_0, Nat.sub_zero, Nat.sub_zero, List.drop_zero] at h
theorem Im.cutN_l {W w : World} {l : List Atom} {i : Nat} {α : Type} {f : α → List Value} {s : Nat} (hf : ∀ a, (f a).length = s) (h0 : 0 < s) {R : List α} {p : Option Addr} {n c : Nat} (a : Nat) (H : St W w l) (hi : l[i]? = some (Im s (.slice p n c) n (R.flatMap f))) (ha : a ≤ n) :
  St W w (Im s (.slice (cutAt p a c s) (n - a) (c - a)) (n - a) ((R.drop a).flatMap f) :: l) := by
 have hl : R.length = n := by
  obtain ⟨I, h1, _, hI, hh, _, h2, h3, _⟩ := H.get hi
  have := h3.1
  rw [flat_len hf] at this
  exact Nat.eq_of_mul_eq_mul_right h0 this
 have h := Im.cutN hf h0 a n H hi ha (Nat.le_refl _)
 rwa [List.take_of_length_le (show (R.drop a).length ≤ n - a by rw [List.length_drop]; omega)] at h
end Sl
