import Derived.Test.YteogdknlofcpiaaGreatSlDL
import Derived.Test.YteogdknlofcpiaaGreatSlDH
import Derived.Test.YteogdknlofcpiaaGreatSlAG
namespace Sl
open _root_.Go _root_.Go.RowKit
set_option linter.all false
set_option linter.unusedSimpArgs false
instance : Inhabited BoundV := ⟨⟨Str.none, evZ⟩⟩
def toBD (v : BoundV) : BoundD := ⟨v.var, ⟨v.ev, none, 0⟩⟩
theorem toBD_v (v : BoundV) : (toBD v).v = v := rfl
theorem map_toBD (V : List BoundV) : (V.map toBD).map BoundD.v = V := by
 rw [List.map_map]; exact (List.map_congr_left fun v _ => toBD_v v).trans (List.map_id' V)
noncomputable def ptEV (V : List BoundV) : Int := ptE (V.map toBD)
theorem ptE_V (L : List BoundD) : ptE L = ptEV (L.map BoundD.v) := ptE_same (map_toBD _).symm
theorem ptE_of {L : List BoundD} {V : List BoundV} (h : L.map BoundD.v = V) : ptE L = ptEV V := by rw [ptE_V, h]
theorem ptEV_is {V : List BoundV} (h : ptEV V = 0) : V.length ≤ 12 ∧ ∀ x ∈ V, x.var.v.size ≤ 32 ∧ evE x.ev = 0 := by
 have hl : ¬ 12 < (V.map toBD).length := fun hc => by unfold ptEV at h; rw [ptE_long hc] at h; cases h
 rw [List.length_map] at hl
 refine ⟨by omega, fun x hx => ?_⟩
 obtain ⟨i, hi, e⟩ := List.getElem_of_mem hx
 have hz : ptAt (V.map toBD) i = 0 := by
  unfold ptEV ptE at h
  rw [if_neg (by rw [List.length_map]; exact hl)] at h
  exact firstNZ_0 h i (by rw [List.length_map]; exact hi)
 have hg : (V.map toBD).getD i default = toBD x := by
  rw [List.getD_eq_getElem?_getD, List.getElem?_map, List.getElem?_eq_getElem hi, e]; rfl
 by_cases hn : named (V.map toBD) i
 ·constructor
  ·rcases hn with hn | hn
   ·rw [hg] at hn; exact nameB_len hn
   ·rw [hg] at hn; show (toBD x).var.v.size ≤ 32; rw [hn.1]; decide
  ·unfold ptAt at hz
   rw [if_neg (by simpa using hn)] at hz
   split at hz
   ·cases hz
   ·split at hz
    ·cases hz
    ·rw [hg] at hz; exact hz
 ·rw [ptAt_1 hn] at hz; cases hz
def bvB (x : BoundV) : List Bool := textB x.var.v ++ formB x.ev
def ptB (V : List BoundV) : List Bool := lowB V.length 4 ++ V.flatMap bvB
theorem bvB_le {x : BoundV} (h : x.var.v.size ≤ 32) (h2 : evE x.ev = 0) : (bvB x).length ≤ 10385 := by
 unfold bvB; rw [List.length_append]; have := textB_le h (by omega); have := formB_le h2; omega
theorem bvs_le {V : List BoundV} (h : ∀ x ∈ V, x.var.v.size ≤ 32 ∧ evE x.ev = 0) : (V.flatMap bvB).length ≤ 10385 * V.length := by
 induction V with
 | nil => simp
 | cons a t ih =>
  have h1 := bvB_le (h a (by simp)).1 (h a (by simp)).2
  have h2 := ih fun x hx => h x (by simp [hx])
  rw [List.flatMap_cons, List.length_append, List.length_cons]; omega
theorem ptB_le {V : List BoundV} (h : ptEV V = 0) : (ptB V).length ≤ 124624 := by
 obtain ⟨h1, h2⟩ := ptEV_is h
 have := bvs_le h2
 unfold ptB; rw [List.length_append, lowB_len]; omega
theorem bvs_take {V : List BoundV} {j : Nat} (h : j < V.length) : (V.take (j + 1)).flatMap bvB = (V.take j).flatMap bvB ++ bvB (V.getD j default) := by
 rw [List.take_add_one, List.getElem?_eq_getElem h, List.getD_eq_getElem?_getD, List.getElem?_eq_getElem h, List.flatMap_append]; simp
def rbE (R : List Bool) : Int := if ¬ textE R = 0 then textE R else tkE (R.drop (textN R))
def rbV (R : List Bool) : BoundV := ⟨str' (textS R), tkV (R.drop (textN R))⟩
def rbR (R : List Bool) : List Bool := tkR (R.drop (textN R))
def rbs : Nat → List Bool → Int × List BoundV × List Bool
 | 0, R => (0, [], R)
 | n + 1, R => if (rbs n R).1 = 0 then (rbE (rbs n R).2.2, (rbs n R).2.1 ++ [rbV (rbs n R).2.2], rbR (rbs n R).2.2) else rbs n R
theorem rbs_yes {n : Nat} {R : List Bool} (h : (rbs n R).1 = 0) : rbs (n + 1) R = (rbE (rbs n R).2.2, (rbs n R).2.1 ++ [rbV (rbs n R).2.2], rbR (rbs n R).2.2) := if_pos h
theorem rbs_no {n : Nat} {R : List Bool} (h : ¬ (rbs n R).1 = 0) : rbs (n + 1) R = rbs n R := if_neg h
theorem rbs_stop {j : Nat} {R : List Bool} (h : ¬ (rbs j R).1 = 0) : ∀ n, j ≤ n → rbs n R = rbs j R := fun n hn => by
 induction hn with
 | refl => rfl
 | step _ ih => rw [rbs_no (by rw [ih]; exact h), ih]
theorem rbs_len {R : List Bool} : ∀ n, (rbs n R).2.1.length ≤ n ∧ ((rbs n R).1 = 0 → (rbs n R).2.1.length = n)
 | 0 => ⟨Nat.le_refl _, fun _ => rfl⟩
 | n + 1 => by
  obtain ⟨h1, h2⟩ := rbs_len (R := R) n
  by_cases h : (rbs n R).1 = 0
  ·rw [rbs_yes h]; dsimp only; rw [List.length_append]
   have := h2 h
   exact ⟨by simp; omega, fun _ => by simp; omega⟩
  ·rw [rbs_no h]; exact ⟨by omega, fun h0 => absurd h0 h⟩
noncomputable def qtC (R : List Bool) : Int := if ¬ (rbs (srcU R 4) (R.drop (srcN R 4))).1 = 0 then (rbs (srcU R 4) (R.drop (srcN R 4))).1 else ptEV (rbs (srcU R 4) (R.drop (srcN R 4))).2.1
noncomputable def qtE (R : List Bool) : Int := if ¬ srcE R 4 = 0 then srcE R 4 else if 12 < srcU R 4 then 100 else qtC R
open Classical in
noncomputable def qtV (R : List Bool) : List BoundV := if qtE R = 0 then (rbs (srcU R 4) (R.drop (srcN R 4))).2.1 else []
open Classical in
noncomputable def qtR (R : List Bool) : List Bool := if qtE R = 0 then (rbs (srcU R 4) (R.drop (srcN R 4))).2.2 else R
section
variable {R : List Bool}
theorem qt_1 (h : ¬ srcE R 4 = 0) : qtE R = srcE R 4 := if_pos h
theorem qt_2 (h : srcE R 4 = 0) (h2 : 12 < srcU R 4) : qtE R = 100 := by unfold qtE; rw [if_neg (by simpa using h), if_pos h2]
theorem qt_c (h : srcE R 4 = 0) (h2 : ¬ 12 < srcU R 4) : qtE R = qtC R := by unfold qtE; rw [if_neg (by simpa using h), if_neg h2]
theorem qt_3 (h : srcE R 4 = 0) (h2 : ¬ 12 < srcU R 4) {R1 : List Bool} (g : R1 = R.drop (srcN R 4)) {j : Nat} (hj : j ≤ srcU R 4) (h3 : ¬ (rbs j R1).1 = 0) : qtE R = (rbs j R1).1 := by
 subst g
 have e := rbs_stop h3 _ hj
 rw [qt_c h h2]; unfold qtC; rw [e, if_pos h3]
theorem qt_4 (h : srcE R 4 = 0) (h2 : ¬ 12 < srcU R 4) {R1 : List Bool} (g : R1 = R.drop (srcN R 4)) (h3 : (rbs (srcU R 4) R1).1 = 0) : qtE R = ptEV (rbs (srcU R 4) R1).2.1 := by
 subst g; rw [qt_c h h2]; unfold qtC; rw [if_neg (by simpa using h3)]
theorem qtV_no (h : ¬ qtE R = 0) : qtV R = [] := if_neg h
theorem qtR_no (h : ¬ qtE R = 0) : qtR R = R := if_neg h
theorem qtV_yes (h : qtE R = 0) {R1 : List Bool} (g : R1 = R.drop (srcN R 4)) : qtV R = (rbs (srcU R 4) R1).2.1 := by subst g; exact if_pos h
theorem qtR_yes (h : qtE R = 0) {R1 : List Bool} (g : R1 = R.drop (srcN R 4)) : qtR R = (rbs (srcU R 4) R1).2.2 := by subst g; exact if_pos h
end
theorem tk_pre {e : EvM} (h : evE e = 0) (P : List Bool) : tkE (formB e ++ P) = 0 ∧ tkV (formB e ++ P) = e ∧ tkR (formB e ++ P) = P := by
 obtain ⟨a, b⟩ := ev_pre h P
 have ht : tkE (formB e ++ P) = 0 := by
  show evC tmN _ = 0
  rw [evC_yes (by rw [a]), b, h]
 exact ⟨ht, by rw [tkV_yes ht, b], by rw [tkR_yes ht, a]⟩
theorem rb_pre {x : BoundV} (h : x.var.v.size ≤ 32) (h2 : evE x.ev = 0) (P : List Bool) : rbE (bvB x ++ P) = 0 ∧ rbV (bvB x ++ P) = x ∧ rbR (bvB x ++ P) = P := by
 have e0 : bvB x ++ P = textB x.var.v ++ (formB x.ev ++ P) := by unfold bvB; rw [List.append_assoc]
 obtain ⟨a, b, c⟩ := text_read (s := x.var.v) (by omega) (formB x.ev ++ P)
 have hd : (textB x.var.v ++ (formB x.ev ++ P)).drop (textN (textB x.var.v ++ (formB x.ev ++ P))) = formB x.ev ++ P := drop_part c
 obtain ⟨t1, t2, t3⟩ := tk_pre h2 P
 rw [e0]
 refine ⟨?_, ?_, ?_⟩
 ·unfold rbE; rw [if_neg (by rw [a]; simp), hd]; exact t1
 ·unfold rbV; rw [hd, b, t2, str'_id rfl]
 ·unfold rbR; rw [hd]; exact t3
theorem rbs_pre {V : List BoundV} (h : ∀ x ∈ V, x.var.v.size ≤ 32 ∧ evE x.ev = 0) (T : List Bool) : ∀ j, j ≤ V.length → rbs j (V.flatMap bvB ++ T) = (0, V.take j, (V.drop j).flatMap bvB ++ T)
 | 0, _ => by simp [rbs]
 | j + 1, hj => by
  have ih := rbs_pre h T j (by omega)
  have hg : V[j]'hj ∈ V := List.getElem_mem _
  have hd : V.drop j = V[j]'hj :: V.drop (j + 1) := List.drop_eq_getElem_cons hj
  rw [rbs_yes (by rw [ih]), ih]
  dsimp only
  rw [hd, List.flatMap_cons, List.append_assoc]
  obtain ⟨a, b, c⟩ := rb_pre (h _ hg).1 (h _ hg).2 ((V.drop (j + 1)).flatMap bvB ++ T)
  rw [a, b, c, List.take_add_one, List.getElem?_eq_getElem hj]; rfl
theorem qt_pre {V : List BoundV} (h : ptEV V = 0) (T : List Bool) : qtE (ptB V ++ T) = 0 ∧ qtV (ptB V ++ T) = V ∧ qtR (ptB V ++ T) = T := by
 obtain ⟨h1, h2⟩ := ptEV_is h
 obtain ⟨a, b, c⟩ := src_pre (u := V.length) (n := 4) (k := 4) rfl (by decide) (by omega) (V.flatMap bvB ++ T)
 have e0 : ptB V ++ T = lowB V.length 4 ++ (V.flatMap bvB ++ T) := by unfold ptB; rw [List.append_assoc]
 rw [e0]
 have hr := rbs_pre h2 T V.length (Nat.le_refl _)
 rw [List.take_length, List.drop_length, List.flatMap_nil, List.nil_append] at hr
 have hE : qtE (lowB V.length 4 ++ (V.flatMap bvB ++ T)) = 0 := by
  rw [qt_4 a (by rw [b]; omega) c.symm (by rw [b, hr]), b, hr]; exact h
 exact ⟨hE, by rw [qtV_yes hE c.symm, b, hr], by rw [qtR_yes hE c.symm, b, hr]⟩
end Sl
