import Derived.Test.YteogdknlofcpiaaGreatSlDR
namespace Sl
open _root_.Go _root_.Go.RowKit
set_option linter.all false
set_option linter.unusedSimpArgs false
def bdsB (bs : List BoundD) (j : Nat) : List Bool := ((bs.map BoundD.v).take j).flatMap bvB
section
variable {bs : List BoundD} {j : Nat}
theorem bdsB_0 : bdsB bs 0 = [] := by unfold bdsB; rw [List.take_zero]; rfl
theorem getD_bdv (h : j < bs.length) : (bs.map BoundD.v).getD j default = (bs.getD j default).v := by
 simp [List.getD_eq_getElem?_getD, List.getElem?_map, List.getElem?_eq_getElem h]
theorem bdsB_succ (h : j < bs.length) : bdsB bs (j + 1) = bdsB bs j ++ textB (bs.getD j default).var.v ++ formB (bs.getD j default).ev.ev := by
 unfold bdsB; rw [bvs_take (by rw [List.length_map]; exact h), getD_bdv h, List.append_assoc]; rfl
theorem bdsB_all : lowB bs.length 4 ++ bdsB bs bs.length = ptB (bs.map BoundD.v) := by
 unfold bdsB ptB; rw [List.length_map, List.take_of_length_le (by rw [List.length_map]; exact Nat.le_refl _)]
theorem bd_ok (hpt : ptE bs = 0) (h : j < bs.length) : (bs.getD j default).var.v.size ≤ 32 ∧ evE (bs.getD j default).ev.ev = 0 := by
 rw [ptE_V] at hpt
 have := (ptEV_is hpt).2 ((bs.map BoundD.v).getD j default) (by rw [List.getD_eq_getElem?_getD, List.getElem?_eq_getElem (by rw [List.length_map]; exact h)]; exact List.getElem_mem _)
 rw [getD_bdv h] at this; exact this
theorem bd_len (hpt : ptE bs = 0) : bs.length ≤ 12 := by
 rw [ptE_V] at hpt; have := (ptEV_is hpt).1; rw [List.length_map] at this; exact this
theorem bdsB_le (hpt : ptE bs = 0) (hj : j ≤ bs.length) : (bdsB bs j).length ≤ 10385 * j := by
 rw [ptE_V] at hpt
 have h := bvs_le (V := (bs.map BoundD.v).take j) fun x hx => (ptEV_is hpt).2 x (List.mem_of_mem_take hx)
 rw [List.length_take, List.length_map] at h
 unfold bdsB; omega
theorem bdsB_mono {k : Nat} (h : j ≤ k) : (bdsB bs j).length ≤ (bdsB bs k).length := by
 unfold bdsB
 have : ((bs.map BoundD.v).take j) = ((bs.map BoundD.v).take k).take j := by rw [List.take_take]; congr 1; omega
 rw [this]
 conv => rhs; rw [← List.take_append_drop j ((bs.map BoundD.v).take k)]
 rw [List.flatMap_append, List.length_append]; omega
theorem bdsB_room (h : j < bs.length) : (bdsB bs j).length + (textB (bs.getD j default).var.v).length + (formB (bs.getD j default).ev.ev).length + 4 ≤ (ptB (bs.map BoundD.v)).length := by
 have h1 := bdsB_mono (bs := bs) (j := j + 1) (k := bs.length) h
 rw [bdsB_succ h, List.length_append, List.length_append] at h1
 rw [← bdsB_all, List.length_append, lowB_len]; omega
theorem ptB_ge : 4 ≤ (ptB (bs.map BoundD.v)).length := by unfold ptB; rw [List.length_append, lowB_len]; omega
theorem ptB_len_le (hpt : ptE bs = 0) : (ptB (bs.map BoundD.v)).length ≤ 124624 := ptB_le (by rw [← ptE_V]; exact hpt)
end
theorem evPut_ok {L : List Bool} {e : EvM} (h : evE e = 0) (hr : L.length + (formB e).length ≤ 1048576) : evPutE L e = 0 ∧ evPutL L e = L ++ formB e := by
 obtain ⟨q1, q2⟩ := evPut_yes (L := L) h
 obtain ⟨q3, q4⟩ := put_ok (L := L) (M := formB e) rfl (by omega)
 exact ⟨by rw [q1, q3], by rw [q2, q4]⟩
theorem itB_0 (x : ItemV) : itB x = natB x.op.v.toNat ++ natB x.inp.v.toNat ++ natB x.ep.v.toNat ++ lowB x.kind.v.toNat 2 ++ itTail x := rfl
theorem itD_is {x : ItemD} (h : itE x = 0) : (0 ≤ x.op.v ∧ x.op.v ≤ 1099511627776) ∧ (0 ≤ x.inp.v ∧ x.inp.v ≤ 1099511627776) ∧ (0 ≤ x.ep.v ∧ x.ep.v ≤ 1099511627776) ∧
  ((x.kind.v = 1 ∧ ptE x.bs = 0) ∨ (x.kind.v = 2 ∧ 0 ≤ x.t.v ∧ x.t.v ≤ 1099511627777) ∨ x.kind.v = 3) := by
 rw [itE_V] at h
 obtain ⟨a, b, c, d⟩ := itEV_is h
 refine ⟨a, b, c, ?_⟩
 rcases d with ⟨d1, _, d3⟩ | ⟨d1, d2, d3, _⟩ | ⟨d1, _, _⟩
 ·exact .inl ⟨d1, by rw [ptE_V]; exact d3⟩
 ·exact .inr (.inl ⟨d1, d2, d3⟩)
 ·exact .inr (.inr d1)
theorem itD_tail {x : ItemD} {k : Int} (hk : x.kind.v = k) : itTail x.v = if k = 1 then ptB (x.bs.map BoundD.v) else if k = 2 then natB x.t.v.toNat else [] := by
 subst hk; rfl
theorem itD_yes {x : ItemD} (h : itE x = 0) : itBytes x.v = pk (itB x.v) := itBytes_yes (by rw [← itE_V]; exact h)
theorem itD_no {x : ItemD} (h : ¬ itE x = 0) : itBytes x.v = [] := itBytes_no (by rw [← itE_V]; exact h)
section
variable {R1 R2 R3 : List Bool} {j : Nat} {V : List BoundV}
theorem rb_text (hrj : (rbs j R1).1 = 0) (hR : R2 = (rbs j R1).2.2) (ht : ¬ textE R2 = 0) : (rbs (j + 1) R1).1 = textE R2 := by
 rw [rbs_yes hrj, ← hR]; exact if_pos ht
theorem rb_e (g : R3 = R2.drop (textN R2)) (ht : textE R2 = 0) : rbE R2 = tkE R3 := by
 unfold rbE; rw [if_neg (by simpa using ht), g]
theorem rb_tk (hrj : (rbs j R1).1 = 0) (hR : R2 = (rbs j R1).2.2) (g : R3 = R2.drop (textN R2)) (ht : textE R2 = 0) : (rbs (j + 1) R1).1 = tkE R3 := by
 rw [rbs_yes hrj, ← hR]; exact rb_e g ht
theorem rb_step (hrj : (rbs j R1).1 = 0) (hV : V = (rbs j R1).2.1) (hR : R2 = (rbs j R1).2.2) (g : R3 = R2.drop (textN R2)) (ht : textE R2 = 0) (hk : tkE R3 = 0) :
  (rbs (j + 1) R1).1 = 0 ∧ V ++ [(⟨str' (textS R2), tkV R3⟩ : BoundV)] = (rbs (j + 1) R1).2.1 ∧ tkR R3 = (rbs (j + 1) R1).2.2 := by
 refine ⟨(rb_tk hrj hR g ht).trans hk, ?_, ?_⟩
 ·rw [rbs_yes hrj, hV]; dsimp only; rw [← hR]; unfold rbV; rw [g]
 ·rw [rbs_yes hrj]; dsimp only; rw [← hR]; unfold rbR; rw [g]
theorem textS_ok (h : R2.length ≤ 1125899906842624) : (str' (textS R2)).v = textS R2 := by
 have := textS_size_le R2; exact str'_v (by omega)
end
theorem bv_len2 {L : List BoundD} {V : List BoundV} (h : L.map BoundD.v = V) : L.length = V.length := by rw [← h, List.length_map]
section
variable {X : RX} {f : Nat → Int}
theorem ival_bs1 (h : (n4 X).1 = 1) : (ival f X).bs = qtV (j4 X).R := if_pos h
theorem ival_bs0 (h : ¬ (n4 X).1 = 1) : (ival f X).bs = [] := if_neg h
theorem ival_t2 (h : (n4 X).1 = 2) : (ival f X).t = i64' (f (stN (j4 X)).1) := if_pos h
theorem ival_t2c (h : (n4 X).1 = 2) : (ival clipN X).t.v = clipN (stN (j4 X)).1 := by rw [ival_t2 h, i64'_c stN_lt]
theorem ival_t0 (h : ¬ (n4 X).1 = 2) : (ival f X).t.v = 0 := by
 have : (ival f X).t = i64N 0 := if_neg h
 rw [this, i64N_v (by omega)]; rfl
theorem j4_of5 (h : (j5 X).e = 0) : (j4 X).e = 0 := Decidable.byContradiction fun hn => hn (by rw [j5_no hn] at h; exact h)
theorem kind_v : (i64N (n4 X).1).v = ((n4 X).1 : Int) := i64N_v (by have := n4_lt (X := X); omega)
theorem it_made (h5 : (j5 X).e = 0) {L : List BoundD} (hL : L.map BoundD.v = (ival clipN X).bs) (p : Option Addr) (c : Nat) :
  ∃ x : ItemD, x.v = ival clipN X ∧ x.op.v = clipN (n1 X).1 ∧ x.inp.v = clipN (n2 X).1 ∧ x.ep.v = clipN (n3 X).1 ∧ x.kind.v = ((n4 X).1 : Int) ∧ x.p = p ∧ x.bs = L ∧ x.c = c ∧ x.t.v = (ival clipN X).t.v := by
 obtain ⟨p1, p2, p3, p4, _⟩ := parts (j4_of5 h5)
 refine ⟨⟨i64N (n1 X).1, i64N (n2 X).1, i64' (clipN (n3 X).1), i64N (n4 X).1, p, c, L, (ival clipN X).t⟩, ?_, (clip_ok (by omega)).symm, (clip_ok (by omega)).symm, i64'_c stN_lt, kind_v, rfl, rfl, rfl, rfl⟩
 exact item_ext rfl rfl rfl rfl hL rfl
end
def zeroD : ItemD := ⟨i64N 0, i64N 0, i64N 0, i64N 0, none, 0, [], i64N 0⟩
noncomputable def natsL (X : RX) : List I64 := [i64N (n1 X).1, i64N (n2 X).1]
section
variable {R R1 : List Bool}
end
section
variable {X : RX} {R3 R4 : List Bool}
end
end Sl
