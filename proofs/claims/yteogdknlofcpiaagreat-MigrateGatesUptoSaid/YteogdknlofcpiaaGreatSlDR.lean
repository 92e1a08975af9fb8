import Derived.Test.YteogdknlofcpiaaGreatSlDQ
namespace Sl
open _root_.Go _root_.Go.RowKit
set_option linter.all false
set_option linter.unusedSimpArgs false
def okV (x : ItemV) : Prop := timeB x.op.v = true ∧ timeB x.inp.v = true ∧ timeB x.ep.v = true ∧ ((x.kind.v = 1 ∧ x.t.v = 0) ∨ (x.kind.v = 2 ∧ 0 ≤ x.t.v ∧ x.t.v ≤ 1099511627777 ∧ x.bs.length = 0) ∨ (x.kind.v = 3 ∧ x.t.v = 0 ∧ x.bs.length = 0))
open Classical in
noncomputable def itEV (x : ItemV) : Int := if ¬ okV x then 243 else if x.kind.v = 1 then ptEV x.bs else 0
theorem okV_is (x : ItemD) : okI x ↔ okV x.v := by
 unfold okI okV ItemD.v; rw [List.length_map]
theorem itE_V (x : ItemD) : itE x = itEV x.v := by
 unfold itE itEV
 rw [ptE_V]
 by_cases h : okI x
 ·have h2 : ¬ ¬ okV x.v := fun hn => hn ((okV_is x).1 h)
  rw [if_neg (fun hn => hn h), if_neg h2]; rfl
 ·rw [if_pos h, if_pos (fun hc => h ((okV_is x).2 hc))]
theorem itE_of {x : ItemD} {y : ItemV} (h : x.v = y) : itE x = itEV y := by rw [itE_V, h]
theorem itEV_243 {x : ItemV} (h : ¬ okV x) : itEV x = 243 := by unfold itEV; rw [if_pos h]
theorem itEV_1 {x : ItemV} (h : okV x) (h1 : x.kind.v = 1) : itEV x = ptEV x.bs := by unfold itEV; rw [if_neg (by simpa using h), if_pos h1]
theorem itEV_is {x : ItemV} (h : itEV x = 0) : (0 ≤ x.op.v ∧ x.op.v ≤ 1099511627776) ∧ (0 ≤ x.inp.v ∧ x.inp.v ≤ 1099511627776) ∧ (0 ≤ x.ep.v ∧ x.ep.v ≤ 1099511627776) ∧
  ((x.kind.v = 1 ∧ x.t.v = 0 ∧ ptEV x.bs = 0) ∨ (x.kind.v = 2 ∧ 0 ≤ x.t.v ∧ x.t.v ≤ 1099511627777 ∧ x.bs = []) ∨ (x.kind.v = 3 ∧ x.t.v = 0 ∧ x.bs = [])) := by
 have ho : okV x := Classical.byContradiction fun hn => by rw [itEV_243 hn] at h; cases h
 obtain ⟨a, b, c, d⟩ := id ho
 refine ⟨timeB_is.1 a, timeB_is.1 b, timeB_is.1 c, ?_⟩
 rcases d with ⟨d1, d2⟩ | ⟨d1, d2, d3, d4⟩ | ⟨d1, d2, d3⟩
 ·exact .inl ⟨d1, d2, by rw [← itEV_1 ho d1]; exact h⟩
 ·exact .inr (.inl ⟨d1, d2, d3, List.length_eq_zero_iff.1 d4⟩)
 ·exact .inr (.inr ⟨d1, d2, List.length_eq_zero_iff.1 d3⟩)
def itTail (x : ItemV) : List Bool := if x.kind.v = 1 then ptB x.bs else if x.kind.v = 2 then natB x.t.v.toNat else []
def itHead (x : ItemV) : List Bool := natB x.op.v.toNat ++ natB x.inp.v.toNat ++ natB x.ep.v.toNat ++ lowB x.kind.v.toNat 2
def itB (x : ItemV) : List Bool := itHead x ++ itTail x
open Classical in
noncomputable def itBytes (x : ItemV) : List UInt8 := if itEV x = 0 then pk (itB x) else []
theorem itBytes_yes {x : ItemV} (h : itEV x = 0) : itBytes x = pk (itB x) := if_pos h
theorem itBytes_no {x : ItemV} (h : ¬ itEV x = 0) : itBytes x = [] := if_neg h
theorem itTail_1 {x : ItemV} (h : x.kind.v = 1) : itTail x = ptB x.bs := if_pos h
theorem itTail_2 {x : ItemV} (h : x.kind.v = 2) : itTail x = natB x.t.v.toNat := by unfold itTail; rw [if_neg (by omega), if_pos h]
theorem itTail_3 {x : ItemV} (h : ¬ x.kind.v = 1) (h2 : ¬ x.kind.v = 2) : itTail x = [] := by unfold itTail; rw [if_neg h, if_neg h2]
theorem itHead_le {x : ItemV} (h : itEV x = 0) : (itHead x).length ≤ 389 := by
 obtain ⟨a, b, c, d⟩ := itEV_is h
 have z1 := sizeU_le (u := x.op.v.toNat) (by omega)
 have z2 := sizeU_le (u := x.inp.v.toNat) (by omega)
 have z3 := sizeU_le (u := x.ep.v.toNat) (by omega)
 unfold itHead; simp only [List.length_append, natB_len, lowB_len]; omega
theorem itB_le {x : ItemV} (h : itEV x = 0) : (itB x).length ≤ 130000 := by
 obtain ⟨a, b, c, d⟩ := itEV_is h
 have h1 := itHead_le h
 have h2 : (itTail x).length ≤ 124624 := by
  rcases d with ⟨d1, d2, d3⟩ | ⟨d1, d2, d3, d4⟩ | ⟨d1, d2, d3⟩
  ·rw [itTail_1 d1]; exact ptB_le d3
  ·rw [itTail_2 d1, natB_len]; have := sizeU_le (u := x.t.v.toNat) (by omega); omega
  ·rw [itTail_3 (by omega) (by omega)]; simp
 unfold itB; rw [List.length_append]; omega
theorem itBytes_le (x : ItemV) : (itBytes x).length ≤ 130000 := by
 by_cases h : itEV x = 0
 ·rw [itBytes_yes h, pk_len]; have := itB_le h; omega
 ·rw [itBytes_no h]; simp
def stW (b : Bool) (k : Int) (X : RX) : RX := if X.e = 0 ∧ b = true then ⟨k, X.R⟩ else X
theorem stW_no {b : Bool} {k : Int} {X : RX} (h : ¬ X.e = 0) : stW b k X = X := if_neg fun e => h e.1
theorem stW_t {b : Bool} {k : Int} {X : RX} (h : X.e = 0) (h2 : b = true) : stW b k X = ⟨k, X.R⟩ := if_pos ⟨h, h2⟩
theorem stW_f {b : Bool} {k : Int} {X : RX} (h2 : b = false) : stW b k X = X := if_neg fun e => by rw [h2] at e; cases e.2
theorem stW_R (b : Bool) (k : Int) (X : RX) : (stW b k X).R = X.R := by unfold stW; split <;> rfl
theorem stW_e {b : Bool} {k : Int} {X : RX} (hk : ¬ k = 0) : (stW b k X).e = 0 ↔ X.e = 0 ∧ b = false := by
 unfold stW; split
 ·rename_i h; exact ⟨fun e => absurd e hk, fun e => by rw [h.2] at e; cases e.2⟩
 ·rename_i h; exact ⟨fun e => ⟨e, by cases b with | false => rfl | true => exact absurd ⟨e, rfl⟩ h⟩, fun e => e.1⟩
def big (u : Nat) : Bool := decide (1099511627776 < u)
def n1 (X : RX) : Nat × RX := stN X
def j1 (X : RX) : RX := stW (big (n1 X).1) 243 (n1 X).2
def n2 (X : RX) : Nat × RX := stN (j1 X)
def j2 (X : RX) : RX := stW (big (n2 X).1) 243 (n2 X).2
def n3 (X : RX) : Nat × RX := stN (j2 X)
def n4 (X : RX) : Nat × RX := stB 2 (n3 X).2
def j4 (X : RX) : RX := stW (decide ((n4 X).1 = 0)) 243 (n4 X).2
open Classical in
noncomputable def j5 (X : RX) : RX := if ¬ (j4 X).e = 0 then j4 X else if (n4 X).1 = 1 then ⟨qtE (j4 X).R, qtR (j4 X).R⟩ else if (n4 X).1 = 2 then (stN (j4 X)).2 else j4 X
open Classical in
noncomputable def j6 (X : RX) : Int := if (j5 X).e = 0 then endE (j5 X).R else (j5 X).e
open Classical in
noncomputable def ival (f : Nat → Int) (X : RX) : ItemV := ⟨i64N (n1 X).1, i64N (n2 X).1, i64' (f (n3 X).1), i64N (n4 X).1, if (n4 X).1 = 1 then qtV (j4 X).R else [], if (n4 X).1 = 2 then i64' (f (stN (j4 X)).1) else i64N 0⟩
open Classical in
noncomputable def ipE (R : List Bool) : Int := if ¬ j6 ⟨0, R⟩ = 0 then j6 ⟨0, R⟩ else itEV (ival clipN ⟨0, R⟩)
def zeroI : ItemV := ⟨i64N 0, i64N 0, i64N 0, i64N 0, [], i64N 0⟩
open Classical in
noncomputable def ipV (R : List Bool) : ItemV := if ipE R = 0 then ival clipN ⟨0, R⟩ else zeroI
section
variable {X : RX}
theorem j5_no (h : ¬ (j4 X).e = 0) : j5 X = j4 X := if_pos h
theorem j5_1 (h : (j4 X).e = 0) (h1 : (n4 X).1 = 1) : j5 X = ⟨qtE (j4 X).R, qtR (j4 X).R⟩ := by unfold j5; rw [if_neg (by simpa using h), if_pos h1]
theorem j5_2 (h : (j4 X).e = 0) (h1 : (n4 X).1 = 2) : j5 X = (stN (j4 X)).2 := by unfold j5; rw [if_neg (by simpa using h), if_neg (by omega), if_pos h1]
theorem j5_3 (h1 : ¬ (n4 X).1 = 1) (h2 : ¬ (n4 X).1 = 2) : j5 X = j4 X := by unfold j5; rw [if_neg h1, if_neg h2]; split <;> rfl
theorem j6_no (h : ¬ (j5 X).e = 0) : j6 X = (j5 X).e := if_neg h
theorem j6_yes (h : (j5 X).e = 0) : j6 X = endE (j5 X).R := if_pos h
theorem parts (h : (j4 X).e = 0) : (n1 X).2.e = 0 ∧ (n1 X).1 ≤ 1099511627776 ∧ (n2 X).2.e = 0 ∧ (n2 X).1 ≤ 1099511627776 ∧ (n3 X).2.e = 0 ∧ (n4 X).2.e = 0 ∧ ¬ (n4 X).1 = 0 ∧ (j1 X).e = 0 ∧ (j2 X).e = 0 := by
 obtain ⟨a, b⟩ := (stW_e (by decide)).1 (show (stW (decide ((n4 X).1 = 0)) 243 (n4 X).2).e = 0 from h)
 have c : (n3 X).2.e = 0 := Decidable.byContradiction fun hn => hn (by have : n4 X = (0, (n3 X).2) := stB_no hn; rw [this] at a; exact a)
 have d : (j2 X).e = 0 := Decidable.byContradiction fun hn => hn (by have : n3 X = (0, j2 X) := stN_no hn; rw [this] at c; exact c)
 obtain ⟨e, f⟩ := (stW_e (by decide)).1 (show (stW (big (n2 X).1) 243 (n2 X).2).e = 0 from d)
 have g : (j1 X).e = 0 := Decidable.byContradiction fun hn => hn (by have : n2 X = (0, j1 X) := stN_no hn; rw [this] at e; exact e)
 obtain ⟨i, k⟩ := (stW_e (by decide)).1 (show (stW (big (n1 X).1) 243 (n1 X).2).e = 0 from g)
 unfold big at f k
 exact ⟨i, by have := of_decide_eq_false k; omega, e, by have := of_decide_eq_false f; omega, c, a, of_decide_eq_false b, g, d⟩
theorem n4_lt : (n4 X).1 < 4 := stB_lt (k := 2)
end
theorem clip_two {u : Nat} (hu : u < 18446744073709551616) : (u ≤ 1099511627777 ∧ clipN u = u ∧ s64 u = u) ∨ (1099511627777 < u ∧ clipN u = -1 ∧ (s64 u < 0 ∨ 1099511627777 < s64 u)) := by
 rw [s64_is hu]
 unfold clipN
 rcases Nat.lt_or_ge 1099511627777 u with h | h
 ·rw [if_pos h]; right; refine ⟨h, rfl, ?_⟩; split <;> omega
 ·rw [if_neg (by omega)]; left; refine ⟨h, rfl, ?_⟩; split <;> omega
theorem clip_rng (u : Nat) (hu : u < 18446744073709551616) : -9223372036854775808 ≤ clipN u ∧ clipN u ≤ 9223372036854775807 := by
 rcases clip_two hu with ⟨a, b, _⟩ | ⟨a, b, _⟩ <;> rw [b] <;> omega
theorem i64'_c {u : Nat} (hu : u < 18446744073709551616) : (i64' (clipN u)).v = clipN u := i64'_v (clip_rng u hu)
theorem ival_ep (f : Nat → Int) (X : RX) : (ival f X).ep = i64' (f (n3 X).1) := rfl
section
variable {R : List Bool}
theorem ip_no (h : ¬ j6 ⟨0, R⟩ = 0) : ipE R = j6 ⟨0, R⟩ := if_pos h
theorem ip_yes (h : j6 ⟨0, R⟩ = 0) : ipE R = itEV (ival clipN ⟨0, R⟩) := if_neg (by simpa using h)
theorem ipV_yes (h : ipE R = 0) : ipV R = ival clipN ⟨0, R⟩ := if_pos h
theorem ipV_no (h : ¬ ipE R = 0) : ipV R = zeroI := if_neg h
end
theorem item_ext {a b : ItemV} (h1 : a.op.v = b.op.v) (h2 : a.inp.v = b.inp.v) (h3 : a.ep.v = b.ep.v) (h4 : a.kind.v = b.kind.v) (h5 : a.bs = b.bs) (h6 : a.t.v = b.t.v) : a = b := by
 cases a; cases b; simp only [ItemV.mk.injEq]; exact ⟨I64.eq_of h1, I64.eq_of h2, I64.eq_of h3, I64.eq_of h4, h5, I64.eq_of h6⟩
theorem sub_clip {u : Nat} (h : u ≤ 1099511627777) : (i64' (clipN u)).v = u := by
 rw [i64'_c (by omega)]; rcases clip_two (u := u) (by omega) with ⟨_, b, _⟩ | ⟨a, _, _⟩ <;> omega
theorem it_pre {x : ItemV} (h : itEV x = 0) {T : List Bool} (hT : endE T = 0) : ipE (itB x ++ T) = 0 ∧ ipV (itB x ++ T) = x := by
 obtain ⟨a, b, c, d⟩ := itEV_is h
 have hR : itB x ++ T = natB x.op.v.toNat ++ (natB x.inp.v.toNat ++ (natB x.ep.v.toNat ++ (lowB x.kind.v.toNat 2 ++ (itTail x ++ T)))) := by unfold itB itHead; simp only [List.append_assoc]
 rw [hR]
 generalize hT5 : itTail x ++ T = T5
 generalize hX : (⟨0, natB x.op.v.toNat ++ (natB x.inp.v.toNat ++ (natB x.ep.v.toNat ++ (lowB x.kind.v.toNat 2 ++ T5)))⟩ : RX) = X
 have hRX : natB x.op.v.toNat ++ (natB x.inp.v.toNat ++ (natB x.ep.v.toNat ++ (lowB x.kind.v.toNat 2 ++ T5))) = X.R := by rw [← hX]
 have s1 : n1 X = (x.op.v.toNat, ⟨0, natB x.inp.v.toNat ++ (natB x.ep.v.toNat ++ (lowB x.kind.v.toNat 2 ++ T5))⟩) := by rw [← hX]; exact stN_pre (by omega) _
 have t1 : j1 X = ⟨0, natB x.inp.v.toNat ++ (natB x.ep.v.toNat ++ (lowB x.kind.v.toNat 2 ++ T5))⟩ := by unfold j1; rw [stW_f (by rw [s1]; exact decide_eq_false (by omega)), s1]
 have s2 : n2 X = (x.inp.v.toNat, ⟨0, natB x.ep.v.toNat ++ (lowB x.kind.v.toNat 2 ++ T5)⟩) := by unfold n2; rw [t1]; exact stN_pre (by omega) _
 have t2 : j2 X = ⟨0, natB x.ep.v.toNat ++ (lowB x.kind.v.toNat 2 ++ T5)⟩ := by unfold j2; rw [stW_f (by rw [s2]; exact decide_eq_false (by omega)), s2]
 have s3 : n3 X = (x.ep.v.toNat, ⟨0, lowB x.kind.v.toNat 2 ++ T5⟩) := by unfold n3; rw [t2]; exact stN_pre (by omega) _
 have s4 : n4 X = (x.kind.v.toNat, ⟨0, T5⟩) := by unfold n4; rw [s3]; exact stB_pre (k := 2) rfl (by decide) (by show _ < 4; omega) _
 have t4 : j4 X = ⟨0, T5⟩ := by unfold j4; rw [stW_f (by rw [s4]; exact decide_eq_false (by dsimp only; omega)), s4]
 have key : (j5 X).e = 0 ∧ (j5 X).R = T ∧ ((n4 X).1 = 1 → qtV T5 = x.bs) ∧ ((n4 X).1 = 2 → (stN (j4 X)).1 = x.t.v.toNat) := by
  rw [← hT5] at t4 ⊢
  rcases d with ⟨d1, d2, d3⟩ | ⟨d1, d2, d3, d4⟩ | ⟨d1, d2, d3⟩
  ·rw [itTail_1 d1] at t4 ⊢
   obtain ⟨p, q, r⟩ := qt_pre d3 T
   rw [j5_1 (by rw [t4]) (by rw [s4, d1]; rfl), t4]
   exact ⟨p, r, fun _ => q, fun e => (by rw [s4, d1] at e; cases e)⟩
  ·rw [itTail_2 d1] at t4 ⊢
   have hs : stN (j4 X) = (x.t.v.toNat, ⟨0, T⟩) := by rw [t4]; exact stN_pre (by omega) _
   rw [j5_2 (by rw [t4]) (by rw [s4, d1]; rfl), hs]
   exact ⟨rfl, rfl, fun e => (by rw [s4, d1] at e; cases e), fun _ => rfl⟩
  ·rw [itTail_3 (by omega) (by omega)] at t4 ⊢
   rw [j5_3 (by rw [s4, d1]; exact (by decide : ¬ (3 : Nat) = 1)) (by rw [s4, d1]; exact (by decide : ¬ (3 : Nat) = 2)), t4]
   exact ⟨rfl, rfl, fun e => (by rw [s4, d1] at e; cases e), fun e => (by rw [s4, d1] at e; cases e)⟩
 have h6 : j6 X = 0 := by rw [j6_yes key.1, key.2.1]; exact hT
 have hv : ival clipN X = x := by
  refine item_ext ?_ ?_ ?_ ?_ ?_ ?_
  ·show (i64N (n1 X).1).v = _; rw [s1]; dsimp only; rw [i64N_v (by omega)]; omega
  ·show (i64N (n2 X).1).v = _; rw [s2]; dsimp only; rw [i64N_v (by omega)]; omega
  ·rw [ival_ep, s3]; dsimp only; rw [sub_clip (by omega)]; omega
  ·show (i64N (n4 X).1).v = _; rw [s4]; dsimp only; rw [i64N_v (by omega)]; omega
  ·show (if (n4 X).1 = 1 then qtV (j4 X).R else []) = _
   by_cases hk : (n4 X).1 = 1
   ·rw [if_pos hk, t4]; exact key.2.2.1 hk
   ·rw [if_neg hk]; rw [s4] at hk; dsimp only at hk
    rcases d with ⟨d1, _⟩ | ⟨_, _, _, d4⟩ | ⟨_, _, d3⟩
    ·omega
    ·exact d4.symm
    ·exact d3.symm
  ·show (if (n4 X).1 = 2 then i64' (clipN (stN (j4 X)).1) else i64N 0).v = _
   by_cases hk : (n4 X).1 = 2
   ·rw [if_pos hk, key.2.2.2 hk]; rw [s4] at hk; dsimp only at hk; rw [sub_clip (by omega)]; omega
   ·rw [if_neg hk, i64N_v (by omega)]; rw [s4] at hk; dsimp only at hk; omega
 rw [hRX]
 have hX0 : X = ⟨0, X.R⟩ := by rw [← hX]
 have hE : ipE X.R = 0 := by rw [ip_yes (by rw [← hX0]; exact h6), ← hX0, hv]; exact h
 exact ⟨hE, by rw [ipV_yes hE, ← hX0, hv]⟩
theorem it_enc {x : ItemV} (h : itEV x = 0) : ipE (remB (itBytes x) 0) = 0 ∧ ipV (remB (itBytes x) 0) = x := by
 have hR : remB (itBytes x) 0 = itB x ++ padB (itB x) := by rw [itBytes_yes h]; exact bits_pk _
 rw [hR]; exact it_pre h (pad_end _)
end Sl
