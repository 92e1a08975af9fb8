/- Epochs in order: places whose items come in any order. No condition. -/
import Derived.Test.YteogdknlofcpiaaSlDM
import Derived.Test.YteogdknlofcpiaaSlDJ
namespace Sl
open _root_.Go _root_.Go.RowKit
set_option linter.all false
set_option linter.unusedSimpArgs false
/-- A place: what it still has. -/
structure PlD where
  p : Option Addr
  c : Nat
  L : List ItemD
instance : Inhabited PlD := ⟨⟨none, 0, []⟩⟩
def plCell (x : PlD) : List Value := [.slice x.p x.L.length x.c]
theorem plCell_len (x : PlD) : (plCell x).length = 1 := rfl
theorem one_pl (a : PlD) (x : Value) (hx : x ∈ plCell a) : x.oneCell' = true := by
  simp only [plCell, List.mem_cons, List.not_mem_nil, or_false] at hx
  subst hx; rfl
abbrev ImI (x : PlD) : Atom := Im 6 (.slice x.p x.L.length x.c) x.L.length (x.L.flatMap itCell)
def plsA (P : List PlD) : Atom := ⟨fun I h => h = Heap.none ∧ ∀ x ∈ P, (ImI x).sat I Heap.none ∧ (itsA x.L).sat I Heap.none, fun I J h hl ⟨a, b⟩ => ⟨a, fun x hx => ⟨(ImI x).mono I J _ hl (b x hx).1, (itsA x.L).mono I J _ hl (b x hx).2⟩⟩⟩
theorem plsA_pers (P : List PlD) : (plsA P).pers := fun _ _ h => h.1
section
variable {W w : World} {F : List Atom} {i : Nat} {P : List PlD}
theorem getD_memP {j : Nat} (hj : j < P.length) : P.getD j default ∈ P := by
  rw [List.getD_eq_getElem?_getD, List.getElem?_eq_getElem hj]
  exact List.getElem_mem hj
theorem plsA_im {j : Nat} (H : St W w F) (hi : F[i]? = some (plsA P)) (hj : j < P.length) : St W w (ImI (P.getD j default) :: F) := H.derive2 fun I h => ((h i _ hi (plsA_pers P)).2 _ (getD_memP hj)).1
theorem plsA_its {j : Nat} (H : St W w F) (hi : F[i]? = some (plsA P)) (hj : j < P.length) : St W w (itsA (P.getD j default).L :: F) := H.derive2 fun I h => ((h i _ hi (plsA_pers P)).2 _ (getD_memP hj)).2
theorem plsA_set {j : Nat} {x : PlD} (H : St W w (ImI x :: itsA x.L :: F)) (hi : F[i]? = some (plsA P)) : St W w (plsA (P.set j x) :: ImI x :: itsA x.L :: F) := H.derive2 fun I h => ⟨rfl, fun y hy => by
  rcases List.mem_or_eq_of_mem_set hy with hy | hy
  · exact (h (i + 2) _ (by exact hi) (plsA_pers P)).2 y hy
  · subst hy
    exact ⟨h 0 _ rfl (Im_pers _ _ _ _), h 1 _ rfl (itsA_pers _)⟩⟩
theorem plsA_4 {a b c d : PlD} (H : St W w (ImI a :: itsA a.L :: ImI b :: itsA b.L :: ImI c :: itsA c.L :: ImI d :: itsA d.L :: F)) : St W w (plsA [a, b, c, d] :: ImI a :: itsA a.L :: ImI b :: itsA b.L :: ImI c :: itsA c.L :: ImI d :: itsA d.L :: F) := H.derive2 fun I h => ⟨rfl, fun y hy => by
  simp only [List.mem_cons, List.not_mem_nil, or_false] at hy
  rcases hy with rfl | rfl | rfl | rfl
  · exact ⟨h 0 _ rfl (Im_pers _ _ _ _), h 1 _ rfl (itsA_pers _)⟩
  · exact ⟨h 2 _ rfl (Im_pers _ _ _ _), h 3 _ rfl (itsA_pers _)⟩
  · exact ⟨h 4 _ rfl (Im_pers _ _ _ _), h 5 _ rfl (itsA_pers _)⟩
  · exact ⟨h 6 _ rfl (Im_pers _ _ _ _), h 7 _ rfl (itsA_pers _)⟩⟩
end
def plV (P : List PlD) : List (List ItemV) := P.map fun x => x.L.map ItemD.v
def tot (P : List (List ItemV)) : Nat := (P.map List.length).sum
/-! ## the plain law: Q k are the items of the place k behind which its end stands; d k is how many of them have come -/
def endV (k : Nat) : ItemV := ⟨i64N 0, i64N 0, i64N k, i64N 3, [], i64N 0⟩
def full (Q : Nat → List ItemV) (k : Nat) : List ItemV := Q k ++ [endV k]
/-- what lies in the places fits -/
def QOk (Q : Nat → List ItemV) : Prop := ∀ k, ∀ x ∈ Q k, x.ep.v = (k : Nat) ∧ ¬ x.kind.v = 3
def upTo (Q : Nat → List ItemV) : Nat → List ItemV
  | 0 => []
  | k + 1 => upTo Q k ++ Q k
/-- what stands when the epoch e is on: d k items of each place k have come; W waits; got has gone through -/
structure EpI (Q : Nat → List ItemV) (d : Nat → Nat) (e : Nat) (W got : List ItemV) : Prop where
  e4 : e ≤ 4
  le : ∀ k, k < 4 → d k ≤ (full Q k).length
  past : ∀ k, k < e → d k = (full Q k).length
  here : e < 4 → d e < (full Q e).length
  wait : ∀ k, e < k → k < 4 → (W.filter fun x => decide (epV x = (k : Nat))) = (full Q k).take (d k)
  all : ∀ x ∈ W, ∃ k : Nat, e < k ∧ k < 4 ∧ x.ep.v = (k : Nat)
  gone : got = upTo Q e ++ (if e < 4 then (Q e).take (d e) else [])
/-- as EpI, but the epoch e may be at its end -/
structure EpM (Q : Nat → List ItemV) (d : Nat → Nat) (e : Nat) (W got : List ItemV) : Prop where
  e4 : e ≤ 3
  le : ∀ k, k < 4 → d k ≤ (full Q k).length
  past : ∀ k, k ≤ e → d k = (full Q k).length
  wait : ∀ k, e < k → k < 4 → (W.filter fun x => decide (epV x = (k : Nat))) = (full Q k).take (d k)
  all : ∀ x ∈ W, ∃ k : Nat, e < k ∧ k < 4 ∧ x.ep.v = (k : Nat)
  gone : got = upTo Q (e + 1)
section
variable {Q : Nat → List ItemV} {d : Nat → Nat} {e : Nat} {W got : List ItemV}
theorem full_len (k : Nat) : (full Q k).length = (Q k).length + 1 := by unfold full; simp
theorem endV_ep {k : Nat} (hk : k ≤ 1000) : (endV k).ep.v = (k : Nat) := i64N_v (by omega)
theorem endV_kd (k : Nat) : (endV k).kind.v = 3 := i64N_v (by omega)
theorem full_ep (hQ : QOk Q) {k : Nat} (hk : k ≤ 1000) {x : ItemV} (hx : x ∈ full Q k) : x.ep.v = (k : Nat) := by
  unfold full at hx
  rcases List.mem_append.1 hx with h | h
  · exact (hQ k x h).1
  · rw [List.mem_singleton] at h; rw [h]; exact endV_ep hk
/-- an epoch's items that have come: what goes through, and whether its end is there -/
theorem take_part (hQ : QOk Q) {k n : Nat} (hn : n ≤ (full Q k).length) : ((full Q k).take n).takeWhile (fun x => !decide (kdV x = 3)) = (Q k).take n ∧ ((full Q k).take n).any (fun x => decide (kdV x = 3)) = decide (n = (full Q k).length) := by
  have h0 : ∀ m, ((Q k).take m).takeWhile (fun x => !decide (kdV x = 3)) = (Q k).take m := fun m => takeWhile_all fun y hy => by
    have := (hQ k y (List.take_subset _ _ hy)).2
    simpa using this
  have h1 : ∀ m, ((Q k).take m).any (fun x => decide (kdV x = 3)) = false := fun m => List.any_eq_false.2 fun y hy => by
    have := (hQ k y (List.take_subset _ _ hy)).2
    simpa using this
  rw [full_len] at hn
  by_cases hc : n = (Q k).length + 1
  · have hf : (full Q k).take n = Q k ++ [endV k] := by rw [List.take_of_length_le (by rw [full_len]; omega)]; rfl
    rw [hf, full_len, decide_eq_true hc]
    have h2 := h0 (Q k).length
    have h3 := h1 (Q k).length
    rw [List.take_length] at h2 h3
    constructor
    · rw [takeWhile_snoc, if_neg (by
        have : ((Q k).any fun y => !(!decide (kdV y = 3))) = false := by simpa using h3
        rw [this]; simp)]
      rw [List.take_of_length_le (by omega)]
      simp [endV_kd]
    · rw [List.any_append, h3]; simp [endV_kd]
  · have hf : (full Q k).take n = (Q k).take n := by unfold full; rw [List.take_append_of_le_length (by omega)]
    rw [hf, full_len, decide_eq_false hc]
    exact ⟨h0 n, h1 n⟩
def inc (d : Nat → Nat) (k : Nat) : Nat → Nat := fun j => if j = k then d k + 1 else d j
theorem inc_self (d : Nat → Nat) (k : Nat) : inc d k k = d k + 1 := if_pos rfl
theorem inc_ne {d : Nat → Nat} {k j : Nat} (h : ¬ j = k) : inc d k j = d j := if_neg h
theorem take_at {L : List ItemV} {n : Nat} {x : ItemV} (h : L[n]? = some x) : L.take (n + 1) = L.take n ++ [x] := by rw [List.take_succ, h]; rfl
theorem EpI.start : EpI Q (fun _ => 0) 0 [] [] :=
  ⟨by omega, fun _ _ => Nat.zero_le _, fun k h => by omega, fun _ => by rw [full_len]; omega, fun k _ _ => by simp, fun x h => (by cases h), by simp [upTo]⟩
theorem EpI.step {k : Nat} {x : ItemV} (hQ : QOk Q) (h : EpI Q d e W got) (hk : e < k) (hk4 : k < 4) (hx : (full Q k)[d k]? = some x) : EpI Q (inc d k) e (W ++ [x]) got := by
  have hm : x ∈ full Q k := List.mem_of_getElem? hx
  have he := full_ep hQ (by omega) hm
  have hlt := (List.getElem?_eq_some_iff.1 hx).1
  refine ⟨h.e4, fun j hj => ?_, fun j hj => ?_, fun h4 => ?_, fun j hj hj4 => ?_, fun y hy => ?_, ?_⟩
  · by_cases hc : j = k
    · subst hc; rw [inc_self]; omega
    · rw [inc_ne hc]; exact h.le j hj
  · rw [inc_ne (by omega)]; exact h.past j hj
  · rw [inc_ne (by omega)]; exact h.here h4
  · rw [List.filter_append, h.wait j hj hj4]
    by_cases hc : j = k
    · subst hc; rw [inc_self, take_at hx]; simp [epV, he]
    · rw [inc_ne hc]
      have : ¬ epV x = (j : Nat) := by show ¬ x.ep.v = _; rw [he]; omega
      simp [this]
  · rcases List.mem_append.1 hy with hy | hy
    · exact h.all y hy
    · rw [List.mem_singleton] at hy; subst hy; exact ⟨k, hk, hk4, he⟩
  · rw [h.gone]
    by_cases h4 : e < 4
    · rw [if_pos h4, if_pos h4, inc_ne (by omega)]
    · rw [if_neg h4, if_neg h4]
theorem EpI.pass {x : ItemV} (hQ : QOk Q) (h : EpI Q d e W got) (h4 : e < 4) (hx : (full Q e)[d e]? = some x) (h3 : ¬ x.kind.v = 3) : EpI Q (inc d e) e W (got ++ [x]) := by
  have hlt := (List.getElem?_eq_some_iff.1 hx).1
  rw [full_len] at hlt
  have hne : d e < (Q e).length := by
    rcases Nat.lt_or_ge (d e) (Q e).length with hc | hc
    · exact hc
    · exfalso
      have hd : d e = (Q e).length := by omega
      rw [hd] at hx
      unfold full at hx
      rw [List.getElem?_append_right (Nat.le_refl _)] at hx
      simp at hx
      subst hx
      exact h3 (endV_kd e)
  have hx2 : (Q e)[d e]? = some x := by
    unfold full at hx
    rw [List.getElem?_append_left hne] at hx
    exact hx
  refine ⟨h.e4, fun j hj => ?_, fun j hj => ?_, fun _ => ?_, fun j hj hj4 => ?_, h.all, ?_⟩
  · by_cases hc : j = e
    · subst hc; rw [inc_self, full_len]; omega
    · rw [inc_ne hc]; exact h.le j hj
  · rw [inc_ne (by omega)]; exact h.past j hj
  · rw [inc_self, full_len]; omega
  · rw [inc_ne (by omega)]; exact h.wait j hj hj4
  · rw [h.gone, if_pos h4, if_pos h4, inc_self, take_at hx2, List.append_assoc]
theorem EpI.close {x : ItemV} (hQ : QOk Q) (h : EpI Q d e W got) (h4 : e < 4) (hx : (full Q e)[d e]? = some x) (h3 : x.kind.v = 3) : EpM Q (inc d e) e W got := by
  have hlt := (List.getElem?_eq_some_iff.1 hx).1
  rw [full_len] at hlt
  have hd : d e = (Q e).length := by
    rcases Nat.lt_or_ge (d e) (Q e).length with hc | hc
    · exfalso
      unfold full at hx
      rw [List.getElem?_append_left hc] at hx
      exact (hQ e x (List.mem_of_getElem? hx)).2 h3
    · omega
  refine ⟨by omega, fun j hj => ?_, fun j hj => ?_, fun j hj hj4 => ?_, h.all, ?_⟩
  · by_cases hc : j = e
    · subst hc; rw [inc_self, full_len]; omega
    · rw [inc_ne hc]; exact h.le j hj
  · by_cases hc : j = e
    · subst hc; rw [inc_self, full_len]; omega
    · rw [inc_ne hc]; exact h.past j (by omega)
  · rw [inc_ne (by omega)]; exact h.wait j hj hj4
  · rw [h.gone, if_pos h4, hd, List.take_length]; rfl
theorem EpM.tr (hQ : QOk Q) (h : EpM Q d e W got) : trO epV kdV ((e : Int) + 1) W = (if e + 1 < 4 then (Q (e + 1)).take (d (e + 1)) else []) ∧ trE epV kdV ((e : Int) + 1) W = (decide (e + 1 < 4) && decide (d (e + 1) = (full Q (e + 1)).length)) := by
  unfold trO trE
  by_cases h4 : e + 1 < 4
  · have hw := h.wait (e + 1) (by omega) h4
    have hw2 : (W.filter fun x => decide (epV x = (e : Int) + 1)) = (full Q (e + 1)).take (d (e + 1)) := by rw [← hw]; rfl
    obtain ⟨a, b⟩ := take_part hQ (h.le (e + 1) h4)
    rw [hw2, a, b, if_pos h4, decide_eq_true h4, Bool.true_and]
    exact ⟨rfl, rfl⟩
  · have hw : (W.filter fun x => decide (epV x = (e : Int) + 1)) = [] := List.filter_eq_nil_iff.2 fun y hy => by
      obtain ⟨k, h1, h2, h3⟩ := h.all y hy
      simp only [decide_eq_true_eq]
      show ¬ y.ep.v = _
      rw [h3]; omega
    rw [hw, if_neg h4, decide_eq_false h4]
    exact ⟨rfl, rfl⟩
theorem EpM.rest (h : EpM Q d e W got) : (∀ k, e + 1 < k → k < 4 → ((trR epV ((e : Int) + 1) W).filter fun x => decide (epV x = (k : Nat))) = (full Q k).take (d k)) ∧ ∀ x ∈ trR epV ((e : Int) + 1) W, ∃ k : Nat, e + 1 < k ∧ k < 4 ∧ x.ep.v = (k : Nat) := by
  refine ⟨fun k hk hk4 => ?_, fun x hx => ?_⟩
  · rw [← h.wait k (by omega) hk4]
    unfold trR
    rw [List.filter_filter]
    refine List.filter_congr fun y hy => ?_
    by_cases hc : epV y = (k : Nat)
    · have : ¬ epV y = (e : Int) + 1 := by rw [hc]; omega
      simp [hc]; omega
    · simp [hc]
  · obtain ⟨a, b⟩ := trR_mem hx
    obtain ⟨k, h1, h2, h3⟩ := h.all x a
    refine ⟨k, ?_, h2, h3⟩
    have : ¬ x.ep.v = (e : Int) + 1 := b
    rw [h3] at this; omega
theorem EpM.go (hQ : QOk Q) : ∀ (n : Nat) (e : Nat) (W got : List ItemV), EpM Q d e W got → W.length < n → ∃ e2 : Nat, (goG epV kdV n e W).2.1 = (e2 : Int) ∧ EpI Q d e2 (goG epV kdV n e W).2.2 (got ++ (goG epV kdV n e W).1)
  | 0, e, W, got, h, hn => by omega
  | n + 1, e, W, got, h, hn => by
    obtain ⟨hO, hE⟩ := h.tr hQ
    obtain ⟨hr, ha⟩ := h.rest
    cases hc : trE epV kdV ((e : Int) + 1) W with
    | true =>
      rw [goG_yes hc]
      rw [hc] at hE
      have h4 : e + 1 < 4 ∧ d (e + 1) = (full Q (e + 1)).length := by simpa using hE.symm
      have hlt := trR_lt hc
      have hM : EpM Q d (e + 1) (trR epV ((e : Int) + 1) W) (got ++ trO epV kdV ((e : Int) + 1) W) := by
        refine ⟨by omega, h.le, fun k hk => ?_, hr, ha, ?_⟩
        · rcases Nat.lt_or_ge e k with hlt2 | hge
          · rw [show k = e + 1 from by omega]; exact h4.2
          · exact h.past k hge
        · have hq := full_len (Q := Q) (e + 1)
          rw [hO, if_pos h4.1, h.gone, List.take_of_length_le (by omega)]; rfl
      obtain ⟨e2, h1, h2⟩ := EpM.go hQ n (e + 1) _ _ hM (by omega)
      rw [List.append_assoc] at h2
      exact ⟨e2, h1, h2⟩
    | false =>
      rw [goG_no hc]
      rw [hc] at hE
      refine ⟨e + 1, by simp, ?_⟩
      refine ⟨by have := h.e4; omega, h.le, fun k hk => h.past k (by omega), fun h4 => ?_, hr, ha, ?_⟩
      · have hle := h.le (e + 1) h4
        rw [decide_eq_true h4, Bool.true_and] at hE
        have := of_decide_eq_false hE.symm
        omega
      · rw [hO, h.gone]
theorem EpI.take {k : Nat} {x : ItemV} (hQ : QOk Q) (h : EpI Q d e W got) (hk4 : k < 4) (hx : (full Q k)[d k]? = some x) : (e : Int) ≤ x.ep.v ∧ ∃ e2 : Nat, (tkR e W x).2.1 = (e2 : Int) ∧ EpI Q (inc d k) e2 (tkR e W x).2.2 (got ++ (tkR e W x).1) := by
  have hm : x ∈ full Q k := List.mem_of_getElem? hx
  have he := full_ep hQ (by omega) hm
  have hlt := (List.getElem?_eq_some_iff.1 hx).1
  have hek : e ≤ k := by
    rcases Nat.lt_or_ge k e with hc | hc
    · have := h.past k hc; omega
    · exact hc
  refine ⟨by rw [he]; omega, ?_⟩
  unfold tkR
  rcases Nat.lt_or_ge e k with hc | hc
  · rw [if_pos (by rw [he]; omega)]
    exact ⟨e, rfl, by rw [List.append_nil]; exact h.step hQ hc hk4 hx⟩
  · obtain rfl : k = e := by omega
    rw [if_neg (by rw [he]; omega)]
    by_cases h3 : x.kind.v = 3
    · rw [if_neg (by simpa using h3)]
      exact (h.close hQ hk4 hx h3).go hQ (W.length + 1) _ _ _ (by omega)
    · rw [if_pos h3]
      exact ⟨k, rfl, h.pass hQ hk4 hx h3⟩
theorem EpI.done (h : EpI Q d e W got) (hd : ∀ k, k < 4 → d k = (full Q k).length) : e = 4 ∧ W = [] ∧ got = upTo Q 4 := by
  have he : e = 4 := by
    rcases Nat.lt_or_ge e 4 with hc | hc
    · have := h.here hc; have := hd e hc; omega
    · have := h.e4; omega
  subst he
  refine ⟨rfl, ?_, by rw [h.gone]; simp⟩
  cases W with
  | nil => rfl
  | cons x W =>
    obtain ⟨k, h1, h2, _⟩ := h.all x (by simp)
    omega
end
/-! ## the places as they lie -/
noncomputable def okk (k : Nat) (x : ItemD) : Bool := decide (x.ep.v = (k : Nat)) && !decide (x.kind.v = 3) && decide (itE x = 0)
noncomputable def QD (L : List ItemD) (k : Nat) : List ItemD := L.filter (okk k)
def endD (k : Nat) : ItemD := ⟨i64N 0, i64N 0, i64N k, i64N 3, none, 0, [], i64N 0⟩
noncomputable def QV (L : List ItemD) (k : Nat) : List ItemV := (QD L k).map ItemD.v
theorem QV_ok (L : List ItemD) : QOk (QV L) := fun k x hx => by
  obtain ⟨y, hy, rfl⟩ := List.mem_map.1 hx
  have := (List.mem_filter.1 hy).2
  unfold okk at this
  simp only [Bool.and_eq_true, decide_eq_true_eq, Bool.not_eq_true', decide_eq_false_iff_not] at this
  exact this.1
theorem full_map (L : List ItemD) (k : Nat) : (QD L k ++ [endD k]).map ItemD.v = full (QV L) k := by unfold full QV; rw [List.map_append]; rfl
theorem QD_yes {L : List ItemD} {k i : Nat} (hi : i < L.length) (h : okk k (L.getD i default) = true) : QD (L.take (i + 1)) k = QD (L.take i) k ++ [L.getD i default] := by
  unfold QD; rw [take_getD hi, List.filter_append]; congr 1
  rw [List.filter_cons_of_pos h, List.filter_nil]
theorem QD_no {L : List ItemD} {k i : Nat} (hi : i < L.length) (h : okk k (L.getD i default) = false) : QD (L.take (i + 1)) k = QD (L.take i) k := by
  unfold QD; rw [take_getD hi, List.filter_append, List.filter_cons_of_neg (by rw [h]; simp), List.filter_nil, List.append_nil]
theorem okk_1 {k : Nat} {x : ItemD} (h : ¬ x.ep.v = (k : Nat)) : okk k x = false := by unfold okk; rw [decide_eq_false h]; rfl
theorem okk_2 {k : Nat} {x : ItemD} (h : x.kind.v = 3) : okk k x = false := by unfold okk; rw [decide_eq_true h]; simp
theorem okk_3 {k : Nat} {x : ItemD} (h : ¬ itE x = 0) : okk k x = false := by unfold okk; rw [decide_eq_false h, Bool.and_false]
theorem okk_4 {k : Nat} {x : ItemD} (h : x.ep.v = (k : Nat)) (h2 : ¬ x.kind.v = 3) (h3 : itE x = 0) : okk k x = true := by unfold okk; rw [decide_eq_true h, decide_eq_false h2, decide_eq_true h3]; rfl
theorem QD_len (L : List ItemD) (k : Nat) : (QD L k).length ≤ L.length := List.length_filter_le _ _
theorem QD_mem {L : List ItemD} {k : Nat} {x : ItemD} (h : x ∈ QD L k) : x ∈ L ∧ itE x = 0 := by
  obtain ⟨a, b⟩ := List.mem_filter.1 h
  unfold okk at b
  simp only [Bool.and_eq_true, decide_eq_true_eq] at b
  exact ⟨a, b.2⟩
theorem endD_ok (k : Nat) (hk : k < 4) : itE (endD k) = 0 := by
  refine itE_0 ⟨?_, ?_, ?_, .inr (.inr ⟨?_, ?_, rfl⟩)⟩ ?_
  · rfl
  · rfl
  · show timeB (i64N k).v = true
    rw [i64N_v (by omega), timeB_is]; omega
  · rfl
  · rfl
  · show ¬ (i64N 3).v = 1
    rw [i64N_v (by omega)]; omega
/-! ## for the walk -/
abbrev gdI (L : List ItemD) (i : Nat) : ItemD := L.getD i default
section
variable {W w : World} {F : List Atom} {i j : Nat} {l M : List ItemD}
theorem itsA_full (k : Nat) (H : St W w F) (hi : F[i]? = some (itsA l)) (hj : F[j]? = some (Im 6 (.slice none 0 0) 0 [])) (hm : ∀ x ∈ M, x ∈ l) : St W w (itsA (QD M k ++ [endD k]) :: F) := by
  have H1 : St W w (bndsA [] :: F) := bndsA_nil H
  have H2 : St W w (itsA (QD M k ++ [endD k]) :: bndsA [] :: F) := H1.derive2 fun I h => ⟨rfl, fun x hx => by
    rcases List.mem_append.1 hx with hx | hx
    · exact (h (i + 1) _ (by exact hi) (itsA_pers l)).2 x (hm x (QD_mem hx).1)
    · rw [List.mem_singleton] at hx
      subst hx
      exact ⟨h (j + 1) _ (by exact hj) (Im_pers _ _ _ _), h 0 _ rfl (bndsA_pers _)⟩⟩
  exact H2.drop 1 rfl
end
def totP (P : List PlD) : Nat := (P.map fun x => x.L.length).sum
theorem totP_set {y : PlD} : ∀ {P : List PlD} {k : Nat}, k < P.length → y.L.length + 1 = (P.getD k default).L.length → totP (P.set k y) + 1 = totP P
  | [], k, hk, _ => by simp at hk
  | x :: P, 0, _, h => by
    have h' : y.L.length + 1 = x.L.length := h
    show (y.L.length + (P.map fun x => x.L.length).sum) + 1 = x.L.length + (P.map fun x => x.L.length).sum
    omega
  | x :: P, k + 1, hk, h => by
    have ih := totP_set (P := P) (k := k) (by simpa using hk) (by simpa using h)
    show x.L.length + totP (P.set k y) + 1 = x.L.length + totP P
    omega
/-- The places, the gate, what has gone through. -/
structure EpP (M : List ItemD) (P : List PlD) (e : Nat) (W got : List ItemD) (n : Nat) : Prop where
  ex : ∃ d : Nat → Nat, EpI (QV M) d e (W.map ItemD.v) (got.map ItemD.v) ∧ ∀ k, k < 4 → (P.getD k default).L.map ItemD.v = (full (QV M) k).drop (d k)
  p4 : P.length = 4
  ok : ∀ k, k < 4 → ∀ x ∈ (P.getD k default).L, bsOk x.bs ∧ itE x = 0
  len : got.length + W.length + totP P ≤ 164
  num : n + totP P ≤ 164
theorem tkR_len {e : Int} {W : List ItemV} {x : ItemV} : (tkR e W x).1.length + (tkR e W x).2.2.length ≤ W.length + 1 := by
  unfold tkR
  split
  · simp
  · split
    · simp; omega
    · have : ∀ (n : Nat) (e : Int) (W : List ItemV), (goG epV kdV n e W).1.length + (goG epV kdV n e W).2.2.length ≤ W.length := by
        intro n
        induction n with
        | zero => intro e W; simp [goG]
        | succ n ih =>
          intro e W
          have hs := tr_sum (ep := epV) (kd := kdV) (e := e + 1) (L := W)
          cases h : trE epV kdV (e + 1) W with
          | true => rw [goG_yes h]; have := ih (e + 1) (trR epV (e + 1) W); simp only [List.length_append]; omega
          | false => rw [goG_no h]; exact hs
      have := this (W.length + 1) e W
      omega
section
variable {M : List ItemD} {P : List PlD} {e n k : Nat} {W got : List ItemD}
theorem EpP.head (h : EpP M P e W got n) (hk : k < 4) (hne : 0 < (P.getD k default).L.length) : bsOk ((P.getD k default).L.getD 0 default).bs ∧ itE ((P.getD k default).L.getD 0 default) = 0 ∧ (e : Int) ≤ ((P.getD k default).L.getD 0 default).ep.v ∧ e ≤ 4 ∧ tkE e W.length ((P.getD k default).L.getD 0 default) = 0 := by
  obtain ⟨d, hE, hd⟩ := h.ex
  have hm : (P.getD k default).L.getD 0 default ∈ (P.getD k default).L := getD_memI hne
  obtain ⟨h1, h2⟩ := h.ok k hk _ hm
  have hx : (full (QV M) k)[d k]? = some ((P.getD k default).L.getD 0 default).v := by
    have : ((P.getD k default).L.map ItemD.v)[0]? = some ((P.getD k default).L.getD 0 default).v := by
      rw [List.getElem?_map, List.getElem?_eq_getElem hne, List.getD_eq_getElem?_getD (l := (P.getD k default).L), List.getElem?_eq_getElem hne]; rfl
    rw [hd k hk, List.getElem?_drop] at this
    exact this
  obtain ⟨h3, _⟩ := hE.take (QV_ok M) hk hx
  have hl := h.len
  exact ⟨h1, h2, h3, hE.e4, tkE_ok h2 (show ¬ ((P.getD k default).L.getD 0 default).ep.v < (e : Int) from by have : (e : Int) ≤ ((P.getD k default).L.getD 0 default).ep.v := h3; omega) (by omega)⟩
theorem EpP.step {O L2 : List ItemD} {e2 : Int} {y : PlD} (h : EpP M P e W got n) (hk : k < 4) (hne : 0 < (P.getD k default).L.length) (hT : tkV (tkE e W.length ((P.getD k default).L.getD 0 default)) e (W.map ItemD.v) ((P.getD k default).L.getD 0 default).v = (O.map ItemD.v, e2, L2.map ItemD.v)) (hy : y.L = (P.getD k default).L.drop 1) : ∃ e3 : Nat, e2 = (e3 : Int) ∧ EpP M (P.set k y) e3 L2 (got ++ O) (n + 1) := by
  obtain ⟨d, hE, hd⟩ := h.ex
  obtain ⟨h1, h2, h3, h4, h5⟩ := h.head hk hne
  have hx : (full (QV M) k)[d k]? = some ((P.getD k default).L.getD 0 default).v := by
    have : ((P.getD k default).L.map ItemD.v)[0]? = some ((P.getD k default).L.getD 0 default).v := by
      rw [List.getElem?_map, List.getElem?_eq_getElem hne, List.getD_eq_getElem?_getD (l := (P.getD k default).L), List.getElem?_eq_getElem hne]; rfl
    rw [hd k hk, List.getElem?_drop] at this
    exact this
  obtain ⟨_, e3, h6, h7⟩ := hE.take (QV_ok M) hk hx
  rw [h5] at hT
  have hT2 : tkR (e : Int) (W.map ItemD.v) ((P.getD k default).L.getD 0 default).v = (O.map ItemD.v, e2, L2.map ItemD.v) := by
    unfold tkV at hT; rw [if_pos rfl] at hT; exact hT
  have hl := tkR_len (e := e) (W := W.map ItemD.v) (x := ((P.getD k default).L.getD 0 default).v)
  rw [hT2] at h6 h7 hl
  simp only [List.length_map] at hl
  have hp4 := h.p4
  have htot : totP (P.set k y) + 1 = totP P := totP_set (by omega) (by rw [hy, List.length_drop]; omega)
  have hget : ∀ j, j < 4 → (P.set k y).getD j default = if j = k then y else P.getD j default := fun j hj => by
    rw [List.getD_eq_getElem?_getD, List.getElem?_set]
    by_cases hc : j = k
    · subst hc; rw [if_pos rfl, if_pos rfl, if_pos (by omega)]; rfl
    · rw [if_neg (fun e => hc e.symm), if_neg hc, List.getD_eq_getElem?_getD]
  refine ⟨e3, h6, ⟨inc d k, by rw [List.map_append]; exact h7, fun j hj => ?_⟩, by rw [List.length_set]; exact hp4, fun j hj x hxm => ?_, ?_, ?_⟩
  · rw [hget j hj]
    by_cases hc : j = k
    · subst hc; rw [if_pos rfl, inc_self, hy, List.map_drop, hd j hj, List.drop_drop]
    · rw [if_neg hc, inc_ne hc]; exact hd j hj
  · rw [hget j hj] at hxm
    by_cases hc : j = k
    · subst hc; rw [if_pos rfl, hy] at hxm; exact h.ok j hj x (List.drop_subset _ _ hxm)
    · rw [if_neg hc] at hxm; exact h.ok j hj x hxm
  · have := h.len; rw [List.length_append]; omega
  · have := h.num; omega
theorem EpP.done (h : EpP M P e W got n) (hz : ∀ k, k < 4 → (P.getD k default).L.length = 0) : e = 4 ∧ W = [] ∧ got.map ItemD.v = upTo (QV M) 4 := by
  obtain ⟨d, hE, hd⟩ := h.ex
  obtain ⟨h1, h2, h3⟩ := hE.done fun k hk => by
    have := congrArg List.length (hd k hk)
    rw [List.length_map, hz k hk, List.length_drop] at this
    have := hE.le k hk
    omega
  exact ⟨h1, by simpa using h2, h3⟩
end
theorem EpP.start {M : List ItemD} (hM : M.length ≤ 40) (hb : ∀ x ∈ M, bsOk x.bs) {p0 p1 p2 p3 : Option Addr} {c0 c1 c2 c3 : Nat} : EpP M [⟨p0, c0, QD M 0 ++ [endD 0]⟩, ⟨p1, c1, QD M 1 ++ [endD 1]⟩, ⟨p2, c2, QD M 2 ++ [endD 2]⟩, ⟨p3, c3, QD M 3 ++ [endD 3]⟩] 0 [] [] 0 := by
  have hq := fun k => QD_len M k
  have h0 := hq 0
  have h1 := hq 1
  have h2 := hq 2
  have h3 := hq 3
  have hbe : ∀ k, k < 4 → ∀ x ∈ QD M k ++ [endD k], bsOk x.bs ∧ itE x = 0 := fun k hk x hx => by
    rcases List.mem_append.1 hx with hx | hx
    · exact ⟨hb x (QD_mem hx).1, (QD_mem hx).2⟩
    · rw [List.mem_singleton] at hx; subst hx; exact ⟨bsOk_nil, endD_ok k hk⟩
  have ht : totP [⟨p0, c0, QD M 0 ++ [endD 0]⟩, ⟨p1, c1, QD M 1 ++ [endD 1]⟩, ⟨p2, c2, QD M 2 ++ [endD 2]⟩, ⟨p3, c3, QD M 3 ++ [endD 3]⟩] ≤ 164 := by
    simp only [totP, List.map_cons, List.map_nil, List.sum_cons, List.sum_nil, List.length_append, List.length_cons, List.length_nil]
    omega
  refine ⟨⟨fun _ => 0, EpI.start, fun k hk => ?_⟩, rfl, fun k hk x hx => ?_, by simpa using ht, by simpa using ht⟩
  · rw [List.drop_zero, ← full_map]
    match k, hk with
    | 0, _ => rfl
    | 1, _ => rfl
    | 2, _ => rfl
    | 3, _ => rfl
  · match k, hk with
    | 0, h => exact hbe 0 h x hx
    | 1, h => exact hbe 1 h x hx
    | 2, h => exact hbe 2 h x hx
    | 3, h => exact hbe 3 h x hx
theorem upTo_4 (M : List ItemD) : upTo (QV M) 4 = (((([] ++ QD M 0) ++ QD M 1) ++ QD M 2) ++ QD M 3).map ItemD.v := by
  simp only [upTo, QV, List.map_append, List.map_nil]
theorem totP_dec {M : List ItemD} {P : List PlD} {e n k : Nat} {W got : List ItemD} (h : EpP M P e W got n) (hk : k < 4) (hne : 0 < (P.getD k default).L.length) {p : Option Addr} {c : Nat} : totP (P.set k ⟨p, c, (P.getD k default).L.drop 1⟩) + 1 = totP P :=
  totP_set (by rw [h.p4]; exact hk) (by show ((P.getD k default).L.drop 1).length + 1 = _; rw [List.length_drop]; omega)
theorem made_nils : madeCells (Value.slice none 0 0).cells (Int.toNat 4 * 1) = #[.slice none 0 0, .slice none 0 0, .slice none 0 0, .slice none 0 0] := (made_of (z := (Value.slice none 0 0).cells) (v := .slice none 0 0) rfl 4).trans rfl
def itemOk (I : Heap) (x : ItemD) : Prop := (BsA x).sat I Heap.none ∧ (bndsA x.bs).sat I Heap.none ∧ bsOk x.bs
end Sl
