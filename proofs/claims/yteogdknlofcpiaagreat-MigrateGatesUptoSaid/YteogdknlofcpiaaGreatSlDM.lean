import Derived.Test.YteogdknlofcpiaaGreatSlDL
namespace Sl
open _root_.Go _root_.Go.RowKit
set_option linter.all false
set_option linter.unusedSimpArgs false
section
variable {α : Type} (ep kd : α → Int)
def trR (e : Int) (L : List α) : List α := L.filter fun x => !decide (ep x = e)
def trO (e : Int) (L : List α) : List α := (L.filter fun x => decide (ep x = e)).takeWhile fun x => !decide (kd x = 3)
def trE (e : Int) (L : List α) : Bool := (L.filter fun x => decide (ep x = e)).any fun x => decide (kd x = 3)
theorem takeWhile_snoc {p : α → Bool} (L : List α) (x : α) : (L ++ [x]).takeWhile p = if L.any (fun y => !p y) = true then L.takeWhile p else L ++ (if p x then [x] else []) := by
 induction L with
 | nil => simp [List.takeWhile]; split <;> simp_all
 | cons y L ih =>
  simp only [List.cons_append, List.takeWhile_cons, List.any_cons]
  cases hy : p y
  ·simp
  ·simp only [if_true, ih, Bool.not_true, Bool.false_or]
   split <;> simp
theorem takeWhile_all {p : α → Bool} : ∀ {L : List α}, (∀ y ∈ L, p y = true) → L.takeWhile p = L
 | [], _ => rfl
 | y :: L, h => by rw [List.takeWhile_cons, if_pos (h y (by simp)), takeWhile_all fun z hz => h z (by simp [hz])]
variable {ep kd} {e : Int} {L : List α} {x : α}
theorem tr_other (h : ¬ ep x = e) : trR ep e (L ++ [x]) = trR ep e L ++ [x] ∧ trO ep kd e (L ++ [x]) = trO ep kd e L ∧ trE ep kd e (L ++ [x]) = trE ep kd e L := by
 refine ⟨?_, ?_, ?_⟩
 ·unfold trR; rw [List.filter_append]; simp [h]
 ·unfold trO; rw [List.filter_append]; simp [h]
 ·unfold trE; rw [List.filter_append]; simp [h]
theorem tr_past (h : ep x = e) (hE : trE ep kd e L = true) : trR ep e (L ++ [x]) = trR ep e L ∧ trO ep kd e (L ++ [x]) = trO ep kd e L ∧ trE ep kd e (L ++ [x]) = true := by
 have hf : ([x].filter fun x => decide (ep x = e)) = [x] := by simp [h]
 refine ⟨?_, ?_, ?_⟩
 ·unfold trR; rw [List.filter_append]; simp [h]
 ·unfold trO; rw [List.filter_append, hf, takeWhile_snoc]
  unfold trE at hE
  rw [if_pos]
  simpa using hE
 ·unfold trE at *; rw [List.filter_append, List.any_append, hE]; rfl
theorem tr_end (h : ep x = e) (hE : trE ep kd e L = false) (h3 : kd x = 3) : trR ep e (L ++ [x]) = trR ep e L ∧ trO ep kd e (L ++ [x]) = trO ep kd e L ∧ trE ep kd e (L ++ [x]) = true := by
 have hf : ([x].filter fun x => decide (ep x = e)) = [x] := by simp [h]
 refine ⟨?_, ?_, ?_⟩
 ·unfold trR; rw [List.filter_append]; simp [h]
 ·unfold trO; rw [List.filter_append, hf, takeWhile_snoc]
  unfold trE at hE
  have hE2 : ((L.filter fun x => decide (ep x = e)).any fun y => !(!decide (kd y = 3))) = false := by simpa using hE
  rw [if_neg (by rw [hE2]; simp)]
  have : (L.filter fun x => decide (ep x = e)).takeWhile (fun x => !decide (kd x = 3)) = L.filter fun x => decide (ep x = e) := by
   refine takeWhile_all fun y hy => ?_
   have := List.any_eq_false.1 hE y hy
   simpa using this
  rw [this]; simp [h3]
 ·unfold trE; rw [List.filter_append, List.any_append, hf]; simp [h3]
theorem tr_pass (h : ep x = e) (hE : trE ep kd e L = false) (h3 : ¬ kd x = 3) : trR ep e (L ++ [x]) = trR ep e L ∧ trO ep kd e (L ++ [x]) = trO ep kd e L ++ [x] ∧ trE ep kd e (L ++ [x]) = false := by
 have hf : ([x].filter fun x => decide (ep x = e)) = [x] := by simp [h]
 refine ⟨?_, ?_, ?_⟩
 ·unfold trR; rw [List.filter_append]; simp [h]
 ·unfold trO; rw [List.filter_append, hf, takeWhile_snoc]
  unfold trE at hE
  have hE2 : ((L.filter fun x => decide (ep x = e)).any fun y => !(!decide (kd y = 3))) = false := by simpa using hE
  rw [if_neg (by rw [hE2]; simp)]
  have : (L.filter fun x => decide (ep x = e)).takeWhile (fun x => !decide (kd x = 3)) = L.filter fun x => decide (ep x = e) := by
   refine takeWhile_all fun y hy => ?_
   have := List.any_eq_false.1 hE y hy
   simpa using this
  rw [this]; simp [h3]
 ·unfold trE at *; rw [List.filter_append, List.any_append, hE, hf]; simp [h3]
theorem trR_len : (trR ep e L).length ≤ L.length := List.length_filter_le _ _
theorem trO_len : (trO ep kd e L).length ≤ L.length := Nat.le_trans (List.takeWhile_sublist _).length_le (List.length_filter_le _ _)
theorem trR_lt (h : trE ep kd e L = true) : (trR ep e L).length < L.length := by
 unfold trE at h
 obtain ⟨y, hy, _⟩ := List.any_eq_true.1 h
 obtain ⟨hy, he⟩ := List.mem_filter.1 hy
 unfold trR
 refine List.length_filter_lt_length_iff_exists.2 ⟨y, hy, ?_⟩
 simpa using he
theorem trR_mem (h : x ∈ trR ep e L) : x ∈ L ∧ ¬ ep x = e := by
 obtain ⟨a, b⟩ := List.mem_filter.1 h
 exact ⟨a, by simpa using b⟩
theorem trO_mem (h : x ∈ trO ep kd e L) : x ∈ L := (List.mem_filter.1 ((List.takeWhile_sublist _).subset h)).1
def goG (ep kd : α → Int) : Nat → Int → List α → List α × Int × List α
 | 0, e, L => ([], e, L)
 | n + 1, e, L => if trE ep kd (e + 1) L = true then (trO ep kd (e + 1) L ++ (goG ep kd n (e + 1) (trR ep (e + 1) L)).1, (goG ep kd n (e + 1) (trR ep (e + 1) L)).2) else (trO ep kd (e + 1) L, e + 1, trR ep (e + 1) L)
theorem goG_yes {n : Nat} (h : trE ep kd (e + 1) L = true) : goG ep kd (n + 1) e L = (trO ep kd (e + 1) L ++ (goG ep kd n (e + 1) (trR ep (e + 1) L)).1, (goG ep kd n (e + 1) (trR ep (e + 1) L)).2) := by
 rw [goG]; rw [if_pos h]
theorem goG_no {n : Nat} (h : trE ep kd (e + 1) L = false) : goG ep kd (n + 1) e L = (trO ep kd (e + 1) L, e + 1, trR ep (e + 1) L) := by
 rw [goG]; rw [if_neg (by rw [h]; simp)]
end
section
variable {α : Type} {ep kd : α → Int} {e : Int} {L : List α}
theorem tr_two : ∀ L : List α, (L.filter fun x => decide (ep x = e)).length + (trR ep e L).length = L.length
 | [] => rfl
 | y :: L => by
  have ih := tr_two L
  unfold trR at *
  simp only [List.filter_cons, List.length_cons]
  by_cases hy : ep y = e
  ·simp [hy]; omega
  ·simp [hy]; omega
theorem tr_sum : (trO ep kd e L).length + (trR ep e L).length ≤ L.length := by
 have h1 : (trO ep kd e L).length ≤ (L.filter fun x => decide (ep x = e)).length := (List.takeWhile_sublist _).length_le
 have h2 := tr_two (ep := ep) (e := e) L
 omega
def goS (ep kd : α → Int) (G : List α × Int × List α) (b : Bool) (n : Nat) (O : List α) (e : Int) (L : List α) : Prop :=
 if b = true then G = (O ++ (goG ep kd n e L).1, (goG ep kd n e L).2) ∧ L.length < n ∧ e + L.length + 1 ≤ 4611686018427387904 else G = (O, e, L)
theorem goS_start (h : e + L.length + 1 ≤ 4611686018427387904) : goS ep kd (goG ep kd (L.length + 1) e L) true (L.length + 1) [] e L := by
 unfold goS; rw [if_pos rfl]; exact ⟨by simp, by omega, h⟩
theorem goS_step {G : List α × Int × List α} {n : Nat} {O : List α} (h : goS ep kd G true n O e L) : goS ep kd G (trE ep kd (e + 1) L) (n - 1) (O ++ trO ep kd (e + 1) L) (e + 1) (trR ep (e + 1) L) := by
 unfold goS at *
 rw [if_pos rfl] at h
 obtain ⟨h1, h2, h3⟩ := h
 obtain ⟨n, rfl⟩ : ∃ m, n = m + 1 := ⟨n - 1, by omega⟩
 cases hE : trE ep kd (e + 1) L with
 | true =>
  rw [if_pos rfl]
  rw [goG_yes hE] at h1
  have := trR_lt hE
  refine ⟨by rw [h1]; simp [List.append_assoc], by omega, by omega⟩
 | false =>
  rw [if_neg (by simp)]
  rw [goG_no hE] at h1
  exact h1
theorem goS_done {G : List α × Int × List α} {n : Nat} {O : List α} (h : goS ep kd G false n O e L) : G = (O, e, L) := by
 unfold goS at h; rw [if_neg (by simp)] at h; exact h
theorem goS_n {G : List α × Int × List α} {n : Nat} {O : List α} (h : goS ep kd G true n O e L) : L.length < n ∧ e + L.length + 1 ≤ 4611686018427387904 := by
 unfold goS at h; rw [if_pos rfl] at h; exact h.2
end
abbrev epD (x : ItemD) : Int := x.ep.v
abbrev kdD (x : ItemD) : Int := x.kind.v
abbrev epV (x : ItemV) : Int := x.ep.v
abbrev kdV (x : ItemV) : Int := x.kind.v
section
variable {β γ : Type} {f : β → γ} {ep' kd' : γ → Int} (e : Int) (L : List β)
theorem trR_map : (trR (fun x => ep' (f x)) e L).map f = trR ep' e (L.map f) := by unfold trR; rw [List.filter_map]; rfl
theorem trO_map : (trO (fun x => ep' (f x)) (fun x => kd' (f x)) e L).map f = trO ep' kd' e (L.map f) := by unfold trO; rw [List.filter_map, List.takeWhile_map]; rfl
theorem trE_map : trE (fun x => ep' (f x)) (fun x => kd' (f x)) e L = trE ep' kd' e (L.map f) := by unfold trE; rw [List.filter_map, List.any_map]; rfl
end
theorem goG_map {β γ : Type} {f : β → γ} {ep' kd' : γ → Int} : ∀ (n : Nat) (e : Int) (L : List β), (goG (fun x => ep' (f x)) (fun x => kd' (f x)) n e L).1.map f = (goG ep' kd' n e (L.map f)).1 ∧ (goG (fun x => ep' (f x)) (fun x => kd' (f x)) n e L).2.1 = (goG ep' kd' n e (L.map f)).2.1 ∧ (goG (fun x => ep' (f x)) (fun x => kd' (f x)) n e L).2.2.map f = (goG ep' kd' n e (L.map f)).2.2
 | 0, e, L => ⟨rfl, rfl, rfl⟩
 | n + 1, e, L => by
  have hE := trE_map (f := f) (ep' := ep') (kd' := kd') (e + 1) L
  have hR := trR_map (f := f) (ep' := ep') (e + 1) L
  have hO := trO_map (f := f) (ep' := ep') (kd' := kd') (e + 1) L
  cases h : trE (fun x => ep' (f x)) (fun x => kd' (f x)) (e + 1) L with
  | false => rw [goG_no h, goG_no (by rw [← hE]; exact h)]; exact ⟨hO, rfl, hR⟩
  | true =>
   rw [goG_yes h, goG_yes (by rw [← hE]; exact h)]
   obtain ⟨h1, h2, h3⟩ := goG_map (f := f) (ep' := ep') (kd' := kd') n (e + 1) (trR (fun x => ep' (f x)) (e + 1) L)
   rw [hR] at h1 h2 h3
   exact ⟨by rw [List.map_append, hO, h1], h2, h3⟩
open Classical in
noncomputable def gkE (e : Int) (n : Nat) (x : ItemD) : Int := if ¬ itE x = 0 then itE x else if x.ep.v < e then 240 else if e < x.ep.v ∧ 4096 ≤ n then 6 else 0
def gkR (e : Int) (L : List ItemV) (x : ItemV) : List ItemV × Int × List ItemV := if e < x.ep.v then ([], e, L ++ [x]) else if ¬ x.kind.v = 3 then ([x], e, L) else goG epV kdV (L.length + 1) e L
def gkV (c : Int) (e : Int) (L : List ItemV) (x : ItemV) : List ItemV × Int × List ItemV := if c = 0 then gkR e L x else ([], e, L)
section
variable {e : Int} {n : Nat} {x y : ItemD} {L : List ItemD} {c : Int}
theorem gkE_it (h : ¬ itE x = 0) : gkE e n x = itE x := by unfold gkE; rw [if_pos h]
theorem gkE_old (h : itE x = 0) (h2 : x.ep.v < e) : gkE e n x = 240 := by unfold gkE; rw [if_neg (by simpa using h), if_pos h2]
theorem gkE_full (h : itE x = 0) (h2 : e < x.ep.v) (h3 : 4096 ≤ n) : gkE e n x = 6 := by unfold gkE; rw [if_neg (by simpa using h), if_neg (by omega), if_pos ⟨h2, h3⟩]
theorem gkE_ok (h : itE x = 0) (h2 : ¬ x.ep.v < e) (h3 : ¬ (e < x.ep.v ∧ 4096 ≤ n)) : gkE e n x = 0 := by unfold gkE; rw [if_neg (by simpa using h), if_neg h2, if_neg h3]
theorem gk_no (h : ¬ c = 0) : (gkV c e (L.map ItemD.v) x.v) = ([], e, L.map ItemD.v) := if_neg h
theorem gk_wait (h : c = 0) (h2 : e < x.ep.v) (hy : y.v = x.v) : (gkV c e (L.map ItemD.v) x.v) = ([], e, (L ++ [y]).map ItemD.v) := by
 unfold gkV; rw [if_pos h]; unfold gkR; rw [if_pos (show e < x.v.ep.v from h2), List.map_append, List.map_singleton, hy]
theorem gk_now (h : c = 0) (h2 : ¬ e < x.ep.v) (h3 : ¬ x.kind.v = 3) (hy : y.v = x.v) : (gkV c e (L.map ItemD.v) x.v) = ([y].map ItemD.v, e, L.map ItemD.v) := by
 unfold gkV; rw [if_pos h]; unfold gkR; rw [if_neg (show ¬ e < x.v.ep.v from h2), if_pos (show ¬ x.v.kind.v = 3 from h3), List.map_singleton, hy]
theorem gk_end {O L2 : List ItemD} {e2 : Int} (h : c = 0) (h2 : ¬ e < x.ep.v) (h3 : x.kind.v = 3) (hG : goG epD kdD (L.length + 1) e L = (O, e2, L2)) : (gkV c e (L.map ItemD.v) x.v) = (O.map ItemD.v, e2, L2.map ItemD.v) := by
 unfold gkV; rw [if_pos h]; unfold gkR; rw [if_neg (show ¬ e < x.v.ep.v from h2), if_neg (by simpa using (show x.v.kind.v = 3 from h3))]
 obtain ⟨a, b, d⟩ := goG_map (f := ItemD.v) (ep' := epV) (kd' := kdV) (L.length + 1) e L
 have hG' : goG (fun x : ItemD => epV x.v) (fun x => kdV x.v) (L.length + 1) e L = (O, e2, L2) := hG
 rw [hG'] at a b d
 rw [List.length_map]
 exact Prod.ext a.symm (Prod.ext b.symm d.symm)
end
end Sl
