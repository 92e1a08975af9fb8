/- Two ends: what has come is a beginning of what was given. No condition. -/
import Derived.Test.YthggoibbkloefaaSlEA
namespace Sl
open _root_.Go _root_.Go.RowKit
set_option linter.all false
set_option linter.unusedSimpArgs false
/-- The first u bodies are sent, and no other. -/
def Pre (s : EndV) (u : Nat) : Prop := u ≤ s.l.length ∧ u ≤ s.slide ∧ ∀ i, i < s.l.length → (s.l.getD i default).sent = decide (i < u)
theorem Pre.under {s : EndV} {u : Nat} (h : Pre s u) : under s = u := by
  refine under_eq (fun j hj => ?_) h.1 (fun hl => ?_)
  · rw [h.2.2 j (Nat.lt_of_lt_of_le hj h.1)]; exact decide_eq_true hj
  · rw [h.2.2 u hl]; exact decide_eq_false (Nat.lt_irrefl u)
theorem Pre.le_win {s : EndV} {u : Nat} (h : Pre s u) : u ≤ winN s := Nat.le_min.2 ⟨h.2.1, h.1⟩
theorem Pre.out {s : EndV} {u : Nat} (h : Pre s u) : Pre (outS s) (winN s) := by
  have hl : (outS s).l.length = s.l.length := goL_len _ _ _ _
  refine ⟨by rw [hl]; exact Nat.min_le_right _ _, Nat.min_le_left _ _, fun i hi => ?_⟩
  rw [hl] at hi
  show ((goL ns s.clock s.l (winN s)).getD i default).sent = _
  rw [goL_at]
  have h1 := h.2.2 i hi
  have h2 := h.le_win
  by_cases hw : i < winN s
  · rw [decide_eq_true hw]
    split
    · rfl
    · rename_i hc
      rw [h1]
      by_cases hu : i < u
      · exact decide_eq_true hu
      · exfalso
        rw [decide_eq_false hu] at h1
        exact hc ⟨hw, hi, by unfold ns; rw [h1]; rfl⟩
  · rw [decide_eq_false hw, if_neg (fun e => hw e.1), h1]
    exact decide_eq_false (by omega)
theorem Pre.th {q : BodV → Bool} {s : EndV} {u : Nat} (hq : ∀ x, q x = true → x.sent = true) (h : Pre s u) : Pre (thS q s) u := by
  have hl : (thS q s).l.length = s.l.length := goL_len _ _ _ _
  refine ⟨by rw [hl]; exact h.1, h.2.1, fun i hi => ?_⟩
  rw [hl] at hi
  show ((goL q s.clock s.l (winN s)).getD i default).sent = _
  rw [goL_at]
  have h1 := h.2.2 i hi
  split
  · rename_i hc
    rw [← h1, hq _ hc.2.2]; rfl
  · exact h1
theorem rs_sent {t : Nat} (x : BodV) (h : rs t x = true) : x.sent = true := by
  unfold rs at h
  rw [Bool.and_eq_true] at h
  exact h.1
theorem goL_b (q : BodV → Bool) (t : Nat) (l : List BodV) : ∀ k, (goL q t l k).map BodV.b = l.map BodV.b
  | 0 => rfl
  | k + 1 => by
    have ih := goL_b q t l k
    unfold goL
    split
    · apply List.ext_getElem?
      intro j
      rw [List.getElem?_map, List.getElem?_set]
      have ih2 : ((goL q t l k).map BodV.b)[j]? = (l.map BodV.b)[j]? := by rw [ih]
      rw [List.getElem?_map] at ih2
      by_cases hj : k = j
      · rw [if_pos hj]
        subst hj
        split
        · rename_i hk
          rw [goL_len] at hk
          rw [List.getElem?_map, List.getElem?_eq_getElem hk, List.getD_eq_getElem?_getD, List.getElem?_eq_getElem hk]; rfl
        · rename_i hk
          rw [← ih2, List.getElem?_eq_none (by omega)]
      · rw [if_neg hj]; exact ih2
    · exact ih
theorem goT_mem {q : BodV → Bool} {s : EndV} {d : DgM} : ∀ {k}, d ∈ goT q s k → ∃ i, i < k ∧ q (s.l.getD i default) = true ∧ d = dgOf s i (s.l.getD i default).b
  | 0, h => by cases h
  | k + 1, h => by
    rw [goT, List.mem_append] at h
    rcases h with h | h
    · obtain ⟨i, h1, h2⟩ := goT_mem h
      exact ⟨i, by omega, h2⟩
    · split at h
      · rw [List.mem_singleton] at h
        exact ⟨k, by omega, by assumption, h⟩
      · cases h
theorem goT_in {q : BodV → Bool} {s : EndV} {i : Nat} (hq : q (s.l.getD i default) = true) : ∀ {k}, i < k → dgOf s i (s.l.getD i default).b ∈ goT q s k
  | k + 1, h => by
    rw [goT, List.mem_append]
    by_cases hk : i = k
    · subst hk
      right; rw [if_pos hq]; exact List.mem_singleton.2 rfl
    · left; exact goT_in hq (by omega)
/-- A datagram that an end may have told. -/
def TOk (s : EndV) (G : List (List UInt8)) (d : DgM) : Prop := d.frm.v = s.frm.v ∧ d.to_.v = s.to_.v ∧ 0 ≤ d.ack.v ∧ d.ack.v ≤ (s.came : Int) ∧ ((d.kind.v = 1 ∧ 0 ≤ d.seq.v ∧ d.seq.v < ((s.acked + under s : Nat) : Int) ∧ d.body = G.getD d.seq.v.toNat []) ∨ (d.kind.v = 2 ∧ d.seq.v = 0 ∧ d.body = []))
structure Dir (s r : EndV) (G C : List (List UInt8)) : Prop where
  pre : Pre s (under s)
  le : s.acked ≤ G.length
  bod : s.l.map BodV.b = G.drop s.acked
  ack : s.acked ≤ r.came
  came : r.came ≤ s.acked + under s
  C : C = G.take r.came
  nd : (r.held.map (·.1)).Nodup
  held : ∀ x ∈ r.held, (r.came : Int) < x.1.v ∧ x.1.v < ((s.acked + under s : Nat) : Int) ∧ x.2 = G.getD x.1.v.toNat []
  small : ∀ b ∈ G, b.length ≤ 16384
  tms : ∀ i, i < s.l.length → (s.l.getD i default).tm ≤ s.clock
theorem Dir.len {s r G C} (h : Dir s r G C) : s.acked + s.l.length = G.length := by
  have h1 := congrArg List.length h.bod
  rw [List.length_map, List.length_drop] at h1
  have := h.le
  omega
theorem Dir.under_le {s r G C} (h : Dir s r G C) : s.acked + under s ≤ G.length := by
  have h1 := h.len
  have h2 := Sl.under_le s
  omega
theorem Dir.recv {s r r' G C} (h : Dir s r G C) (h1 : r'.came = r.came) (h2 : r'.held = r.held) : Dir s r' G C :=
  ⟨h.pre, h.le, h.bod, by rw [h1]; exact h.ack, by rw [h1]; exact h.came, by rw [h1]; exact h.C, by rw [h2]; exact h.nd, by rw [h1, h2]; exact h.held, h.small, h.tms⟩
theorem bodG {s : EndV} {G : List (List UInt8)} (h : s.l.map BodV.b = G.drop s.acked) (i : Nat) : (s.l.getD i default).b = G.getD (s.acked + i) [] := by
  have h1 : (s.l.map BodV.b)[i]? = (G.drop s.acked)[i]? := by rw [h]
  rw [List.getElem?_map, List.getElem?_drop] at h1
  rw [List.getD_eq_getElem?_getD, List.getD_eq_getElem?_getD, ← h1]
  cases s.l[i]? <;> rfl
theorem Dir.tick1 {s r G C} (h : Dir s r G C) : Dir (tick1 s) r G C :=
  ⟨h.pre, h.le, h.bod, h.ack, h.came, h.C, h.nd, h.held, h.small, fun i hi => Nat.le_succ_of_le (h.tms i hi)⟩
theorem goL_tm {q : BodV → Bool} {s : EndV} (h : ∀ i, i < s.l.length → (s.l.getD i default).tm ≤ s.clock) (k i : Nat) (hi : i < s.l.length) : ((goL q s.clock s.l k).getD i default).tm ≤ s.clock := by
  rw [goL_at]
  split
  · exact Nat.le_refl _
  · exact h i hi
theorem Dir.th {q : BodV → Bool} {s r G C} (hq : ∀ x, q x = true → x.sent = true) (h : Dir s r G C) : Dir (thS q s) r G C ∧ under (thS q s) = under s := by
  have hp := h.pre.th hq
  have hu := hp.under
  refine ⟨⟨by rw [hu]; exact hp, h.le, (goL_b q s.clock s.l (winN s)).trans h.bod, h.ack, by rw [hu]; exact h.came, h.C, h.nd, by rw [hu]; exact h.held, h.small, fun i hi => ?_⟩, hu⟩
  have hl : (thS q s).l.length = s.l.length := goL_len _ _ _ _
  exact goL_tm h.tms _ i (by rw [hl] at hi; exact hi)
theorem Dir.out {s r G C} (h : Dir s r G C) : Dir (outS s) r G C ∧ under (outS s) = winN s := by
  have hp := h.pre.out
  have hu := hp.under
  have hw := h.pre.le_win
  have hc := h.came
  refine ⟨⟨by rw [hu]; exact hp, h.le, (goL_b ns s.clock s.l (winN s)).trans h.bod, h.ack, by rw [hu]; show r.came ≤ s.acked + winN s; omega, h.C, h.nd, fun x hx => ?_, h.small, fun i hi => ?_⟩, hu⟩
  · have h1 := h.held x hx
    refine ⟨h1.1, ?_, h1.2.2⟩
    rw [hu]; show x.1.v < ((s.acked + winN s : Nat) : Int)
    have := h1.2.1
    omega
  · have hl : (outS s).l.length = s.l.length := goL_len _ _ _ _
    exact goL_tm h.tms _ i (by rw [hl] at hi; exact hi)
theorem TOk.mono {s s' G d} (h : TOk s G d) (hf : s'.frm = s.frm) (ht : s'.to_ = s.to_) (hc : s.came ≤ s'.came) (hu : s.acked + under s ≤ s'.acked + under s') : TOk s' G d := by
  obtain ⟨h1, h2, h3, h4, h5⟩ := h
  refine ⟨by rw [hf]; exact h1, by rw [ht]; exact h2, h3, by omega, h5.imp (fun e => ⟨e.1, e.2.1, by have := e.2.2.1; omega, e.2.2.2⟩) id⟩
theorem TOk.grow {s G d b} (h : TOk s G d) (hu : s.acked + under s ≤ G.length) : TOk s (G ++ [b]) d := by
  obtain ⟨h1, h2, h3, h4, h5⟩ := h
  refine ⟨h1, h2, h3, h4, h5.imp (fun e => ⟨e.1, e.2.1, e.2.2.1, ?_⟩) id⟩
  rw [e.2.2.2, List.getD_eq_getElem?_getD, List.getD_eq_getElem?_getD, List.getElem?_append_left (by have := e.2.2.1; have := e.2.1; omega)]
theorem dg_tok {s r G C i} (h : Dir s r G C) (hk : endOk s) (hi : i < under s) : TOk s G (dgOf s i (s.l.getD i default).b) := by
  have h1 := Sl.under_le s
  have h2 : (i64N (s.acked + i)).v = ((s.acked + i : Nat) : Int) := i64N_v (by have := hk.2.2.1; omega)
  have h3 : (i64N s.came).v = (s.came : Int) := i64N_v (by have := hk.2.2.2.1; omega)
  refine ⟨rfl, rfl, ?_, ?_, .inl ⟨rfl, ?_, ?_, ?_⟩⟩
  · show 0 ≤ (i64N s.came).v; omega
  · show (i64N s.came).v ≤ _; omega
  · show 0 ≤ (i64N (s.acked + i)).v; omega
  · show (i64N (s.acked + i)).v < _; omega
  · show (s.l.getD i default).b = G.getD (i64N (s.acked + i)).v.toNat []
    rw [h2, bodG h.bod]; rfl
theorem ack_tok {s G} (hk : endOk s) : TOk s G (ackOf s) := by
  have h3 : (i64N s.came).v = (s.came : Int) := i64N_v (by have := hk.2.2.2.1; omega)
  refine ⟨rfl, rfl, ?_, ?_, .inr ⟨rfl, rfl, rfl⟩⟩
  · show 0 ≤ (i64N s.came).v; omega
  · show (i64N s.came).v ≤ _; omega
/-- What goes by Out may be told. -/
theorem out_tok {s r G C} (h : Dir s r G C) (hk : endOk s) : ∀ d ∈ outT s, TOk (outS s) G d := by
  intro d hd
  have hu := h.out.2
  have hw := h.pre.le_win
  unfold outT at hd
  split at hd
  · rw [List.mem_singleton] at hd
    subst hd
    exact (ack_tok (G := G) hk).mono rfl rfl (Nat.le_refl _) (by rw [hu]; show _ ≤ s.acked + winN s; omega)
  · obtain ⟨i, hi, hq, rfl⟩ := goT_mem hd
    have h1 := dg_tok (s := outS s) (i := i) h.out.1 (endOk_out hk) (by rw [hu]; exact hi)
    have h2 : dgOf (outS s) i ((outS s).l.getD i default).b = dgOf s i (s.l.getD i default).b := by
      rw [bodG h.out.1.bod, bodG h.bod]; rfl
    rwa [h2] at h1
theorem th_tok {q : BodV → Bool} {s r G C} (hq : ∀ x, q x = true → x.sent = true) (h : Dir s r G C) (hk : endOk s) : ∀ d ∈ thT q s, TOk s G d := by
  intro d hd
  obtain ⟨i, hi, hqi, rfl⟩ := goT_mem hd
  refine dg_tok h hk ?_
  have h1 := hq _ hqi
  have hl : i < s.l.length := Nat.lt_of_lt_of_le hi (Nat.min_le_right _ _)
  rw [h.pre.2.2 i hl] at h1
  exact of_decide_eq_true h1
theorem Dir.tick {s r G C} (h : Dir s r G C) : Dir (tickS s) r G C ∧ s.acked + under s ≤ (tickS s).acked + under (tickS s) := by
  have h1 := h.tick1.th (q := rs (s.clock + 1)) rs_sent
  have h2 := h1.1.out
  refine ⟨h2.1, ?_⟩
  have h3 := h1.1.pre.le_win
  show s.acked + under s ≤ s.acked + under (outS (thS (rs (s.clock + 1)) (Sl.tick1 s)))
  rw [h2.2]
  have h4 : under (thS (rs (s.clock + 1)) (Sl.tick1 s)) = under s := h1.2
  omega
theorem tick_tok {s r G C} (h : Dir s r G C) (hk : endOk s) (hc : s.clock + 1 ≤ 4611686018427387904) : ∀ d ∈ tickT s, TOk (tickS s) G d := by
  intro d hd
  have hk1 := endOk_tick1 hk hc
  have h1 := h.tick1.th (q := rs (s.clock + 1)) rs_sent
  rcases List.mem_append.1 hd with hd | hd
  · have h2 := th_tok rs_sent h.tick1 hk1 d hd
    exact h2.mono rfl rfl (Nat.le_refl _) h.tick.2
  · exact out_tok h1.1 (endOk_th hk1) d hd
theorem Dir.send {s r G C b} (h : Dir s r G C) (hE : sendE s b = 0) : Dir (sendS s b) r (G ++ [b]) C ∧ under (sendS s b) = under s := by
  have hb : b.length ≤ 16384 := by
    by_cases hc : b.length ≤ 16384
    · exact hc
    · rw [sendE_3 (.inl (by omega))] at hE; cases hE
  rw [sendS_yes hE]
  have hp : Pre { s with l := s.l ++ [⟨b, false, 0⟩] } (under s) := by
    refine ⟨?_, h.pre.2.1, fun i hi => ?_⟩
    · show under s ≤ (s.l ++ [_]).length
      rw [List.length_append]
      have := h.pre.1
      omega
    · show ((s.l ++ [_]).getD i default).sent = _
      rw [getD_app hi]
      split
      · exact h.pre.2.2 i (by assumption)
      · exact (decide_eq_false (by have := h.pre.1; omega)).symm
  have hu := hp.under
  have hul := h.under_le
  have hcm := h.came
  have hgrow : ∀ {j : Nat}, j < G.length → (G ++ [b]).getD j [] = G.getD j [] := fun hj => by
    rw [List.getD_eq_getElem?_getD, List.getD_eq_getElem?_getD, List.getElem?_append_left hj]
  refine ⟨⟨by rw [hu]; exact hp, by rw [List.length_append]; exact Nat.le_add_right_of_le h.le, ?_, h.ack, by rw [hu]; exact h.came, ?_, h.nd, fun x hx => ?_, fun x hx => ?_, fun i hi => ?_⟩, hu⟩
  · show (s.l ++ [_]).map BodV.b = (G ++ [b]).drop s.acked
    rw [List.map_append, h.bod, List.drop_append_of_le_length h.le]; rfl
  · rw [List.take_append_of_le_length (by omega)]; exact h.C
  · obtain ⟨h1, h2, h3⟩ := h.held x hx
    refine ⟨h1, by rw [hu]; exact h2, ?_⟩
    rw [h3, hgrow (by omega)]
  · rcases List.mem_append.1 hx with hx | hx
    · exact h.small x hx
    · rw [List.mem_singleton] at hx; subst hx; exact hb
  · show ((s.l ++ [_]).getD i default).tm ≤ _
    rw [getD_app hi]
    split
    · exact h.tms i (by assumption)
    · exact Nat.zero_le _
/-! ## what comes -/
theorem keys_ne {L : List (I64 × List UInt8)} {k : I64} (hn : (L.map (·.1)).Nodup) : ∀ x ∈ adel L k, x.1 ≠ k := by
  intro x hx he
  unfold adel at hx
  by_cases hk : kidx L k < L.length
  · have h1 := kidx_at hk
    obtain ⟨j, hj, hjx⟩ := List.mem_iff_getElem.1 hx
    rw [List.getElem_eraseIdx] at hjx
    have hinj : ∀ {a b : Nat} (ha : a < L.length) (hb : b < L.length), (L[a]).1 = (L[b]).1 → a = b := fun {a b} ha hb e => by
      have := (List.getElem_inj (h₀ := by rw [List.length_map]; exact ha) (h₁ := by rw [List.length_map]; exact hb) hn).1 (by rw [List.getElem_map, List.getElem_map]; exact e)
      exact this
    rw [List.length_eraseIdx, if_pos hk] at hj
    split at hjx
    · rename_i hlt
      have := hinj (a := j) (b := kidx L k) (by omega) hk (by rw [hjx, he, h1])
      omega
    · rename_i hlt
      have := hinj (a := j + 1) (b := kidx L k) (by omega) hk (by rw [hjx, he, h1])
      omega
  · rw [List.eraseIdx_of_length_le (by omega)] at hx
    have hf : ahas L k = false := by rw [kidx_has]; exact decide_eq_false hk
    have : ahas L k = true := by
      unfold ahas
      rw [List.any_eq_true]
      exact ⟨x, hx, decide_eq_true he⟩
    rw [hf] at this; cases this
theorem adel_nd {L : List (I64 × List UInt8)} {k : I64} (hn : (L.map (·.1)).Nodup) : ((adel L k).map (·.1)).Nodup := by
  unfold adel
  exact List.Nodup.sublist ((List.eraseIdx_sublist _ _).map _) hn
theorem aget_none_ne {L : List (I64 × List UInt8)} {k : I64} (h : aget L k = none) : ∀ x ∈ L, x.1 ≠ k := by
  intro x hx he
  have h1 : ahas L k = true := by
    unfold ahas
    rw [List.any_eq_true]
    exact ⟨x, hx, decide_eq_true he⟩
  rw [← aget_has, h] at h1; cases h1
theorem drain_is {G : List (List UInt8)} {U : Nat} (hU : U ≤ G.length) (hU2 : U ≤ 1152921504606846976) : ∀ (n c : Nat) (h : List (I64 × List UInt8)), h.length ≤ n → c ≤ U → (h.map (·.1)).Nodup → (∀ x ∈ h, (c : Int) ≤ x.1.v ∧ x.1.v < (U : Int) ∧ x.2 = G.getD x.1.v.toNat []) →
    G.take c ++ (drain n c h).1 = G.take (drain n c h).2.1 ∧ c ≤ (drain n c h).2.1 ∧ (drain n c h).2.1 ≤ U ∧ ((drain n c h).2.2.map (·.1)).Nodup ∧ ∀ x ∈ (drain n c h).2.2, ((drain n c h).2.1 : Int) < x.1.v ∧ x.1.v < (U : Int) ∧ x.2 = G.getD x.1.v.toNat [] := by
  have key : ∀ {c : Nat} {x : I64 × List UInt8}, c ≤ U → (c : Int) ≤ x.1.v → x.1 ≠ i64N c → (c : Int) < x.1.v := fun {c x} hc h1 h2 => by
    have h3 : (i64N c).v = c := i64N_v (by omega)
    by_cases h4 : x.1.v = c
    · exact absurd (I64.eq (by rw [h4, h3])) h2
    · omega
  intro n
  induction n with
  | zero =>
    intro c h hl hc hn hh
    have : h = [] := List.length_eq_zero_iff.1 (by omega)
    subst this
    exact ⟨List.append_nil _, Nat.le_refl _, hc, hn, fun x hx => by cases hx⟩
  | succ n ih =>
    intro c h hl hc hn hh
    cases hg : aget h (i64N c) with
    | none =>
      rw [drain_none hg]
      exact ⟨List.append_nil _, Nat.le_refl _, hc, hn, fun x hx => ⟨key hc (hh x hx).1 (aget_none_ne hg x hx), (hh x hx).2⟩⟩
    | some b =>
      have h1 := hh _ (aget_mem hg)
      have h2 : (i64N c).v = c := i64N_v (by omega)
      simp only [h2] at h1
      have h3 := adel_len (has_of_get hg)
      obtain ⟨r1, r2, r3, r4, r5⟩ := ih (c + 1) (adel h (i64N c)) (by omega) (by omega) (adel_nd hn) (fun x hx => by
        have h5 := hh x (adel_sub hx)
        have h6 := key hc h5.1 (keys_ne hn x hx)
        exact ⟨by omega, h5.2⟩)
      rw [drain_some hg]
      refine ⟨?_, by simp only; omega, r3, r4, r5⟩
      rw [← r1]
      have hc2 : c < G.length := by omega
      rw [List.take_succ_eq_append_getElem hc2, List.append_assoc]
      congr 1
      show b :: _ = [G[c]] ++ _
      have h7 : b = G[c] := by
        rw [h1.2.2, List.getD_eq_getElem?_getD]
        show (G[((c : Nat) : Int).toNat]?).getD [] = _
        rw [Int.toNat_natCast, List.getElem?_eq_getElem hc2]; rfl
      rw [h7]; rfl
/-- A datagram that the other end told is taken. -/
theorem take_ok {s r G C G' C' d} (h : Dir s r G C) (h' : Dir r s G' C') (hs : endOk s) (hr : endOk r) (hf : brB s.frm.v = true) (ht : brB s.to_.v = true) (hft : s.frm.v ≠ s.to_.v) (e1 : r.to_ = s.frm) (e2 : r.frm = s.to_) (hsl : s.slide ≤ 64) (hd : TOk s G d) : takeE r d = 0 := by
  obtain ⟨d1, d2, d3, d4, d5⟩ := hd
  have hf2 := of_decide_eq_true hf
  have ht2 := of_decide_eq_true ht
  have hu' := h'.came
  have hl' := h'.len
  have hul' := Sl.under_le r
  have hr3 := hr.2.2.1
  have hs3 := hs.2.2.1
  have hul := Sl.under_le s
  have hcm := h.came
  have hak := h.ack
  have hus := h.pre.2.1
  have hbody : (d.body.length : Int) ≤ 16384 := by
    rcases d5 with e | e
    · rw [e.2.2.2]
      have h6 := h.under_le
      have h7 : d.seq.v.toNat < G.length := by omega
      rw [List.getD_eq_getElem?_getD, List.getElem?_eq_getElem h7]
      have := h.small _ (List.getElem_mem h7)
      simp only [Option.getD_some]; omega
    · rw [e.2.2]; decide
  refine takeE_is (dgE_0 ?_) (decide_eq_false ?_)
  · unfold dgOk
    rcases d5 with e | e
    · exact ⟨by omega, by omega, by omega, by omega, by omega, by omega, by omega, by omega, by omega, hbody, .inl e.1⟩
    · exact ⟨by omega, by omega, by omega, by omega, by omega, by omega, by omega, by omega, by omega, hbody, .inr ⟨e.1, by first | exact ⟨e.2.1, by rw [e.2.2]; rfl⟩ | (refine ⟨e.2.1, ?_⟩; rw [e.2.2]; decide)⟩⟩
  · rw [e1, e2]
    rcases d5 with e | e <;> omega
theorem Dir.acked {s r G C} {a : Int} (h : Dir r s G C) (ha : a ≤ (s.came : Int)) : Dir (ackS r a) s G C ∧ (ackS r a).acked + under (ackS r a) = r.acked + under r := by
  by_cases hc : (r.acked : Int) < a
  · have e : ackS r a = { r with l := r.l.drop (a.toNat - r.acked), acked := a.toNat } := if_pos hc
    rw [e]
    have hcm := h.came
    have hlen := h.len
    have hul := Sl.under_le r
    have hp : Pre { r with l := r.l.drop (a.toNat - r.acked), acked := a.toNat } (under r - (a.toNat - r.acked)) := by
      refine ⟨?_, ?_, fun i hi => ?_⟩
      · show _ ≤ (r.l.drop _).length
        rw [List.length_drop]; omega
      · show _ ≤ r.slide
        have := h.pre.2.1
        omega
      · have hi2 : i < (r.l.drop (a.toNat - r.acked)).length := hi
        rw [List.length_drop] at hi2
        show ((r.l.drop _).getD i default).sent = _
        rw [getD_dropD, h.pre.2.2 _ (by omega), decide_eq_decide]
        omega
    have hu := hp.under
    have hsum : a.toNat + (under r - (a.toNat - r.acked)) = r.acked + under r := by omega
    refine ⟨⟨by rw [hu]; exact hp, ?_, ?_, ?_, ?_, h.C, h.nd, fun x hx => ?_, h.small, fun i hi => ?_⟩, by rw [hu]; exact hsum⟩
    · show a.toNat ≤ G.length; omega
    · show (r.l.drop _).map BodV.b = G.drop a.toNat
      rw [List.map_drop, h.bod, List.drop_drop]; congr 1; omega
    · show a.toNat ≤ s.came; omega
    · rw [hu]; show s.came ≤ a.toNat + _; omega
    · rw [hu]; show _ ∧ x.1.v < ((a.toNat + _ : Nat) : Int) ∧ _
      rw [hsum]; exact h.held x hx
    · have hi2 : i < (r.l.drop (a.toNat - r.acked)).length := hi
      rw [List.length_drop] at hi2
      show ((r.l.drop _).getD i default).tm ≤ r.clock
      rw [getD_dropD]
      exact h.tms _ (by omega)
  · have e : ackS r a = r := if_neg hc
    rw [e]; exact ⟨h, rfl⟩
theorem Dir.take_send {s r G C d} (h : Dir r s G C) (ha : d.ack.v ≤ (s.came : Int)) : Dir (takeS r d) s G C ∧ (takeS r d).acked + under (takeS r d) = r.acked + under r := by
  unfold takeS
  split
  · have h1 := h.acked ha
    split
    · exact ⟨⟨h1.1.pre, h1.1.le, h1.1.bod, h1.1.ack, h1.1.came, h1.1.C, h1.1.nd, h1.1.held, h1.1.small, h1.1.tms⟩, h1.2⟩
    · exact h1
  · exact ⟨h, rfl⟩
theorem ahas_mem {L : List (I64 × List UInt8)} {k : I64} (h : ahas L k = false) : k ∉ L.map (·.1) := by
  intro hm
  obtain ⟨x, hx, rfl⟩ := List.mem_map.1 hm
  have : ahas L x.1 = true := by
    unfold ahas
    rw [List.any_eq_true]
    exact ⟨x, hx, decide_eq_true rfl⟩
  rw [h] at this; cases this
/-- What it takes as a receiver. -/
theorem Dir.take_recv {s r G C d} (h : Dir s r G C) (hs : endOk s) (hd : TOk s G d) : Dir s (takeS r d) G (C ++ takeT r d) ∧ r.came ≤ (takeS r d).came := by
  by_cases h0 : takeE r d = 0
  · by_cases hk : d.kind.v = 1
    · have hseq : 0 ≤ d.seq.v ∧ d.seq.v < ((s.acked + under s : Nat) : Int) ∧ d.body = G.getD d.seq.v.toNat [] := by
        rcases hd.2.2.2.2 with e | e
        · exact e.2
        · omega
      rw [takeT_yes h0 hk, takeS_data h0 hk]
      by_cases hc : d.seq.v < (r.came : Int) ∨ ahas r.held d.seq = true
      · rw [takeC_no hc]
        refine ⟨?_, Nat.le_refl _⟩
        rw [List.append_nil]
        exact h.recv rfl rfl
      · rw [takeC_yes hc]
        have hul := h.under_le
        have hl := h.len
        have hs3 := hs.2.2.1
        have hul2 := Sl.under_le s
        obtain ⟨r1, r2, r3, r4, r5⟩ := drain_is (G := G) (U := s.acked + under s) hul (by omega) (r.held ++ [(d.seq, d.body)]).length r.came (r.held ++ [(d.seq, d.body)]) (Nat.le_refl _) h.came (by
          rw [List.map_append, List.nodup_append]
          refine ⟨h.nd, by simp, fun a ha b hb e => ?_⟩
          subst e
          have hb2 : a = d.seq := by simpa using hb
          subst hb2
          exact ahas_mem (Bool.eq_false_iff.2 fun e => hc (.inr e)) ha) (fun x hx => by
          rcases List.mem_append.1 hx with hx | hx
          · have h1 := h.held x hx
            exact ⟨by omega, h1.2⟩
          · rw [List.mem_singleton] at hx
            subst hx
            exact ⟨by show (r.came : Int) ≤ d.seq.v; omega, hseq.2⟩)
        refine ⟨⟨h.pre, h.le, h.bod, Nat.le_trans h.ack r2, r3, ?_, r4, r5, h.small, h.tms⟩, r2⟩
        rw [h.C]; exact r1
    · rw [takeT_no (fun e => hk e.2), takeS_ack h0 hk, List.append_nil]
      exact ⟨h.recv (ackS_came r _) (ackS_held r _), by rw [ackS_came]; exact Nat.le_refl _⟩
  · rw [takeT_no (fun e => h0 e.1), takeS_no h0, List.append_nil]
    exact ⟨h, Nat.le_refl _⟩
/-- How many datagrams were told: at most 192 in each step. -/
theorem tickT_len (s : EndV) (h : endOk s) (h2 : s.clock + 1 ≤ 4611686018427387904) : (tickT s).length ≤ 128 := by
  have h3 := thT_len (rs (s.clock + 1)) (tick1 s) (endOk_tick1 h h2)
  have h4 := outT_len (tick2 s) (endOk_th (endOk_tick1 h h2))
  unfold tickT
  rw [List.length_append]; omega
/-! ## two ends -/
structure PairV where
  e0 : EndV
  e1 : EndV
  g0 : List (List UInt8)
  g1 : List (List UInt8)
  c0 : List (List UInt8)
  c1 : List (List UInt8)
  t0 : List DgM
  t1 : List DgM
def swp (P : PairV) : PairV := ⟨P.e1, P.e0, P.g1, P.g0, P.c1, P.c0, P.t1, P.t0⟩
def give0 (P : PairV) (b : List UInt8) : PairV := { P with e0 := outS (sendS P.e0 b), g0 := if sendE P.e0 b = 0 then P.g0 ++ [b] else P.g0, t0 := P.t0 ++ outT (sendS P.e0 b) }
def clock0 (P : PairV) : PairV := { P with e0 := tickS P.e0, t0 := P.t0 ++ tickT P.e0 }
def go0 (P : PairV) : PairV := { P with e0 := tickS P.e0 }
def pass0 (P : PairV) (d : DgM) : PairV := { P with e1 := takeS P.e1 d, c1 := P.c1 ++ takeT P.e1 d }
/-- The first end of two that are one another's. -/
structure Half (sl n : Nat) (P : PairV) : Prop where
  d : Dir P.e0 P.e1 P.g0 P.c1
  ok : endOk P.e0
  t : ∀ x ∈ P.t0, TOk P.e0 P.g0 x
  fb : brB P.e0.frm.v = true
  ne : P.e0.frm.v ≠ P.e0.to_.v
  same : P.e1.to_ = P.e0.frm
  sl : P.e0.slide = sl
  clk : P.e0.clock ≤ n
  g : P.g0.length ≤ n
  tl : P.t0.length ≤ 192 * n
structure Inv (sl n : Nat) (P : PairV) : Prop where
  a : Half sl n P
  b : Half sl n (swp P)
theorem Inv.swp {sl n P} (h : Inv sl n P) : Inv sl n (swp P) := ⟨h.b, h.a⟩
theorem Inv.up {sl n P} (h : Inv sl n P) : Inv sl (n + 1) P :=
  ⟨⟨h.a.d, h.a.ok, h.a.t, h.a.fb, h.a.ne, h.a.same, h.a.sl, Nat.le_succ_of_le h.a.clk, Nat.le_succ_of_le h.a.g, Nat.le_trans h.a.tl (by omega)⟩, ⟨h.b.d, h.b.ok, h.b.t, h.b.fb, h.b.ne, h.b.same, h.b.sl, Nat.le_succ_of_le h.b.clk, Nat.le_succ_of_le h.b.g, Nat.le_trans h.b.tl (by omega)⟩⟩
theorem Inv.go {sl n P} (h : Inv sl n P) (hn : n < 1099511627776) : Inv sl (n + 1) (go0 P) ∧ ∀ x ∈ tickT P.e0, TOk (go0 P).e0 (go0 P).g0 x := by
  have hc : P.e0.clock + 1 ≤ 4611686018427387904 := by have := h.a.clk; omega
  have h1 := h.a.d.tick
  refine ⟨⟨⟨h1.1, endOk_tick h.a.ok hc, fun x hx => (h.a.t x hx).mono rfl rfl (Nat.le_refl _) h1.2, h.a.fb, h.a.ne, h.a.same, h.a.sl, Nat.succ_le_succ h.a.clk, Nat.le_succ_of_le h.a.g, Nat.le_trans h.a.tl (by omega)⟩, ⟨h.b.d.recv rfl rfl, h.b.ok, h.b.t, h.b.fb, h.b.ne, h.b.same, h.b.sl, Nat.le_succ_of_le h.b.clk, Nat.le_succ_of_le h.b.g, Nat.le_trans h.b.tl (by omega)⟩⟩, tick_tok h.a.d h.a.ok hc⟩
theorem Inv.clock {sl n P} (h : Inv sl n P) (hn : n < 1099511627776) : Inv sl (n + 1) (clock0 P) := by
  obtain ⟨h1, h2⟩ := h.go hn
  exact ⟨⟨h1.a.d, h1.a.ok, fun x hx => (List.mem_append.1 hx).elim (h1.a.t x) (h2 x), h1.a.fb, h1.a.ne, h1.a.same, h1.a.sl, h1.a.clk, h1.a.g, by
    have h3 := tickT_len P.e0 h.a.ok (by have := h.a.clk; omega)
    have h4 := h.a.tl
    show (P.t0 ++ tickT P.e0).length ≤ _
    rw [List.length_append]; omega⟩, ⟨h1.b.d, h1.b.ok, h1.b.t, h1.b.fb, h1.b.ne, h1.b.same, h1.b.sl, h1.b.clk, h1.b.g, h1.b.tl⟩⟩
theorem sendS_frm (s : EndV) (b : List UInt8) : (sendS s b).frm = s.frm ∧ (sendS s b).to_ = s.to_ ∧ (sendS s b).slide = s.slide ∧ (sendS s b).clock = s.clock ∧ (sendS s b).came = s.came ∧ (sendS s b).held = s.held ∧ (sendS s b).acked = s.acked := by
  unfold sendS; split <;> exact ⟨rfl, rfl, rfl, rfl, rfl, rfl, rfl⟩
theorem Inv.give {sl n P b} (h : Inv sl n P) : Inv sl (n + 1) (give0 P b) := by
  obtain ⟨f1, f2, f3, f4, f5, f6, f7⟩ := sendS_frm P.e0 b
  have hs : Dir (sendS P.e0 b) P.e1 (give0 P b).g0 P.c1 ∧ under (sendS P.e0 b) = under P.e0 ∧ ∀ x ∈ P.t0, TOk P.e0 (give0 P b).g0 x := by
    unfold give0
    by_cases hE : sendE P.e0 b = 0
    · simp only [if_pos hE]
      have h1 := h.a.d.send hE
      exact ⟨h1.1, h1.2, fun x hx => (h.a.t x hx).grow h.a.d.under_le⟩
    · simp only [if_neg hE]
      rw [sendS_no hE]
      exact ⟨h.a.d, rfl, h.a.t⟩
  have h2 := hs.1.out
  have hw := hs.1.pre.le_win
  have hk := endOk_send (b := b) h.a.ok
  have hg : (give0 P b).g0.length ≤ n + 1 := by
    have := h.a.g
    unfold give0
    simp only
    split
    · rw [List.length_append]; simp only [List.length_cons, List.length_nil]; omega
    · omega
  refine ⟨⟨h2.1, endOk_out hk, fun x hx => ?_, ?_, ?_, ?_, ?_, ?_, hg, by
    have h3 := outT_len (sendS P.e0 b) hk
    have h4 := h.a.tl
    show (P.t0 ++ outT (sendS P.e0 b)).length ≤ _
    rw [List.length_append]; omega⟩, ⟨h.b.d.recv f5 f6, h.b.ok, h.b.t, h.b.fb, h.b.ne, ?_, h.b.sl, Nat.le_succ_of_le h.b.clk, Nat.le_succ_of_le h.b.g, Nat.le_trans h.b.tl (by omega)⟩⟩
  · rcases List.mem_append.1 hx with hx | hx
    · refine (hs.2.2 x hx).mono f1 f2 (by show _ ≤ (sendS P.e0 b).came; omega) ?_
      show _ ≤ (sendS P.e0 b).acked + under (outS (sendS P.e0 b))
      rw [h2.2]
      have := hs.2.1
      omega
    · exact out_tok hs.1 hk x hx
  · show brB (sendS P.e0 b).frm.v = true
    rw [f1]; exact h.a.fb
  · show (sendS P.e0 b).frm.v ≠ (sendS P.e0 b).to_.v
    rw [f1, f2]; exact h.a.ne
  · show P.e1.to_ = (sendS P.e0 b).frm
    rw [f1]; exact h.a.same
  · show (sendS P.e0 b).slide = sl
    rw [f3]; exact h.a.sl
  · show (sendS P.e0 b).clock ≤ n + 1
    rw [f4]; exact Nat.le_succ_of_le h.a.clk
  · show (sendS P.e0 b).to_ = P.e1.frm
    rw [f2]; exact h.b.same
theorem takeS_frm (s : EndV) (d : DgM) : (takeS s d).frm = s.frm ∧ (takeS s d).to_ = s.to_ ∧ (takeS s d).slide = s.slide ∧ (takeS s d).clock = s.clock := by
  unfold takeS ackS; split <;> (try split) <;> (try split) <;> exact ⟨rfl, rfl, rfl, rfl⟩
theorem Inv.takes {sl n P d} (h : Inv sl n P) (hd : TOk P.e0 P.g0 d) : takeE P.e1 d = 0 :=
  take_ok h.a.d h.b.d h.a.ok h.b.ok h.a.fb (by rw [show P.e0.to_ = P.e1.frm from h.b.same]; exact h.b.fb) h.a.ne h.a.same (show P.e1.frm = P.e0.to_ from h.b.same.symm) (by have := h.a.ok.2.2.2.2.2.1; exact this) hd
theorem Inv.pass {sl n P d} (h : Inv sl n P) (hd : TOk P.e0 P.g0 d) : Inv sl n (pass0 P d) := by
  obtain ⟨f1, f2, f3, f4⟩ := takeS_frm P.e1 d
  have h1 := h.a.d.take_recv h.a.ok hd
  have h2 := Dir.take_send (d := d) h.b.d hd.2.2.2.1
  refine ⟨⟨h1.1, h.a.ok, h.a.t, h.a.fb, h.a.ne, f2.trans h.a.same, h.a.sl, h.a.clk, h.a.g, h.a.tl⟩, ⟨h2.1, endOk_take h.b.ok, fun x hx => (h.b.t x hx).mono f1 f2 h1.2 (Nat.le_of_eq h2.2.symm), ?_, ?_, ?_, ?_, ?_, h.b.g, h.b.tl⟩⟩
  · show brB (takeS P.e1 d).frm.v = true
    rw [f1]; exact h.b.fb
  · show (takeS P.e1 d).frm.v ≠ (takeS P.e1 d).to_.v
    rw [f1, f2]; exact h.b.ne
  · show P.e0.to_ = (takeS P.e1 d).frm
    rw [f1]; exact h.b.same
  · show (takeS P.e1 d).slide = sl
    rw [f3]; exact h.b.sl
  · show (takeS P.e1 d).clock ≤ n
    rw [f4]; exact h.b.clk
def pairN (sl : Nat) : PairV := ⟨newS (i64' 0) (i64' 1) sl, newS (i64' 1) (i64' 0) sl, [], [], [], [], [], []⟩
theorem Inv.new {sl : Nat} (h : 1 ≤ sl) (h2 : sl ≤ 64) : Inv sl 0 (pairN sl) := by
  have hd : ∀ f t f' t', Dir (newS f t sl) (newS f' t' sl) [] [] := fun f t f' t' =>
    ⟨⟨Nat.le_refl _, Nat.zero_le _, fun i hi => absurd hi (Nat.not_lt_zero i)⟩, Nat.le_refl _, rfl, Nat.le_refl _, Nat.le_refl _, rfl, List.nodup_nil, fun x hx => (by cases hx), fun x hx => (by cases hx), fun i hi => absurd hi (Nat.not_lt_zero i)⟩
  exact ⟨⟨hd _ _ _ _, endOk_new h h2, fun x hx => (by cases hx), rfl, (show (0 : Int) ≠ 1 by decide), rfl, rfl, Nat.le_refl _, Nat.le_refl _, Nat.le_refl _⟩, ⟨hd _ _ _ _, endOk_new h h2, fun x hx => (by cases hx), rfl, (show (1 : Int) ≠ 0 by decide), rfl, rfl, Nat.le_refl _, Nat.le_refl _, Nat.le_refl _⟩⟩
/-- What has come is a beginning of what was given. -/
theorem Inv.begins {sl n P} (h : Inv sl n P) : P.c1 = P.g0.take P.c1.length ∧ P.c1.length ≤ P.g0.length ∧ P.e1.came = P.c1.length ∧ under P.e0 ≤ sl := by
  have h1 := h.a.d.C
  have h2 := h.a.d.came
  have h3 := h.a.d.under_le
  have h4 : P.c1.length = P.e1.came := by rw [h1, List.length_take]; omega
  refine ⟨by rw [h4]; exact h1, by omega, h4.symm, ?_⟩
  have := h.a.d.pre.2.1
  rw [h.a.sl] at this
  exact this
end Sl
