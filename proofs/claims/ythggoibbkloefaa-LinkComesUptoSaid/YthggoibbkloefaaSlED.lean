/- Two ends: it comes. No condition. -/
import Derived.Test.YthggoibbkloefaaSlEC
namespace Sl
open _root_.Go _root_.Go.RowKit
set_option linter.all false
set_option linter.unusedSimpArgs false
/-- A body that has come, in turn or ahead of it. -/
def rec (r : EndV) (j : Nat) : Prop := j < r.came ∨ ∃ x ∈ r.held, x.1.v = (j : Int)
theorem adel_keep {L : List (I64 × List UInt8)} {k : I64} {x : I64 × List UInt8} (hx : x ∈ L) (hk : x.1 ≠ k) : x ∈ adel L k := by
  unfold adel
  obtain ⟨i, hi, rfl⟩ := List.mem_iff_getElem.1 hx
  by_cases hl : kidx L k < L.length
  · have h1 := kidx_at hl
    rw [List.mem_eraseIdx_iff_getElem]
    exact ⟨i, hi, fun e => hk (by subst e; exact h1), rfl⟩
  · rw [List.eraseIdx_of_length_le (by omega)]; exact hx
theorem drain_rec {B : Nat} (hB : B ≤ 1152921504606846976) : ∀ (n c : Nat) (h : List (I64 × List UInt8)), c ≤ B + 1 → (∀ x ∈ h, x.1.v ≤ (B : Int)) → c ≤ (drain n c h).2.1 ∧ ∀ x ∈ h, x.1.v < ((drain n c h).2.1 : Int) ∨ x ∈ (drain n c h).2.2
  | 0, c, h, hc, hh => ⟨Nat.le_refl _, fun x hx => .inr hx⟩
  | n + 1, c, h, hc, hh => by
    cases hg : aget h (i64N c) with
    | none => rw [drain_none hg]; exact ⟨Nat.le_refl _, fun x hx => .inr hx⟩
    | some b =>
      rw [drain_some hg]
      have h1 := hh _ (aget_mem hg)
      have h2 : (i64N c).v = c := i64N_v (by omega)
      simp only at h1
      have ih := drain_rec hB n (c + 1) (adel h (i64N c)) (by omega) (fun x hx => hh x (adel_sub hx))
      refine ⟨by have := ih.1; simp only; omega, fun x hx => ?_⟩
      by_cases hk : x.1 = i64N c
      · left; rw [hk, h2]; have := ih.1; simp only; omega
      · exact ih.2 x (adel_keep hx hk)
/-- What a taking leaves. -/
structure Tk (r r' : EndV) : Prop where
  acked : r.acked ≤ r'.acked
  l : r'.l = r.l.drop (r'.acked - r.acked)
  clock : r'.clock = r.clock
  slide : r'.slide = r.slide
  came : r.came ≤ r'.came
  keep : ∀ j, rec r j → rec r' j
  owes : r.owes = true → r'.owes = true
  or : (r'.came = r.came ∧ r'.owes = r.owes) ∨ r'.owes = true
theorem Tk.refl (r : EndV) : Tk r r := ⟨Nat.le_refl _, by rw [Nat.sub_self]; rfl, rfl, rfl, Nat.le_refl _, fun _ h => h, id, .inl ⟨rfl, rfl⟩⟩
theorem Tk.trans {a b c : EndV} (h : Tk a b) (k : Tk b c) : Tk a c := by
  refine ⟨Nat.le_trans h.acked k.acked, ?_, k.clock.trans h.clock, k.slide.trans h.slide, Nat.le_trans h.came k.came, fun j hj => k.keep j (h.keep j hj), fun e => k.owes (h.owes e), ?_⟩
  · rw [k.l, h.l, List.drop_drop]; congr 1; have := h.acked; have := k.acked; omega
  · rcases k.or with e | e
    · rcases h.or with f | f
      · exact .inl ⟨e.1.trans f.1, e.2.trans f.2⟩
      · exact .inr (e.2.trans f)
    · exact .inr e
theorem ackS_tk (r : EndV) (a : Int) : Tk r (ackS r a) ∧ (0 ≤ a → a ≤ ((ackS r a).acked : Int)) := by
  unfold ackS
  split
  · refine ⟨⟨by show r.acked ≤ a.toNat; omega, rfl, rfl, rfl, Nat.le_refl _, fun _ h => h, id, .inl ⟨rfl, rfl⟩⟩, fun _ => by show a ≤ ((a.toNat : Nat) : Int); omega⟩
  · exact ⟨Tk.refl r, fun _ => by omega⟩
theorem takeS_tk {r : EndV} {d : DgM} (hr : endOk r) (h0 : takeE r d = 0) : Tk r (takeS r d) ∧ d.ack.v ≤ ((takeS r d).acked : Int) ∧ (d.kind.v = 1 → rec (takeS r d) d.seq.v.toNat ∧ (takeS r d).owes = true) := by
  obtain ⟨h1, h2⟩ := takeE_0 h0
  obtain ⟨q1, q2, q3, q4, q5, q6⟩ := dgE_seq h1
  have ha := ackS_tk r d.ack.v
  by_cases hk : d.kind.v = 1
  · rw [takeS_data h0 hk]
    by_cases hc : d.seq.v < (r.came : Int) ∨ ahas r.held d.seq = true
    · rw [takeC_no hc]
      refine ⟨⟨ha.1.acked, ha.1.l, ha.1.clock, ha.1.slide, Nat.le_refl _, fun j hj => hj, fun _ => rfl, .inr rfl⟩, ha.2 q3, fun _ => ⟨?_, rfl⟩⟩
      rcases hc with hc | hc
      · left; show d.seq.v.toNat < r.came; omega
      · right
        unfold ahas at hc
        obtain ⟨x, hx, he⟩ := List.any_eq_true.1 hc
        exact ⟨x, hx, by rw [of_decide_eq_true he]; omega⟩
    · rw [takeC_yes hc]
      have hd := drain_rec (B := 1099511627776) (by decide) (r.held ++ [(d.seq, d.body)]).length r.came (r.held ++ [(d.seq, d.body)]) hr.2.2.2.1 (fun x hx => by
        rcases List.mem_append.1 hx with hx | hx
        · exact hr.2.2.2.2.2.2 x hx
        · rw [List.mem_singleton] at hx; subst hx; exact q2)
      refine ⟨⟨ha.1.acked, ha.1.l, ha.1.clock, ha.1.slide, hd.1, fun j hj => ?_, fun _ => rfl, .inr rfl⟩, ha.2 q3, fun _ => ⟨?_, rfl⟩⟩
      · rcases hj with hj | ⟨x, hx, hj⟩
        · left; exact Nat.lt_of_lt_of_le hj hd.1
        · rcases hd.2 x (List.mem_append_left _ hx) with e | e
          · exact .inl (Int.ofNat_lt.1 (by rw [← hj]; exact e))
          · exact .inr ⟨x, e, hj⟩
      · rcases hd.2 (d.seq, d.body) (List.mem_append_right _ (List.mem_singleton.2 rfl)) with e | e
        · exact .inl ((Int.toNat_lt q1).2 e)
        · right; exact ⟨_, e, by show d.seq.v = _; omega⟩
  · rw [takeS_ack h0 hk]
    exact ⟨ha.1, ha.2 q3, fun e => absurd e hk⟩
/-! ## a tick of one end, and all that it tells comes -/
def passL (P : PairV) (L : List DgM) : PairV := L.foldl pass0 P
def half0 (P : PairV) : PairV := passL (go0 P) (tickT P.e0)
theorem passL_is {sl n : Nat} : ∀ (L : List DgM) (P : PairV), Inv sl n P → (∀ d ∈ L, TOk P.e0 P.g0 d) →
    Inv sl n (passL P L) ∧ (passL P L).e0 = P.e0 ∧ (passL P L).g0 = P.g0 ∧ (passL P L).g1 = P.g1 ∧ Tk P.e1 (passL P L).e1 ∧ (∀ d ∈ L, d.ack.v ≤ ((passL P L).e1.acked : Int)) ∧ ∀ d ∈ L, d.kind.v = 1 → rec (passL P L).e1 d.seq.v.toNat ∧ (passL P L).e1.owes = true
  | [], P, hI, _ => ⟨hI, rfl, rfl, rfl, Tk.refl _, fun d hd => (by cases hd), fun d hd => (by cases hd)⟩
  | d :: L, P, hI, hT => by
    have hd := hT d (List.mem_cons_self ..)
    have h1 := hI.pass hd
    have hk := takeS_tk hI.b.ok (hI.takes hd)
    obtain ⟨r1, r2, r3, r4, r5, r6, r7⟩ := passL_is L (pass0 P d) h1 (fun x hx => hT x (List.mem_cons_of_mem _ hx))
    refine ⟨r1, r2, r3, r4, hk.1.trans r5, fun x hx => ?_, fun x hx hx1 => ?_⟩
    · rcases List.mem_cons.1 hx with rfl | hx
      · have h2 : x.ack.v ≤ ((pass0 P x).e1.acked : Int) := hk.2.1
        have h3 := r5.acked
        show x.ack.v ≤ ((passL (pass0 P x) L).e1.acked : Int)
        omega
      · exact r6 x hx
    · rcases List.mem_cons.1 hx with rfl | hx
      · have h2 := hk.2.2 hx1
        exact ⟨r5.keep _ h2.1, r5.owes h2.2⟩
      · exact r7 x hx hx1
theorem half_is {sl n P} (hI : Inv sl n P) (hn : n < 1099511627776) : Inv sl (n + 1) (half0 P) ∧ (half0 P).e0 = tickS P.e0 ∧ (half0 P).g0 = P.g0 ∧ (half0 P).g1 = P.g1 ∧ Tk P.e1 (half0 P).e1 ∧ (∀ d ∈ tickT P.e0, d.ack.v ≤ ((half0 P).e1.acked : Int)) ∧ ∀ d ∈ tickT P.e0, d.kind.v = 1 → rec (half0 P).e1 d.seq.v.toNat ∧ (half0 P).e1.owes = true := by
  obtain ⟨h1, h2⟩ := hI.go hn
  exact passL_is (tickT P.e0) (go0 P) h1 h2
/-- A body that has come, and is acked or will be by the next datagram. -/
def Done (s r : EndV) (j : Nat) : Prop := rec r j ∧ (j < r.came → j < s.acked ∨ r.owes = true)
structure Grp (a0 w0 c0 k : Nat) (s r : EndV) : Prop where
  a : a0 ≤ s.acked
  clk : s.clock = c0 + k
  tot : a0 + w0 ≤ s.acked + s.l.length
  sl : w0 ≤ s.slide
  each : ∀ j, a0 ≤ j → j < a0 + w0 → Done s r j ∨ (s.acked ≤ j ∧ (k = 0 ∨ ((s.l.getD (j - s.acked) default).sent = true ∧ (s.l.getD (j - s.acked) default).tm ≤ c0 ∧ c0 + k < (s.l.getD (j - s.acked) default).tm + 4)))
theorem Grp.start {s r : EndV} : Grp s.acked (winN s) s.clock 0 s r :=
  ⟨Nat.le_refl _, rfl, Nat.add_le_add_left (Nat.min_le_right _ _) _, Nat.min_le_left _ _, fun j hj _ => .inr ⟨hj, .inl rfl⟩⟩
theorem tickS_at {s : EndV} {i : Nat} (h : (s.l.getD i default).sent = true) (h2 : rs (s.clock + 1) (s.l.getD i default) = false) : (tickS s).l.getD i default = s.l.getD i default := by
  have h1 : (tick2 s).l.getD i default = s.l.getD i default := by
    show (goL (rs (s.clock + 1)) (s.clock + 1) s.l (winN (tick1 s))).getD i default = _
    rw [goL_at, if_neg (fun e => by rw [h2] at e; exact absurd e.2.2 (by simp))]
  show (goL ns (tick2 s).clock (tick2 s).l (winN (tick2 s))).getD i default = _
  rw [goL_at, if_neg (fun e => by have e2 := e.2.2; rw [h1] at e2; unfold ns at e2; rw [h] at e2; cases e2), h1]
theorem seq_of {s : EndV} {i : Nat} {b : List UInt8} (hk : endOk s) (hi : i < s.l.length) : (dgOf s i b).kind.v = 1 ∧ (dgOf s i b).seq.v.toNat = s.acked + i := by
  have h2 : (i64N (s.acked + i)).v = ((s.acked + i : Nat) : Int) := i64N_v (by have := hk.2.2.1; omega)
  exact ⟨rfl, by show (i64N (s.acked + i)).v.toNat = _; rw [h2]; rfl⟩
theorem Grp.s {sl n P a0 w0 c0 k} (hI : Inv sl n P) (hn : n < 1099511627776) (h : Grp a0 w0 c0 k P.e0 P.e1) : Grp a0 w0 c0 (k + 1) (half0 P).e0 (half0 P).e1 := by
  obtain ⟨h1, h2, h3, h4, h5, h6, h7⟩ := half_is hI hn
  have hlen : (tickS P.e0).l.length = P.e0.l.length := by
    show (goL _ _ _ _).length = _
    rw [goL_len]; exact goL_len _ _ _ _
  rw [h2]
  have hck : P.e0.clock + 1 ≤ 4611686018427387904 := by have := hI.a.clk; omega
  refine ⟨h.a, by show P.e0.clock + 1 = _; rw [h.clk]; omega, by rw [hlen]; exact h.tot, h.sl, fun j hj1 hj2 => ?_⟩
  have hdone : Done P.e0 P.e1 j → Done (tickS P.e0) (half0 P).e1 j := fun ⟨d1, d2⟩ => ⟨h5.keep j d1, fun hc => by
    rcases h5.or with e | e
    · rw [e.1] at hc
      rcases d2 hc with f | f
      · exact .inl f
      · exact .inr (e.2.trans f)
    · exact .inr e⟩
  have hsend : ∀ d ∈ tickT P.e0, d.kind.v = 1 → d.seq.v.toNat = j → Done (tickS P.e0) (half0 P).e1 j := fun d hd hk1 he => by
    have h8 := h7 d hd hk1
    rw [he] at h8
    exact ⟨h8.1, fun _ => .inr h8.2⟩
  rcases h.each j hj1 hj2 with hd | ⟨hj3, hk⟩
  · exact .inl (hdone hd)
  · have hi1 : j - P.e0.acked < P.e0.l.length := by have := h.tot; omega
    have hi2 : j - P.e0.acked < winN P.e0 := Nat.lt_min.2 ⟨by have := h.sl; have := h.a; omega, hi1⟩
    have hj4 : P.e0.acked + (j - P.e0.acked) = j := by omega
    by_cases hs : (P.e0.l.getD (j - P.e0.acked) default).sent = true
    · have htm : (P.e0.l.getD (j - P.e0.acked) default).tm ≤ c0 := by
        rcases hk with rfl | hk
        · have := hI.a.d.tms _ hi1
          have := h.clk
          omega
        · exact hk.2.1
      by_cases hr : rs (P.e0.clock + 1) (P.e0.l.getD (j - P.e0.acked) default) = true
      · left
        have hs2 := seq_of (b := (P.e0.l.getD (j - P.e0.acked) default).b) (endOk_tick1 hI.a.ok hck) (show _ < (tick1 P.e0).l.length from hi1)
        exact hsend _ (List.mem_append_left _ (goT_in (q := rs (P.e0.clock + 1)) (s := tick1 P.e0) hr hi2)) hs2.1 (hs2.2.trans hj4)
      · have hr2 := Bool.eq_false_iff.2 hr
        right
        refine ⟨hj3, .inr ?_⟩
        show ((tickS P.e0).l.getD (j - P.e0.acked) default).sent = true ∧ _
        rw [show (tickS P.e0).acked = P.e0.acked from rfl, tickS_at hs hr2]
        refine ⟨hs, htm, ?_⟩
        unfold rs at hr2
        rw [hs, Bool.true_and] at hr2
        have := of_decide_eq_false hr2
        have := h.clk
        omega
    · left
      have hs2 := Bool.eq_false_iff.2 hs
      have hr2 : rs (P.e0.clock + 1) (P.e0.l.getD (j - P.e0.acked) default) = false := by unfold rs; rw [hs2]; rfl
      have h8 : (tick2 P.e0).l.getD (j - P.e0.acked) default = P.e0.l.getD (j - P.e0.acked) default := by
        show (goL (rs (P.e0.clock + 1)) (P.e0.clock + 1) P.e0.l (winN (tick1 P.e0))).getD _ default = _
        rw [goL_at, if_neg (fun e => by rw [hr2] at e; exact absurd e.2.2 (by simp))]
      have hl2 : (tick2 P.e0).l.length = P.e0.l.length := goL_len _ _ _ _
      have hw2 : winN (tick2 P.e0) = winN P.e0 := by unfold winN; rw [hl2]; rfl
      have hm : dgOf (tick2 P.e0) (j - P.e0.acked) ((tick2 P.e0).l.getD (j - P.e0.acked) default).b ∈ thT ns (tick2 P.e0) := goT_in (q := ns) (s := tick2 P.e0) (by rw [h8]; unfold ns; rw [hs2]; rfl) (by rw [hw2]; exact hi2)
      have ho : outT (tick2 P.e0) = thT ns (tick2 P.e0) := by
        unfold outT
        rw [if_neg (fun e => by rw [e.1] at hm; cases hm)]
      have hs3 := seq_of (b := ((tick2 P.e0).l.getD (j - P.e0.acked) default).b) (endOk_th (q := rs (P.e0.clock + 1)) (endOk_tick1 hI.a.ok hck)) (show j - P.e0.acked < (tick2 P.e0).l.length by rw [hl2]; exact hi1)
      exact hsend _ (List.mem_append_right _ (by rw [ho]; exact hm)) hs3.1 (hs3.2.trans hj4)
/-- What it tells acks all that has come, if it owes that. -/
theorem owes_ack {s : EndV} (hk : endOk s) (h : s.owes = true) : ∃ d ∈ tickT s, d.ack.v = (s.came : Int) := by
  have h3 : (i64N s.came).v = (s.came : Int) := i64N_v (by have := hk.2.2.2.1; omega)
  have hT : ∀ {q : BodV → Bool} {e : EndV}, ∀ d ∈ thT q e, d.ack = i64N e.came := fun d hd => by
    obtain ⟨i, _, _, rfl⟩ := goT_mem hd
    rfl
  cases h1 : thT (rs (s.clock + 1)) (tick1 s) with
  | cons d l =>
    have hm : d ∈ thT (rs (s.clock + 1)) (tick1 s) := by rw [h1]; exact List.mem_cons_self ..
    exact ⟨d, List.mem_append_left _ hm, by rw [hT d hm]; exact h3⟩
  | nil =>
    have ho : (tick2 s).owes = true := by
      show (s.owes && (thT (rs (s.clock + 1)) (tick1 s)).isEmpty) = true
      rw [h, h1]; rfl
    cases h2 : thT ns (tick2 s) with
    | nil =>
      refine ⟨ackOf (tick2 s), List.mem_append_right _ ?_, h3⟩
      unfold outT
      rw [if_pos ⟨h2, ho⟩]; exact List.mem_singleton.2 rfl
    | cons d l =>
      have hm : d ∈ thT ns (tick2 s) := by rw [h2]; exact List.mem_cons_self ..
      refine ⟨d, List.mem_append_right _ ?_, by rw [hT d hm]; exact h3⟩
      unfold outT
      rw [if_neg (fun e => by rw [h2] at e; cases e.1)]; exact hm
theorem half_ack {sl n P} (hI : Inv sl n P) (hn : n < 1099511627776) (h : P.e0.owes = true) : P.e0.came ≤ (half0 P).e1.acked := by
  obtain ⟨h1, h2, h3, h4, h5, h6, h7⟩ := half_is hI hn
  obtain ⟨d, hd, he⟩ := owes_ack hI.a.ok h
  have := h6 d hd
  omega
theorem Grp.r {sl n P a0 w0 c0 k} (hI : Inv sl n P) (hn : n < 1099511627776) (h : Grp a0 w0 c0 k P.e1 P.e0) : Grp a0 w0 c0 k (half0 P).e1 (half0 P).e0 := by
  obtain ⟨h1, h2, h3, h4, h5, h6, h7⟩ := half_is hI hn
  have hlen : P.e1.acked + P.e1.l.length = (half0 P).e1.acked + (half0 P).e1.l.length := by
    have e1 : P.e1.acked + P.e1.l.length = P.g1.length := hI.b.d.len
    have e2 : (half0 P).e1.acked + (half0 P).e1.l.length = (half0 P).g1.length := h1.b.d.len
    rw [e1, e2, h4]
  rw [h2]
  have hac := h5.acked
  refine ⟨Nat.le_trans h.a hac, by rw [h5.clock]; exact h.clk, by rw [← hlen]; exact h.tot, by rw [h5.slide]; exact h.sl, fun j hj1 hj2 => ?_⟩
  have hle : (half0 P).e1.acked ≤ P.e0.came := by
    have := h1.b.d.ack
    have e : (swp (half0 P)).e1 = tickS P.e0 := h2
    rw [e] at this
    exact this
  rcases h.each j hj1 hj2 with ⟨d1, d2⟩ | ⟨hj3, hk⟩
  · left
    refine ⟨d1, fun hc => .inl ?_⟩
    have hc2 : j < P.e0.came := hc
    rcases d2 hc2 with f | f
    · omega
    · have := half_ack hI hn f
      omega
  · by_cases hja : j < (half0 P).e1.acked
    · left
      exact ⟨.inl (show j < P.e0.came by omega), fun _ => .inl hja⟩
    · right
      refine ⟨by omega, hk.imp id fun e => ?_⟩
      have he : (half0 P).e1.l.getD (j - (half0 P).e1.acked) default = P.e1.l.getD (j - P.e1.acked) default := by
        rw [h5.l, getD_dropD]; congr 1; omega
      rw [he]; exact e
theorem Grp.end {a0 w0 c0 s r G C} (h : Grp a0 w0 c0 4 s r) (hd : Dir s r G C) : a0 + w0 ≤ r.came ∧ (a0 + w0 ≤ s.acked ∨ r.owes = true) := by
  have hall : ∀ j, a0 ≤ j → j < a0 + w0 → Done s r j := fun j h1 h2 => by
    rcases h.each j h1 h2 with e | ⟨_, e | e⟩
    · exact e
    · cases e
    · omega
  have hc : a0 + w0 ≤ r.came := by
    by_cases hc : a0 + w0 ≤ r.came
    · exact hc
    · have h1 := hd.ack
      have h2 := h.a
      rcases (hall r.came (by omega) (by omega)).1 with e | ⟨x, hx, e⟩
      · omega
      · have := (hd.held x hx).1
        omega
  refine ⟨hc, ?_⟩
  by_cases hz : a0 + w0 ≤ s.acked
  · exact .inl hz
  · right
    have h2 := h.a
    rcases (hall s.acked h2 (by omega)).2 (by omega) with e | e
    · omega
    · exact e
/-! ## rounds -/
def round (P : PairV) : PairV := swp (half0 (swp (half0 P)))
theorem round_is {sl n P} (hI : Inv sl n P) (hn : n + 1 < 1099511627776) : Inv sl (n + 2) (round P) ∧ (round P).g0 = P.g0 ∧ (round P).g1 = P.g1 ∧ P.e0.acked ≤ (round P).e0.acked ∧ P.e1.acked ≤ (round P).e1.acked := by
  obtain ⟨h1, h2, h3, h4, h5, h6, h7⟩ := half_is hI (by omega)
  obtain ⟨k1, k2, k3, k4, k5, k6, k7⟩ := half_is h1.swp (by omega)
  refine ⟨k1.swp, k4.trans h3, k3.trans h4, ?_, ?_⟩
  · have e1 : (swp (half0 P)).e1 = tickS P.e0 := h2
    have := k5.acked
    rw [e1] at this
    exact this
  · have e2 : (round P).e1 = tickS (half0 P).e1 := k2
    rw [e2]; exact h5.acked
def rounds : Nat → PairV → PairV
  | 0, P => P
  | m + 1, P => round (rounds m P)
theorem rounds_is {sl n P} (hI : Inv sl n P) : ∀ m, n + 2 * m < 1099511627776 → Inv sl (n + 2 * m) (rounds m P) ∧ (rounds m P).g0 = P.g0 ∧ (rounds m P).g1 = P.g1 ∧ P.e0.acked ≤ (rounds m P).e0.acked ∧ P.e1.acked ≤ (rounds m P).e1.acked
  | 0, _ => ⟨hI, rfl, rfl, Nat.le_refl _, Nat.le_refl _⟩
  | m + 1, hm => by
    obtain ⟨h1, h2, h3, h4, h5⟩ := rounds_is hI m (by omega)
    obtain ⟨k1, k2, k3, k4, k5⟩ := round_is h1 (by omega)
    exact ⟨k1, k2.trans h2, k3.trans h3, Nat.le_trans h4 k4, Nat.le_trans h5 k5⟩
theorem rounds_add (m : Nat) : ∀ (k : Nat) (P : PairV), rounds (m + k) P = rounds k (rounds m P)
  | 0, _ => rfl
  | k + 1, P => congrArg round (rounds_add m k P)
theorem Grp.round0 {sl n P a0 w0 c0 k} (hI : Inv sl n P) (hn : n + 1 < 1099511627776) (h : Grp a0 w0 c0 k P.e0 P.e1) : Grp a0 w0 c0 (k + 1) (half0 P).e0 (half0 P).e1 ∧ Grp a0 w0 c0 (k + 1) (round P).e0 (round P).e1 := by
  have h1 := h.s hI (by omega)
  exact ⟨h1, Grp.r (P := swp (half0 P)) (half_is hI (by omega)).1.swp (by omega) h1⟩
theorem Grp.round1 {sl n P a0 w0 c0 k} (hI : Inv sl n P) (hn : n + 1 < 1099511627776) (h : Grp a0 w0 c0 k P.e1 P.e0) : Grp a0 w0 c0 (k + 1) (round P).e1 (round P).e0 :=
  Grp.s (P := swp (half0 P)) (half_is hI (by omega)).1.swp (by omega) (h.r hI (by omega))
theorem round_acks {sl n P} (hI : Inv sl n P) (hn : n + 1 < 1099511627776) : (half0 P).e0.acked ≤ (round P).e0.acked ∧ ((half0 P).e1.owes = true → (half0 P).e1.came ≤ (round P).e0.acked) ∧ (half0 P).e1.acked ≤ (round P).e1.acked := by
  have i3 := half_is hI (by omega)
  have k := half_is i3.1.swp (by omega)
  refine ⟨k.2.2.2.2.1.acked, fun h => half_ack i3.1.swp (by omega) h, ?_⟩
  have e2 : (round P).e1 = tickS (half0 P).e1 := k.2.1
  rw [e2]; exact Nat.le_refl _
theorem rounds_succ (m : Nat) (P : PairV) : rounds (m + 1) P = round (rounds m P) := rfl
theorem fin5 {sl n Q a0 w0 c0} (I3 : Inv sl n Q) (hn : n + 3 < 1099511627776) (A3 : Grp a0 w0 c0 3 Q.e0 Q.e1) : a0 + w0 ≤ (round (round Q)).e0.acked := by
  have h3 := (Grp.round0 I3 (by omega) A3).1
  have he3 := h3.end (half_is I3 (by omega)).1.a.d
  have r3 := round_acks I3 (by omega)
  have last := (round_is (round_is I3 (by omega)).1 (by omega)).2.2.2.1
  rcases he3.2 with f | f
  · exact Nat.le_trans (Nat.le_trans f r3.1) last
  · exact Nat.le_trans (Nat.le_trans he3.1 (r3.2.1 f)) last
theorem fin5b {sl n Q a0 w0 c0} (I4 : Inv sl n Q) (hn : n + 3 < 1099511627776) (B4 : Grp a0 w0 c0 4 Q.e1 Q.e0) : a0 + w0 ≤ (round Q).e1.acked := by
  have he4 := B4.end I4.b.d
  have r4 := round_acks I4 (by omega)
  have t4 := (half_is I4 (by omega)).2.2.2.2.1.acked
  rcases he4.2 with e | e
  · exact Nat.le_trans e (Nat.le_trans t4 r4.2.2)
  · exact Nat.le_trans he4.1 (Nat.le_trans (half_ack I4 (by omega) e) r4.2.2)
theorem grpA {sl n P} (hI : Inv sl n P) (hn : n + 10 < 1099511627776) : ∀ m, m ≤ 4 → Grp P.e0.acked (winN P.e0) P.e0.clock m (rounds m P).e0 (rounds m P).e1
  | 0, _ => Grp.start
  | m + 1, hm => (Grp.round0 (rounds_is hI m (by omega)).1 (by omega) (grpA hI hn m (by omega))).2
theorem grpB {sl n P} (hI : Inv sl n P) (hn : n + 10 < 1099511627776) : ∀ m, m ≤ 4 → Grp P.e1.acked (winN P.e1) P.e1.clock m (rounds m P).e1 (rounds m P).e0
  | 0, _ => Grp.start
  | m + 1, hm => Grp.round1 (rounds_is hI m (by omega)).1 (by omega) (grpB hI hn m (by omega))
/-- Five rounds: a whole window is acked, each way. -/
theorem five {sl n P} (hI : Inv sl n P) (hn : n + 20 < 1099511627776) : P.e0.acked + winN P.e0 ≤ (rounds 5 P).e0.acked ∧ P.e1.acked + winN P.e1 ≤ (rounds 5 P).e1.acked := by
  have hA : n + 2 * 3 + 3 < 1099511627776 := by omega
  have hB : n + 2 * 4 + 3 < 1099511627776 := by omega
  have h3 := fin5 (rounds_is hI 3 (by omega)).1 hA (grpA hI (by omega) 3 (by omega))
  have h4 := fin5b (rounds_is hI 4 (by omega)).1 hB (grpB hI (by omega) 4 (by omega))
  rw [← rounds_succ 3 P, ← rounds_succ (3 + 1) P] at h3
  rw [← rounds_succ 4 P] at h4
  exact ⟨h3, h4⟩
theorem len_of {sl n P} (hI : Inv sl n P) : P.e0.acked + P.e0.l.length = P.g0.length ∧ P.e1.acked + P.e1.l.length = P.g1.length := ⟨hI.a.d.len, hI.b.d.len⟩
theorem groups {sl n P} (hI : Inv sl n P) : ∀ m, n + 10 * m + 20 < 1099511627776 → (rounds (5 * m) P).e0.l.length ≤ P.e0.l.length - m * sl ∧ (rounds (5 * m) P).e1.l.length ≤ P.e1.l.length - m * sl
  | 0, _ => ⟨by rw [Nat.zero_mul]; exact Nat.le_refl _, by rw [Nat.zero_mul]; exact Nat.le_refl _⟩
  | m + 1, hm => by
    obtain ⟨h1, h2⟩ := groups hI m (by omega)
    have i1 := rounds_is hI (5 * m) (by omega)
    have i2 := rounds_is i1.1 5 (by omega)
    have e : rounds (5 * (m + 1)) P = rounds 5 (rounds (5 * m) P) := by rw [show 5 * (m + 1) = 5 * m + 5 from by omega]; exact rounds_add (5 * m) 5 P
    rw [e]
    obtain ⟨f1, f2⟩ := five i1.1 (by omega)
    obtain ⟨l1, l2⟩ := len_of i1.1
    obtain ⟨l3, l4⟩ := len_of i2.1
    rw [i2.2.1] at l3
    rw [i2.2.2.1] at l4
    have s1 : (rounds (5 * m) P).e0.slide = sl := i1.1.a.sl
    have s2 : (rounds (5 * m) P).e1.slide = sl := i1.1.b.sl
    unfold winN at f1 f2
    rw [s1] at f1
    rw [s2] at f2
    have hs : (m + 1) * sl = m * sl + sl := Nat.succ_mul m sl
    rw [hs]
    omega
/-- Nothing is left to be sent: a round, and nothing is owed. -/
theorem quiet {sl n P} (hI : Inv sl n P) (hn : n + 1 < 1099511627776) (h0 : P.e0.l.length = 0) (h1 : P.e1.l.length = 0) : (round P).e0.owes = false ∧ (round P).e1.owes = false := by
  have key : ∀ {P : PairV}, Inv sl n P ∨ Inv sl (n + 1) P → P.e0.l.length = 0 → (half0 P).e0.owes = false ∧ (half0 P).e1.owes = P.e1.owes := fun {P} hI hz => by
    have hh : ∃ k, Inv sl k P ∧ k < 1099511627776 := hI.elim (fun h => ⟨n, h, by omega⟩) (fun h => ⟨n + 1, h, hn⟩)
    obtain ⟨k, hI, hk⟩ := hh
    obtain ⟨r1, r2, r3, r4, r5, r6, r7⟩ := half_is hI hk
    refine ⟨by rw [r2]; rfl, ?_⟩
    have hno : ∀ d ∈ tickT P.e0, ¬ d.kind.v = 1 := fun d hd => by
      have hw1 : winN (tick1 P.e0) = 0 := by unfold winN; show min _ P.e0.l.length = 0; rw [hz]; exact Nat.min_zero _
      have hl2 : (tick2 P.e0).l.length = 0 := by show (goL _ _ _ _).length = 0; rw [goL_len]; exact hz
      have hw2 : winN (tick2 P.e0) = 0 := by unfold winN; rw [hl2]; exact Nat.min_zero _
      rcases List.mem_append.1 hd with hd | hd
      · have : d ∈ goT (rs (P.e0.clock + 1)) (tick1 P.e0) (winN (tick1 P.e0)) := hd
        rw [hw1] at this; cases this
      · unfold outT at hd
        have hT : thT ns (tick2 P.e0) = [] := by show goT ns (tick2 P.e0) (winN (tick2 P.e0)) = []; rw [hw2]; rfl
        rw [hT] at hd
        split at hd
        · rw [List.mem_singleton] at hd
          subst hd
          show ¬ ((2 : Int) = 1)
          decide
        · cases hd
    have hgo := hI.go hk
    have hpl : ∀ (L : List DgM) (Q : PairV), (∀ d ∈ L, ¬ d.kind.v = 1) → (passL Q L).e1.owes = Q.e1.owes := fun L => by
      induction L with
      | nil => exact fun Q _ => rfl
      | cons d L ih =>
        intro Q hL
        show (passL (pass0 Q d) L).e1.owes = _
        rw [ih (pass0 Q d) (fun x hx => hL x (List.mem_cons_of_mem _ hx))]
        have hd := hL d (List.mem_cons_self ..)
        show (takeS Q.e1 d).owes = _
        by_cases h0 : takeE Q.e1 d = 0
        · rw [takeS_ack h0 hd]; unfold ackS; split <;> rfl
        · rw [takeS_no h0]
    exact hpl (tickT P.e0) (go0 P) hno
  obtain ⟨i1, i2, _, i4, i5, _, _⟩ := half_is hI (by omega)
  have hz : (half0 P).e1.l.length = 0 := by rw [i5.l, List.length_drop]; omega
  obtain ⟨a1, a2⟩ := key (.inl hI) h0
  obtain ⟨b1, b2⟩ := key (P := swp (half0 P)) (.inr i1.swp) hz
  exact ⟨b2.trans a1, b1⟩
/-- All has come. -/
theorem comes {sl n P} (hI : Inv sl n P) (q : Nat) (hn : n + 10 * q + 30 < 1099511627776) (hq : P.e0.l.length + P.e1.l.length ≤ q * sl) (hsl : 1 ≤ sl) :
    idle (rounds (5 * (2 + q)) P).e0 = true ∧ idle (rounds (5 * (2 + q)) P).e1 = true ∧ (rounds (5 * (2 + q)) P).c0 = (rounds (5 * (2 + q)) P).g1 ∧ (rounds (5 * (2 + q)) P).c1 = (rounds (5 * (2 + q)) P).g0 := by
  obtain ⟨g1, g2⟩ := groups hI q (by omega)
  have i1 := rounds_is hI (5 * q) (by omega)
  have e : rounds (5 * (2 + q)) P = round (rounds 9 (rounds (5 * q) P)) := by
    rw [show 5 * (2 + q) = 5 * q + 10 from by omega]; exact rounds_add (5 * q) 10 P
  have i2 := rounds_is i1.1 9 (by omega)
  have i3 := round_is i2.1 (by omega)
  obtain ⟨l1, l2⟩ := len_of i1.1
  obtain ⟨l3, l4⟩ := len_of i2.1
  obtain ⟨l5, l6⟩ := len_of i3.1
  rw [i2.2.1] at l3
  rw [i2.2.2.1] at l4
  rw [i3.2.1, i2.2.1] at l5
  rw [i3.2.2.1, i2.2.2.1] at l6
  have a1 := i2.2.2.2.1
  have a2 := i2.2.2.2.2
  have a3 := i3.2.2.2.1
  have a4 := i3.2.2.2.2
  obtain ⟨o1, o2⟩ := quiet i2.1 (by omega) (by omega) (by omega)
  rw [e]
  have all : ∀ {s r : EndV} {G C : List (List UInt8)}, Dir s r G C → s.l.length = 0 → r.held.length = 0 ∧ C = G := fun {s r G C} hd hz => by
    have h1 := hd.len
    have h2 := Sl.under_le s
    have h3 := hd.ack
    have h4 := hd.came
    refine ⟨?_, by rw [hd.C, List.take_of_length_le (by omega)]⟩
    cases hh : r.held with
    | nil => rfl
    | cons x l =>
      have h5 := hd.held x (by rw [hh]; exact List.mem_cons_self ..)
      omega
  have i4 := i3.1
  clear i1 i2 i3 e
  generalize round (rounds 9 (rounds (5 * q) P)) = Z at *
  have z0 : Z.e0.l.length = 0 := by omega
  have z1 : Z.e1.l.length = 0 := by omega
  obtain ⟨w1, w2⟩ := all i4.a.d z0
  obtain ⟨w3, w4⟩ := all i4.b.d z1
  refine ⟨?_, ?_, w4, w2⟩
  · have w3' : Z.e0.held.length = 0 := w3
    unfold idle; rw [z0, w3', o1]; rfl
  · unfold idle; rw [z1, w1, o2]; rfl
theorem passL_snoc (P : PairV) (L : List DgM) {i : Nat} (h : i < L.length) : passL P (L.take (i + 1)) = pass0 (passL P (L.take i)) (L.getD i default) := by
  unfold passL
  rw [List.take_succ_eq_append_getElem h, List.foldl_append, List.getD_eq_getElem?_getD, List.getElem?_eq_getElem h]; rfl
theorem passTake {sl n B} (hI : Inv sl n B) (hn : n < 1099511627776) (i : Nat) : Inv sl (n + 1) (passL (go0 B) ((tickT B.e0).take i)) ∧ ∀ j, j < (tickT B.e0).length → TOk (passL (go0 B) ((tickT B.e0).take i)).e0 (passL (go0 B) ((tickT B.e0).take i)).g0 ((tickT B.e0).getD j default) := by
  obtain ⟨h1, h2⟩ := hI.go hn
  obtain ⟨r1, r2, r3, r4, r5, r6, r7⟩ := passL_is ((tickT B.e0).take i) (go0 B) h1 (fun d hd => h2 d (List.take_subset _ _ hd))
  refine ⟨r1, fun j hj => ?_⟩
  rw [r2, r3]
  exact h2 _ (getD_mem hj)
theorem passAll (B : PairV) {i : Nat} (h : (tickT B.e0).length ≤ i) : passL (go0 B) ((tickT B.e0).take i) = half0 B := by
  rw [List.take_of_length_le h]; rfl
theorem ceil_ok {t s : Nat} (hs : 1 ≤ s) : t ≤ (t + s - 1) / s * s := by
  have h1 := Nat.div_add_mod (t + s - 1) s
  have h2 := Nat.mod_lt (t + s - 1) (show s > 0 by omega)
  rw [Nat.mul_comm]
  omega
theorem quoN {a b s : Nat} (hs : 1 ≤ s) (h : a + b + s ≤ 1152921504606846976) : IntKind.i64.wrap (((a : Int) + (b : Int) + (s : Int) - 1).tdiv (s : Int)) = (((a + b + s - 1) / s : Nat) : Int) := by
  have h1 : (a : Int) + (b : Int) + (s : Int) - 1 = ((a + b + s - 1 : Nat) : Int) := by omega
  rw [h1, ← Int.ofNat_tdiv]
  have h2 := Nat.div_le_self (a + b + s - 1) s
  generalize (a + b + s - 1) / s = x at *
  exact wi64 (by omega)
end Sl
