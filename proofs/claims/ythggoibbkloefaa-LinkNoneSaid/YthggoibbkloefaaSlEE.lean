/- The document's end of a way as data. No condition. -/
import Derived.Test.YthggoibbkloefaaSlEC
import Derived.Test.YthggoibbkloefaaSlDC
namespace Sl
open _root_.Go _root_.Go.RowKit
set_option linter.all false
set_option linter.unusedSimpArgs false
def hlCell (x : I64 × BytesD) : List Value := [.int .i64 x.1.v, evD x.2]
theorem hlCell_len (x : I64 × BytesD) : (hlCell x).length = 2 := rfl
theorem one_hl (a : I64 × BytesD) (x : Value) (hx : x ∈ hlCell a) : x.oneCell' = true := by
 simp only [hlCell, List.mem_cons, List.not_mem_nil, or_false] at hx
 rcases hx with rfl | rfl <;> rfl
/-- What is held, in the order of its numbers. -/
def HR (h H : List (I64 × List UInt8)) : Prop := H.Perm h ∧ H.Pairwise fun a b => a.1.v < b.1.v
theorem HR.nil : HR [] [] := ⟨List.Perm.refl _, List.Pairwise.nil⟩
theorem HR.len {h H} (r : HR h H) : H.length = h.length := r.1.length_eq
theorem HR.nd {h H} (r : HR h H) : (h.map (·.1)).Nodup := by
 refine (List.Perm.nodup_iff (r.1.map (·.1))).1 ?_
 rw [List.nodup_iff_pairwise_ne, List.pairwise_map]
 exact r.2.imp fun hlt e => by rw [e] at hlt; omega
theorem get_mem {h : List (I64 × List UInt8)} (hn : (h.map (·.1)).Nodup) {x : I64 × List UInt8} (hx : x ∈ h) : aget h x.1 = some x.2 := by
 have h1 : ahas h x.1 = true := by unfold ahas; rw [List.any_eq_true]; exact ⟨x, hx, decide_eq_true rfl⟩
 rw [← aget_has] at h1
 cases hg : aget h x.1 with
 | none => rw [hg] at h1; cases h1
 | some b =>
  have h2 := aget_mem hg
  obtain ⟨i, hi, he⟩ := List.mem_iff_getElem.1 hx
  obtain ⟨j, hj, hf⟩ := List.mem_iff_getElem.1 h2
  have : i = j := (List.getElem_inj (h₀ := by rw [List.length_map]; exact hi) (h₁ := by rw [List.length_map]; exact hj) hn).1 (by rw [List.getElem_map, List.getElem_map, he, hf])
  subst this
  rw [he] at hf
  rw [hf]
theorem HR.get {h H x t} (r : HR h H) (e : H = x :: t) : aget h x.1 = some x.2 := by
 subst e
 exact get_mem r.nd (r.1.subset (List.mem_cons_self ..))
theorem HR.del {h H x t} (r : HR h H) (e : H = x :: t) : HR (adel h x.1) t := by
 subst e
 have hg := r.get rfl
 refine ⟨?_, (List.pairwise_cons.1 r.2).2⟩
 have hh := has_of_get hg
 rw [kidx_has] at hh
 have hk := of_decide_eq_true hh
 have h1 : (h[kidx h x.1] :: h.eraseIdx (kidx h x.1)).Perm h := by
  rw [List.eraseIdx_eq_take_drop_succ]
  refine List.perm_middle.symm.trans (List.Perm.of_eq ?_)
  rw [List.getElem_cons_drop, List.take_append_drop]
 have h2 : h[kidx h x.1] = x := by
  unfold aget at hg
  rw [List.getElem?_eq_getElem hk] at hg
  have e1 := kidx_at hk
  have e2 : (h[kidx h x.1]).2 = x.2 := by simpa using hg
  exact Prod.ext e1 e2
 rw [h2] at h1
 exact (List.perm_cons x).1 (r.1.trans h1.symm)
/-- A new number comes to its place. -/
theorem HR.ins {h H : List (I64 × List UInt8)} (r : HR h H) {k : I64} {b : List UInt8} {j : Nat} (hj : j ≤ H.length) (h1 : ∀ i, i < j → (H.getD i default).1.v < k.v) (h2 : j < H.length → k.v < (H.getD j default).1.v) : HR (h ++ [(k, b)]) (H.take j ++ [(k, b)] ++ H.drop j) := by
 constructor
 ·have e1 : (H.take j ++ [(k, b)] ++ H.drop j).Perm ([(k, b)] ++ (H.take j ++ H.drop j)) := by
   rw [← List.append_assoc]
   exact List.Perm.append_right _ List.perm_append_comm
  rw [List.take_append_drop] at e1
  exact e1.trans (List.perm_append_comm.trans (List.Perm.append_right _ r.1))
 ·have hs := r.2
  rw [← List.take_append_drop j H] at hs
  rw [List.pairwise_append] at hs
  rw [List.append_assoc, List.pairwise_append]
  have hd : ∀ y ∈ H.drop j, k.v < y.1.v := fun y hy => by
   obtain ⟨i, hi, rfl⟩ := List.mem_iff_getElem.1 hy
   rw [List.length_drop] at hi
   have h3 := h2 (by omega)
   rw [List.getElem_drop]
   rw [List.getD_eq_getElem?_getD, List.getElem?_eq_getElem (by omega)] at h3
   simp only [Option.getD_some] at h3
   rcases Nat.eq_zero_or_pos i with rfl | hp
   ·exact h3
   ·have := List.pairwise_iff_getElem.1 r.2 j (j + i) (by omega) (by omega) (by omega)
    omega
  have ht : ∀ y ∈ H.take j, y.1.v < k.v := fun y hy => by
   obtain ⟨i, hi, rfl⟩ := List.mem_iff_getElem.1 hy
   rw [List.length_take] at hi
   rw [List.getElem_take]
   have h3 := h1 i (by omega)
   rw [List.getD_eq_getElem?_getD, List.getElem?_eq_getElem (by omega)] at h3
   exact h3
  refine ⟨hs.1, ?_, fun y hy z hz => ?_⟩
  ·rw [List.singleton_append, List.pairwise_cons]
   exact ⟨hd, hs.2.1⟩
  ·rcases List.mem_append.1 hz with hz | hz
   ·rw [List.mem_singleton] at hz; subst hz; exact ht y hy
   ·exact hs.2.2 y hy z hz
theorem HR.has {h H : List (I64 × List UInt8)} (r : HR h H) (k : I64) {j : Nat} (hj : j ≤ H.length) (h1 : ∀ i, i < j → (H.getD i default).1.v < k.v) (h2 : j < H.length → k.v < (H.getD j default).1.v) : ahas h k = false := by
 have hp := (r.ins (b := []) hj h1 h2).nd
 rw [List.map_append, List.nodup_append] at hp
 cases hh : ahas h k with
 | false => rfl
 | true =>
  unfold ahas at hh
  obtain ⟨x, hx, he⟩ := List.any_eq_true.1 hh
  exact absurd rfl (hp.2.2 k (by rw [← of_decide_eq_true he]; exact List.mem_map_of_mem hx) k (by simp))
theorem HR.at {h H : List (I64 × List UInt8)} (r : HR h H) {k : I64} {j : Nat} (hj : j < H.length) (e : (H.getD j default).1.v = k.v) : ahas h k = true := by
 rw [List.getD_eq_getElem?_getD, List.getElem?_eq_getElem hj] at e
 unfold ahas
 rw [List.any_eq_true]
 exact ⟨H[j], r.1.subset (List.getElem_mem hj), decide_eq_true (I64.eq e)⟩
/-- Nothing is in turn. -/
theorem HR.stop {h H : List (I64 × List UInt8)} (r : HR h H) {c : Nat} (hc : c ≤ 1152921504606846976) (hlo : ∀ x ∈ h, (c : Int) ≤ x.1.v) (e : H.length = 0 ∨ ¬ (H.getD 0 default).1.v = (c : Int)) : ahas h (i64N c) = false := by
 have h2 : (i64N c).v = c := i64N_v (by omega)
 refine r.has (i64N c) (j := 0) (Nat.zero_le _) (fun i hi => absurd hi (Nat.not_lt_zero i)) (fun hl => ?_)
 rcases e with e | e
 ·omega
 ·have h3 := hlo (H.getD 0 default) (r.1.subset (getD_mem hl))
  omega
/-! ## the list of all bodies -/
structure RfQ where
 p : Option Addr
 c : Nat
 L : List BodD
 p2 : Option Addr
 c2 : Nat
 H : List (I64 × BytesD)
 A : List BodV
def RfOk (q : RfQ) (s : EndV) : Prop := q.L.map BodD.v = q.A ++ s.l ∧ q.A.length = s.acked ∧ HR s.held (mapB q.H)
theorem refLen {L : List BodD} {A l : List BodV} {a : Nat} (h : L.map BodD.v = A ++ l) (ha : A.length = a) : L.length = a + l.length := by rw [lenOf h, List.length_append, ha]
theorem refAt {L : List BodD} {A l : List BodV} {a : Nat} (h : L.map BodD.v = A ++ l) (ha : A.length = a) (i : Nat) : (L.getD (a + i) default).v = l.getD i default := by
 subst ha
 rw [bodAt h, List.getD_eq_getElem?_getD, List.getElem?_append_right (Nat.le_add_right _ _), Nat.add_sub_cancel_left, ← List.getD_eq_getElem?_getD]
theorem refSet {L : List BodD} {A l : List BodV} {a : Nat} (h : L.map BodD.v = A ++ l) (ha : A.length = a) (k t : Nat) : (bset L (a + k) t).map BodD.v = A ++ l.set k (mk1 t (l.getD k default)) := by
 rw [bset_v h, List.set_append_right _ _ (by omega)]
 have e1 : a + k - A.length = k := by omega
 rw [e1]
 congr 3
 subst ha
 rw [List.getD_eq_getElem?_getD, List.getElem?_append_right (Nat.le_add_right _ _), Nat.add_sub_cancel_left, ← List.getD_eq_getElem?_getD]
theorem refDrop {L : List BodD} {A l : List BodV} (h : L.map BodD.v = A ++ l) {n : Nat} (hn : n ≤ l.length) : L.map BodD.v = (A ++ l.take n) ++ l.drop n ∧ (A ++ l.take n).length = A.length + n := by
 refine ⟨by rw [List.append_assoc, List.take_append_drop]; exact h, by rw [List.length_append, List.length_take]; omega⟩
def dtR (s : EndV) (k : Nat) : EndV := { s with l := s.l.set k (mk1 s.clock (s.l.getD k default)) }
def thR (q : BodV → Bool) (s : EndV) (k : Nat) : EndV := { s with l := goL q s.clock s.l k }
theorem thR_yes {q : BodV → Bool} {s : EndV} {k : Nat} (h : q (s.l.getD k default) = true) : dtR (thR q s k) k = thR q s (k + 1) := by
 unfold dtR thR
 simp only [goL_yes h, goL_next]
theorem thR_no {q : BodV → Bool} {s : EndV} {k : Nat} (h : q (s.l.getD k default) = false) : thR q s k = thR q s (k + 1) := by
 unfold thR
 rw [goL_no h]
theorem thR_at (q : BodV → Bool) (s : EndV) (k : Nat) : (thR q s k).l.getD k default = s.l.getD k default := goL_next q s.clock s.l k
theorem thR_len (q : BodV → Bool) (s : EndV) (k : Nat) : (thR q s k).l.length = s.l.length := goL_len q s.clock s.l k
theorem endOk_thR {q : BodV → Bool} {s : EndV} (h : endOk s) (k : Nat) : endOk (thR q s k) := by
 have h2 := endOk_thK (q := q) h k
 exact ⟨h2.1, h2.2.1, h2.2.2.1, h2.2.2.2.1, h2.2.2.2.2.1, h2.2.2.2.2.2.1, h2.2.2.2.2.2.2⟩
theorem thR_some {q : BodV → Bool} {s : EndV} (h : ¬ (thT q s).length = 0) : { thR q s (winN s) with owes := false } = thS q s := by
 have h2 := th_owes h
 have h3 : thS q s = { thS q s with owes := (thS q s).owes } := rfl
 rw [h3, h2]; rfl
theorem thR_none {q : BodV → Bool} {s : EndV} (h : (thT q s).length = 0) : thR q s (winN s) = thS q s := by
 have h2 : thT q s = [] := List.length_eq_zero_iff.1 h
 unfold thS thR
 rw [h2]
 simp
/-! ## what holds of an end whatever comes -/
structure LInv (s : EndV) : Prop where
 ok : endOk s
 pre : Pre s (under s)
 nd : (s.held.map (·.1)).Nodup
 hi : ∀ x ∈ s.held, (s.came : Int) < x.1.v
 sm : ∀ x ∈ s.held, x.2.length ≤ 16384
theorem drain_sub : ∀ (n c : Nat) (h : List (I64 × List UInt8)), ∀ x ∈ (drain n c h).2.2, x ∈ h
 | 0, _, _, x, hx => hx
 | n + 1, c, h, x, hx => by
  cases hg : aget h (i64N c) with
  | none => rw [drain_none hg] at hx; exact hx
  | some b => rw [drain_some hg] at hx; exact adel_sub (drain_sub n _ _ x hx)
theorem LInv.new {f t : I64} {n : Nat} (h : 1 ≤ n) (h2 : n ≤ 64) : LInv (newS f t n) := ⟨endOk_new h h2, ⟨Nat.le_refl _, Nat.zero_le _, fun i hi => absurd hi (Nat.not_lt_zero i)⟩, List.nodup_nil, fun x hx => (by cases hx), fun x hx => (by cases hx)⟩
theorem LInv.send {s : EndV} (h : LInv s) (b : List UInt8) : LInv (sendS s b) := by
 by_cases hE : sendE s b = 0
 ·have hok := endOk_send (b := b) h.ok
  rw [sendS_yes hE] at *
  have hp : Pre { s with l := s.l ++ [⟨b, false, 0⟩] } (under s) := by
   refine ⟨?_, h.pre.2.1, fun i hi => ?_⟩
   ·show under s ≤ (s.l ++ [_]).length
    rw [List.length_append]
    have := h.pre.1
    omega
   ·show ((s.l ++ [_]).getD i default).sent = _
    rw [getD_app hi]
    split
    ·exact h.pre.2.2 i (by assumption)
    ·exact (decide_eq_false (by have := h.pre.1; omega)).symm
  exact ⟨hok, by rw [hp.under]; exact hp, h.nd, h.hi, h.sm⟩
 ·rw [sendS_no hE]; exact h
theorem LInv.th {q : BodV → Bool} {s : EndV} (hq : ∀ x, q x = true → x.sent = true) (h : LInv s) : LInv (thS q s) := by
 have hp := h.pre.th hq
 exact ⟨endOk_th h.ok, by rw [hp.under]; exact hp, h.nd, h.hi, h.sm⟩
theorem LInv.out {s : EndV} (h : LInv s) : LInv (outS s) := by
 have hp := h.pre.out
 exact ⟨endOk_out h.ok, by rw [hp.under]; exact hp, h.nd, h.hi, h.sm⟩
theorem LInv.tick1 {s : EndV} (h : LInv s) (h2 : s.clock + 1 ≤ 4611686018427387904) : LInv (tick1 s) := ⟨endOk_tick1 h.ok h2, h.pre, h.nd, h.hi, h.sm⟩
theorem LInv.tick {s : EndV} (h : LInv s) (h2 : s.clock + 1 ≤ 4611686018427387904) : LInv (tickS s) := ((h.tick1 h2).th rs_sent).out
theorem drain_hi {B : Nat} (hB : B ≤ 1152921504606846976) : ∀ (n c : Nat) (h : List (I64 × List UInt8)), h.length ≤ n → c ≤ B + 1 → (h.map (·.1)).Nodup → (∀ x ∈ h, (c : Int) ≤ x.1.v ∧ x.1.v ≤ (B : Int)) → ((drain n c h).2.2.map (·.1)).Nodup ∧ ∀ x ∈ (drain n c h).2.2, ((drain n c h).2.1 : Int) < x.1.v
 | 0, c, h, hl, hc, hn, hh => by
  have : h = [] := List.length_eq_zero_iff.1 (by omega)
  subst this
  exact ⟨hn, fun x hx => by cases hx⟩
 | n + 1, c, h, hl, hc, hn, hh => by
  have h2 : (i64N c).v = c := i64N_v (by omega)
  have key : ∀ {x : I64 × List UInt8}, (c : Int) ≤ x.1.v → x.1 ≠ i64N c → (c : Int) < x.1.v := fun {x} h3 h4 => by
   by_cases h5 : x.1.v = c
   ·exact absurd (I64.eq (by rw [h5, h2])) h4
   ·omega
  cases hg : aget h (i64N c) with
  | none => rw [drain_none hg]; exact ⟨hn, fun x hx => key (hh x hx).1 (aget_none_ne hg x hx)⟩
  | some b =>
   rw [drain_some hg]
   have h1 := (hh _ (aget_mem hg)).2
   have h3 := adel_len (has_of_get hg)
   simp only at h1
   exact drain_hi hB n (c + 1) _ (by omega) (by omega) (adel_nd hn) (fun x hx => by
    have h6 := key (hh x (adel_sub hx)).1 (keys_ne hn x hx)
    exact ⟨by omega, (hh x (adel_sub hx)).2⟩)
theorem LInv.ack {s : EndV} (h : LInv s) {a : Int} (ha : a ≤ (s.acked : Int) + (under s : Int)) : LInv (ackS s a) := by
 have hok := endOk_ack h.ok ha
 by_cases hc : (s.acked : Int) < a
 ·have e : ackS s a = { s with l := s.l.drop (a.toNat - s.acked), acked := a.toNat } := if_pos hc
  rw [e] at hok ⊢
  have hul := Sl.under_le s
  have hp : Pre { s with l := s.l.drop (a.toNat - s.acked), acked := a.toNat } (under s - (a.toNat - s.acked)) := by
   refine ⟨?_, ?_, fun i hi => ?_⟩
   ·show _ ≤ (s.l.drop _).length
    rw [List.length_drop]; omega
   ·show _ ≤ s.slide
    have := h.pre.2.1
    omega
   ·have hi2 : i < (s.l.drop (a.toNat - s.acked)).length := hi
    rw [List.length_drop] at hi2
    show ((s.l.drop _).getD i default).sent = _
    rw [getD_dropD, h.pre.2.2 _ (by omega), decide_eq_decide]
    omega
  exact ⟨hok, by rw [hp.under]; exact hp, h.nd, h.hi, h.sm⟩
 ·rw [ackS_no hc]; exact h
theorem LInv.take {s : EndV} (h : LInv s) (d : DgM) : LInv (takeS s d) := by
 by_cases h0 : takeE s d = 0
 ·obtain ⟨h1, h2⟩ := takeE_0 h0
  have ha := h.ack (stray_not h2).2.2.1
  have hok := endOk_take (d := d) h.ok
  by_cases hk : d.kind.v = 1
  ·rw [takeS_data h0 hk] at *
   by_cases hc : d.seq.v < (s.came : Int) ∨ ahas s.held d.seq = true
   ·rw [takeC_no hc] at *
    exact ⟨hok, ha.pre, h.nd, h.hi, h.sm⟩
   ·rw [takeC_yes hc] at *
    have hd := drain_hi (B := 1099511627776) (by decide) (s.held ++ [(d.seq, d.body)]).length s.came (s.held ++ [(d.seq, d.body)]) (Nat.le_refl _) h.ok.2.2.2.1 (by
     rw [List.map_append, List.nodup_append]
     refine ⟨h.nd, by simp, fun a ha b hb e => ?_⟩
     subst e
     have hb2 : a = d.seq := by simpa using hb
     subst hb2
     exact ahas_mem (Bool.eq_false_iff.2 fun e => hc (.inr e)) ha) (fun x hx => by
     rcases List.mem_append.1 hx with hx | hx
     ·have := h.hi x hx; have := h.ok.2.2.2.2.2.2 x hx; exact ⟨by omega, this⟩
     ·rw [List.mem_singleton] at hx; subst hx; exact ⟨by show (s.came : Int) ≤ d.seq.v; omega, (dgE_seq h1).2.1⟩)
    exact ⟨hok, ha.pre, hd.1, hd.2, fun x hx => by
     rcases List.mem_append.1 (drain_sub _ _ _ x hx) with hx | hx
     ·exact h.sm x hx
     ·rw [List.mem_singleton] at hx; subst hx; exact (dgE_seq h1).2.2.2.2.1⟩
  ·rw [takeS_ack h0 hk]; exact ha
 ·rw [takeS_no h0]; exact h
theorem mapB_at {E : List (I64 × BytesD)} (j : Nat) : (mapB E).getD j default = ((E.getD j default).1, (E.getD j default).2.data) := by
 unfold mapB
 rw [List.getD_eq_getElem?_getD, List.getD_eq_getElem?_getD, List.getElem?_map]
 cases E[j]? <;> rfl
theorem mby_at {E : List (I64 × BytesD)} {k : Nat} (hk : k < E.length) : (E.getD k default).2 ∈ mby E := List.mem_map_of_mem (f := (·.2)) (getD_mem hk)
theorem outT_nil {s : EndV} (h : (thT ns s).length = 0) (h2 : s.owes = false) : outT s = [] := by
 unfold outT
 rw [if_neg (fun e => by rw [h2] at e; exact absurd e.2 (by simp))]
 exact List.length_eq_zero_iff.1 h
theorem outT_ack {s : EndV} (h : (thT ns s).length = 0) (h2 : s.owes = true) : outT s = [ackOf s] := if_pos ⟨List.length_eq_zero_iff.1 h, h2⟩
theorem outT_some {s : EndV} (h : ¬ (thT ns s).length = 0) : outT s = thT ns s := if_neg fun e => h (by rw [e.1]; rfl)
theorem outS_keep {s : EndV} (h : s.owes = false) : thR ns s (winN s) = outS s := by
 show ({ s with l := goL ns s.clock s.l (winN s) } : EndV) = { s with l := goL ns s.clock s.l (winN s), owes := false }
 rw [← h]
theorem winN_R (q : BodV → Bool) (s : EndV) (k : Nat) : winN (thR q s k) = winN s := by unfold winN; rw [thR_len]; rfl
theorem ackS_max {s : EndV} {a : Int} (h : 0 ≤ a) : (if (s.acked : Int) < a then a else (s.acked : Int)) = ((ackS s a).acked : Int) := by
 unfold ackS
 split
 ·show a = ((a.toNat : Nat) : Int); omega
 ·rfl
theorem ackS_is (s : EndV) (a : Int) : { s with l := (ackS s a).l, acked := (ackS s a).acked } = ackS s a := by unfold ackS; split <;> rfl
theorem refAck {L : List BodD} {s : EndV} {A : List BodV} {a : Int} (h : L.map BodD.v = A ++ s.l) (hA : A.length = s.acked) (ha : a ≤ (s.acked : Int) + (under s : Int)) : ∃ A2, L.map BodD.v = A2 ++ (ackS s a).l ∧ A2.length = (ackS s a).acked := by
 unfold ackS
 split
 ·have hu := under_le s
  obtain ⟨h1, h2⟩ := refDrop h (n := a.toNat - s.acked) (by omega)
  exact ⟨_, h1, by rw [h2]; show A.length + _ = a.toNat; omega⟩
 ·exact ⟨A, h, hA⟩
theorem drS_ack (s : EndV) (a : Int) : drS (ackS s a) s.came s.held = { ackS s a with owes := true } := by
 unfold drS
 rw [← ackS_came s a, ← ackS_held s a]
theorem mapB_ins {H : List (I64 × BytesD)} {k : Nat} {q : I64} {X : BytesD} : mapB (H.take k ++ [(q, X)] ++ H.drop k) = (mapB H).take k ++ [(q, X.data)] ++ (mapB H).drop k := by
 unfold mapB
 rw [List.map_append, List.map_append, List.map_take, List.map_drop]; rfl
theorem mby_ins {H : List (I64 × BytesD)} {k : Nat} {q : I64} {X : BytesD} : ∀ y ∈ mby (H.take k ++ [(q, X)] ++ H.drop k), y ∈ mby H ∨ y = X := by
 intro y hy
 obtain ⟨z, hz, rfl⟩ := List.mem_map.1 hy
 rcases List.mem_append.1 hz with hz | hz
 ·rcases List.mem_append.1 hz with hz | hz
  ·exact .inl (List.mem_map_of_mem (f := (·.2)) (List.take_subset _ _ hz))
  ·rw [List.mem_singleton] at hz; subst hz; exact .inr rfl
 ·exact .inl (List.mem_map_of_mem (f := (·.2)) (List.drop_subset _ _ hz))
theorem mby_drop {H : List (I64 × BytesD)} {k : Nat} : ∀ y ∈ mby (H.drop k), y ∈ mby H := by
 intro y hy
 obtain ⟨z, hz, rfl⟩ := List.mem_map.1 hy
 exact List.mem_map_of_mem (f := (·.2)) (List.drop_subset _ _ hz)
theorem mapB_one {H : List (I64 × BytesD)} (h : 0 < H.length) : mapB H = ((H.getD 0 default).1, (H.getD 0 default).2.data) :: mapB (H.drop 1) := by
 cases H with
 | nil => cases h
 | cons x t => rfl
theorem keyNext {c : Nat} {x : I64 × List UInt8} (h1 : (c : Int) ≤ x.1.v) (h2 : x.1 ≠ i64N c) (h : (i64N c).v = c) : ((c + 1 : Nat) : Int) ≤ x.1.v := by
 by_cases h3 : x.1.v = (c : Int)
 ·exact absurd (I64.eq (by rw [h3, h])) h2
 ·omega
def kys (E : List (I64 × BytesD)) : List I64 := E.map (·.1)
theorem keys_stepV {κ ν : Type} {rest : List (κ × ν)} {j N : Nat} {x : κ × ν} {pre L : List κ} (hj : rest[j]? = some x) (h : (pre ++ rest.map (·.1)).Perm L) (hN : L.length ≤ N) : (pre ++ [x.1]).length ≤ N := by
 have h1 := h.length_eq
 rw [List.length_append, List.length_map] at h1
 have := (List.getElem?_eq_some_iff.1 hj).1
 rw [List.length_append, List.length_singleton]; omega
theorem keys_endV {κ ν : Type} {rest : List (κ × ν)} {pre L : List κ} (h0 : rest = []) (h : (pre ++ rest.map (·.1)).Perm L) : pre.Perm L := by
 subst h0; simpa using h
def sH (h : List (I64 × List UInt8)) : List (I64 × List UInt8) := (sortI (h.map (·.1))).map fun k => (k, (aget h k).getD [])
theorem sH_len (h : List (I64 × List UInt8)) : (sH h).length = h.length := by unfold sH; rw [List.length_map, sortI_len, List.length_map]
theorem HR.eq {h H} (r : HR h H) : H = sH h := by
 have h1 : H.map (·.1) = sortI (h.map (·.1)) := by
  refine sortedI_unique ?_ (sortI_sorted _) ((r.1.map (·.1)).trans (sortI_perm _).symm)
  rw [List.pairwise_map]
  exact r.2.imp fun hlt => by unfold leI; exact decide_eq_true (Int.le_of_lt hlt)
 unfold sH
 rw [← h1, List.map_map]
 have h2 : ∀ x ∈ H, x = ((fun k => (k, (aget h k).getD [])) ∘ fun x => x.1) x := fun x hx => by
  have h3 := get_mem r.nd (r.1.subset hx)
  show x = (x.1, (aget h x.1).getD [])
  rw [h3]; rfl
 conv => lhs; rw [← List.map_id H]
 exact List.map_congr_left fun x hx => h2 x hx
theorem kys_is {E : List (I64 × BytesD)} {h : List (I64 × List UInt8)} (e : mapB E = h) : kys E = h.map (·.1) := by
 subst e
 unfold kys mapB
 rw [List.map_map]; rfl
theorem held_at {E : List (I64 × BytesD)} {h : List (I64 × List UInt8)} (e : mapB E = h) {j : Nat} (hj : j < (kys E).length) : ∃ x, aget E ((sortI (kys E)).getD j default) = some x ∧ (sH h).getD j default = ((sortI (kys E)).getD j default, x.data) ∧ ((sortI (kys E)).getD j default, x.data) ∈ h := by
 have hm : (sortI (kys E)).getD j default ∈ kys E := (sortI_perm _).subset (getD_mem (by rw [sortI_len]; exact hj))
 have hh : ahas E ((sortI (kys E)).getD j default) = true := by
  obtain ⟨y, hy, he⟩ := List.mem_map.1 hm
  unfold ahas
  rw [List.any_eq_true]
  exact ⟨y, hy, decide_eq_true he⟩
 rw [← aget_has] at hh
 obtain ⟨x, hx⟩ := Option.isSome_iff_exists.1 hh
 have hg : aget h ((sortI (kys E)).getD j default) = some x.data := by rw [mapB_get e, hx]; rfl
 refine ⟨x, hx, ?_, aget_mem hg⟩
 unfold sH
 rw [← kys_is e]
 have hl : j < (sortI (kys E)).length := by rw [sortI_len]; exact hj
 rw [List.getD_eq_getElem?_getD, List.getElem?_map, List.getElem?_eq_getElem hl]
 rw [List.getD_eq_getElem?_getD, List.getElem?_eq_getElem hl] at hg ⊢
 simp only [Option.getD_some, Option.map_some] at hg ⊢
 rw [hg]; rfl
theorem held_step {pre : List (I64 × BytesD)} {S : List (I64 × List UInt8)} {j : Nat} {x : I64 × BytesD} (h : mapB pre = S.take j) (hj : j < S.length) (hx : S.getD j default = (x.1, x.2.data)) : mapB (pre ++ [x]) = S.take (j + 1) ∧ mapB (pre ++ [x]) <+: S := by
 have h1 : mapB (pre ++ [x]) = S.take (j + 1) := by
  unfold mapB at h ⊢
  rw [List.map_append, h, List.take_succ_eq_append_getElem hj]
  congr 1
  rw [List.getD_eq_getElem?_getD, List.getElem?_eq_getElem hj] at hx
  show [(x.1, x.2.data)] = [S[j]]
  rw [show S[j] = (x.1, x.2.data) from hx]
 exact ⟨h1, by rw [h1]; exact List.take_prefix _ _⟩
theorem held_pre {pre : List (I64 × BytesD)} {x : I64 × BytesD} {S : List (I64 × List UInt8)} (h : mapB (pre ++ [x]) <+: S) : pre.length < S.length ∧ S.getD pre.length default = (x.1, x.2.data) := by
 obtain ⟨t, ht⟩ := h
 subst ht
 unfold mapB
 rw [List.map_append]
 refine ⟨by simp, ?_⟩
 rw [List.append_assoc, List.getD_eq_getElem?_getD, List.getElem?_append_right (by simp)]
 simp
/-! ## what is done at an end -/
structure LOpV where
 do_ : I64
 body : List UInt8
 dgm : DgM
structure LOpD where
 v : LOpV
 p : Option Addr
 c : Nat
 p2 : Option Addr
 c2 : Nat
instance : Inhabited LOpV := ⟨⟨default, [], default⟩⟩
instance : Inhabited LOpD := ⟨⟨default, none, 0, none, 0⟩⟩
def lopCell (x : LOpD) : List Value := [.int .i64 x.v.do_.v, .slice x.p x.v.body.length x.c, .int .i64 x.v.dgm.frm.v, .int .i64 x.v.dgm.to_.v, .int .i64 x.v.dgm.kind.v, .int .i64 x.v.dgm.seq.v, .int .i64 x.v.dgm.ack.v, .slice x.p2 x.v.dgm.body.length x.c2]
theorem lopCell_len (x : LOpD) : (lopCell x).length = 8 := rfl
theorem one_lop (a : LOpD) (x : Value) (hx : x ∈ lopCell a) : x.oneCell' = true := by
 simp only [lopCell, List.mem_cons, List.not_mem_nil, or_false] at hx
 rcases hx with rfl | rfl | rfl | rfl | rfl | rfl | rfl | rfl <;> rfl
def lopBy (L : List LOpD) : List BytesD := L.map (fun x => (⟨x.v.body, x.p, x.c⟩ : BytesD)) ++ L.map fun x => ⟨x.v.dgm.body, x.p2, x.c2⟩
theorem lop_at1 {L : List LOpD} {k : Nat} (hk : k < L.length) : (⟨(L.getD k default).v.body, (L.getD k default).p, (L.getD k default).c⟩ : BytesD) ∈ lopBy L := List.mem_append_left _ (List.mem_map_of_mem (f := fun x : LOpD => (⟨x.v.body, x.p, x.c⟩ : BytesD)) (getD_mem hk))
theorem lop_at2 {L : List LOpD} {k : Nat} (hk : k < L.length) : (⟨(L.getD k default).v.dgm.body, (L.getD k default).p2, (L.getD k default).c2⟩ : BytesD) ∈ lopBy L := List.mem_append_right _ (List.mem_map_of_mem (f := fun x : LOpD => (⟨x.v.dgm.body, x.p2, x.c2⟩ : BytesD)) (getD_mem hk))
def lopOk (I : Heap) (a : LOpD) : Prop := (DtA a.p a.c a.v.body).sat I Heap.none ∧ (DtA a.p2 a.c2 a.v.dgm.body).sat I Heap.none
theorem lops_sat {I : Heap} {l : List LOpD} (h : ∀ x ∈ l, lopOk I x) : (byA (lopBy l)).sat I Heap.none := ⟨rfl, fun x hx => by
 rcases List.mem_append.1 hx with hx | hx
 ·obtain ⟨y, hy, rfl⟩ := List.mem_map.1 hx
  exact (h y hy).1
 ·obtain ⟨y, hy, rfl⟩ := List.mem_map.1 hx
  exact (h y hy).2⟩
def doS (s : EndV) (o : LOpV) : EndV := if o.do_.v = 0 then sendS s o.body else if o.do_.v = 1 then outS s else if o.do_.v = 2 then tickS s else if o.do_.v = 3 then takeS s o.dgm else s
theorem doS_0 {s : EndV} {o : LOpV} (h : o.do_.v = 0) : doS s o = sendS s o.body := if_pos h
theorem doS_1 {s : EndV} {o : LOpV} (h : o.do_.v = 1) : doS s o = outS s := by unfold doS; rw [if_neg (by omega), if_pos h]
theorem doS_2 {s : EndV} {o : LOpV} (h : o.do_.v = 2) : doS s o = tickS s := by unfold doS; rw [if_neg (by omega), if_neg (by omega), if_pos h]
theorem doS_3 {s : EndV} {o : LOpV} (h : o.do_.v = 3) : doS s o = takeS s o.dgm := by unfold doS; rw [if_neg (by omega), if_neg (by omega), if_neg (by omega), if_pos h]
theorem doS_no {s : EndV} {o : LOpV} (h : ¬ o.do_.v = 0 ∧ ¬ o.do_.v = 1 ∧ ¬ o.do_.v = 2 ∧ ¬ o.do_.v = 3) : doS s o = s := by unfold doS; rw [if_neg h.1, if_neg h.2.1, if_neg h.2.2.1, if_neg h.2.2.2]
theorem drain_held : ∀ (n c : Nat) (h : List (I64 × List UInt8)), (drain n c h).2.2.length ≤ h.length
 | 0, _, _ => Nat.le_refl _
 | n + 1, c, h => by
  cases hg : aget h (i64N c) with
  | none => rw [drain_none hg]; exact Nat.le_refl _
  | some b =>
   rw [drain_some hg]
   have h1 := drain_held n (c + 1) (adel h (i64N c))
   have h2 := adel_len (has_of_get hg)
   simp only; omega
theorem takeS_held (s : EndV) (d : DgM) : (takeS s d).held.length ≤ s.held.length + 1 := by
 by_cases h0 : takeE s d = 0
 ·by_cases hk : d.kind.v = 1
  ·rw [takeS_data h0 hk]
   show (takeC s d).2.2.length ≤ _
   unfold takeC
   split
   ·exact Nat.le_succ _
   ·have := drain_held (s.held.length + 1) s.came (s.held ++ [(d.seq, d.body)])
    rw [List.length_append] at this
    exact this
  ·rw [takeS_ack h0 hk, ackS_held]; exact Nat.le_succ _
 ·rw [takeS_no h0]; exact Nat.le_succ _
structure DInv (k : Nat) (s : EndV) : Prop where
 i : LInv s
 clk : s.clock ≤ k
 held : s.held.length ≤ k
theorem DInv.new {f t : I64} {n : Nat} (h : 1 ≤ n) (h2 : n ≤ 64) : DInv 0 (newS f t n) := ⟨LInv.new h h2, Nat.le_refl _, Nat.le_refl _⟩
theorem DInv.do {k : Nat} {s : EndV} (h : DInv k s) (hk : k < 4611686018427387904) (o : LOpV) : DInv (k + 1) (doS s o) := by
 obtain ⟨f1, f2, f3, f4, f5, f6, f7⟩ := sendS_frm s o.body
 unfold doS
 split
 ·exact ⟨h.i.send _, by rw [f4]; exact Nat.le_succ_of_le h.clk, by rw [f6]; exact Nat.le_succ_of_le h.held⟩
 ·split
  ·exact ⟨h.i.out, Nat.le_succ_of_le h.clk, Nat.le_succ_of_le h.held⟩
  ·split
   ·exact ⟨h.i.tick (by have := h.clk; omega), Nat.succ_le_succ h.clk, Nat.le_succ_of_le h.held⟩
   ·split
    ·exact ⟨h.i.take _, by rw [(takeS_frm s o.dgm).2.2.2]; exact Nat.le_succ_of_le h.clk, Nat.le_trans (takeS_held s o.dgm) (Nat.succ_le_succ h.held)⟩
    ·exact ⟨h.i, Nat.le_succ_of_le h.clk, Nat.le_succ_of_le h.held⟩
/-- An end that may be. -/
def newOk (f t n : Int) : Prop := brB f = true ∧ brB t = true ∧ ¬ f = t ∧ 1 ≤ n ∧ n ≤ 64
instance (f t n : Int) : Decidable (newOk f t n) := by unfold newOk; infer_instance
theorem LInv.heldN {s : EndV} (h : LInv s) : s.held.length ≤ 1099511627776 := by
 have h4 : ∀ x ∈ (s.held.map (·.1)).map (fun k : I64 => k.v.toNat - 1), x ∈ List.range 1099511627776 := fun x hx => by
  obtain ⟨k, hk, rfl⟩ := List.mem_map.1 hx
  obtain ⟨y, hy, rfl⟩ := List.mem_map.1 hk
  have := h.ok.2.2.2.2.2.2 y hy
  rw [List.mem_range]; omega
 have h5 : ((s.held.map (·.1)).map (fun k : I64 => k.v.toNat - 1)).Nodup := by
  rw [List.nodup_iff_pairwise_ne, List.pairwise_map]
  refine List.Pairwise.imp_of_mem (R := fun a b => a ≠ b) (fun {a b} ha hb hne e => hne ?_) h.nd
  obtain ⟨y, hy, rfl⟩ := List.mem_map.1 ha
  obtain ⟨z, hz, rfl⟩ := List.mem_map.1 hb
  have := h.hi y hy
  have := h.hi z hz
  exact I64.eq (by omega)
 have h6 := List.Nodup.length_le_of_subset h5 (fun x hx => h4 x hx)
 rw [List.length_map, List.length_map, List.length_range] at h6
 exact h6
end Sl
