/- Two ends: what has come is a beginning of what was given. No condition. -/
import Derived.Test.YthggoibbkloefaaSlEA
namespace Sl
open _root_.Go _root_.Go.RowKit
set_option linter.all false
set_option linter.unusedSimpArgs false
/-- The first u bodies are sent, and no other. -/
def Pre (s : EndV) (u : Nat) : Prop := u ≤ s.l.length ∧ u ≤ s.slide ∧ ∀ i, i < s.l.length → (s.l.getD i default).sent = decide (i < u)
theorem Pre.under {s : EndV} {u : Nat} (h : Pre s u) : under s = u := by
 refine under_eq (fun j hj => ?_) h.1 (fun hl => ?_)
 ·rw [h.2.2 j (Nat.lt_of_lt_of_le hj h.1)]; exact decide_eq_true hj
 ·rw [h.2.2 u hl]; exact decide_eq_false (Nat.lt_irrefl u)
theorem Pre.le_win {s : EndV} {u : Nat} (h : Pre s u) : u ≤ winN s := Nat.le_min.2 ⟨h.2.1, h.1⟩
theorem Pre.out {s : EndV} {u : Nat} (h : Pre s u) : Pre (outS s) (winN s) := by
 have hl : (outS s).l.length = s.l.length := goL_len _ _ _ _
 refine ⟨by rw [hl]; exact Nat.min_le_right _ _, Nat.min_le_left _ _, fun i hi => ?_⟩
 rw [hl] at hi
 show ((goL ns s.clock s.l (winN s)).getD i default).sent = _
 rw [goL_at]
 have h1 := h.2.2 i hi
 have h2 := h.le_win
 by_cases hw : i < winN s
 ·rw [decide_eq_true hw]
  split
  ·rfl
  ·rename_i hc
   rw [h1]
   by_cases hu : i < u
   ·exact decide_eq_true hu
   ·exfalso
    rw [decide_eq_false hu] at h1
    exact hc ⟨hw, hi, by unfold ns; rw [h1]; rfl⟩
 ·rw [decide_eq_false hw, if_neg (fun e => hw e.1), h1]
  exact decide_eq_false (by omega)
theorem Pre.th {q : BodV → Bool} {s : EndV} {u : Nat} (hq : ∀ x, q x = true → x.sent = true) (h : Pre s u) : Pre (thS q s) u := by
 have hl : (thS q s).l.length = s.l.length := goL_len _ _ _ _
 refine ⟨by rw [hl]; exact h.1, h.2.1, fun i hi => ?_⟩
 rw [hl] at hi
 show ((goL q s.clock s.l (winN s)).getD i default).sent = _
 rw [goL_at]
 have h1 := h.2.2 i hi
 split
 ·rename_i hc
  rw [← h1, hq _ hc.2.2]; rfl
 ·exact h1
theorem rs_sent {t : Nat} (x : BodV) (h : rs t x = true) : x.sent = true := by
 unfold rs at h
 rw [Bool.and_eq_true] at h
 exact h.1
/-- A datagram that an end may have told. -/
def TOk (s : EndV) (G : List (List UInt8)) (d : DgM) : Prop := d.frm.v = s.frm.v ∧ d.to_.v = s.to_.v ∧ 0 ≤ d.ack.v ∧ d.ack.v ≤ (s.came : Int) ∧ ((d.kind.v = 1 ∧ 0 ≤ d.seq.v ∧ d.seq.v < ((s.acked + under s : Nat) : Int) ∧ d.body = G.getD d.seq.v.toNat []) ∨ (d.kind.v = 2 ∧ d.seq.v = 0 ∧ d.body = []))
theorem TOk.mono {s s' G d} (h : TOk s G d) (hf : s'.frm = s.frm) (ht : s'.to_ = s.to_) (hc : s.came ≤ s'.came) (hu : s.acked + under s ≤ s'.acked + under s') : TOk s' G d := by
 obtain ⟨h1, h2, h3, h4, h5⟩ := h
 refine ⟨by rw [hf]; exact h1, by rw [ht]; exact h2, h3, by omega, h5.imp (fun e => ⟨e.1, e.2.1, by have := e.2.2.1; omega, e.2.2.2⟩) id⟩
/-! ## what comes -/
theorem keys_ne {L : List (I64 × List UInt8)} {k : I64} (hn : (L.map (·.1)).Nodup) : ∀ x ∈ adel L k, x.1 ≠ k := by
 intro x hx he
 unfold adel at hx
 by_cases hk : kidx L k < L.length
 ·have h1 := kidx_at hk
  obtain ⟨j, hj, hjx⟩ := List.mem_iff_getElem.1 hx
  rw [List.getElem_eraseIdx] at hjx
  have hinj : ∀ {a b : Nat} (ha : a < L.length) (hb : b < L.length), (L[a]).1 = (L[b]).1 → a = b := fun {a b} ha hb e => by
   have := (List.getElem_inj (h₀ := by rw [List.length_map]; exact ha) (h₁ := by rw [List.length_map]; exact hb) hn).1 (by rw [List.getElem_map, List.getElem_map]; exact e)
   exact this
  rw [List.length_eraseIdx, if_pos hk] at hj
  split at hjx
  ·rename_i hlt
   have := hinj (a := j) (b := kidx L k) (by omega) hk (by rw [hjx, he, h1])
   omega
  ·rename_i hlt
   have := hinj (a := j + 1) (b := kidx L k) (by omega) hk (by rw [hjx, he, h1])
   omega
 ·rw [List.eraseIdx_of_length_le (by omega)] at hx
  have hf : ahas L k = false := by rw [kidx_has]; exact decide_eq_false hk
  have : ahas L k = true := by
   unfold ahas
   rw [List.any_eq_true]
   exact ⟨x, hx, decide_eq_true he⟩
  rw [hf] at this; cases this
theorem adel_nd {L : List (I64 × List UInt8)} {k : I64} (hn : (L.map (·.1)).Nodup) : ((adel L k).map (·.1)).Nodup := by
 unfold adel
 exact List.Nodup.sublist ((List.eraseIdx_sublist _ _).map _) hn
theorem aget_none_ne {L : List (I64 × List UInt8)} {k : I64} (h : aget L k = none) : ∀ x ∈ L, x.1 ≠ k := by
 intro x hx he
 have h1 : ahas L k = true := by
  unfold ahas
  rw [List.any_eq_true]
  exact ⟨x, hx, decide_eq_true he⟩
 rw [← aget_has, h] at h1; cases h1
theorem ahas_mem {L : List (I64 × List UInt8)} {k : I64} (h : ahas L k = false) : k ∉ L.map (·.1) := by
 intro hm
 obtain ⟨x, hx, rfl⟩ := List.mem_map.1 hm
 have : ahas L x.1 = true := by
  unfold ahas
  rw [List.any_eq_true]
  exact ⟨x, hx, decide_eq_true rfl⟩
 rw [h] at this; cases this
theorem sendS_frm (s : EndV) (b : List UInt8) : (sendS s b).frm = s.frm ∧ (sendS s b).to_ = s.to_ ∧ (sendS s b).slide = s.slide ∧ (sendS s b).clock = s.clock ∧ (sendS s b).came = s.came ∧ (sendS s b).held = s.held ∧ (sendS s b).acked = s.acked := by
 unfold sendS; split <;> exact ⟨rfl, rfl, rfl, rfl, rfl, rfl, rfl⟩
theorem takeS_frm (s : EndV) (d : DgM) : (takeS s d).frm = s.frm ∧ (takeS s d).to_ = s.to_ ∧ (takeS s d).slide = s.slide ∧ (takeS s d).clock = s.clock := by
 unfold takeS ackS; split <;> (try split) <;> (try split) <;> exact ⟨rfl, rfl, rfl, rfl⟩
end Sl
