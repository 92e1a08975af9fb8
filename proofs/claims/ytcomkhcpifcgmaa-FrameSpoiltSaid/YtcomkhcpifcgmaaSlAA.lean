/- Datagrams written are read. No condition. -/
import Derived.Test.YtcomkhcpifcgmaaSlM
import Derived.Test.YtcomkhcpifcgmaaSlAB
namespace Sl
open _root_.Go _root_.Go.RowKit
set_option linter.all false
/-! ### what is written is read -/
theorem dg_ext {a b : DgM} (h1 : a.frm = b.frm) (h2 : a.to_ = b.to_) (h3 : a.kind = b.kind) (h4 : a.seq = b.seq) (h5 : a.ack = b.ack) (h6 : a.body = b.body) : a = b := by cases a; cases b; simp only [DgM.mk.injEq]; exact ⟨h1, h2, h3, h4, h5, h6⟩
theorem src_pre {u : Nat} {n : Int} {k : Nat} (hn : n = k) (hk : k ≤ 64) (hu : u < 2 ^ k) (T : List Bool) : srcE (lowB u k ++ T) n = 0 ∧ srcU (lowB u k ++ T) n = u ∧ (lowB u k ++ T).drop (srcN (lowB u k ++ T) n) = T := by
  subst hn
  obtain ⟨a, b, c⟩ := low_read (u := u) (n := (k : Int)) (fits_small rfl hk hu) T
  rw [Int.toNat_natCast] at a b c
  exact ⟨a, b, by rw [c]; exact drop_part (by rw [lowB_len])⟩
theorem nat_pre {u : Nat} (hu : u < 18446744073709551616) (T : List Bool) : natE (natB u ++ T) = 0 ∧ natU (natB u ++ T) = u ∧ (natB u ++ T).drop (natN (natB u ++ T)) = T := by
  obtain ⟨a, b, c⟩ := natB_read hu T
  exact ⟨a, b, drop_part c⟩
theorem body_pre {l : List UInt8} (hl : l.length ≤ 16384) (T : List Bool) : bodyE (natB l.length ++ bitsOf l ++ T) = 0 ∧ textBytes (natB l.length ++ bitsOf l ++ T) = l ∧ (natB l.length ++ bitsOf l ++ T).drop (textN (natB l.length ++ bitsOf l ++ T)) = T := by
  have hb : textB (bstr l) = natB l.length ++ bitsOf l := textB_bytes l
  obtain ⟨a, b, c⟩ := text_read (s := bstr l) (by rw [bstr_size]; omega) T
  rw [hb] at a b c
  obtain ⟨n1, n2, _⟩ := nat_pre (u := l.length) (by omega) (bitsOf l ++ T)
  rw [← List.append_assoc] at n1 n2
  have hb2 : textBytes (natB l.length ++ bitsOf l ++ T) = l := bodyEq (a := textBytes (natB l.length ++ bitsOf l ++ T)) (b := l) b
  have hb3 : (natB l.length ++ bitsOf l ++ T).drop (textN (natB l.length ++ bitsOf l ++ T)) = T := drop_part (A := natB l.length ++ bitsOf l) (T := T) c
  exact ⟨by rw [bodyE_text n1 (by rw [n2]; omega), a], hb2, hb3⟩
theorem i64'_eq {n : Int} {x : I64} (h : n = x.v) : i64' n = x := I64.eq (by rw [i64'_v (by rw [h]; exact ⟨x.lo, x.hi⟩), h])
theorem tmN_eq {u : Nat} {x : Int} (h0 : 0 ≤ x) (h1 : x ≤ 1099511627776) (h : u = x.toNat) : tmN u = x := by unfold tmN; rw [if_neg (by omega)]; omega
theorem frV_bits {d : DgM} (h : dgE d = 0) (P : List Bool) : rdE (dgBits d ++ P) = 0 ∧ frEnd (dgBits d ++ P) = P ∧ frV (dgBits d ++ P) = d := by
  obtain ⟨h1, h2, h3, h4, h5, h6, h7, h8, h9, h10, h11⟩ := dgE_is h
  have hk : d.kind.v.toNat < 2 ^ 2 := by show _ < 4; omega
  by_cases hk1 : d.kind.v = 1
  · have hR : dgBits d ++ P = lowB d.kind.v.toNat 2 ++ (lowB d.frm.v.toNat 4 ++ (lowB d.to_.v.toNat 4 ++ (natB d.ack.v.toNat ++ (natB d.seq.v.toNat ++ (natB d.body.length ++ bitsOf d.body ++ P))))) := by
      unfold dgBits; rw [if_pos hk1]; simp only [List.append_assoc]
    rw [hR]
    generalize hT5 : natB d.body.length ++ bitsOf d.body ++ P = T5
    generalize hT4 : natB d.seq.v.toNat ++ T5 = T4
    generalize hT3 : natB d.ack.v.toNat ++ T4 = T3
    generalize hT2 : lowB d.to_.v.toNat 4 ++ T3 = T2
    generalize hT1 : lowB d.frm.v.toNat 4 ++ T2 = T1
    obtain ⟨a1, a2, a3⟩ := src_pre (n := 2) (k := 2) rfl (by decide) hk T1
    obtain ⟨b1, b2, b3⟩ := src_pre (u := d.frm.v.toNat) (n := 4) (k := 4) rfl (by decide) (by show _ < 16; omega) T2
    obtain ⟨c1, c2, c3⟩ := src_pre (u := d.to_.v.toNat) (n := 4) (k := 4) rfl (by decide) (by show _ < 16; omega) T3
    obtain ⟨e1, e2, e3⟩ := nat_pre (u := d.ack.v.toNat) (by omega) T4
    obtain ⟨f1', f2', f3'⟩ := nat_pre (u := d.seq.v.toNat) (by omega) T5
    obtain ⟨g1, g2, g3⟩ := body_pre (l := d.body) (by omega) P
    rw [hT1] at b1 b2 b3; rw [hT2] at c1 c2 c3; rw [hT3] at e1 e2 e3; rw [hT4] at f1' f2' f3'; rw [hT5] at g1 g2 g3
    generalize hR0 : lowB d.kind.v.toNat 2 ++ T1 = R at a1 a2 a3 ⊢
    have r1 : fr1 R = T1 := a3
    have r2 : fr2 R = T2 := by unfold fr2; rw [r1]; exact b3
    have r3 : fr3 R = T3 := by unfold fr3; rw [r2]; exact c3
    have r4 : fr4 R = T4 := by unfold fr4; rw [r3]; exact e3
    have r5 : fr5 R = T5 := by unfold fr5; rw [r4]; exact f3'
    have hs1 : srcU R 2 = 1 := by rw [a2]; omega
    refine ⟨?_, ?_, ?_⟩
    · exact (rdE_g a1 hs1 (by rw [r1]; exact b1) (by rw [r2]; exact c1) (by rw [r3]; exact e1) (by rw [r4]; exact f1')).trans (by rw [r5]; exact g1)
    · unfold frEnd; rw [if_pos hs1, r5]; exact g3
    · have q1 : (frV R).frm = d.frm := I64.eq (by rw [frV_frm, r1, b2]; omega)
      have q2 : (frV R).to_ = d.to_ := I64.eq (by rw [frV_to, r2, c2]; omega)
      have q3 : (frV R).kind = d.kind := I64.eq (by rw [frV_kind, a2]; omega)
      have q4 : (frV R).seq = d.seq := I64.eq (by rw [frV_seq1 hs1, r4, f2']; exact tmN_eq h6 h7 rfl)
      have q5 : (frV R).ack = d.ack := I64.eq (by rw [frV_ack, r3, e2]; exact tmN_eq h8 h9 rfl)
      have q6 : (frV R).body = d.body := by rw [frV_body1 hs1, r5]; exact g2
      exact dg_ext q1 q2 q3 q4 q5 q6
  · obtain ⟨hk2, hs0, hb0⟩ : d.kind.v = 2 ∧ d.seq.v = 0 ∧ (d.body.length : Int) = 0 := by rcases h11 with h | h; exact absurd h hk1; exact h
    have hR : dgBits d ++ P = lowB d.kind.v.toNat 2 ++ (lowB d.frm.v.toNat 4 ++ (lowB d.to_.v.toNat 4 ++ (natB d.ack.v.toNat ++ P))) := by
      unfold dgBits; rw [if_neg hk1]; simp only [List.append_assoc, List.nil_append]
    rw [hR]
    generalize hT3 : natB d.ack.v.toNat ++ P = T3
    generalize hT2 : lowB d.to_.v.toNat 4 ++ T3 = T2
    generalize hT1 : lowB d.frm.v.toNat 4 ++ T2 = T1
    obtain ⟨a1, a2, a3⟩ := src_pre (n := 2) (k := 2) rfl (by decide) hk T1
    obtain ⟨b1, b2, b3⟩ := src_pre (u := d.frm.v.toNat) (n := 4) (k := 4) rfl (by decide) (by show _ < 16; omega) T2
    obtain ⟨c1, c2, c3⟩ := src_pre (u := d.to_.v.toNat) (n := 4) (k := 4) rfl (by decide) (by show _ < 16; omega) T3
    obtain ⟨e1, e2, e3⟩ := nat_pre (u := d.ack.v.toNat) (by omega) P
    rw [hT1] at b1 b2 b3; rw [hT2] at c1 c2 c3; rw [hT3] at e1 e2 e3
    generalize hR0 : lowB d.kind.v.toNat 2 ++ T1 = R at a1 a2 a3 ⊢
    have r1 : fr1 R = T1 := a3
    have r2 : fr2 R = T2 := by unfold fr2; rw [r1]; exact b3
    have r3 : fr3 R = T3 := by unfold fr3; rw [r2]; exact c3
    have r4 : fr4 R = P := by unfold fr4; rw [r3]; exact e3
    have hs2 : srcU R 2 = 2 := by rw [a2]; omega
    have hs1 : ¬ srcU R 2 = 1 := by omega
    refine ⟨?_, ?_, ?_⟩
    · exact rdE_ack a1 hs2 (by rw [r1]; exact b1) (by rw [r2]; exact c1) (by rw [r3]; exact e1)
    · unfold frEnd; rw [if_neg hs1, r4]
    · have q1 : (frV R).frm = d.frm := I64.eq (by rw [frV_frm, r1, b2]; omega)
      have q2 : (frV R).to_ = d.to_ := I64.eq (by rw [frV_to, r2, c2]; omega)
      have q3 : (frV R).kind = d.kind := I64.eq (by rw [frV_kind, a2]; omega)
      have q4 : (frV R).seq = d.seq := I64.eq (by rw [frV_seq2 hs1]; omega)
      have q5 : (frV R).ack = d.ack := I64.eq (by rw [frV_ack, r3, e2]; exact tmN_eq h8 h9 rfl)
      have q6 : (frV R).body = d.body := by rw [frV_body2 hs1]; exact (List.eq_nil_of_length_eq_zero (by omega)).symm
      exact dg_ext q1 q2 q3 q4 q5 q6
theorem dgBits_ge (d : DgM) : 11 ≤ (dgBits d).length := by
  have := sizeU_pos d.ack.v.toNat
  unfold dgBits
  split <;> (simp only [List.length_append, lowB_len, natB_len]; omega)
theorem sealed_parts (hd : List UInt8) (n : Nat) : headOf (hd ++ sumB n) = hd ∧ tailOf (hd ++ sumB n) = sumB n := by
  have hl : (hd ++ sumB n).length - 4 = hd.length := by rw [List.length_append, sumB_len]; omega
  unfold headOf tailOf
  rw [hl]
  exact ⟨by simp, by simp⟩
theorem dec_enc {d : DgM} (h : dgE d = 0) : decE (dgBytes d) = 0 ∧ decV (dgBytes d) = d := by
  have hB := dgBytes_yes h
  have hge := dgBits_ge d
  have hl2 : 2 ≤ (dgHead d).length := by show 2 ≤ (pk (dgBits d)).length; rw [pk_len]; omega
  have hlen : ¬ (dgBytes d).length < 6 := by rw [hB, List.length_append, sumB_len]; omega
  obtain ⟨hh, ht⟩ := sealed_parts (dgHead d) (sumN (dgHead d))
  rw [← hB] at hh ht
  have hbits : bitsOf (headOf (dgBytes d)) = dgBits d ++ padB (dgBits d) := by rw [hh]; exact bits_pk _
  obtain ⟨a, b, c⟩ := frV_bits h (padB (dgBits d))
  have hE : decE (dgBytes d) = 0 := by
    rw [decE_fr hlen (by rw [ht, hh]), hbits, frE_dg a (by rw [b]; exact pad_end _), c, h]
  exact ⟨hE, by rw [decV_yes hE, hbits, c]⟩
theorem dgBytes_le {d : DgM} (h : dgE d = 0) : (dgBytes d).length ≤ 1048576 := by
  obtain ⟨h1, h2, h3, h4, h5, h6, h7, h8, h9, h10, h11⟩ := dgE_is h
  have a1 := sizeU_le (u := d.ack.v.toNat) (by omega)
  have a2 := sizeU_le (u := d.seq.v.toNat) (by omega)
  have a3 := sizeU_le (u := d.body.length) (by omega)
  have hb : (dgBits d).length ≤ 1000000 := by
    unfold dgBits
    split <;> (simp only [List.length_append, lowB_len, natB_len, bitsOf_len, List.length_nil]; omega)
  rw [dgBytes_yes h, List.length_append, sumB_len]
  have : (dgHead d).length = ((dgBits d).length + 7) / 8 := pk_len _
  omega
theorem dgBytes_max (d : DgM) : (dgBytes d).length ≤ 1048576 := by
  by_cases h : dgE d = 0
  · exact dgBytes_le h
  · rw [dgBytes_no h]; decide
end Sl
