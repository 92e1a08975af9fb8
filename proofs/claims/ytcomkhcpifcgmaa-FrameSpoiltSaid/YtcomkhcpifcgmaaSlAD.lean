/- Datagrams read are written in just these bytes. No condition. -/
import Derived.Test.YtcomkhcpifcgmaaSlAA
import Derived.Test.YtcomkhcpifcgmaaSlAC
namespace Sl
open _root_.Go _root_.Go.RowKit
set_option linter.all false
theorem rdE_is {R : List Bool} (h : rdE R = 0) : srcE R 2 = 0 ∧ (srcU R 2 = 1 ∨ srcU R 2 = 2) ∧ srcE (fr1 R) 4 = 0 ∧ srcE (fr2 R) 4 = 0 ∧ natE (fr3 R) = 0 ∧ (srcU R 2 = 1 → natE (fr4 R) = 0 ∧ bodyE (fr5 R) = 0) := by
  by_cases h0 : srcE R 2 = 0
  · by_cases hk : srcU R 2 = 1 ∨ srcU R 2 = 2
    · by_cases h1 : srcE (fr1 R) 4 = 0
      · by_cases h2 : srcE (fr2 R) 4 = 0
        · by_cases h3 : natE (fr3 R) = 0
          · refine ⟨h0, hk, h1, h2, h3, fun h1k => ?_⟩
            by_cases h4 : natE (fr4 R) = 0
            · exact ⟨h4, by rw [← rdE_g h0 h1k h1 h2 h3 h4]; exact h⟩
            · exact absurd ((rdE_f h0 h1k h1 h2 h3 h4).symm.trans h) h4
          · exact absurd ((rdE_e h0 hk h1 h2 h3).symm.trans h) h3
        · exact absurd ((rdE_d h0 hk h1 h2).symm.trans h) h2
      · exact absurd ((rdE_c h0 hk h1).symm.trans h) h1
    · exact absurd ((rdE_b h0 hk).symm.trans h) (by decide)
  · exact absurd ((rdE_a h0).symm.trans h) h0
theorem body_is {R : List Bool} (h : bodyE R = 0) : textE R = 0 := by
  by_cases h1 : natE R = 0
  · by_cases h2 : 16384 < natU R
    · exact absurd ((bodyE_21 h1 h2).symm.trans h) (by decide)
    · rw [← bodyE_text h1 h2]; exact h
  · exact absurd ((bodyE_nat h1).symm.trans h) h1
theorem tmN_back {u : Nat} (h : 0 ≤ tmN u) : (tmN u).toNat = u := by
  unfold tmN at h ⊢
  split at h
  · omega
  · rename_i h1; rw [if_neg h1]; rfl
theorem take_drop_of {L A : List Bool} {n : Nat} (h : A = L.take n) : A ++ L.drop n = L := by rw [h]; exact List.take_append_drop n L
theorem fr_bits {R : List Bool} (h : rdE R = 0) (hd : dgE (frV R) = 0) : dgBits (frV R) ++ frEnd R = R := by
  obtain ⟨h0, hk, h1, h2, h3, h4⟩ := rdE_is h
  obtain ⟨d1, d2, d3, d4, d5, d6, d7, d8, d9, d10, d11⟩ := dgE_is hd
  have b0 : lowB (frV R).kind.v.toNat 2 ++ fr1 R = R := by
    obtain ⟨a, b, c⟩ := src_back (n := 2) (k := 2) rfl h0
    rw [frV_kind, Int.toNat_natCast, a]
    unfold fr1
    rw [c]
    exact List.take_append_drop 2 R
  have b1 : lowB (frV R).frm.v.toNat 4 ++ fr2 R = fr1 R := by
    obtain ⟨a, b, c⟩ := src_back (n := 4) (k := 4) rfl h1
    rw [frV_frm, Int.toNat_natCast, a]
    unfold fr2
    rw [c]
    exact List.take_append_drop 4 _
  have b2 : lowB (frV R).to_.v.toNat 4 ++ fr3 R = fr2 R := by
    obtain ⟨a, b, c⟩ := src_back (n := 4) (k := 4) rfl h2
    rw [frV_to, Int.toNat_natCast, a]
    unfold fr3
    rw [c]
    exact List.take_append_drop 4 _
  have b3 : natB (frV R).ack.v.toNat ++ fr4 R = fr3 R := by
    rw [frV_ack] at d8 ⊢
    rw [tmN_back d8, (nat_back h3).1]
    unfold fr4
    exact List.take_append_drop _ _
  unfold dgBits
  by_cases hk1 : srcU R 2 = 1
  · have hkv : (frV R).kind.v = 1 := by rw [frV_kind]; omega
    obtain ⟨e4, e5⟩ := h4 hk1
    obtain ⟨t1, t2, t3⟩ := text_back (body_is e5)
    have b4 : natB (frV R).seq.v.toNat ++ fr5 R = fr4 R := by
      rw [frV_seq1 hk1] at d6 ⊢
      rw [tmN_back d6, (nat_back e4).1]
      unfold fr5
      exact List.take_append_drop _ _
    have b5 : (natB (frV R).body.length ++ bitsOf (frV R).body) ++ frEnd R = fr5 R := by
      rw [frV_body1 hk1, t1]
      unfold frEnd
      rw [if_pos hk1]
      exact List.take_append_drop _ _
    rw [if_pos hkv]
    simp only [List.append_assoc] at b5 ⊢
    rw [b5, b4, b3, b2, b1, b0]
  · have hkv : ¬ (frV R).kind.v = 1 := by rw [frV_kind]; omega
    rw [if_neg hkv]
    have b5 : frEnd R = fr4 R := if_neg hk1
    rw [b5]
    simp only [List.append_assoc, List.nil_append]
    rw [b3, b2, b1, b0]
theorem enc_dec {bs : List UInt8} (h : decE bs = 0) : dgE (decV bs) = 0 ∧ dgBytes (decV bs) = bs := by
  have hV := decV_yes h
  by_cases hl : bs.length < 6
  · exact absurd ((decE_10 hl).symm.trans h) (by decide)
  · by_cases ht : tailOf bs = sumB (sumN (headOf bs))
    · rw [decE_fr hl ht] at h
      have h1 : rdE (bitsOf (headOf bs)) = 0 := Decidable.byContradiction fun hn => hn ((frE_rd hn).symm.trans h)
      have h2 : endE (frEnd (bitsOf (headOf bs))) = 0 := Decidable.byContradiction fun hn => hn ((frE_end h1 hn).symm.trans h)
      have h3 : dgE (frV (bitsOf (headOf bs))) = 0 := (frE_dg h1 h2).symm.trans h
      rw [hV]
      refine ⟨h3, ?_⟩
      have hb := fr_bits h1 h3
      have hp : dgHead (frV (bitsOf (headOf bs))) = headOf bs := pk_back hb.symm h2
      rw [dgBytes_yes h3, hp, ← ht]
      exact List.take_append_drop _ _
    · exact absurd ((decE_20 hl ht).symm.trans h) (by decide)
end Sl
