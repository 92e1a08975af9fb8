/- The bytes of pieces. No condition. -/
import Derived.Test.YteogdknlofcpiaaSlDD
import Derived.Test.YteogdknlofcpiaaSlAA
import Derived.Test.YteogdknlofcpiaaSlAC
import Derived.Test.YteogdknlofcpiaaSlI
namespace Sl
open _root_.Go _root_.Go.RowKit
set_option linter.all false
set_option linter.unusedSimpArgs false
def pcRange (p : PieceV) : Prop := 1 ≤ p.many.v ∧ p.many.v ≤ 1024 ∧ 0 ≤ p.index.v ∧ p.index.v < p.many.v ∧ p.data.length ≤ 4096
instance (p : PieceV) : Decidable (pcRange p) := inferInstanceAs (Decidable (_ ∧ _))
def pieceB (o m i : Int) (n : Nat) : Bool := timeB o && decide (1 ≤ m ∧ m ≤ 1024 ∧ 0 ≤ i ∧ i < m ∧ n ≤ 4096)
theorem pieceB_t {o m i : Int} {n : Nat} (h : timeB o = true) (h2 : 1 ≤ m ∧ m ≤ 1024 ∧ 0 ≤ i ∧ i < m ∧ n ≤ 4096) : pieceB o m i n = true := by unfold pieceB; rw [h, decide_eq_true h2]; rfl
theorem pieceB_1 {o m i : Int} {n : Nat} (h : timeB o = false) : pieceB o m i n = false := by unfold pieceB; rw [h]; rfl
theorem pieceB_2 {o m i : Int} {n : Nat} (h : ¬ (1 ≤ m ∧ m ≤ 1024 ∧ 0 ≤ i ∧ i < m ∧ n ≤ 4096)) : pieceB o m i n = false := by unfold pieceB; rw [decide_eq_false h, Bool.and_false]
def pieceOk (p : PieceV) : Bool := pieceB p.op.v p.many.v p.index.v p.data.length
theorem pieceOk_is {p : PieceV} (h : pieceOk p = true) : 0 ≤ p.op.v ∧ p.op.v ≤ 1099511627776 ∧ 1 ≤ p.many.v ∧ p.many.v ≤ 1024 ∧ 0 ≤ p.index.v ∧ p.index.v < p.many.v ∧ p.data.length ≤ 4096 := by
  unfold pieceOk pieceB at h
  rw [Bool.and_eq_true] at h
  obtain ⟨h1, h2⟩ := timeB_range h.1
  exact ⟨h1, h2, of_decide_eq_true h.2⟩
def pcE (p : PieceV) : Int := if pieceOk p = true then 0 else 242
theorem pcE_0 {p : PieceV} (h : pieceOk p = true) : pcE p = 0 := if_pos h
theorem pcE_242 {p : PieceV} (h : pieceOk p = false) : pcE p = 242 := if_neg (by rw [h]; simp)
def pcB (p : PieceV) : List Bool := natB p.op.v.toNat ++ natB p.many.v.toNat ++ natB p.index.v.toNat ++ textB (bstr p.data)
def pcBytes (p : PieceV) : List UInt8 := if pieceOk p = true then pk (pcB p) else []
theorem pcBytes_yes {p : PieceV} (h : pieceOk p = true) : pcBytes p = pk (pcB p) := if_pos h
theorem pcBytes_no {p : PieceV} (h : pieceOk p = false) : pcBytes p = [] := if_neg (by rw [h]; simp)
/-! ## what bits say -/
def ppR1 (R : List Bool) : List Bool := R.drop (natN R)
def ppR2 (R : List Bool) : List Bool := (ppR1 R).drop (natN (ppR1 R))
def ppR3 (R : List Bool) : List Bool := (ppR2 R).drop (natN (ppR2 R))
def ppR4 (R : List Bool) : List Bool := (ppR3 R).drop (textN (ppR3 R))
def ppP (R : List Bool) : PieceV := ⟨i64N (natU R), i64N (natU (ppR1 R)), i64N (natU (ppR2 R)), textBytes (ppR3 R)⟩
def ppE (R : List Bool) : Int :=
  if ¬ natE R = 0 then natE R else if 1099511627776 < natU R then 242
  else if ¬ natE (ppR1 R) = 0 then natE (ppR1 R) else if 1024 < natU (ppR1 R) then 242
  else if ¬ natE (ppR2 R) = 0 then natE (ppR2 R) else if natU (ppR1 R) ≤ natU (ppR2 R) then 242
  else if ¬ textE (ppR3 R) = 0 then textE (ppR3 R) else if ¬ endE (ppR4 R) = 0 then endE (ppR4 R) else pcE (ppP R)
def zeroP : PieceV := ⟨i64N 0, i64N 0, i64N 0, []⟩
def ppV (R : List Bool) : PieceV := if ppE R = 0 then ppP R else zeroP
section
variable {R : List Bool}
theorem pp_1 (h : ¬ natE R = 0) : ppE R = natE R := if_pos h
theorem pp_2 (h : natE R = 0) (h2 : 1099511627776 < natU R) : ppE R = 242 := by unfold ppE; rw [if_neg (by simpa using h), if_pos h2]
theorem pp_3 (h : natE R = 0) (h2 : ¬ 1099511627776 < natU R) (h3 : ¬ natE (ppR1 R) = 0) : ppE R = natE (ppR1 R) := by unfold ppE; rw [if_neg (by simpa using h), if_neg h2, if_pos h3]
theorem pp_4 (h : natE R = 0) (h2 : ¬ 1099511627776 < natU R) (h3 : natE (ppR1 R) = 0) (h4 : 1024 < natU (ppR1 R)) : ppE R = 242 := by unfold ppE; rw [if_neg (by simpa using h), if_neg h2, if_neg (by simpa using h3), if_pos h4]
theorem pp_5 (h : natE R = 0) (h2 : ¬ 1099511627776 < natU R) (h3 : natE (ppR1 R) = 0) (h4 : ¬ 1024 < natU (ppR1 R)) (h5 : ¬ natE (ppR2 R) = 0) : ppE R = natE (ppR2 R) := by unfold ppE; rw [if_neg (by simpa using h), if_neg h2, if_neg (by simpa using h3), if_neg h4, if_pos h5]
theorem pp_6 (h : natE R = 0) (h2 : ¬ 1099511627776 < natU R) (h3 : natE (ppR1 R) = 0) (h4 : ¬ 1024 < natU (ppR1 R)) (h5 : natE (ppR2 R) = 0) (h6 : natU (ppR1 R) ≤ natU (ppR2 R)) : ppE R = 242 := by unfold ppE; rw [if_neg (by simpa using h), if_neg h2, if_neg (by simpa using h3), if_neg h4, if_neg (by simpa using h5), if_pos h6]
theorem pp_7 (h : natE R = 0) (h2 : ¬ 1099511627776 < natU R) (h3 : natE (ppR1 R) = 0) (h4 : ¬ 1024 < natU (ppR1 R)) (h5 : natE (ppR2 R) = 0) (h6 : ¬ natU (ppR1 R) ≤ natU (ppR2 R)) (h7 : ¬ textE (ppR3 R) = 0) : ppE R = textE (ppR3 R) := by unfold ppE; rw [if_neg (by simpa using h), if_neg h2, if_neg (by simpa using h3), if_neg h4, if_neg (by simpa using h5), if_neg h6, if_pos h7]
theorem pp_8 (h : natE R = 0) (h2 : ¬ 1099511627776 < natU R) (h3 : natE (ppR1 R) = 0) (h4 : ¬ 1024 < natU (ppR1 R)) (h5 : natE (ppR2 R) = 0) (h6 : ¬ natU (ppR1 R) ≤ natU (ppR2 R)) (h7 : textE (ppR3 R) = 0) (h8 : ¬ endE (ppR4 R) = 0) : ppE R = endE (ppR4 R) := by unfold ppE; rw [if_neg (by simpa using h), if_neg h2, if_neg (by simpa using h3), if_neg h4, if_neg (by simpa using h5), if_neg h6, if_neg (by simpa using h7), if_pos h8]
theorem pp_9 (h : natE R = 0) (h2 : ¬ 1099511627776 < natU R) (h3 : natE (ppR1 R) = 0) (h4 : ¬ 1024 < natU (ppR1 R)) (h5 : natE (ppR2 R) = 0) (h6 : ¬ natU (ppR1 R) ≤ natU (ppR2 R)) (h7 : textE (ppR3 R) = 0) (h8 : endE (ppR4 R) = 0) : ppE R = pcE (ppP R) := by unfold ppE; rw [if_neg (by simpa using h), if_neg h2, if_neg (by simpa using h3), if_neg h4, if_neg (by simpa using h5), if_neg h6, if_neg (by simpa using h7), if_neg (by simpa using h8)]
theorem ppV_no (h : ¬ ppE R = 0) : ppV R = zeroP := if_neg h
theorem ppV_yes (h : ppE R = 0) : ppV R = ppP R := if_pos h
end
def clipN (u : Nat) : Int := if 1099511627777 < u then -1 else u
theorem clip_ok {u : Nat} (h : ¬ 1099511627776 < u) : clipN u = (i64N u).v := by unfold clipN; rw [if_neg (by omega), i64N_v (by omega)]
section
variable {R R1 R2 R3 R4 : List Bool} (g1 : R1 = R.drop (natN R)) (g2 : R2 = R1.drop (natN R1)) (g3 : R3 = R2.drop (natN R2)) (g4 : R4 = R3.drop (textN R3))
include g1
theorem pq_3 (h : natE R = 0) (h2 : ¬ 1099511627776 < natU R) (h3 : ¬ natE R1 = 0) : ppE R = natE R1 := by subst g1; exact pp_3 h h2 h3
theorem pq_4 (h : natE R = 0) (h2 : ¬ 1099511627776 < natU R) (h3 : natE R1 = 0) (h4 : 1024 < natU R1) : ppE R = 242 := by subst g1; exact pp_4 h h2 h3 h4
include g2
theorem pq_5 (h : natE R = 0) (h2 : ¬ 1099511627776 < natU R) (h3 : natE R1 = 0) (h4 : ¬ 1024 < natU R1) (h5 : ¬ natE R2 = 0) : ppE R = natE R2 := by subst g1 g2; exact pp_5 h h2 h3 h4 h5
theorem pq_6 (h : natE R = 0) (h2 : ¬ 1099511627776 < natU R) (h3 : natE R1 = 0) (h4 : ¬ 1024 < natU R1) (h5 : natE R2 = 0) (h6 : natU R1 ≤ natU R2) : ppE R = 242 := by subst g1 g2; exact pp_6 h h2 h3 h4 h5 h6
include g3
theorem pq_7 (h : natE R = 0) (h2 : ¬ 1099511627776 < natU R) (h3 : natE R1 = 0) (h4 : ¬ 1024 < natU R1) (h5 : natE R2 = 0) (h6 : ¬ natU R1 ≤ natU R2) (h7 : ¬ textE R3 = 0) : ppE R = textE R3 := by subst g1 g2 g3; exact pp_7 h h2 h3 h4 h5 h6 h7
include g4
theorem pq_8 (h : natE R = 0) (h2 : ¬ 1099511627776 < natU R) (h3 : natE R1 = 0) (h4 : ¬ 1024 < natU R1) (h5 : natE R2 = 0) (h6 : ¬ natU R1 ≤ natU R2) (h7 : textE R3 = 0) (h8 : ¬ endE R4 = 0) : ppE R = endE R4 := by subst g1 g2 g3 g4; exact pp_8 h h2 h3 h4 h5 h6 h7 h8
theorem pq_9 (h : natE R = 0) (h2 : ¬ 1099511627776 < natU R) (h3 : natE R1 = 0) (h4 : ¬ 1024 < natU R1) (h5 : natE R2 = 0) (h6 : ¬ natU R1 ≤ natU R2) (h7 : textE R3 = 0) (h8 : endE R4 = 0) : ppE R = pcE (ppP R) ∧ (ppP R).op.v = clipN (natU R) ∧ (ppP R).many.v = clipN (natU R1) ∧ (ppP R).index.v = clipN (natU R2) ∧ (ppP R).data = textBytes R3 := by
  have k4 : ¬ 1099511627776 < natU R1 := by omega
  have k6 : ¬ 1099511627776 < natU R2 := by omega
  subst g1 g2 g3 g4
  exact ⟨pp_9 h h2 h3 h4 h5 h6 h7 h8, (clip_ok h2).symm, (clip_ok k4).symm, (clip_ok k6).symm, rfl⟩
end
/-! ## what is written is read -/
theorem text_pre {l : List UInt8} (hl : l.length ≤ 16384) (T : List Bool) : textE (textB (bstr l) ++ T) = 0 ∧ textBytes (textB (bstr l) ++ T) = l ∧ (textB (bstr l) ++ T).drop (textN (textB (bstr l) ++ T)) = T := by
  rw [textB_bytes]
  obtain ⟨h1, h2, h3⟩ := body_pre hl T
  refine ⟨?_, h2, h3⟩
  have hn := nat_pre (u := l.length) (by omega) (bitsOf l ++ T)
  rw [← List.append_assoc] at hn
  unfold bodyE at h1
  rw [if_neg (by simpa using hn.1), if_neg (by rw [hn.2.1]; omega)] at h1
  exact h1
theorem i64N_toNat {n : I64} (h : 0 ≤ n.v) : i64N n.v.toNat = n := by
  have := n.hi
  exact I64.eq_of (by rw [i64N_v (by omega)]; omega)
theorem pc_read {p : PieceV} (h : pieceOk p = true) {T : List Bool} (hT : endE T = 0) : ppE (pcB p ++ T) = 0 ∧ ppV (pcB p ++ T) = p := by
  obtain ⟨h1, h2, h3, h4, h5, h6, h7⟩ := pieceOk_is h
  have e0 : pcB p ++ T = natB p.op.v.toNat ++ (natB p.many.v.toNat ++ (natB p.index.v.toNat ++ (textB (bstr p.data) ++ T))) := by unfold pcB; simp only [List.append_assoc]
  obtain ⟨a1, a2, a3⟩ := nat_pre (u := p.op.v.toNat) (by omega) (natB p.many.v.toNat ++ (natB p.index.v.toNat ++ (textB (bstr p.data) ++ T)))
  obtain ⟨b1, b2, b3⟩ := nat_pre (u := p.many.v.toNat) (by omega) (natB p.index.v.toNat ++ (textB (bstr p.data) ++ T))
  obtain ⟨c1, c2, c3⟩ := nat_pre (u := p.index.v.toNat) (by omega) (textB (bstr p.data) ++ T)
  obtain ⟨d1, d2, d3⟩ := text_pre (l := p.data) (by omega) T
  rw [e0]
  have r1 : ppR1 (natB p.op.v.toNat ++ (natB p.many.v.toNat ++ (natB p.index.v.toNat ++ (textB (bstr p.data) ++ T)))) = natB p.many.v.toNat ++ (natB p.index.v.toNat ++ (textB (bstr p.data) ++ T)) := a3
  have r2 : ppR2 (natB p.op.v.toNat ++ (natB p.many.v.toNat ++ (natB p.index.v.toNat ++ (textB (bstr p.data) ++ T)))) = natB p.index.v.toNat ++ (textB (bstr p.data) ++ T) := by unfold ppR2; rw [r1]; exact b3
  have r3 : ppR3 (natB p.op.v.toNat ++ (natB p.many.v.toNat ++ (natB p.index.v.toNat ++ (textB (bstr p.data) ++ T)))) = textB (bstr p.data) ++ T := by unfold ppR3; rw [r2]; exact c3
  have r4 : ppR4 (natB p.op.v.toNat ++ (natB p.many.v.toNat ++ (natB p.index.v.toNat ++ (textB (bstr p.data) ++ T)))) = T := by unfold ppR4; rw [r3]; exact d3
  have hp : ppP (natB p.op.v.toNat ++ (natB p.many.v.toNat ++ (natB p.index.v.toNat ++ (textB (bstr p.data) ++ T)))) = p := by
    unfold ppP
    rw [r1, r2, r3, a2, b2, c2, d2, i64N_toNat h1, i64N_toNat (by omega), i64N_toNat h5]
  have he : ppE (natB p.op.v.toNat ++ (natB p.many.v.toNat ++ (natB p.index.v.toNat ++ (textB (bstr p.data) ++ T)))) = 0 := by
    rw [pp_9 a1 (by rw [a2]; omega) (by rw [r1]; exact b1) (by rw [r1, b2]; omega) (by rw [r2]; exact c1) (by rw [r1, r2, b2, c2]; omega) (by rw [r3]; exact d1) (by rw [r4]; exact hT), hp]
    exact pcE_0 h
  exact ⟨he, by rw [ppV_yes he, hp]⟩
theorem textBytes_size (R : List Bool) : (textS R).size = (textBytes R).length := rfl
theorem textBytes_le (R : List Bool) : (textBytes R).length ≤ R.length := by
  unfold textBytes
  split
  · rename_i h
    rw [List.length_map, List.length_range]
    unfold textE at h
    by_cases h0 : natE R = 0
    · rw [if_neg (by simpa using h0)] at h
      split at h
      · cases h
      · have := Nat.div_le_self (R.length - natN R) 8
        omega
    · rw [natU_no h0]; exact Nat.zero_le _
  · exact Nat.zero_le _
theorem text_im {W w : World} {F : List Atom} {i b cap : Nat} {e : TypeId} {z : Nat × Nat} {tail : List Value} {s : ByteArray} {D : List UInt8} (H : St W w F) (hi : F[i]? = some (blk b (.cells (bytesV s.data.toList ++ tail).toArray e z))) (hs : s.data.toList = D) (hc : s.size ≤ cap) (hm : D.length ≤ 9223372036854775807) : St W w (F.set i (DtA (some ⟨b, 0, none⟩) cap D)) := by
  have hl := (List.getElem?_eq_some_iff.1 hi).1
  have hsz : s.size = D.length := by rw [← hs, Array.length_toList]; rfl
  have H1 := blk_imm H hi
  have H2 := H1.conv (i := i) (A := imm b (.cells (bytesV s.data.toList ++ tail).toArray e z)) (A' := DtA (some ⟨b, 0, none⟩) cap D) (List.getElem?_set_self hl) (fun I h ⟨h0, hI⟩ => by
    refine ⟨h0, ?_, ⟨by rw [← bytesV_flat, bytesV_len]; omega, hm⟩, some ⟨b, 0, none⟩, cap, rfl, ⟨(by intro h; cases h), by omega⟩, fun _ => ⟨b, 0, _, e, z, rfl, hI, ?_, ?_⟩⟩
    · rw [← bytesV_flat]; exact bytesV_one D
    · rw [hs, Array.size, List.length_append, bytesV_len]; omega
    · rw [hs, List.drop_zero, Nat.mul_one, ← bytesV_flat]
      show (bytesV D ++ tail).take D.length = _
      rw [List.take_left' (bytesV_len D)])
  rw [List.set_set] at H2
  exact H2
end Sl
