import Derived.Test.YteogdknlofcpiaaGreatSlL
import Derived.Test.YteogdknlofcpiaaGreatSlR
namespace Sl
open _root_.Go _root_.Go.RowKit
set_option linter.all false
def attrB (a : AttrV) : List Bool := textB a.name.v ++ lowB a.kind.v.toNat 2 ++ (if a.kind.v = 1 then natB (zigN a.n.v) else textB a.s.v)
def headB (e : EvM) : List Bool := lowB e.src.v.toNat 4 ++ natB e.seq.v.toNat ++ natB e.time.v.toNat ++ textB e.typ.v ++ lowB e.attrs.length 4
def formB (e : EvM) : List Bool := headB e ++ e.attrs.flatMap attrB
theorem firstNZ_0 {f : Nat → Int} : ∀ {n}, firstNZ f n = 0 → ∀ j, j < n → f j = 0
 | n + 1, h, j, hj => by
  unfold firstNZ at h
  split at h
  ·rename_i h0
   rcases Nat.lt_or_ge j n with hl | hl
   ·exact firstNZ_0 h0 j hl
   ·rw [show j = n from by omega]; exact h
  ·rename_i h0; exact absurd h h0
theorem nameB_len {s : ByteArray} (h : nameB s = true) : s.size ≤ 32 := (of_decide_eq_true h).2.2
theorem attr_ok {al : List AttrV} (h : attrsE al = 0) {j : Nat} (hj : j < al.length) : (al.getD j default).name.v.size ≤ 32 ∧ ((al.getD j default).kind.v = 1 ∨ (al.getD j default).kind.v = 2) ∧ (al.getD j default).s.v.size ≤ 64 ∧ valE (al.getD j default).kind.v (al.getD j default).n.v (al.getD j default).s.v = 0 := by
 have hl := attrsE_len h
 unfold attrsE at h
 rw [if_neg (by omega)] at h
 have h1 := firstNZ_0 h j hj
 unfold attrE at h1
 simp only at h1
 split at h1
 ·cases h1
 ·rename_i hn
  have hn : nameB (al.getD j default).name.v = true := by simpa using hn
  split at h1
  ·rename_i hv; exact absurd h1 hv
  ·rename_i hv
   have hv : valE (al.getD j default).kind.v (al.getD j default).n.v (al.getD j default).s.v = 0 := by simpa using hv
   refine ⟨nameB_len hn, ?_, ?_, hv⟩
   ·unfold valE at hv
    split at hv
    ·rename_i hc; rcases hc with hc | hc; exact .inl hc.1; exact .inr hc.1
    ·cases hv
   ·unfold valE at hv
    split at hv
    ·rename_i hc; rcases hc with hc | hc
     ·rw [hc.2]; decide
     ·exact hc.2.2
    ·cases hv
theorem textB_le {s : ByteArray} {n : Nat} (h : s.size ≤ n) (hn : n ≤ 1000000) : (textB s).length ≤ 129 + 8 * n := by rw [textB_len]; have := sizeU_le (u := s.size) (by omega); omega
theorem attrB_le {a : AttrV} (h1 : a.name.v.size ≤ 32) (h2 : a.s.v.size ≤ 64) : (attrB a).length ≤ 1028 := by
 have := textB_le h1 (by omega)
 have := textB_le h2 (by omega)
 unfold attrB
 split
 ·have hz := zigN_lt a.n.lo a.n.hi
  have := sizeU_le hz
  simp only [List.length_append, lowB_len, natB_len]
  omega
 ·simp only [List.length_append, lowB_len]
  omega
theorem attrs_take {al : List AttrV} {j : Nat} (h : j < al.length) : (al.take (j + 1)).flatMap attrB = (al.take j).flatMap attrB ++ attrB (al.getD j default) := by
 rw [List.take_succ, List.getD_eq_getElem?_getD, List.getElem?_eq_getElem h, List.flatMap_append]
 simp
theorem attrs_le {al : List AttrV} (h : attrsE al = 0) : ∀ j, j ≤ al.length → ((al.take j).flatMap attrB).length ≤ 1028 * j
 | 0, _ => by simp
 | j + 1, hj => by
  have h0 := attrs_le h j (by omega)
  obtain ⟨a, b, c, d⟩ := attr_ok h (j := j) (by omega)
  have := attrB_le a c
  rw [attrs_take (by omega), List.length_append]
  omega
theorem attrs_room {al : List AttrV} {j : Nat} (h : j < al.length) : ((al.take j).flatMap attrB).length + (attrB (al.getD j default)).length ≤ (al.flatMap attrB).length := by
 have h1 : al.flatMap attrB = (al.take (j + 1)).flatMap attrB ++ (al.drop (j + 1)).flatMap attrB := by rw [← List.flatMap_append, List.take_append_drop]
 have h2 : (al.flatMap attrB).length = ((al.take (j + 1)).flatMap attrB).length + ((al.drop (j + 1)).flatMap attrB).length := by rw [← List.length_append, ← h1]
 rw [attrs_take h, List.length_append] at h2
 omega
theorem formB_le {e : EvM} (h : evE e = 0) : (formB e).length ≤ 10000 := by
 obtain ⟨h1, h2, h3, h4, h5, h6⟩ := evE_range h
 have t1 := timeB_range h3
 have t2 := timeB_range h4
 have s1 := sizeU_le (u := e.seq.v.toNat) (by omega)
 have s2 := sizeU_le (u := e.time.v.toNat) (by omega)
 have s3 := textB_le (nameB_len h5) (by omega)
 have s4 := attrs_le h6 e.attrs.length (Nat.le_refl _)
 have s5 := attrsE_len h6
 rw [List.take_length] at s4
 unfold formB headB
 simp only [List.length_append, lowB_len, natB_len]
 omega
theorem bits_ok {L : List Bool} {u : Nat} {n : Int} (hf : fitsB u n = true) (hr : (L.length : Int) + n ≤ 1048576) : bitsE L u n = 0 ∧ bitsL L u n = L ++ lowB u n.toNat := by
 have hf2 := of_decide_eq_true hf
 unfold bitsE bitsL
 rw [if_pos hf, if_pos hf]
 have hE : putE L n = 0 := putE_0 (by omega)
 exact ⟨hE, putL_0 (by rw [lowB_len]; omega) hE⟩
theorem put_ok {L M : List Bool} {n : Int} (hn : (M.length : Int) = n) (hr : (L.length : Int) + n ≤ 1048576) : putE L n = 0 ∧ putL L M = L ++ M := by
 have hE : putE L n = 0 := putE_0 (by omega)
 exact ⟨hE, putL_0 hn hE⟩
theorem fits_small {u : Nat} {n : Int} {k : Nat} (hk : n = k) (h64 : k ≤ 64) (h : u < 2 ^ k) : fitsB u n = true := decide_eq_true ⟨by omega, by omega, by subst hk; simpa using h⟩
def evPutE (L : List Bool) (e : EvM) : Int := if evE e = 0 then putE L ((formB e).length : Int) else evE e
def evPutL (L : List Bool) (e : EvM) : List Bool := if evE e = 0 then putL L (formB e) else L
theorem evPut_no {L : List Bool} {e : EvM} (h : ¬ evE e = 0) : evPutE L e = evE e ∧ evPutL L e = L := ⟨if_neg h, if_neg h⟩
theorem evPut_yes {L : List Bool} {e : EvM} (h : evE e = 0) : evPutE L e = putE L ((formB e).length : Int) ∧ evPutL L e = putL L (formB e) := ⟨if_pos h, if_pos h⟩
theorem evPutL_le {L : List Bool} {e : EvM} (h : L.length ≤ 1048576) : (evPutL L e).length ≤ 1048576 := by
 unfold evPutL
 split
 ·exact putL_le h
 ·exact h
end Sl
