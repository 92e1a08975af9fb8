/- Rows whose elements have several cells. No condition. -/
import Derived.Test.YteogdknlofcpiaaSlT
import Derived.Test.YteogdknlofcpiaaSlE
namespace Sl
open _root_.Go _root_.Go.RowKit
set_option linter.all false
set_option linter.unusedSimpArgs false
/-! ## rows whose elements have several cells -/
theorem writes_get (vs : List Value) : ∀ (cs : Array Value) (off q : Nat), off + vs.length ≤ cs.size → (writes cs off vs)[q]? = if off ≤ q ∧ q < off + vs.length then vs[q - off]? else cs[q]? := by
  induction vs with
  | nil => intro cs off q h; rw [if_neg (by simp only [List.length_nil]; omega)]; rfl
  | cons v vs ih =>
    intro cs off q h
    simp only [List.length_cons] at h
    show (writes (cs.setIfInBounds off v) (off + 1) vs)[q]? = _
    rw [ih _ _ _ (by simp; omega)]
    by_cases hq : q = off
    · subst hq
      rw [if_neg (by omega), if_pos (by simp), Array.getElem?_setIfInBounds, if_pos rfl]; simp; omega
    · by_cases h2 : off + 1 ≤ q ∧ q < off + 1 + vs.length
      · rw [if_pos h2, if_pos (by simp only [List.length_cons]; omega)]
        obtain ⟨k, rfl⟩ : ∃ k, q = off + 1 + k := ⟨q - (off + 1), by omega⟩
        rw [show off + 1 + k - (off + 1) = k from by omega, show off + 1 + k - off = k + 1 from by omega]; rfl
      · rw [if_neg h2, if_neg (by simp only [List.length_cons]; omega), Array.getElem?_setIfInBounds, if_neg (fun e => hq e.symm)]
theorem row_setN {α : Type} {f : α → List Value} {s : Nat} (hf : ∀ a, (f a).length = s) {L : List α} {cur : Array Value} (h0 : 0 < s) (hx : (cur.toList.drop 0).take (L.length * s) = L.flatMap f) (hs : L.length * s ≤ cur.size) {j : Nat} (hj : j < L.length) (a' : α) :
    ((writes cur (0 + j * s) (f a')).toList.drop 0).take ((L.set j a').length * s) = (L.set j a').flatMap f := by
  have hb : (j + 1) * s ≤ L.length * s := Nat.mul_le_mul_right _ hj
  rw [Nat.add_mul, Nat.one_mul] at hb
  rw [List.drop_zero, List.length_set]
  refine List.ext_getElem? fun q => ?_
  by_cases hq : q < L.length * s
  · rw [List.getElem?_take_of_lt hq, Array.getElem?_toList, writes_get _ _ _ _ (by rw [hf]; omega), hf]
    have hqs : q / s < L.length := (Nat.div_lt_iff_lt_mul h0).2 hq
    have hr : q % s < s := Nat.mod_lt _ h0
    have he : q = q / s * s + q % s := by rw [Nat.mul_comm]; exact (Nat.div_add_mod q s).symm
    by_cases hc : q / s = j
    · rw [if_pos (by rw [← hc]; omega)]
      have h2 : (L.set j a')[q / s]? = some a' := by rw [hc, List.getElem?_set_self (by omega)]
      have h3 := flat_at' hf (L.set j a') (q / s) (q % s) a' h2 hr
      rw [← he] at h3
      rw [h3]; congr 1; rw [← hc]; omega
    · rw [if_neg (by
        rintro ⟨h1, h2⟩
        apply hc
        have h4 : q / s ≥ j := (Nat.le_div_iff_mul_le h0).2 (by omega)
        have h5 : q / s < j + 1 := (Nat.div_lt_iff_lt_mul h0).2 (by rw [Nat.add_mul, Nat.one_mul]; omega)
        omega)]
      have h2 : (L.set j a')[q / s]? = some L[q / s] := by rw [List.getElem?_set_ne (fun e => hc e.symm), List.getElem?_eq_getElem hqs]
      have h3 := flat_at' hf (L.set j a') (q / s) (q % s) _ h2 hr
      have h4 := flat_at' hf L (q / s) (q % s) _ (List.getElem?_eq_getElem hqs) hr
      rw [← he] at h3 h4
      rw [h3, ← h4, ← hx, List.drop_zero, List.getElem?_take_of_lt hq, Array.getElem?_toList]
  · rw [List.getElem?_eq_none (Nat.le_trans (List.length_take_le ..) (by omega)), List.getElem?_eq_none (by rw [flat_len hf, List.length_set]; omega)]
end Sl
