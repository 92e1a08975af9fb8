/- A slice's elements, met in memory as they lie there. No condition. -/
import Derived.Test.YtkclljglobeplaaSlCF
import Derived.Test.YtkclljglobeplaaSlY
namespace Sl
open _root_.Go _root_.Go.RowKit _root_.Go.Proofs
set_option linter.all false
set_option linter.unusedSimpArgs false
/-- What a slice's datum holds is what the elements of the list that lies there are read as. -/
theorem met_slice {H : Type} {enc : TypeId × Value → H} {P : Program} {W : World} {sp : Nat → Bool} {held : Bool} {fuel : Nat} {ts t : TypeId} {α : Type} {cells : α → List Value} {size : Nat} {l : List α} {p : Option Addr} {c : Nat} {d : DataW H} {ps : List MemPlace}
    (hts : P.underlying ts = some (.slice t)) (hs : P.cellsOf t = size) (h0 : 0 < size) (hc : ∀ a, (cells a).length = size)
    (him : (Im size (.slice p l.length c) l.length (l.flatMap cells)).sat (heapOf W) Heap.none)
    (h : DataW.trod enc P W 0 sp held fuel ts [.slice p l.length c] = some (d, ps)) :
    (l = [] ∧ d = .nil) ∨ ∃ (es : List (DataW H × List MemPlace)) (sp' : List (DataW H)) (n : Nat), d = .slice (es.map (·.1)) sp' ∧ es.length = l.length ∧ ∀ (i : Nat) (a : α), l[i]? = some a → ∃ x, es[i]? = some x ∧ DataW.trod enc P W 0 sp held n t (cells a) = some x := by
  rcases DataW.trod_slice hts h with ⟨hcs, hx⟩ | ⟨a, len, cap, elems, rest, n, hf, hcs, hx, _, hlen, hcap, hel, hread, _, _⟩
  · injection hcs with h1 h2
    injection h1 with h3 h4 h5
    exact .inl ⟨List.eq_nil_of_length_eq_zero h4, (Prod.mk.injEq .. ▸ hx).1⟩
  · injection hcs with h1 h2
    injection h1 with h3 h4 h5
    refine .inr ⟨elems, rest.map (·.1), n, (Prod.mk.injEq .. ▸ hx).1, by omega, fun i x hi => ?_⟩
    have hil : i < l.length := (List.getElem?_eq_some_iff.1 hi).1
    have h6 := hread i (by omega)
    rw [hs] at h6
    have hei : elems[i]? = some elems[i] := List.getElem?_eq_getElem (by omega)
    cases hcc : W.cells? 0 (a.add (i * size)) size with
    | none => rw [hcc, hei] at h6; simp at h6
    | some cs =>
      rw [hcc, hei] at h6
      simp only [Option.bind_some] at h6
      refine ⟨_, hei, ?_⟩
      obtain ⟨_, hl, hat⟩ := World.cells?_some hcc
      obtain ⟨_, _, hlen2, p', c', e1, e2, e3⟩ := him
      obtain ⟨g, o, k, e, z, rfl2, hg, hend, htake⟩ := e3 (by omega)
      injection e1 with q1 q2 q3
      have ha : a = ⟨g, o, none⟩ := by rw [← q1, h3] at rfl2; injection rfl2
      subst ha
      have : cs = cells x := by
        refine List.ext_getElem? fun j => ?_
        by_cases hj : j < size
        · rw [← hat j hj, addr_add, addr_add]
          have hfl : (l.flatMap cells)[i * size + j]? = (cells x)[j]? := flat_at' hc l i j x hi hj
          have hg' : W.heap[g]? = some (.cells k e z) := hg
          have hb : i * size + j < l.length * size := by
            have : (i + 1) * size ≤ l.length * size := Nat.mul_le_mul_right _ hil
            rw [Nat.add_mul, Nat.one_mul] at this; omega
          have hk : k[o + i * size + j]? = (l.flatMap cells)[i * size + j]? := by
            rw [← htake, List.getElem?_take_of_lt hb, List.getElem?_drop, Array.getElem?_toList]; congr 1; omega
          rw [hfl, List.getElem?_eq_getElem (by rw [hc]; exact hj)] at hk
          rw [List.getElem?_eq_getElem (by rw [hc]; exact hj)]
          exact cell_of hg' hk
        · rw [List.getElem?_eq_none (by omega), List.getElem?_eq_none (by rw [hc]; omega)]
      rw [← this]; exact h6
end Sl
