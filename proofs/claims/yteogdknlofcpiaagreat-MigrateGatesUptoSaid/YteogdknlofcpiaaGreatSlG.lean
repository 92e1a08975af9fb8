import Derived.Test.YteogdknlofcpiaaGreatSlX
import Derived.Test.YteogdknlofcpiaaGreatSlF
namespace Sl
open _root_.Go _root_.Go.RowKit
set_option linter.all false
set_option linter.unusedSimpArgs false
def bAt (s : ByteArray) (i : Nat) : Int := ((s.data.toList.getD i 0).toNat : Int)
theorem str_at {s : ByteArray} {j : Int} {n : Nat} (hj : j = n) (h : n < s.size) : (s[j.toNat]?).map (fun b => (b.toNat : Int)) = some (bAt s n) := by
  subst hj
  have hl : n < s.data.toList.length := by simpa using h
  have hl2 : n < s.data.size := h
  rw [Int.toNat_natCast]
  have : s[n]? = some (s.data.toList.getD n 0) := by
    rw [getElem?_pos s n h]
    congr 1
    rw [List.getD, Array.getElem?_toList, Array.getElem?_eq_getElem hl2]
    rfl
  rw [this]
  rfl
theorem bytes_get (s : ByteArray) (tl : List Value) (i : Nat) (h : i < s.size) : ((bytesV s.data.toList ++ tl).toArray)[i]? = some (.int .u8 (bAt s i)) := by
  have hl : i < s.data.toList.length := by simpa using h
  rw [List.getElem?_toArray, List.getElem?_append_left (by simpa [bytesV] using h)]
  simp [bytesV, bAt, List.getD, List.getElem?_eq_getElem hl]
section
variable {C : Ctx} {ρ : Env} {w : World} {ops : Array Oper} {K' : Env → World → Prop} {d ty : Nat} {pos : String} {af : Array Edge}
variable {W : World} {l : List Atom} {i : Nat} {x y : Operand} {B off : Nat} {cs cs' : Array Value} {e : TypeId} {fz : Nat × Nat}
theorem s_buildSlice0 (H : St W w l) {t : TypeId} (size : Nat) (hs : elemSize C.P t = some (e, size)) (hn : Nat.blt d C.n = true)
    (h : ∀ b w', St W w' (blk b (.cells #[] e (0, 0)) :: l) → K' (upd ρ d (.slice (some ⟨b, 0, none⟩) 0 0)) w') : GOp C ops ⟨some d, .buildSlice t 0 #[], ty, pos, af, none⟩ K' ρ w := by
  refine r_val rfl rfl hn ?_ (h _ _ (H.alloc _))
  unfold elemSize at hs
  split at hs
  · rename_i e' hu
    split at hs
    · rename_i ti hti
      injection hs with hs
      injection hs with h1 h2
      subst h1
      subst h2
      have hnb : ¬ ((0 : Nat) > 2 ^ 24) := by omega
      simp only [execOp, Instr.buildSlice, Sem.run_bind, run_underlying hu, Result.andThen_ok, run_sizeOf hti, Nat.zero_mul, hnb, if_false, if_true, Sem.run_pure]
      have e1 : ∀ g : Nat → Value, (Array.range 0).map g = #[] := fun g => by simp
      have e2 : ((#[] : Array (Nat × Operand)).map fun x => (x.1, opv C.n ρ x.2)).toList = [] := by simp
      rw [e1]
      simp only [e2]
      rfl
    · cases hs
  · cases hs
theorem Row.of_blk {b n size : Nat} (H : St W w l) (hi : l[i]? = some (blk b (.cells cs e (0, 0)))) (hm : n ≤ maxLen) (hs : cs.size = n * size) (hone : ∀ x ∈ cs.toList, x.oneCell' = true) : St W w (l.set i (Row e size (.slice (some ⟨b, 0, none⟩) n n) n cs.toList)) :=
  Row.shut H hi (Nat.le_refl n) hm hs (by rw [← hs]; exact List.take_of_length_le (by simp)) hone
end
theorem flat_len {α : Type} {f : α → List Value} {s : Nat} (hf : ∀ a, (f a).length = s) : ∀ L : List α, (L.flatMap f).length = L.length * s
  | [] => by simp
  | a :: L => by simp [flat_len hf L, hf a, Nat.add_mul, Nat.add_comm]
theorem flat_at {α : Type} {f : α → List Value} {s : Nat} (hf : ∀ a, (f a).length = s) : ∀ (L : List α) (i : Nat) (d : α), i < L.length → ((L.flatMap f).drop (i * s)).take s = f (L.getD i d)
  | [], i, d, h => by simp at h
  | a :: L, 0, d, _ => by
    simp only [List.flatMap_cons, Nat.zero_mul, List.drop_zero, List.getD_cons_zero]
    rw [← hf a]
    exact List.take_left
  | a :: L, i + 1, d, h => by
    simp only [List.flatMap_cons, List.getD_cons_succ]
    rw [show (i + 1) * s = (f a).length + i * s by rw [hf a, Nat.add_mul]; omega, ← List.drop_drop, List.drop_left]
    exact flat_at hf L i d (by simpa using h)
theorem elem_take {α : Type} {f : α → List Value} {s : Nat} (hf : ∀ a, (f a).length = s) {L : List α} {k : List Value} {o : Nat} (hx : (k.drop o).take (L.length * s) = L.flatMap f) {i : Nat} (hi : i < L.length) (d : α) : (k.drop (o + i * s)).take s = f (L.getD i d) := by
  rw [← flat_at hf L i d hi, ← hx, List.drop_take, List.take_take, List.drop_drop]
  congr 1
  have h1 : (i + 1) * s ≤ L.length * s := Nat.mul_le_mul_right s hi
  rw [Nat.add_mul] at h1
  omega
theorem elem_cell {α : Type} {f : α → List Value} {s : Nat} (hf : ∀ a, (f a).length = s) {L : List α} {k : Array Value} {o : Nat} (hx : (k.toList.drop o).take (L.length * s) = L.flatMap f) {i : Nat} (hi : i < L.length) (d : α) (t : Nat) (ht : t < s) (v : Value) (hv : (f (L.getD i d))[t]? = some v) : k[o + i * s + t]? = some v := by
  rw [← hv, ← elem_take hf hx hi d, List.getElem?_take, if_pos ht, List.getElem?_drop, Array.getElem?_toList]
theorem elem_sub {α : Type} {f : α → List Value} {s : Nat} (hf : ∀ a, (f a).length = s) {L : List α} {k : List Value} {o : Nat} (hx : (k.drop o).take (L.length * s) = L.flatMap f) {i : Nat} (hi : i < L.length) (d : α) (t m : Nat) (ht : t + m ≤ s) : (k.drop (o + i * s + t)).take m = ((f (L.getD i d)).drop t).take m := by
  rw [← elem_take hf hx hi d, List.drop_take, List.take_take, List.drop_drop, Nat.min_eq_left (by omega)]
theorem elem_size {s o i n z : Nat} (h : o + n * s ≤ z) (hi : i < n) : o + i * s + s ≤ z := by
  have h2 : (i + 1) * s ≤ n * s := Nat.mul_le_mul_right s hi
  rw [Nat.add_mul] at h2
  omega
def Im (size : Nat) (u : Value) (m : Nat) (xs : List Value) : Atom :=
  ⟨fun I h => h = Heap.none ∧ (∀ x ∈ xs, x.oneCell' = true) ∧ (xs.length = m * size ∧ m ≤ 9223372036854775807) ∧ ∃ (p : Option Addr) (c : Nat), u = .slice p m c ∧ ((p = none → m = 0 ∧ c = 0) ∧ m ≤ c) ∧ (0 < m → ∃ (g o : Nat) (k : Array Value) (e : TypeId) (z : Nat × Nat), p = some ⟨g, o, none⟩ ∧ I g = some (.cells k e z) ∧ o + m * size ≤ k.size ∧ (k.toList.drop o).take (m * size) = xs),
   fun I J h hl ⟨h1, h2, h3, p, c, h4, h5, h6⟩ => ⟨h1, h2, h3, p, c, h4, h5, fun hm => by obtain ⟨g, o, k, e, z, a, b, c, d⟩ := h6 hm; exact ⟨g, o, k, e, z, a, hl _ _ b, c, d⟩⟩⟩
theorem Im_pers (size : Nat) (u : Value) (m : Nat) (xs : List Value) : (Im size u m xs).pers := fun _ _ h => h.1
def imi (p : Prop) (b : Nat) (o : Obj) : Atom := ⟨fun I h => h = Heap.none ∧ (p → I b = some o), fun I J h hl e => ⟨e.1, fun hp => hl _ _ (e.2 hp)⟩⟩
section
variable {W w : World} {l : List Atom} {i : Nat}
theorem St.imi_at {p : Prop} {b : Nat} {o : Obj} (H : St W w l) (hi : l[i]? = some (imi p b o)) (hp : p) : w.heap[b]? = some o := by
  obtain ⟨I, h1, _, hI, hh, a⟩ := H.get hi
  exact hI _ _ (a.2 hp)
theorem Im.len {size : Nat} {u : Value} {m : Nat} {xs : List Value} (H : St W w l) (hi : l[i]? = some (Im size u m xs)) : m ≤ 9223372036854775807 := by
  obtain ⟨I, h1, _, hI, hh, _, h2, h3, _⟩ := H.get hi
  exact h3.2
theorem Im.open_ {size : Nat} {u : Value} {m : Nat} {xs : List Value} (H : St W w l) (hi : l[i]? = some (Im size u m xs)) : ∃ (p : Option Addr) (c g o : Nat) (k : Array Value) (e : TypeId) (z : Nat × Nat), u = .slice p m c ∧ (p = none → m = 0 ∧ c = 0) ∧ (0 < m → p = some ⟨g, o, none⟩) ∧ (0 < m → (k.toList.drop o).take (m * size) = xs) ∧ (0 < m → o + m * size ≤ k.size) ∧ m ≤ 9223372036854775807 ∧ St W w (imi (0 < m) g (.cells k e z) :: l) := by
  have H2 := H.dup hi (Im_pers _ _ _ _)
  obtain ⟨⟨p, c, g, o, k, e, z⟩, hp, H3⟩ := H2.choose (i := 0) rfl (fun x : Option Addr × Nat × Nat × Nat × Array Value × TypeId × (Nat × Nat) => imi (0 < m) x.2.2.1 (.cells x.2.2.2.2.1 x.2.2.2.2.2.1 x.2.2.2.2.2.2))
    (fun x => u = .slice x.1 m x.2.1 ∧ (x.1 = none → m = 0 ∧ x.2.1 = 0) ∧ (0 < m → x.1 = some ⟨x.2.2.1, x.2.2.2.1, none⟩) ∧ (0 < m → (x.2.2.2.2.1.toList.drop x.2.2.2.1).take (m * size) = xs) ∧ (0 < m → x.2.2.2.1 + m * size ≤ x.2.2.2.2.1.size)) (by
      rintro I h1 ⟨h1, h2, h3, p, c, h4, h5, h6⟩
      by_cases hm : 0 < m
      · obtain ⟨g, o, k, e, z, a, b, c', d⟩ := h6 hm
        exact ⟨(p, c, g, o, k, e, z), ⟨h4, h5.1, fun _ => a, fun _ => d, fun _ => c'⟩, h1, fun _ => b⟩
      · exact ⟨(p, c, 0, 0, #[], 0, (0, 0)), ⟨h4, h5.1, fun h => absurd h hm, fun h => absurd h hm, fun h => absurd h hm⟩, h1, fun h => absurd h hm⟩)
  exact ⟨p, c, g, o, k, e, z, hp.1, hp.2.1, hp.2.2.1, hp.2.2.2.1, hp.2.2.2.2, Im.len H hi, H3⟩
theorem Im.one {size : Nat} {u : Value} {m : Nat} {xs : List Value} (H : St W w l) (hi : l[i]? = some (Im size u m xs)) : u.oneCell' = true := by
  obtain ⟨I, h1, _, hI, hh, _, h2, h3, p, c, h4, h5, h6⟩ := H.get hi
  rw [h4]; rfl
theorem Im.rd {size : Nat} {u : Value} {m : Nat} {xs : List Value} (H : St W w l) (hi : l[i]? = some (Im size u m xs)) : Rd w size u m xs := by
  obtain ⟨I, h1, _, hI, hh, _, h2, h3, p, c, h4, h5, h6⟩ := H.get hi
  refine ⟨h3.1, h2, ?_⟩
  cases p with
  | none => obtain ⟨a, b⟩ := h5.1 rfl; subst a; subst b; exact .inl ⟨h4, rfl⟩
  | some a =>
    refine .inr ⟨a, c, h4, fun j x hj => ?_⟩
    have hm : 0 < m := by
      rcases Nat.eq_zero_or_pos m with h0 | h0
      · subst h0
        have : xs = [] := List.eq_nil_of_length_eq_zero (by simpa using h3.1)
        subst this
        simp at hj
      · exact h0
    obtain ⟨g, o, k, e, z, e1, b, c', d⟩ := h6 hm
    injection e1 with e1
    subst e1
    rw [addr_add]
    refine cell_of (hI _ _ b) ?_
    rw [← d, List.getElem?_take] at hj
    split at hj
    · rw [List.getElem?_drop] at hj
      simpa using hj
    · cases hj
theorem Im.cap {size : Nat} {p : Option Addr} {c m n : Nat} {xs : List Value} (H : St W w l) (hi : l[i]? = some (Im size (.slice p n c) m xs)) : n ≤ c := by
  obtain ⟨I, h1, _, hI, hh, _, h2, h3, p', c', h4, h5, h6⟩ := H.get hi
  injection h4 with a b d
  have := h5.2
  omega
theorem Row.im {e : TypeId} {size n : Nat} {v : Value} {xs : List Value} (H : St W w l) (hi : l[i]? = some (Row e size v n xs)) : St W w (l.set i (Im size v n xs)) := by
  have H2 := H.share hi
  have hi2 : (l.set i (shared (Row e size v n xs)))[i]? = some (shared (Row e size v n xs)) := by
    have := (List.getElem?_eq_some_iff.1 hi).1
    simp [this]
  have H3 := H2.conv (A' := Im size v n xs) hi2 (by
    rintro I h1 ⟨hn, h2, hle, hone, hlen, a⟩
    refine ⟨hn, hone, ⟨hlen, ?_⟩, ?_⟩
    · rcases a with ⟨rfl, rfl, _⟩ | ⟨g, cap, cur, rfl, hc, hm, hs, ht, rfl⟩
      · omega
      · exact Nat.le_trans hc hm
    rcases a with ⟨rfl, rfl, _⟩ | ⟨g, cap, cur, rfl, hc, hm, hs, ht, rfl⟩
    · exact ⟨none, 0, rfl, ⟨fun _ => ⟨rfl, rfl⟩, Nat.le_refl 0⟩, fun h => absurd h (by omega)⟩
    · refine ⟨some ⟨g, 0, none⟩, cap, rfl, ⟨?_, hc⟩, ?_⟩
      · intro h; cases h
      · intro h0
        refine ⟨g, 0, cur, e, (0, 0), rfl, Heap.of_one_le hle, ?_, by simpa using ht⟩
        rw [hs, Nat.zero_add]
        exact Nat.mul_le_mul_right _ hc)
  rwa [List.set_set] at H3
end
end Sl
