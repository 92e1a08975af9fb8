import Derived.Test.YteogdknlofcpiaaGreatSlG
import Derived.WalkKit
import Derived.ProofKit
import Derived.OpenShut
import Derived.ShutString
import Derived.ChangeOld
import Derived.SizedLaws
import Derived.Carry
import Derived.WideShapes
namespace Sl
open _root_.Go _root_.Go.RowKit
set_option linter.all false
def DecR (R : Nat) (P : Program) (t : TypeId) {α : Type} (cells : α → List Value) (ok : Heap → α → Prop) : Prop :=
 (∀ a, (cells a).length = P.cellsOf t) ∧ (∀ a x, x ∈ cells a → x.oneCell' = true) ∧
  ∀ (H : Type) (enc : TypeId × Value → H) (W : World) (held : Bool) (fuel : Nat) (cs : List Value) (d : DataW H) (ps : List MemPlace),
   DataW.trod enc P W 0 (fun _ => true) held fuel t cs = some (d, ps) → (∀ n ∈ d.weights P t, n ≤ R) → ∃ a, cs = cells a ∧ ok (heapOf W) a
section
variable {R : Nat} {P : Program} {t : TypeId}
theorem DecR.map {α β : Type} {cells : α → List Value} {ok : Heap → α → Prop} {cells' : β → List Value} {ok' : Heap → β → Prop} (D : DecR R P t cells ok) (hlen : ∀ b, (cells' b).length = P.cellsOf t) (hone : ∀ b x, x ∈ cells' b → x.oneCell' = true)
  (h : ∀ I a, ok I a → ∃ b, cells' b = cells a ∧ ok' I b) : DecR R P t cells' ok' := by
 refine ⟨hlen, hone, fun H enc W held fuel cs d ps hd hw => ?_⟩
 obtain ⟨a, hc, ho⟩ := D.2.2 H enc W held fuel cs d ps hd hw
 obtain ⟨b, hb, hb2⟩ := h _ a ho
 exact ⟨b, by rw [hc, hb], hb2⟩
theorem DecR.int {k : IntKind} (ht : P.underlying t = some (.int k)) (hc : P.cellsOf t = 1) : DecR R P t (fun n : Int => [.int k n]) (fun _ n => (Lit.int k n).wf = true) := by
 refine ⟨fun a => by simp [hc], fun a x hx => by simp at hx; subst hx; rfl, fun H enc W held fuel cs d ps hd hw => ?_⟩
 obtain ⟨n, h1, h2, h3⟩ := DataW.trod_int ht hd
 exact ⟨n, h1, h3⟩
theorem DecR.bool (ht : P.underlying t = some .bool) (hc : P.cellsOf t = 1) : DecR R P t (fun n : Bool => [.bool n]) (fun _ _ => True) := by
 refine ⟨fun a => by simp [hc], fun a x hx => by simp at hx; subst hx; rfl, fun H enc W held fuel cs d ps hd hw => ?_⟩
 obtain ⟨n, h1, h2⟩ := DataW.trod_bool ht hd
 exact ⟨n, h1, trivial⟩
theorem DecR.string (ht : P.underlying t = some .string) (hc : P.cellsOf t = 1) : DecR R P t (fun s : ByteArray => [.string s]) (fun _ s => s.size ≤ R) := by
 refine ⟨fun a => by simp [hc], fun a x hx => by simp at hx; subst hx; rfl, fun H enc W held fuel cs d ps hd hw => ?_⟩
 obtain ⟨n, h1, h2, h3⟩ := DataW.trod_string ht hd
 refine ⟨n, h1, ?_⟩
 obtain ⟨rfl, _⟩ := Prod.mk.injEq .. ▸ h2
 have := hw n.data.toList.length (by simp [DataW.weights])
 rw [Array.length_toList] at this
 exact this
def DecFs (R : Nat) (P : Program) (o m : Nat) (fs : List Field) {α : Type} (cells : α → List Value) (ok : Heap → α → Prop) : Prop :=
 (∀ a, o + (cells a).length = m) ∧ (∀ a x, x ∈ cells a → x.oneCell' = true) ∧
  ∀ (H : Type) (enc : TypeId × Value → H) (W : World) (held : Bool) (fuel : Nat) (cs : List Value) (xs : List (DataW H × List MemPlace)),
   cs.length = m → xs.length = fs.length → (∀ (i : Nat) (f : Field), fs[i]? = some f → DataW.trod enc P W 0 (fun _ => true) held fuel f.type ((cs.drop f.offset).take (P.cellsOf f.type)) = xs[i]?) →
   (∀ n ∈ DataW.weightsEach P (fs.map (·.type)) (xs.map (·.1)), n ≤ R) → ∃ a, cs.drop o = cells a ∧ ok (heapOf W) a
theorem DecFs.nil {m : Nat} : DecFs R P m m [] (fun _ : Unit => []) (fun _ _ => True) := by
 refine ⟨fun a => rfl, fun a x hx => (nomatch hx), fun H enc W held fuel cs xs hl _ _ _ => ⟨(), ?_, trivial⟩⟩
 rw [← hl]; simp
theorem DecFs.cons {o o' m : Nat} {f : Field} {fs : List Field} {α β : Type} {cells : α → List Value} {ok : Heap → α → Prop} {cells' : β → List Value} {ok' : Heap → β → Prop} (D : DecR R P f.type cells ok) (S : DecFs R P o' m fs cells' ok') (ho : f.offset = o) (ho' : o + P.cellsOf f.type = o') :
  DecFs R P o m (f :: fs) (fun x : α × β => cells x.1 ++ cells' x.2) (fun I x => ok I x.1 ∧ ok' I x.2) := by
 refine ⟨fun a => by have := S.1 a.2; have := D.1 a.1; simp; omega, fun a x hx => ?_, fun H enc W held fuel cs xs hl hx hr hw => ?_⟩
 ·rcases List.mem_append.1 hx with h | h
  ·exact D.2.1 _ _ h
  ·exact S.2.1 _ _ h
 ·cases xs with
  | nil => simp at hx
  | cons x xs =>
   have h0 := hr 0 f rfl
   simp only [List.getElem?_cons_zero] at h0
   simp only [List.map_cons, DataW.weightsEach, List.mem_append] at hw
   obtain ⟨a, ha, hoa⟩ := D.2.2 H enc W held fuel _ x.1 x.2 h0 (fun n hn => hw n (.inl hn))
   obtain ⟨b, hb, hob⟩ := S.2.2 H enc W held fuel cs xs hl (by simpa using hx) (fun i g hg => by simpa using hr (i + 1) g (by simpa using hg)) (fun n hn => hw n (.inr hn))
   refine ⟨(a, b), ?_, hoa, hob⟩
   show cs.drop o = cells a ++ cells' b
   rw [← ha, ← hb, ho, ← ho', ← List.drop_drop, List.take_append_drop]
theorem DecR.struct {fs : Array Field} {l : List Field} {α : Type} {cells : α → List Value} {ok : Heap → α → Prop} (ht : P.underlying t = some (.struct fs)) (hl : fs.toList = l) (D : DecFs R P 0 (P.cellsOf t) l cells ok) : DecR R P t cells ok := by
 subst hl
 refine ⟨fun a => by have := D.1 a; omega, D.2.1, fun H enc W held fuel cs d ps hd hw => ?_⟩
 obtain ⟨xs, n, rfl, hx, hc, hlx, hr⟩ := DataW.trod_struct ht hd
 obtain ⟨rfl, rfl⟩ := Prod.mk.injEq .. ▸ hx
 simp only [DataW.weights, ht] at hw
 obtain ⟨a, ha, hok⟩ := D.2.2 H enc W held n cs xs hc (by simpa using hlx) (fun i f hf => hr i f (by simpa using hf)) hw
 exact ⟨a, by simpa using ha, hok⟩
theorem weightsAll_mem {H : Type} {P : Program} {e : TypeId} : ∀ {l : List (DataW H)} {d : DataW H}, d ∈ l → ∀ n ∈ d.weights P e, n ∈ DataW.weightsAll P e l
 | d0 :: l, d, hd, n, hn => by
  simp only [DataW.weightsAll, List.mem_append]
  rcases List.mem_cons.1 hd with rfl | h
  ·exact .inl hn
  ·exact .inr (weightsAll_mem h n hn)
theorem choose_list {α β : Type} {p : Nat → α → Prop} {n : Nat} (h : ∀ i, i < n → ∃ a, p i a) : ∃ l : List α, l.length = n ∧ ∀ i a, l[i]? = some a → p i a := by
 induction n with
 | zero => exact ⟨[], rfl, fun i a h => by simp at h⟩
 | succ n ih =>
  obtain ⟨l, hl, hp⟩ := ih fun i hi => h i (by omega)
  obtain ⟨a, ha⟩ := h n (by omega)
  refine ⟨l ++ [a], by simp [hl], fun i b hb => ?_⟩
  by_cases hi : i < l.length
  ·exact hp i b (by rwa [List.getElem?_append_left hi] at hb)
  ·have hlt : i < (l ++ [a]).length := (List.getElem?_eq_some_iff.1 hb).1
   have : i = n := by simp at hlt; omega
   subst this
   rw [List.getElem?_append_right (by omega), hl] at hb
   simp at hb
   subst hb
   exact ha
theorem flat_at' {α : Type} {f : α → List Value} {s : Nat} (hf : ∀ a, (f a).length = s) : ∀ (L : List α) (i k : Nat) (a : α), L[i]? = some a → k < s → (L.flatMap f)[i * s + k]? = (f a)[k]?
 | [], i, k, a, h, _ => by simp at h
 | b :: L, 0, k, a, h, hk => by
  simp at h; subst h
  rw [List.flatMap_cons, Nat.zero_mul, Nat.zero_add, List.getElem?_append_left (by rw [hf]; exact hk)]
 | b :: L, i + 1, k, a, h, hk => by
  rw [List.flatMap_cons, List.getElem?_append_right (by rw [hf, Nat.add_mul]; omega), hf, show (i + 1) * s + k - s = i * s + k by rw [Nat.add_mul]; omega]
  exact flat_at' hf L i k a (by simpa using h) hk
theorem addr_add2 (a : Addr) (m n : Nat) : (a.add m).add n = a.add (m + n) := by
 unfold Addr.add
 by_cases hm : m = 0
 ·subst hm; simp
 ·by_cases hn : n = 0
  ·subst hn; simp
  ·simp [hm, hn]; omega
theorem cells?_at {w : World} {base : Nat} {a : Addr} {n : Nat} {cs : List Value} (h : w.cells? base a n = some cs) : ∀ k, k < n → w.cell? (a.add k) = cs[k]? := (World.cells?_some h).2.2
theorem DecR.slice {e : TypeId} {α : Type} {cells : α → List Value} {ok : Heap → α → Prop} {size bytes : Nat} (ht : P.underlying t = some (.slice e)) (hc : P.cellsOf t = 1) (hs : P.cellsOf e = size) (hb : P.bytesOf e = bytes) (h0 : 0 < size) (D : DecR R P e cells ok) :
  DecR R P t (fun x : Option Addr × Nat × List α => [.slice x.1 x.2.2.length x.2.1])
   (fun I x => (Im size (.slice x.1 x.2.2.length x.2.1) x.2.2.length (x.2.2.flatMap cells)).sat I Heap.none ∧ x.2.2.length * bytes ≤ R ∧ ∀ a ∈ x.2.2, ok I a) := by
 have flen : ∀ l : List α, (l.flatMap cells).length = l.length * size := fun l => flat_len (fun a => by rw [D.1 a, hs]) l
 have fone : ∀ l : List α, ∀ x ∈ l.flatMap cells, x.oneCell' = true := fun l x hx => by
  obtain ⟨a, _, ha⟩ := List.mem_flatMap.1 hx
  exact D.2.1 a x ha
 refine ⟨fun a => by simp [hc], fun a x hx => by simp at hx; subst hx; rfl, fun H enc W held fuel cs d ps hd hw => ?_⟩
 rcases DataW.trod_slice ht hd with ⟨rfl, _⟩ | ⟨a, len, cap, elems, rest, n, rfl, rfl, hx, _, hlen, hcap, hel, hread, _, _⟩
 ·exact ⟨(none, 0, []), rfl, ⟨rfl, fun x hx => by simp at hx, by simp, none, 0, rfl, ⟨fun _ => ⟨rfl, rfl⟩, Nat.le_refl 0⟩, fun h => by simp at h⟩, by simp, fun a ha => by simp at ha⟩
 ·obtain ⟨rfl, rfl⟩ := Prod.mk.injEq .. ▸ hx
  simp only [DataW.weights, ht] at hw
  have hsz := hw _ (List.mem_cons_self ..)
  simp only [List.length_map, hb, hel] at hsz
  have hbd : len * bytes ≤ R := by
   have h1 : len * bytes ≤ (len + rest.length) * bytes := Nat.mul_le_mul_right _ (by omega)
   have h2 : (len + rest.length) * bytes ≤ R := hsz
   omega
  obtain ⟨l, hl, hp⟩ := choose_list (β := Unit) (n := len) (p := fun i x => W.cells? 0 (a.add (i * size)) size = some (cells x) ∧ ok (heapOf W) x) (fun i hi => by
   have h1 := hread i hi
   rw [hs] at h1
   cases hcs : W.cells? 0 (a.add (i * size)) size with
   | none => rw [hcs] at h1; rw [List.getElem?_eq_getElem (by omega)] at h1; simp at h1
   | some cs =>
    rw [hcs, List.getElem?_eq_getElem (by omega)] at h1
    simp only [Option.bind_some] at h1
    obtain ⟨x, hx1, hx2⟩ := D.2.2 H enc W held n cs _ _ h1 (fun m hm => hw m (List.mem_cons_of_mem _ (List.mem_append_left _ (weightsAll_mem (List.mem_map_of_mem (List.getElem_mem (by omega))) m hm))))
    exact ⟨x, by rw [hx1], hx2⟩)
  refine ⟨(some a, cap, l), by simp [hl], ⟨rfl, fone l, ⟨flen l, by rw [hl]; exact Nat.le_trans hlen hcap⟩, some a, cap, rfl, ⟨fun h => by simp at h, by rw [hl]; exact hlen⟩, fun hm => ?_⟩, by rw [hl]; exact hbd, fun x hx => ?_⟩
  ·have h1 : 0 < l.length := hm
   obtain ⟨x0, hx0⟩ : ∃ x, l[0]? = some x := ⟨l[0], by simp⟩
   have hcell : ∀ j y, (l.flatMap cells)[j]? = some y → W.cell? (a.add j) = some y := by
    intro j y hj
    have hjl : j < l.length * size := by have := (List.getElem?_eq_some_iff.1 hj).1; rwa [flen] at this
    have hq : j / size < l.length := by rw [Nat.div_lt_iff_lt_mul h0]; exact hjl
    have hr : j % size < size := Nat.mod_lt _ h0
    have he : j = j / size * size + j % size := by rw [Nat.mul_comm]; exact (Nat.div_add_mod j size).symm
    obtain ⟨h2, _⟩ := hp (j / size) l[j / size] (by simp [hq])
    have h3 := cells?_at h2 (j % size) hr
    rw [he, flat_at' (fun a => by rw [D.1 a, hs]) l (j / size) (j % size) l[j / size] (by simp [hq]) hr] at hj
    rw [hj] at h3
    rw [← h3, addr_add2, ← he]
   have hc0 := hcell 0 _ (by rw [List.getElem?_eq_getElem (by rw [flen]; exact Nat.mul_pos h1 h0)])
   obtain ⟨g, o, sp⟩ := a
   have hadd : ∀ j, (Addr.add ⟨g, o, sp⟩ j).block = g := fun j => by simp [Addr.add]; split <;> rfl
   unfold World.cell? at hc0
   rw [hadd] at hc0
   cases hg : W.heap[g]? with
   | none => rw [hg] at hc0; simp at hc0
   | some ob =>
    cases ob with
    | cells k ty z =>
     have hsp : sp = none := by
      rw [hg] at hc0
      cases sp with
      | none => rfl
      | some s => simp [Addr.add] at hc0
     subst hsp
     have hk : ∀ j y, (l.flatMap cells)[j]? = some y → k[o + j]? = some y := fun j y hj => by
      have := hcell j y hj
      rw [addr_add] at this
      unfold World.cell? at this
      simpa [hg] using this
     have hend : o + l.length * size ≤ k.size := by
      have hpos : 0 < l.length * size := Nat.mul_pos h1 h0
      have h5 := hk (l.length * size - 1) _ (List.getElem?_eq_getElem (by rw [flen]; omega))
      have := (Array.getElem?_eq_some_iff.1 h5).1
      omega
     refine ⟨g, o, k, ty, z, rfl, hg, hend, ?_⟩
     refine List.ext_getElem? fun j => ?_
     by_cases hj : j < l.length * size
     ·rw [List.getElem?_take_of_lt hj, List.getElem?_drop, Array.getElem?_toList, hk j _ (List.getElem?_eq_getElem (by rw [flen]; exact hj)), List.getElem?_eq_getElem (by rw [flen]; exact hj)]
     ·rw [List.getElem?_eq_none (Nat.le_trans (List.length_take_le _ _) (Nat.le_of_not_lt hj)), List.getElem?_eq_none (by rw [flen]; exact Nat.le_of_not_lt hj)]
    | _ => rw [hg] at hc0; simp at hc0
  ·obtain ⟨i, hi⟩ := List.getElem?_of_mem hx
   exact (hp i x hi).2
end
end Sl
