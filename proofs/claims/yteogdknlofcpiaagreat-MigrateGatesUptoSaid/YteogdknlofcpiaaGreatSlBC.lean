import Derived.Test.YteogdknlofcpiaaGreatSlBB
namespace Sl
open _root_.Go _root_.Go.RowKit
set_option linter.all false
set_option linter.unusedSimpArgs false
structure ValV where
 kind : I64
 n : I64
 s : Str
instance : Inhabited ValV := ⟨⟨default, default, default⟩⟩
structure OpdV where
 var : Str
 attr : Str
 val : ValV
instance : Inhabited OpdV := ⟨⟨default, default, default⟩⟩
structure CondV where
 left : OpdV
 rel : I64
 right : OpdV
instance : Inhabited CondV := ⟨⟨default, default, default⟩⟩
def condCell (c : CondV) : List Value := [.string c.left.var.v, .string c.left.attr.v, .int .i64 c.left.val.kind.v, .int .i64 c.left.val.n.v, .string c.left.val.s.v, .int .i64 c.rel.v, .string c.right.var.v, .string c.right.attr.v, .int .i64 c.right.val.kind.v, .int .i64 c.right.val.n.v, .string c.right.val.s.v]
structure BoundD where
 var : Str
 ev : EvD
instance : Inhabited BoundD := ⟨⟨default, default⟩⟩
def bndCell (b : BoundD) : List Value := [.string b.var.v, .int .i64 b.ev.ev.src.v, .int .i64 b.ev.ev.seq.v, .int .i64 b.ev.ev.time.v, .string b.ev.ev.typ.v, .slice b.ev.p b.ev.ev.attrs.length b.ev.c]
theorem bndCell_len (b : BoundD) : (bndCell b).length = 6 := rfl
theorem one_bnd (c : BoundD) (x : Value) (h : x ∈ bndCell c) : x.oneCell' = true := by
 simp only [bndCell, List.mem_cons, List.not_mem_nil, or_false] at h
 rcases h with rfl | rfl | rfl | rfl | rfl | rfl <;> rfl
inductive NodeD where
 | mk (kind : I64) (var typ : Str) (tp : Option Addr) (tc : Nat) (tests : List CondV) (kp : Option Addr) (kc : Nat) (kids : List NodeD)
namespace NodeD
def kind : NodeD → I64 | mk k .. => k
def var : NodeD → Str | mk _ v .. => v
def typ : NodeD → Str | mk _ _ t .. => t
def tp : NodeD → Option Addr | mk _ _ _ p .. => p
def tc : NodeD → Nat | mk _ _ _ _ c .. => c
def tests : NodeD → List CondV | mk _ _ _ _ _ l .. => l
def kp : NodeD → Option Addr | mk _ _ _ _ _ _ p .. => p
def kc : NodeD → Nat | mk _ _ _ _ _ _ _ c _ => c
def kids : NodeD → List NodeD | mk _ _ _ _ _ _ _ _ l => l
def tv (n : NodeD) : Value := .slice n.tp n.tests.length n.tc
def kv (n : NodeD) : Value := .slice n.kp n.kids.length n.kc
end NodeD
instance : Inhabited NodeD := ⟨.mk default default default none 0 [] none 0 []⟩
def nodeCell (n : NodeD) : List Value := [.int .i64 n.kind.v, .string n.var.v, .string n.typ.v, .slice n.tp n.tests.length n.tc, .slice n.kp n.kids.length n.kc]
inductive NodeOk (I : Heap) : NodeD → Prop
 | mk {n : NodeD} (ht : (Im 11 n.tv n.tests.length (n.tests.flatMap condCell)).sat I Heap.none) (hk : (Im 5 n.kv n.kids.length (n.kids.flatMap nodeCell)).sat I Heap.none) (hb : n.tests.length * 136 ≤ 140737488355328 ∧ n.kids.length * 88 ≤ 140737488355328) (h : ∀ k ∈ n.kids, NodeOk I k) : NodeOk I n
theorem NodeOk.mono {I J : Heap} (hl : I.le J) {n : NodeD} (h : NodeOk I n) : NodeOk J n := by
 induction h with
 | mk ht hk hb _ ih => exact .mk ((Im _ _ _ _).mono _ _ _ hl ht) ((Im _ _ _ _).mono _ _ _ hl hk) hb ih
def NodeA (n : NodeD) : Atom := ⟨fun I h => h = Heap.none ∧ NodeOk I n, fun I J h hl ⟨a, b⟩ => ⟨a, b.mono hl⟩⟩
theorem NodeA_pers (n : NodeD) : (NodeA n).pers := fun _ _ h => h.1
def NodesA (L : List NodeD) : Atom := ⟨fun I h => h = Heap.none ∧ ∀ k ∈ L, NodeOk I k, fun I J h hl ⟨a, b⟩ => ⟨a, fun k hk => (b k hk).mono hl⟩⟩
theorem NodesA_pers (L : List NodeD) : (NodesA L).pers := fun _ _ h => h.1
section
variable {W w : World} {F : List Atom} {i : Nat} {n : NodeD}
theorem NodeA.tests (H : St W w F) (hi : F[i]? = some (NodeA n)) : St W w (Im 11 (.slice n.tp n.tests.length n.tc) n.tests.length (n.tests.flatMap condCell) :: F) :=
 (H.dup hi (NodeA_pers n)).conv (i := 0) rfl fun I h ⟨a, b⟩ => by cases b with | mk ht hk hb h => subst a; exact ht
theorem NodeA.kids (H : St W w F) (hi : F[i]? = some (NodeA n)) : St W w (Im 5 (.slice n.kp n.kids.length n.kc) n.kids.length (n.kids.flatMap nodeCell) :: NodesA n.kids :: F) := by
 have h1 := (H.dup hi (NodeA_pers n)).conv (i := 0) (A' := NodesA n.kids) rfl fun I h ⟨a, b⟩ => by cases b with | mk ht hk hb h => exact ⟨a, h⟩
 exact (h1.dup (i := i + 1) (by simpa using hi) (NodeA_pers n)).conv (i := 0) rfl fun I h ⟨a, b⟩ => by cases b with | mk ht hk hb h => subst a; exact hk
theorem NodeA.bounds (H : St W w F) (hi : F[i]? = some (NodeA n)) : n.tests.length * 136 ≤ 140737488355328 ∧ n.kids.length * 88 ≤ 140737488355328 := by
 obtain ⟨I, h1, _, _, _, _, b⟩ := H.get hi
 cases b with | mk ht hk hb h => exact hb
theorem NodesA.at {L : List NodeD} {j : Nat} (H : St W w F) (hi : F[i]? = some (NodesA L)) (hj : j < L.length) : St W w (NodeA (L.getD j default) :: F) :=
 (H.dup hi (NodesA_pers L)).conv (i := 0) rfl fun I h ⟨a, b⟩ => ⟨a, b _ (by rw [List.getD_eq_getElem?_getD, List.getElem?_eq_getElem hj]; exact List.getElem_mem hj)⟩
end
def elemsOf {H : Type} : DataW H → List (DataW H)
 | .slice a _ => a
 | _ => []
def DecR' {H : Type} (p : DataW H → Prop) (R : Nat) (P : Program) (t : TypeId) {α : Type} (cells : α → List Value) (ok : Heap → α → Prop) (H' : Type) : Prop :=
 (∀ a, (cells a).length = P.cellsOf t) ∧ (∀ a x, x ∈ cells a → x.oneCell' = true) ∧
  ∀ (enc : TypeId × Value → H) (W : World) (held : Bool) (fuel : Nat) (cs : List Value) (d : DataW H) (ps : List MemPlace), p d →
   DataW.trod enc P W 0 (fun _ => true) held fuel t cs = some (d, ps) → (∀ n ∈ d.weights P t, n ≤ R) → ∃ a, cs = cells a ∧ ok (heapOf W) a
theorem DecR'.slice {H : Type} {p : DataW H → Prop} {R : Nat} {P : Program} {t : TypeId} {e : TypeId} {α : Type} {cells : α → List Value} {ok : Heap → α → Prop} {size bytes : Nat} (ht : P.underlying t = some (.slice e)) (hc : P.cellsOf t = 1) (hs : P.cellsOf e = size) (hb : P.bytesOf e = bytes) (h0 : 0 < size) (D : DecR' p R P e cells ok H)
  (enc : TypeId × Value → H) (W : World) (held : Bool) (fuel : Nat) (cs : List Value) (d : DataW H) (ps : List MemPlace) (hel' : ∀ d' ∈ elemsOf d, p d') (hd : DataW.trod enc P W 0 (fun _ => true) held fuel t cs = some (d, ps)) (hw : ∀ n ∈ d.weights P t, n ≤ R) :
  ∃ x : Option Addr × Nat × List α, cs = [.slice x.1 x.2.2.length x.2.1] ∧ ((Im size (.slice x.1 x.2.2.length x.2.1) x.2.2.length (x.2.2.flatMap cells)).sat (heapOf W) Heap.none ∧ x.2.2.length * bytes ≤ R ∧ ∀ a ∈ x.2.2, ok (heapOf W) a) := by
 have flen : ∀ l : List α, (l.flatMap cells).length = l.length * size := fun l => flat_len (fun a => by rw [D.1 a, hs]) l
 have fone : ∀ l : List α, ∀ x ∈ l.flatMap cells, x.oneCell' = true := fun l x hx => by
  obtain ⟨a, _, ha⟩ := List.mem_flatMap.1 hx
  exact D.2.1 a x ha
 rcases DataW.trod_slice ht hd with ⟨rfl, _⟩ | ⟨a, len, cap, elems, rest, n, rfl, rfl, hx, _, hlen, hcap, hel, hread, _, _⟩
 ·exact ⟨(none, 0, []), rfl, ⟨rfl, fun x hx => by simp at hx, by simp, none, 0, rfl, ⟨fun _ => ⟨rfl, rfl⟩, Nat.le_refl 0⟩, fun h => by simp at h⟩, by simp, fun a ha => by simp at ha⟩
 ·obtain ⟨rfl, rfl⟩ := Prod.mk.injEq .. ▸ hx
  simp only [DataW.weights, ht] at hw
  have hsz := hw _ (List.mem_cons_self ..)
  simp only [List.length_map, hb, hel] at hsz
  have hbd : len * bytes ≤ R := by
   have h1 : len * bytes ≤ (len + rest.length) * bytes := Nat.mul_le_mul_right _ (by omega)
   have h2 : (len + rest.length) * bytes ≤ R := hsz
   omega
  obtain ⟨l, hl, hp⟩ := choose_list (β := Unit) (n := len) (p := fun i x => W.cells? 0 (a.add (i * size)) size = some (cells x) ∧ ok (heapOf W) x) (fun i hi => by
   have h1 := hread i hi
   rw [hs] at h1
   cases hcs : W.cells? 0 (a.add (i * size)) size with
   | none => rw [hcs] at h1; rw [List.getElem?_eq_getElem (by omega)] at h1; simp at h1
   | some cs =>
    rw [hcs, List.getElem?_eq_getElem (by omega)] at h1
    simp only [Option.bind_some] at h1
    obtain ⟨x, hx1, hx2⟩ := D.2.2 enc W held n cs _ _ (hel' _ (by simp only [elemsOf]; exact List.mem_map_of_mem (List.getElem_mem (by omega)))) h1 (fun m hm => hw m (List.mem_cons_of_mem _ (List.mem_append_left _ (weightsAll_mem (List.mem_map_of_mem (List.getElem_mem (by omega))) m hm))))
    exact ⟨x, by rw [hx1], hx2⟩)
  refine ⟨(some a, cap, l), by simp [hl], ⟨rfl, fone l, ⟨flen l, by rw [hl]; exact Nat.le_trans hlen hcap⟩, some a, cap, rfl, ⟨fun h => by simp at h, by rw [hl]; exact hlen⟩, fun hm => ?_⟩, by rw [hl]; exact hbd, fun x hx => ?_⟩
  ·have h1 : 0 < l.length := hm
   obtain ⟨x0, hx0⟩ : ∃ x, l[0]? = some x := ⟨l[0], by simp⟩
   have hcell : ∀ j y, (l.flatMap cells)[j]? = some y → W.cell? (a.add j) = some y := by
    intro j y hj
    have hjl : j < l.length * size := by have := (List.getElem?_eq_some_iff.1 hj).1; rwa [flen] at this
    have hq : j / size < l.length := by rw [Nat.div_lt_iff_lt_mul h0]; exact hjl
    have hr : j % size < size := Nat.mod_lt _ h0
    have he : j = j / size * size + j % size := by rw [Nat.mul_comm]; exact (Nat.div_add_mod j size).symm
    obtain ⟨h2, _⟩ := hp (j / size) l[j / size] (by simp [hq])
    have h3 := cells?_at h2 (j % size) hr
    rw [he, flat_at' (fun a => by rw [D.1 a, hs]) l (j / size) (j % size) l[j / size] (by simp [hq]) hr] at hj
    rw [hj] at h3
    rw [← h3, addr_add2, ← he]
   have hc0 := hcell 0 _ (by rw [List.getElem?_eq_getElem (by rw [flen]; exact Nat.mul_pos h1 h0)])
   obtain ⟨g, o, sp⟩ := a
   have hadd : ∀ j, (Addr.add ⟨g, o, sp⟩ j).block = g := fun j => by simp [Addr.add]; split <;> rfl
   unfold World.cell? at hc0
   rw [hadd] at hc0
   cases hg : W.heap[g]? with
   | none => rw [hg] at hc0; simp at hc0
   | some ob =>
    cases ob with
    | cells k ty z =>
     have hsp : sp = none := by
      rw [hg] at hc0
      cases sp with
      | none => rfl
      | some s => simp [Addr.add] at hc0
     subst hsp
     have hk : ∀ j y, (l.flatMap cells)[j]? = some y → k[o + j]? = some y := fun j y hj => by
      have := hcell j y hj
      rw [addr_add] at this
      unfold World.cell? at this
      simpa [hg] using this
     have hend : o + l.length * size ≤ k.size := by
      have hpos : 0 < l.length * size := Nat.mul_pos h1 h0
      have h5 := hk (l.length * size - 1) _ (List.getElem?_eq_getElem (by rw [flen]; omega))
      have := (Array.getElem?_eq_some_iff.1 h5).1
      omega
     refine ⟨g, o, k, ty, z, rfl, hg, hend, ?_⟩
     refine List.ext_getElem? fun j => ?_
     by_cases hj : j < l.length * size
     ·rw [List.getElem?_take_of_lt hj, List.getElem?_drop, Array.getElem?_toList, hk j _ (List.getElem?_eq_getElem (by rw [flen]; exact hj)), List.getElem?_eq_getElem (by rw [flen]; exact hj)]
     ·rw [List.getElem?_eq_none (Nat.le_trans (List.length_take_le _ _) (Nat.le_of_not_lt hj)), List.getElem?_eq_none (by rw [flen]; exact Nat.le_of_not_lt hj)]
    | _ => rw [hg] at hc0; simp at hc0
  ·obtain ⟨i, hi⟩ := List.getElem?_of_mem hx
   exact (hp i x hi).2
def DecB (N R : Nat) (P : Program) (t : TypeId) {α : Type} (cells : α → List Value) (ok : Heap → α → Prop) : Prop :=
 (∀ a, (cells a).length = P.cellsOf t) ∧ (∀ a x, x ∈ cells a → x.oneCell' = true) ∧
  ∀ (H : Type) (enc : TypeId × Value → H) (W : World) (held : Bool) (fuel : Nat) (cs : List Value) (d : DataW H) (ps : List MemPlace), sizeOf d < N →
   DataW.trod enc P W 0 (fun _ => true) held fuel t cs = some (d, ps) → (∀ n ∈ d.weights P t, n ≤ R) → ∃ a, cs = cells a ∧ ok (heapOf W) a
section
variable {N R : Nat} {P : Program} {t : TypeId}
theorem DecB.map {α β : Type} {cells : α → List Value} {ok : Heap → α → Prop} {cells' : β → List Value} {ok' : Heap → β → Prop} (D : DecB N R P t cells ok) (hlen : ∀ b, (cells' b).length = P.cellsOf t) (hone : ∀ b x, x ∈ cells' b → x.oneCell' = true)
  (h : ∀ I a, ok I a → ∃ b, cells' b = cells a ∧ ok' I b) : DecB N R P t cells' ok' := by
 refine ⟨hlen, hone, fun H enc W held fuel cs d ps hs hd hw => ?_⟩
 obtain ⟨a, hc, ho⟩ := D.2.2 H enc W held fuel cs d ps hs hd hw
 obtain ⟨b, hb, hb2⟩ := h _ a ho
 exact ⟨b, by rw [hc, hb], hb2⟩
def DecBs (N R : Nat) (P : Program) (o m : Nat) (fs : List Field) {α : Type} (cells : α → List Value) (ok : Heap → α → Prop) : Prop :=
 (∀ a, o + (cells a).length = m) ∧ (∀ a x, x ∈ cells a → x.oneCell' = true) ∧
  ∀ (H : Type) (enc : TypeId × Value → H) (W : World) (held : Bool) (fuel : Nat) (cs : List Value) (xs : List (DataW H × List MemPlace)), (∀ x ∈ xs, sizeOf x.1 < N) →
   cs.length = m → xs.length = fs.length → (∀ (i : Nat) (f : Field), fs[i]? = some f → DataW.trod enc P W 0 (fun _ => true) held fuel f.type ((cs.drop f.offset).take (P.cellsOf f.type)) = xs[i]?) →
   (∀ n ∈ DataW.weightsEach P (fs.map (·.type)) (xs.map (·.1)), n ≤ R) → ∃ a, cs.drop o = cells a ∧ ok (heapOf W) a
theorem DecBs.nil {m : Nat} : DecBs N R P m m [] (fun _ : Unit => []) (fun _ _ => True) := by
 refine ⟨fun a => rfl, fun a x hx => (nomatch hx), fun H enc W held fuel cs xs _ hl _ _ _ => ⟨(), ?_, trivial⟩⟩
 rw [← hl]; simp
theorem DecBs.cons {o o' m : Nat} {f : Field} {fs : List Field} {α β : Type} {cells : α → List Value} {ok : Heap → α → Prop} {cells' : β → List Value} {ok' : Heap → β → Prop} (D : DecB N R P f.type cells ok) (S : DecBs N R P o' m fs cells' ok') (ho : f.offset = o) (ho' : o + P.cellsOf f.type = o') :
  DecBs N R P o m (f :: fs) (fun x : α × β => cells x.1 ++ cells' x.2) (fun I x => ok I x.1 ∧ ok' I x.2) := by
 refine ⟨fun a => by have := S.1 a.2; have := D.1 a.1; simp; omega, fun a x hx => ?_, fun H enc W held fuel cs xs hsz hl hx hr hw => ?_⟩
 ·rcases List.mem_append.1 hx with h | h
  ·exact D.2.1 _ _ h
  ·exact S.2.1 _ _ h
 ·cases xs with
  | nil => simp at hx
  | cons x xs =>
   have h0 := hr 0 f rfl
   simp only [List.getElem?_cons_zero] at h0
   simp only [List.map_cons, DataW.weightsEach, List.mem_append] at hw
   obtain ⟨a, ha, hoa⟩ := D.2.2 H enc W held fuel _ x.1 x.2 (hsz x (List.mem_cons_self ..)) h0 (fun n hn => hw n (.inl hn))
   obtain ⟨b, hb, hob⟩ := S.2.2 H enc W held fuel cs xs (fun y hy => hsz y (List.mem_cons_of_mem _ hy)) hl (by simpa using hx) (fun i g hg => by simpa using hr (i + 1) g (by simpa using hg)) (fun n hn => hw n (.inr hn))
   refine ⟨(a, b), ?_, hoa, hob⟩
   show cs.drop o = cells a ++ cells' b
   rw [← ha, ← hb, ho, ← ho', ← List.drop_drop, List.take_append_drop]
theorem DecB.struct {fs : Array Field} {l : List Field} {α : Type} {cells : α → List Value} {ok : Heap → α → Prop} (ht : P.underlying t = some (.struct fs)) (hl : fs.toList = l) (D : DecBs N R P 0 (P.cellsOf t) l cells ok) : DecB N R P t cells ok := by
 subst hl
 refine ⟨fun a => by have := D.1 a; omega, D.2.1, fun H enc W held fuel cs d ps hs hd hw => ?_⟩
 obtain ⟨xs, n, rfl, hx, hc, hlx, hr⟩ := DataW.trod_struct ht hd
 obtain ⟨rfl, rfl⟩ := Prod.mk.injEq .. ▸ hx
 simp only [DataW.weights, ht] at hw
 obtain ⟨a, ha, hok⟩ := D.2.2 H enc W held n cs xs (fun x hx => by
  have h1 : x.1 ∈ xs.map (·.1) := List.mem_map_of_mem hx
  have h2 := List.sizeOf_lt_of_mem h1
  simp only [DataW.agg.sizeOf_spec] at hs
  omega) hc (by simpa using hlx) (fun i f hf => hr i f (by simpa using hf)) hw
 exact ⟨a, by simpa using ha, hok⟩
theorem DecB.slice {e : TypeId} {α : Type} {cells : α → List Value} {ok : Heap → α → Prop} {size bytes : Nat} (ht : P.underlying t = some (.slice e)) (hc : P.cellsOf t = 1) (hs : P.cellsOf e = size) (hb : P.bytesOf e = bytes) (h0 : 0 < size) (D : DecB N R P e cells ok) :
  DecB (N + 1) R P t (fun x : Option Addr × Nat × List α => [.slice x.1 x.2.2.length x.2.1])
   (fun I x => (Im size (.slice x.1 x.2.2.length x.2.1) x.2.2.length (x.2.2.flatMap cells)).sat I Heap.none ∧ x.2.2.length * bytes ≤ R ∧ ∀ a ∈ x.2.2, ok I a) := by
 refine ⟨fun a => by simp [hc], fun a x hx => by simp at hx; subst hx; rfl, fun H enc W held fuel cs d ps hsz hd hw => ?_⟩
 -- the elements that are met are smaller than the datum: the unbounded law serves, for a class of data
 have D2 : DecR' (fun d' : DataW H => sizeOf d' < N) R P e cells ok H := ⟨D.1, D.2.1, fun enc W held fuel cs d ps hp hd hw => D.2.2 H enc W held fuel cs d ps hp hd hw⟩
 exact DecR'.slice ht hc hs hb h0 D2 enc W held fuel cs d ps (fun d' hd' => by
  have h2 := List.sizeOf_lt_of_mem hd'
  cases d with
  | slice a s => simp only [DataW.slice.sizeOf_spec] at hsz; simp only [elemsOf] at h2; omega
  | _ => simp [elemsOf] at hd') hd hw
end
end Sl
