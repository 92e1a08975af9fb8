import Derived.Test.YteogdknlofcpiaaGreatSlT
import Derived.JoinedOf
import Derived.Handed
namespace Sl
open _root_.Go _root_.Go.RowKit _root_.Go.ChangeShapes _root_.Go.WideShapes
set_option linter.all false
def old (W : World) : Atom := ⟨fun I h => h = Heap.none ∧ ∀ (k : Nat) (o : Obj), W.heap[k]? = some o → I k = some o, fun I J h hl ⟨a, b⟩ => ⟨a, fun k o e => hl _ _ (b k o e)⟩⟩
theorem Stars.nones {I : Heap} : ∀ {l : List Atom}, (∀ A ∈ l, A.sat I Heap.none) → Stars I l Heap.none
 | [], _ => rfl
 | A :: l, h => ⟨Heap.none, Heap.none, Heap.none_disj _, (Heap.none_union _).symm, h A (by simp), Stars.nones fun B hB => h B (by simp [hB])⟩
theorem St.begin (W : World) (l : List Atom) (h : ∀ A ∈ l, A.sat (heapOf W) Heap.none) : St W W l :=
 ⟨rfl, rfl, rfl, heapOf W, Heap.none, fun k => .inr rfl, fun k o e => e, fun k o (e : Option.none = some o) => (nomatch e), Stars.nones h⟩
theorem old_sat (W : World) : (old W).sat (heapOf W) Heap.none := ⟨rfl, fun k o e => e⟩
theorem St.below {W w : World} {l : List Atom} {i : Nat} (H : St W w l) (hi : l[i]? = some (old W)) : Below W.heap.size W w := by
 obtain ⟨I, h1, _, hI, _, _, ho⟩ := H.get hi
 have hk : ∀ k, k < W.heap.size → w.heap[k]? = W.heap[k]? := fun k hk => by
  rw [Array.getElem?_eq_getElem hk]
  exact hI _ _ (ho k _ (Array.getElem?_eq_getElem hk))
 refine ⟨H.os, H.tape, H.output, ?_, hk⟩
 by_cases h0 : W.heap.size = 0
 ·omega
 ·have h2 := hk (W.heap.size - 1) (by omega)
  obtain ⟨o, ho⟩ : ∃ o, W.heap[W.heap.size - 1]? = some o := ⟨_, Array.getElem?_eq_getElem (by omega)⟩
  rw [ho] at h2
  have h3 := (Array.getElem?_eq_some_iff.1 h2).1
  show W.heap.size ≤ w.heap.size
  omega
section
variable {R : Nat} {H : Type} {enc : TypeId × Value → H} {P : Program}
theorem below_all {W W' : World} (hl : laidOutB P = true) (hb : Below W.heap.size W W') : ∀ {ts : List TypeId} {vs : List Value} {ds : List (DataW H)} {ps : List MemPlace}, (∀ t ∈ ts, P.readableRec t = true ∧ t < P.types.size) →
  DataW.TrodAll enc P W 0 (fun _ => true) true ts vs ds ps → DataW.TrodAll enc P W' 0 (fun b => decide (b < W.heap.size)) true ts vs ds ps
 | [], [], [], _, _, h => h
 | t :: ts, v :: vs, d :: ds, ps, ht, ⟨p, q, h, hs, e⟩ => ⟨p, q, Below.trod hl (ht t (by simp)).1 (ht t (by simp)).2 h hb (fun x hx => by obtain ⟨n, hn⟩ := h; exact DataW.trod_lt n _ _ _ hn x hx), below_all hl hb (fun u hu => ht u (by simp [hu])) hs, e⟩
 | [], [], _ :: _, _, _, h => nomatch h
 | [], _ :: _, _, _, _, h => nomatch h
 | _ :: _, [], _, _, _, h => nomatch h
 | _ :: _, _ :: _, [], _, _, h => nomatch h
theorem trodAll_len {W : World} {base : Nat} {spare : Nat → Bool} {held : Bool} : ∀ {ts : List TypeId} {vs : List Value} {ds : List (DataW H)} {ps : List MemPlace}, DataW.TrodAll enc P W base spare held ts vs ds ps → ds.length = ts.length ∧ vs.length = ts.length
 | [], [], [], _, _ => ⟨rfl, rfl⟩
 | t :: ts, v :: vs, d :: ds, ps, ⟨p, q, h, hs, e⟩ => by have := trodAll_len hs; simp [this.1, this.2]
 | [], [], _ :: _, _, h => nomatch h
 | [], _ :: _, _, _, h => nomatch h
 | _ :: _, [], _, _, h => nomatch h
 | _ :: _, _ :: _, [], _, h => nomatch h
theorem trodVars_len {W : World} {spare : Nat → Bool} : ∀ {gs : List (DataW H)} {ps : List MemPlace}, DataW.TrodVars enc P W spare [] gs ps → gs = []
 | [], _, _ => rfl
 | _ :: _, _, h => nomatch h
theorem shut_true {W : World} {base : Nat} {spare : Nat → Bool} {held : Bool} {t : TypeId} (ht : P.underlying t = some .bool) (b : Bool) : DataW.Trod enc P W base spare held t (.bool b) (.lit (.bool b)) [] :=
 ⟨1, by show DataW.trod enc P W base spare held 1 t [.bool b] = _; unfold DataW.trod; rw [ht]⟩
theorem law_post {f : FuncId} {fn : Func} {s : ChangeSpec} {W : World} {args : Array Value} {ds gs : List (DataW H)} {before : List MemPlace} {rt : TypeId} {n : Nat}
  (hl : laidOutB P = true) (hv : s.vars = []) (hn : fn.params.toList.length = n) (ht : ∀ t ∈ fn.params.toList, P.readableRec t = true ∧ t < P.types.size) (hR : fn.resultTypes = #[rt]) (hb : P.underlying rt = some .bool)
  (hs : ∀ ds : List (DataW H), ds.length = n → s.fn H ds = { results := [.lit (.bool true)], args := ds })
  (hw : DataW.Whole enc P fn.params.toList s.vars false W args.toList ds gs before)
  (hc : Calls P f args W (Ret fun v w' => v = .bool true ∧ ∃ (l : List Atom) (i : Nat), St W w' l ∧ l[i]? = some (old W))) :
  Calls P f args W fun e W' => ∃ v, e = .returned v ∧ s.post enc P fn false true false false W args v W' := by
 refine hc.mono fun e W' h => ?_
 cases e with
 | returned v => ?_
 | _ => exact h.elim
 obtain ⟨rfl, l, i, hst, hi⟩ := h
 have hbl := hst.below hi
 obtain ⟨p, q, hA, hV, _, _, _⟩ := id hw
 rw [hv] at hV
 have hg := trodVars_len hV
 subst hg
 have hd := (trodAll_len hA).1
 have e1 : s.fn H (ds ++ []) = { results := [.lit (.bool true)], args := ds } := by rw [List.append_nil]; exact hs ds (by omega)
 refine ⟨_, rfl, ds, [], before, [], p, [], hw, ?_, ?_, ?_, hbl.frame _, fun h => by cases h⟩
 ·rw [e1, hR]
  exact trodAll_mk1 (shut_true hb true)
 ·rw [e1]
  exact below_all hl hbl ht hA
 ·rw [e1, hv]
  rfl
section
variable {t : TypeId} {W : World} {base : Nat} {v : Value} {d : DataW H} {ps : List MemPlace} {α : Type}
theorem one_slice {e : TypeId} (hu : P.underlying t = some (.slice e)) (hval : Value.okWide P W .any base t v) : v.cells = #[v] := by obtain ⟨a, l, c, rfl⟩ := okWide_slice hu hval; rfl
theorem read_one {x : α → Value} {ok : Heap → α → Prop} (D : DecR R P t (fun a => [x a]) ok) (h1 : v.cells = #[v]) (hd : DataW.Trod enc P W 0 (fun _ => true) true t v d ps) (hw : ∀ n ∈ d.weights P t, n ≤ R) : ∃ a, v = x a ∧ ok (heapOf W) a := by
 obtain ⟨fuel, hf⟩ := hd
 rw [h1] at hf
 obtain ⟨a, ha, ho⟩ := D.2.2 H enc W true fuel _ d ps hf hw
 exact ⟨a, by simpa using ha, ho⟩
end
theorem weigh {ts : List TypeId} {ds : List (DataW H)} (h : (DataW.weightsEach P ts ds).all (· ≤ R) = true) {j : Nat} {t : TypeId} {d : DataW H} (ht : ts[j]? = some t) (hd : ds[j]? = some d) : ∀ n ∈ d.weights P t, n ≤ R := fun n hn => by
 have := List.all_eq_true.1 h n (DataW.weights_mem_each ht hd n hn)
 simpa using this
end
end Sl
