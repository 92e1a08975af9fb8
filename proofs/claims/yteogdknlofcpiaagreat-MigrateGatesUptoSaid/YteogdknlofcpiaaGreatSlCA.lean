import Derived.Test.YteogdknlofcpiaaGreatSlX
import Derived.Test.YteogdknlofcpiaaGreatSlBE
import Derived.MapKept
import Derived.Maps.RangeRun
namespace Sl
open _root_.Go _root_.Go.RowKit
set_option linter.all false
set_option linter.unusedSimpArgs false
def entsOf (es : List MapEntry) : List (Value × Value) := es.map fun e => (e.key, e.val)
def MapA (r : Nat) (L : List (Value × Value)) : Atom :=
 ⟨fun _ h => ∃ (es : Array MapEntry) (clk : Nat), h = Heap.one r (.map es clk) ∧ entsOf es.toList = L ∧ (es.toList.map (fun e : MapEntry => e.born)).Nodup ∧ ∀ x ∈ es.toList, x.born < clk, fun _ _ _ _ h => h⟩
def MapAt (w : World) (r : Nat) (L : List (Value × Value)) : Prop := ∃ (es : Array MapEntry) (clk : Nat), w.heap[r]? = some (.map es clk) ∧ entsOf es.toList = L
section
variable {κ ν : Type} [DecidableEq κ]
def kidx (L : List (κ × ν)) (k : κ) : Nat := L.findIdx fun x => decide (x.1 = k)
def aget (L : List (κ × ν)) (k : κ) : Option ν := (L[kidx L k]?).map (·.2)
def ahas (L : List (κ × ν)) (k : κ) : Bool := L.any fun x => decide (x.1 = k)
def aset (L : List (κ × ν)) (k : κ) (v : ν) : List (κ × ν) := if kidx L k < L.length then L.set (kidx L k) (k, v) else L ++ [(k, v)]
def ents (ek : κ → Value) (ev : ν → Value) (L : List (κ × ν)) : List (Value × Value) := L.map fun x => (ek x.1, ev x.2)
theorem kidx_has (L : List (κ × ν)) (k : κ) : ahas L k = decide (kidx L k < L.length) := by
 unfold ahas kidx
 rw [Bool.eq_iff_iff, decide_eq_true_iff, List.findIdx_lt_length, List.any_eq_true]
theorem kidx_at {L : List (κ × ν)} {k : κ} (h : kidx L k < L.length) : (L[kidx L k]).1 = k := by
 have := List.findIdx_getElem (w := h)
 exact of_decide_eq_true this
end
def hit (i : Nat) (es : List MapEntry) : Option (Nat × Value) := if h : i < es.length then some (i, es[i].val) else none
structure KeyLaw (P : Program) (kt : TypeId) {κ : Type} [DecidableEq κ] (ek : κ → Value) : Prop where
 chk : ∀ (em : Bool) (k : κ) (w : World), (Instr.checkKey em 10000 kt (ek k)).run P w = .ok () w
 fnd : ∀ (k : κ) (es : List MapEntry) (ks : List κ), es.map (·.key) = ks.map ek → ∀ w : World, (Instr.findKey kt (ek k) es).run P w = .ok (hit (ks.findIdx fun x => decide (x = k)) es) w
 bits : ∀ k : κ, Instr.sameBits 10000 (ek k) (ek k) = true
theorem findNow_of {κ : Type} [DecidableEq κ] {d : TypeDesc} {ek : κ → Value} (hs : ∀ a b, Instr.sameNow d (ek a) (ek b) = some (decide (a = b))) (k : κ) :
  ∀ (es : List MapEntry) (ks : List κ) (i : Nat), es.map (·.key) = ks.map ek → Instr.findNow d (ek k) es i = some (if h : (ks.findIdx fun x => decide (x = k)) < es.length then some (i + (ks.findIdx fun x => decide (x = k)), es[ks.findIdx fun x => decide (x = k)].val) else none)
 | [], ks, i, h => by simp [Instr.findNow]
 | e :: es, [], i, h => by simp at h
 | e :: es, x :: ks, i, h => by
  simp only [List.map_cons, List.cons.injEq] at h
  unfold Instr.findNow
  rw [h.1, hs]
  by_cases hx : k = x
  ·subst hx
   simp [List.findIdx_cons]
  ·have hx' : ¬ x = k := fun e => hx e.symm
   have ih := findNow_of hs k es ks (i + 1) h.2
   have hl : es.length = ks.length := by simpa using congrArg List.length h.2
   rw [decide_eq_false hx]
   simp only [List.findIdx_cons, decide_eq_false hx', cond_false, List.length_cons, Nat.add_lt_add_iff_right, List.getElem_cons_succ]
   rw [ih]
   split <;> simp <;> omega
theorem KeyLaw.now {P : Program} {kt : TypeId} {κ : Type} [DecidableEq κ] {ek : κ → Value} {d : TypeDesc} (hd : P.underlying kt = some d) (hk : ∀ k, MapKept.IsKey d (ek k)) (hs : ∀ a b, Instr.sameNow d (ek a) (ek b) = some (decide (a = b))) (hb : ∀ k, Instr.sameBits 10000 (ek k) (ek k) = true) : KeyLaw P kt ek where
 chk em k w := MapKept.run_checkKey hd (hk k) em 9999
 fnd k es ks h w := by
  have := findNow_of hs k es ks 0 h
  rw [MapKept.run_findKey hd this]
  unfold hit
  simp
 bits := hb
theorem sameBits_str (n : Nat) (s : ByteArray) : Instr.sameBits n (.string s) (.string s) = true := by cases n <;> simp [Instr.sameBits, MapKept.bytes_beq]
theorem sameBits_int (n : Nat) (k : IntKind) (a : Int) : Instr.sameBits n (.int k a) (.int k a) = true := by cases n <;> simp [Instr.sameBits]
theorem bytes_beq' (a b : ByteArray) : (a == b) = decide (a = b) := by
 rw [Bool.eq_iff_iff, MapKept.bytes_beq]; simp
theorem KeyLaw.str {P : Program} {kt : TypeId} (hd : P.underlying kt = some .string) : KeyLaw P kt (fun s : ByteArray => Value.string s) :=
 KeyLaw.now hd (fun k => by simp [MapKept.IsKey]) (fun a b => by simp only [Instr.sameNow]; rw [bytes_beq']) (fun k => sameBits_str _ _)
theorem KeyLaw.int {P : Program} {kt : TypeId} {K : IntKind} (hd : P.underlying kt = some (.int K)) : KeyLaw P kt (fun n : Int => Value.int K n) :=
 KeyLaw.now hd (fun k => by simp [MapKept.IsKey]) (fun a b => by simp only [Instr.sameNow, if_true]; rw [Bool.eq_iff_iff.2 (by simp : (a == b) = true ↔ decide (a = b) = true)]) (fun k => sameBits_int _ _ _)
section
variable {W w : World} {l : List Atom} {i r : Nat} {L : List (Value × Value)}
theorem MapA.open (H : St W w l) (hi : l[i]? = some (MapA r L)) : ∃ (es : Array MapEntry) (clk : Nat), (entsOf es.toList = L ∧ (es.toList.map (fun e : MapEntry => e.born)).Nodup ∧ ∀ x ∈ es.toList, x.born < clk) ∧ St W w (l.set i (blk r (.map es clk))) := by
 obtain ⟨⟨es, clk⟩, h, H2⟩ := H.choose hi (fun q : Array MapEntry × Nat => blk r (.map q.1 q.2)) (fun q => entsOf q.1.toList = L ∧ (q.1.toList.map (fun e : MapEntry => e.born)).Nodup ∧ ∀ x ∈ q.1.toList, x.born < q.2) (fun I h ⟨es, clk, e, a, b, c⟩ => ⟨(es, clk), ⟨a, b, c⟩, e⟩)
 exact ⟨es, clk, h, H2⟩
theorem MapA.shut {es : Array MapEntry} {clk : Nat} (H : St W w l) (hi : l[i]? = some (blk r (.map es clk))) (h1 : entsOf es.toList = L) (h2 : (es.toList.map (fun e : MapEntry => e.born)).Nodup) (h3 : ∀ x ∈ es.toList, x.born < clk) : St W w (l.set i (MapA r L)) :=
 H.conv hi fun I h e => ⟨es, clk, e, h1, h2, h3⟩
theorem MapA.at (H : St W w l) (hi : l[i]? = some (MapA r L)) : MapAt w r L := by
 obtain ⟨es, clk, h, H2⟩ := MapA.open H hi
 exact ⟨es, clk, H2.blk_at (i := i) (by have := (List.getElem?_eq_some_iff.1 hi).1; simp [this]), h.1⟩
end
theorem ents_keys {κ ν : Type} [DecidableEq κ] {ek : κ → Value} {ev : ν → Value} {es : List MapEntry} {L : List (κ × ν)} (h : entsOf es = ents ek ev L) : es.map (·.key) = (L.map (·.1)).map ek := by
 have := congrArg (List.map Prod.fst) h
 simpa [entsOf, ents, List.map_map, Function.comp_def] using this
theorem ents_val {κ ν : Type} [DecidableEq κ] {ek : κ → Value} {ev : ν → Value} {es : List MapEntry} {L : List (κ × ν)} (h : entsOf es = ents ek ev L) (j : Nat) (hj : j < es.length) (hj2 : j < L.length) : es[j].val = ev L[j].2 := by
 have h1 : (entsOf es)[j]? = (ents ek ev L)[j]? := by rw [h]
 simp only [entsOf, ents, List.getElem?_map, List.getElem?_eq_getElem hj, List.getElem?_eq_getElem hj2, Option.map_some, Option.some.injEq, Prod.mk.injEq] at h1
 exact h1.2
theorem ents_len {κ ν : Type} [DecidableEq κ] {ek : κ → Value} {ev : ν → Value} {es : List MapEntry} {L : List (κ × ν)} (h : entsOf es = ents ek ev L) : es.length = L.length := by
 simpa [entsOf, ents] using congrArg List.length h
theorem findIdx_keys {κ ν : Type} [DecidableEq κ] (L : List (κ × ν)) (k : κ) : ((L.map (·.1)).findIdx fun x => decide (x = k)) = kidx L k := by
 unfold kidx; rw [List.findIdx_map]; rfl
section
variable {P : Program} {κ ν : Type} [DecidableEq κ] {ek : κ → Value} {ev : ν → Value} {w : World} {r t kt et : Nat} {L : List (κ × ν)}
theorem run_find (hK : KeyLaw P kt ek) {es : List MapEntry} (h : entsOf es = ents ek ev L) (k : κ) (w : World) : (Instr.findKey kt (ek k) es).run P w = .ok (hit (kidx L k) es) w := by
 rw [hK.fnd k es _ (ents_keys h), findIdx_keys]
def lookV (ev : ν → Value) (z : Value) (L : List (κ × ν)) (k : κ) : Value := match aget L k with | some a => ev a | none => z
theorem run_lookup (hK : KeyLaw P kt ek) (ht : P.underlying t = some (.map kt et)) {z : Value} (hz : ∀ w : World, (zeroValue et).run P w = .ok z w) (hm : MapAt w r (ents ek ev L)) (k : κ) (c : Bool) :
  (Instr.lookup t (.map (some r)) (ek k) c).run P w = .ok (if c then .tuple #[lookV ev z L k, .bool (ahas L k)] else lookV ev z L k) w := by
 obtain ⟨es, clk, hb, he⟩ := hm
 have hf := run_find hK he k w
 have hlen := ents_len he
 unfold Instr.lookup
 simp only [Sem.run_bind, run_underlying ht, Result.andThen_ok, MapKept.run_getObj_map hb, Sem.run_pure, hK.chk, hf]
 unfold hit
 by_cases h : kidx L k < es.toList.length
 ·have h2 : kidx L k < L.length := by omega
  simp only [h, dif_pos, Sem.run_pure, Sem.run_bind, Result.andThen_ok, ents_val he _ h h2]
  have e1 : lookV ev z L k = ev L[kidx L k].2 := by unfold lookV aget; rw [List.getElem?_eq_getElem h2]; rfl
  rw [e1, kidx_has, decide_eq_true h2]
 ·have h2 : ¬ kidx L k < L.length := by omega
  simp only [h, dif_neg, not_false_eq_true, Sem.run_bind, hz, Result.andThen_ok, Sem.run_pure]
  have e1 : lookV ev z L k = z := by unfold lookV aget; rw [List.getElem?_eq_none (by omega)]; rfl
  rw [e1, kidx_has, decide_eq_false h2]
end
section
variable {P : Program} {κ ν : Type} [DecidableEq κ] {ek : κ → Value} {ev : ν → Value} {W w : World} {l : List Atom} {i r t kt et : Nat} {L : List (κ × ν)}
theorem entsOf_set {es : Array MapEntry} (h : entsOf es.toList = ents ek ev L) (j : Nat) (k : κ) (v : ν) : entsOf (es.modify j fun e => { e with key := ek k, val := ev v }).toList = ents ek ev (L.set j (k, v)) := by
 have hl := ents_len h
 refine List.ext_getElem? fun q => ?_
 have hq : (entsOf es.toList)[q]? = (ents ek ev L)[q]? := by rw [h]
 simp only [entsOf, ents, List.getElem?_map, Array.getElem?_toList, Array.getElem?_modify, List.getElem?_set] at hq ⊢
 by_cases hj : j = q
 ·subst hj
  by_cases hlt : j < L.length
  ·have h2 : j < es.size := by have : es.toList.length = es.size := Array.length_toList; omega
   simp [hlt, h2]
  ·have h2 : ¬ j < es.size := by have : es.toList.length = es.size := Array.length_toList; omega
   simp [hlt, h2]
 ·simpa [hj] using hq
theorem entsOf_born (es : Array MapEntry) (j : Nat) (f : MapEntry → MapEntry) (hf : ∀ e, (f e).born = e.born) : (es.modify j f).toList.map (fun e : MapEntry => e.born) = es.toList.map (fun e : MapEntry => e.born) := by
 refine List.ext_getElem? fun q => ?_
 simp only [List.getElem?_map, Array.getElem?_toList, Array.getElem?_modify]
 split
 ·cases es[q]? <;> simp [hf]
 ·rfl
theorem hit_some {es : List MapEntry} {j : Nat} (h : j < es.length) : hit j es = some (j, es[j].val) := by unfold hit; rw [dif_pos h]
theorem hit_none {es : List MapEntry} {j : Nat} (h : ¬ j < es.length) : hit j es = none := by unfold hit; rw [dif_neg h]
theorem ents_key {es : List MapEntry} (h : entsOf es = ents ek ev L) (j : Nat) (hj : j < es.length) (hj2 : j < L.length) : es[j].key = ek L[j].1 := by
 have h1 : (entsOf es)[j]? = (ents ek ev L)[j]? := by rw [h]
 simp only [entsOf, ents, List.getElem?_map, List.getElem?_eq_getElem hj, List.getElem?_eq_getElem hj2, Option.map_some, Option.some.injEq, Prod.mk.injEq] at h1
 exact h1.1
theorem setObj_blk {g : Nat} {o o' : Obj} (H : St W w l) (hi : l[i]? = some (blk g o)) (ho : (match o with | .cells _ _ _ => false | _ => true) = true) : (setObj g o').run P w = .ok () { w with heap := w.heap.setIfInBounds g o' } ∧ St W { w with heap := w.heap.setIfInBounds g o' } (l.set i (blk g o')) := by
 have hb := H.blk_at hi
 have h2 := MapKept.heap_set (o' := o') hb
 refine ⟨by cases o <;> simp_all [setObj, Sem.run], ?_⟩
 refine H.set_blk hi rfl rfl rfl h2.1 ?_
 intro j _ hj
 exact h2.2 j hj
theorem MapA.update (H : St W w l) (hi : l[i]? = some (MapA r (ents ek ev L))) (hK : KeyLaw P kt ek) (ht : P.underlying t = some (.map kt et)) (k : κ) (v : ν) :
  ∃ w', (Instr.mapUpdate t (.map (some r)) (ek k) (ev v)).run P w = .ok () w' ∧ St W w' (l.set i (MapA r (ents ek ev (aset L k v)))) := by
 obtain ⟨es, clk, ⟨he, hn, hc⟩, H2⟩ := MapA.open H hi
 have hlt := (List.getElem?_eq_some_iff.1 hi).1
 have hi2 : (l.set i (blk r (.map es clk)))[i]? = some (blk r (.map es clk)) := by simp [hlt]
 have hb := H2.blk_at hi2
 have hf := run_find hK he k w
 have hlen := ents_len he
 unfold Instr.mapUpdate
 simp only [Sem.run_bind, run_underlying ht, Result.andThen_ok, MapKept.run_getObj_map hb, hK.chk, hf]
 by_cases h : kidx L k < es.toList.length
 ·have h2 : kidx L k < L.length := by omega
  have hkey : (((es[kidx L k]?).map (·.key)).getD (ek k)) = ek k := by
   rw [← Array.getElem?_toList, List.getElem?_eq_getElem h]
   show es.toList[kidx L k].key = ek k
   rw [ents_key he _ h h2, kidx_at h2]
  have hstay : ∀ w : World, (Instr.keyThatStays (ek k) (ek k)).run P w = .ok (ek k) w := by
   intro w; unfold Instr.keyThatStays; rw [if_pos (hK.bits k)]; rfl
  obtain ⟨hrun, H3⟩ := setObj_blk (P := P) (o' := .map (es.modify (kidx L k) fun e => { e with key := ek k, val := ev v }) clk) H2 hi2 rfl
  refine ⟨{ w with heap := w.heap.setIfInBounds r (.map (es.modify (kidx L k) fun e => { e with key := ek k, val := ev v }) clk) }, ?_, ?_⟩
  ·rw [hit_some h]
   simp only [Sem.run_bind, hkey, hstay, Result.andThen_ok]
   exact hrun
  ·rw [List.set_set] at H3
   have H4 := MapA.shut (i := i) (r := r) (es := es.modify (kidx L k) fun e => { e with key := ek k, val := ev v }) (clk := clk) H3 (by simp [hlt]) (entsOf_set he (kidx L k) k v) (by rw [entsOf_born]; exact hn; intro e; rfl) (by
    intro x hx
    have : x.born ∈ (es.modify (kidx L k) fun e => { e with key := ek k, val := ev v }).toList.map (fun e : MapEntry => e.born) := List.mem_map.2 ⟨x, hx, rfl⟩
    rw [entsOf_born es (kidx L k) (fun e => { e with key := ek k, val := ev v }) (fun e => rfl)] at this
    obtain ⟨y, hy, e⟩ := List.mem_map.1 this
    rw [← e]; exact hc y hy)
   rw [List.set_set] at H4
   have e1 : aset L k v = L.set (kidx L k) (k, v) := by unfold aset; rw [if_pos h2]
   rw [e1]; exact H4
 ·have h2 : ¬ kidx L k < L.length := by omega
  obtain ⟨hrun, H3⟩ := setObj_blk (P := P) (o' := .map (es.push { key := ek k, val := ev v, born := clk }) (clk + 1)) H2 hi2 rfl
  refine ⟨{ w with heap := w.heap.setIfInBounds r (.map (es.push { key := ek k, val := ev v, born := clk }) (clk + 1)) }, ?_, ?_⟩
  ·rw [hit_none h]
   exact hrun
  ·rw [List.set_set] at H3
   have H4 := MapA.shut (i := i) (r := r) (es := es.push { key := ek k, val := ev v, born := clk }) (clk := clk + 1) (L := ents ek ev (L ++ [(k, v)])) H3 (by simp [hlt]) (by simp only [Array.toList_push, entsOf, ents, List.map_append, List.map_cons, List.map_nil] at he ⊢; rw [he]) (by
    rw [Array.toList_push, List.map_append, List.nodup_append]
    refine ⟨hn, by simp, ?_⟩
    intro a ha b hb
    obtain ⟨y, hy, rfl⟩ := List.mem_map.1 ha
    simp only [List.map_cons, List.map_nil, List.mem_singleton] at hb
    subst hb
    have := hc y hy
    omega) (by
    intro x hx
    rw [Array.toList_push, List.mem_append] at hx
    rcases hx with hx | hx
    ·have := hc x hx; omega
    ·simp only [List.mem_singleton] at hx; subst hx; exact Nat.lt_succ_self clk)
   rw [List.set_set] at H4
   have e1 : aset L k v = L ++ [(k, v)] := by unfold aset; rw [if_neg h2]
   rw [e1]; exact H4
end
def MapIt (it r : Nat) (L rest : List (Value × Value)) (last : Option (Value × Value)) : Atom :=
 ex fun q : (Array MapEntry × Nat) × (Nat × Array Nat × Nat) => star [pure' ((entsOf q.1.1.toList = L ∧ (q.1.1.toList.map (fun e : MapEntry => e.born)).Nodup ∧ ∀ x ∈ q.1.1.toList, x.born < q.1.2) ∧ (∀ x ∈ q.1.1.toList, x.born < q.2.1) ∧ (q.2.1 ≤ q.2.2.2 ∧ q.2.1 ≤ q.1.2) ∧ entsOf (leftOf q.1.1 q.2.2.1).toList = rest ∧
   (∀ y, last = some y → ∃ e ∈ q.1.1.toList, (e.key, e.val) = y ∧ ∃ sn, q.2.2.1 = Array.push sn e.born) ∧ (last.isSome = true → q.2.2.2 = q.1.2)), blk r (.map q.1.1 q.1.2), blk it (.mapIter (some r) q.2.1 q.2.2.1 q.2.2.2)]
section
variable {P : Program} {W w : World} {l : List Atom} {i it r t kt et : Nat} {L rest : List (Value × Value)} {last : Option (Value × Value)}
theorem MapIt.open (H : St W w l) (hi : l[i]? = some (MapIt it r L rest last)) : ∃ (es : Array MapEntry) (clk since : Nat) (seen : Array Nat) (c0 : Nat),
  ((entsOf es.toList = L ∧ (es.toList.map (fun e : MapEntry => e.born)).Nodup ∧ ∀ x ∈ es.toList, x.born < clk) ∧ (∀ x ∈ es.toList, x.born < since) ∧ (since ≤ c0 ∧ since ≤ clk) ∧ entsOf (leftOf es seen).toList = rest ∧
   (∀ y, last = some y → ∃ e ∈ es.toList, (e.key, e.val) = y ∧ ∃ sn, seen = Array.push sn e.born) ∧ (last.isSome = true → c0 = clk)) ∧
  St W w (blk r (.map es clk) :: blk it (.mapIter (some r) since seen c0) :: l.set i emp) := by
 have H1 := H.front hi
 obtain ⟨⟨⟨es, clk⟩, ⟨since, seen, c0⟩⟩, H2⟩ := St.open_ex H1
 have H3 := St.open_star H2
 obtain ⟨hp, H4⟩ := St.open_pure H3
 exact ⟨es, clk, since, seen, c0, hp, H4⟩
theorem MapIt.shut (H : St W w l) (hi : l[i]? = some (MapIt it r L rest last)) : St W w (l.set i (MapA r L)) := by
 obtain ⟨es, clk, since, seen, c0, ⟨⟨he, hn, hc⟩, hs, hsc, hl, hlast, hcl⟩, H2⟩ := MapIt.open H hi
 have H3 := MapA.shut (i := 0) H2 rfl he hn hc
 have H4 : St W w (MapA r L :: l.set i emp) := H3.drop 1 rfl
 exact St.back hi H4
end
section
variable {C : Ctx} {ρ : Env} {w W : World} {l : List Atom} {ops : Array Oper} {K' : Env → World → Prop} {d ty : Nat} {pos : String} {af : Array Edge} {x y : Operand}
theorem s_makeMap {t : TypeId} (H : St W w l) (hn : Nat.blt d C.n = true) (h : ∀ r w', St W w' (MapA r [] :: l) → K' (upd ρ d (.map (some r))) w') : GOp C ops ⟨some d, .makeMap t none, ty, pos, af, none⟩ K' ρ w := by
 refine r_val rfl rfl hn (w' := w.alloc (.map #[] 0)) (v := .map (some w.heap.size)) ?_ (h _ _ ?_)
 ·simp [execOp, Instr.makeMap, newObj]
  rfl
 ·have := MapA.shut (i := 0) (L := []) (H.alloc (.map #[] 0)) rfl rfl (by simp) (by simp)
  exact this
variable {κ ν : Type} [DecidableEq κ] {ek : κ → Value} {ev : ν → Value} {i r t kt et : Nat} {L : List (κ × ν)}
theorem x_lookup {w : World} {z : Value} (k : κ) (v : Value) (hm : MapAt w r (ents ek ev L)) (hK : KeyLaw C.P kt ek) (ht : C.P.underlying t = some (.map kt et)) (hz : ∀ w : World, (zeroValue et).run C.P w = .ok z w) (hx : opv C.n ρ x = .map (some r)) (hy : opv C.n ρ y = ek k) (hv : lookV ev z L k = v) :
  (execOp (opv C.n ρ) ⟨some d, .lookup t x y false, ty, pos, af, none⟩).run C.P w = .ok (.value v) w := by
 subst hv
 have := run_lookup hK ht hz hm k false
 simp only [Bool.false_eq_true, if_false] at this
 simp [execOp, hx, hy, this]
theorem s_mapUpdate {y2 : Operand} (k : κ) (a : ν) (H : St W w l) (hi : l[i]? = some (MapA r (ents ek ev L))) (hK : KeyLaw C.P kt ek) (ht : C.P.underlying t = some (.map kt et)) (hx : opv C.n ρ x = .map (some r)) (hy : opv C.n ρ y = ek k) (hy2 : opv C.n ρ y2 = ev a)
  (h : ∀ w', St W w' (l.set i (MapA r (ents ek ev (aset L k a)))) → K' ρ w') : GOp C ops ⟨none, .mapUpdate t x y y2, ty, pos, af, none⟩ K' ρ w := by
 obtain ⟨w', hrun, H'⟩ := MapA.update (P := C.P) H hi hK ht k a
 refine r_skip0 rfl rfl ?_ (h w' H')
 simp [execOp, hx, hy, hy2, hrun]
end
end Sl
