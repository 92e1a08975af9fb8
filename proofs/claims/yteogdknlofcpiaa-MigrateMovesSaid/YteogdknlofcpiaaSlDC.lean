/- Sorts of whole numbers; entries of maps that are set in two steps; maps that are cloned. No condition. -/
import Derived.Test.YteogdknlofcpiaaSlCC
import Derived.Shelf.SlMaps.Clone
namespace Sl
open _root_.Go _root_.Go.RowKit _root_.Go.Proofs
set_option linter.all false
set_option linter.unusedSimpArgs false
def i64c (n : I64) : List Value := [.int .i64 n.v]
theorem i64c_len (n : I64) : (i64c n).length = 1 := rfl
theorem one_i64c : ∀ (L : List I64) (x : Value), x ∈ L.flatMap i64c → x.oneCell' = true := fun L x hx => by
  obtain ⟨a, _, ha⟩ := List.mem_flatMap.1 hx
  simp only [i64c, List.mem_singleton] at ha
  subst ha; rfl
def leI (a b : I64) : Bool := decide (a.v ≤ b.v)
def sortI (L : List I64) : List I64 := L.mergeSort leI
theorem sortI_map (L : List I64) : (L.map I64.v).mergeSort (fun x y => decide (x ≤ y)) = (sortI L).map I64.v := by
  unfold sortI
  refine (List.map_mergeSort ?_).symm
  intro a _ b _
  rfl
theorem sortI_perm (L : List I64) : (sortI L).Perm L := List.mergeSort_perm L leI
theorem sortI_len (L : List I64) : (sortI L).length = L.length := (sortI_perm L).length_eq
theorem leI_trans (a b c : I64) (h1 : leI a b = true) (h2 : leI b c = true) : leI a c = true := by
  unfold leI at *
  simp only [decide_eq_true_eq] at *
  omega
theorem leI_total (a b : I64) : (leI a b || leI b a) = true := by
  unfold leI
  simp only [Bool.or_eq_true, decide_eq_true_eq]
  omega
theorem sortI_sorted (L : List I64) : (sortI L).Pairwise (fun a b => leI a b = true) := List.pairwise_mergeSort leI_trans leI_total L
theorem leI_antisymm {a b : I64} (h1 : leI a b = true) (h2 : leI b a = true) : a = b := by
  unfold leI at *
  simp only [decide_eq_true_eq] at *
  exact I64.eq_of (by omega)
theorem sortedI_unique {L M : List I64} (hL : L.Pairwise (fun a b => leI a b = true)) (hM : M.Pairwise (fun a b => leI a b = true)) (hp : L.Perm M) : L = M :=
  List.Perm.eq_of_pairwise (fun a b _ _ h1 h2 => leI_antisymm h1 h2) hL hM hp
theorem sortI_of_perm {M L : List I64} (h : M.Perm L) : sortI M = sortI L :=
  sortedI_unique (sortI_sorted M) (sortI_sorted L) ((sortI_perm M).trans (h.trans (sortI_perm L).symm))
theorem flatMap_int (L : List I64) : L.flatMap i64c = (L.map I64.v).map (Value.int .i64) := by
  rw [List.map_map]
  induction L with
  | nil => rfl
  | cons a L ih => rw [List.flatMap_cons, ih, List.map_cons]; rfl
theorem put_takeI {enc : Int → Value} {cur : Array Value} {ss : List Int} (h : ss.length ≤ cur.size) : (Sort.putCells enc 0 ss.toArray cur).toList.take ss.length = ss.map enc := by
  refine List.ext_getElem? fun q => ?_
  rw [List.getElem?_take]
  unfold Sort.putCells
  by_cases hq : q < ss.length
  · rw [if_pos hq, Array.getElem?_toList, Array.getElem?_mapIdx, Array.getElem?_eq_getElem (by omega), List.getElem?_map, List.getElem?_eq_getElem hq]
    simp only [Option.map_some]
    rw [if_pos ⟨Nat.zero_le _, by simpa using hq⟩]
    simp [hq]
  · rw [if_neg hq, List.getElem?_eq_none (by simpa using Nat.le_of_not_lt hq)]
theorem sort_int {P : Program} {ρ : Shelf.Ren} (Ly : SlLaysM.n5 P ρ) {W w : World} {F : List Atom} {i : Nat} {e : TypeId} {p : Option Addr} {c : Nat} {L : List I64} (H : St W w F) (hi : F[i]? = some (Row e 1 (.slice p L.length c) L.length (L.flatMap i64c))) (hl : L.length < 4611686018427387904) :
    Calls P (ρ.f 5) #[.slice p L.length c] w (Ret fun v w' => v = .tuple #[] ∧ St W w' (F.set i (Row e 1 (.slice p L.length c) L.length ((sortI L).flatMap i64c)))) := by
  rcases Nat.eq_zero_or_pos L.length with h0 | h0
  · have hL : L = [] := List.eq_nil_of_length_eq_zero h0
    subst hL
    refine (AnyM.slices_Sort_int_none Ly p c w).mono ?_
    rintro e' w' ⟨rfl, rfl⟩
    refine ⟨rfl, ?_⟩
    have e1 : sortI [] = [] := by simp [sortI]
    rw [e1]
    have hid : F.set i (Row e 1 (.slice p ([] : List I64).length c) ([] : List I64).length (([] : List I64).flatMap i64c)) = F := by
      refine List.ext_getElem? fun j => ?_
      by_cases hj : i = j
      · subst hj
        rw [List.getElem?_set_self (List.getElem?_eq_some_iff.1 hi).1, hi]
      · rw [List.getElem?_set_ne hj]
    rw [hid]; exact H
  · obtain ⟨g, cur, rfl, h1, h2, h3, h4, h5, H2⟩ := Row.open2 H hi h0
    have hlt := (List.getElem?_eq_some_iff.1 hi).1
    have hi2 : (F.set i (blk g (.cells cur e)))[i]? = some (blk g (.cells cur e)) := by simp [hlt]
    have hb := H2.blk_at hi2
    have hsz : (L.map I64.v).length = L.length := List.length_map ..
    have hH : Sort.Holds (Value.int .i64) w g 0 (L.map I64.v).toArray := by
      intro j hj
      have hj' : j < L.length := by simpa using hj
      have hc : cur[j]? = some ((Value.int .i64) (L[j].v)) := by
        have e1 : ((cur.toList.drop 0).take (L.length * 1))[j]? = (L.flatMap i64c)[j]? := by rw [h4]
        rw [flatMap_int, List.getElem?_take_of_lt (by omega), List.drop_zero, Array.getElem?_toList, List.getElem?_map, List.getElem?_map, List.getElem?_eq_getElem hj'] at e1
        exact e1
      refine ⟨?_, ?_⟩
      · refine cell_of hb ?_
        rw [Nat.zero_add, hc]
        simp [hj']
      · simp [World.frozen?, hb]
    have hg : g < w.heap.size := (Array.getElem?_eq_some_iff.1 hb).1
    have := AnyM.slices_Sort_int Ly g 0 c (L.map I64.v) w hH hg (by rw [hsz]; exact hl)
    rw [hsz] at this
    refine this.mono ?_
    rintro e' w' ⟨rfl, n, os, rfl⟩
    refine ⟨rfl, ?_⟩
    rw [sortI_map]
    refine St.grow ?_ os
    have H3 := H2.ahead n
    have hb3 := H3.blk_at hi2
    have H4 : St W (Sort.putRow (Value.int .i64) (Sort.ahead w n) g 0 ((sortI L).map I64.v).toArray) ((F.set i (blk g (.cells cur e))).set i (blk g (.cells (Sort.putCells (Value.int .i64) 0 ((sortI L).map I64.v).toArray cur) e))) := by
      refine H3.set_blk hi2 rfl rfl rfl ?_ ?_
      · show ((Sort.ahead w n).heap.modify g _)[g]? = _
        rw [Array.getElem?_modify, if_pos rfl, hb3]; rfl
      · intro j _ hj
        show ((Sort.ahead w n).heap.modify g _)[j]? = _
        rw [Array.getElem?_modify, if_neg (fun e => hj e.symm)]
    rw [List.set_set] at H4
    have hlen : ((sortI L).map I64.v).length = L.length := by rw [List.length_map, sortI_len]
    have H5 := Row.shut2 (i := i) (g := g) (e := e) (cur := Sort.putCells (Value.int .i64) 0 ((sortI L).map I64.v).toArray cur) (n := L.length) (c := c) (size := 1) (xs := (sortI L).flatMap i64c) H4 (by simp [hlt]) rfl h1 h2 (by
      unfold Sort.putCells; rw [Array.size_mapIdx]; exact h3) (by
      rw [List.drop_zero, flatMap_int, Nat.mul_one, ← hlen]
      exact put_takeI (by rw [hlen, h3]; omega)) (one_i64c _)
    rw [List.set_set] at H5
    exact H5
/-! ## an entry that is set in two steps -/
/-- A map of which the entry at place j has the stamp s. -/
def MapS (r : Nat) (M : List (Value × Value)) (s j : Nat) : Atom :=
  ⟨fun _ h => ∃ (es : Array MapEntry) (clk : Nat), h = Heap.one r (.map es clk) ∧ entsOf es.toList = M ∧ (es.toList.map (fun e : MapEntry => e.born)).Nodup ∧ (∀ x ∈ es.toList, x.born < clk) ∧ (es.toList.map (fun e : MapEntry => e.born))[j]? = some s, fun _ _ _ _ h => h⟩
section
variable {P : Program} {κ ν : Type} [DecidableEq κ] {ek : κ → Value} {ev : ν → Value} {W w : World} {r t kt et i : Nat} {L : List (κ × ν)} {l : List Atom}
theorem MapA.entry (H : St W w l) (hi : l[i]? = some (MapA r (ents ek ev L))) (hK : KeyLaw P kt ek) (ht : P.underlying t = some (.map kt et)) {z : ν} (hz : ∀ w : World, (zeroValue et).run P w = .ok (ev z) w) (k : κ) (hno : ahas L k = false) :
    ∃ w' s, (Instr.mapEntry t (.map (some r)) (ek k)).run P w = .ok (.tuple #[ev z, .int .i64 (s : Nat)]) w' ∧ St W w' (l.set i (MapS r (ents ek ev (L ++ [(k, z)])) s L.length)) := by
  obtain ⟨es, clk, ⟨he, hn, hc⟩, H2⟩ := MapA.open H hi
  have hlt := (List.getElem?_eq_some_iff.1 hi).1
  have hi2 : (l.set i (blk r (.map es clk)))[i]? = some (blk r (.map es clk)) := by simp [hlt]
  have hb := H2.blk_at hi2
  have hf := run_find hK he k w
  have hlen := ents_len he
  have h : ¬ kidx L k < es.toList.length := by
    rw [kidx_has] at hno
    have := of_decide_eq_false hno
    omega
  obtain ⟨hrun, H3⟩ := setObj_blk (P := P) (o' := .map (es.push { key := ek k, val := ev z, born := clk }) (clk + 1)) H2 hi2 rfl
  refine ⟨{ w with heap := w.heap.setIfInBounds r (.map (es.push { key := ek k, val := ev z, born := clk }) (clk + 1)) }, clk, ?_, ?_⟩
  · unfold Instr.mapEntry
    simp only [Sem.run_bind, run_underlying ht, Result.andThen_ok, MapKept.run_getObj_map hb, hK.chk, hf, hit_none h, hz]
    simp only [hrun, Sem.run_bind, Result.andThen_ok, Sem.run_pure, goInt]
  · rw [List.set_set] at H3
    have H4 := H3.conv (i := i) (A := blk r (.map (es.push { key := ek k, val := ev z, born := clk }) (clk + 1))) (A' := MapS r (ents ek ev (L ++ [(k, z)])) clk L.length) (by simp [hlt]) (fun I h e => ⟨es.push { key := ek k, val := ev z, born := clk }, clk + 1, by
      refine ⟨e, ?_, ?_, ?_, ?_⟩
      · simp only [Array.toList_push, entsOf, ents, List.map_append, List.map_cons, List.map_nil] at he ⊢; rw [he]
      · rw [Array.toList_push, List.map_append, List.nodup_append]
        refine ⟨hn, by simp, ?_⟩
        intro a ha b hb
        obtain ⟨y, hy, rfl⟩ := List.mem_map.1 ha
        simp only [List.map_cons, List.map_nil, List.mem_singleton] at hb
        subst hb
        have := hc y hy
        omega
      · intro x hx
        rw [Array.toList_push, List.mem_append] at hx
        rcases hx with hx | hx
        · have := hc x hx; show x.born < clk + 1; omega
        · simp only [List.mem_singleton] at hx; subst hx; exact Nat.lt_succ_self clk
      · rw [Array.toList_push, List.map_append, List.getElem?_append_right (by rw [List.length_map]; omega), List.length_map, hlen, Nat.sub_self]; rfl⟩)
    rw [List.set_set] at H4
    exact H4
theorem findIdx_arr (es : Array MapEntry) {p : MapEntry → Bool} : es.findIdx? p = es.toList.findIdx? p := by
  cases es; simp
theorem findIdx_born {es : Array MapEntry} {s j : Nat} (hn : (es.toList.map (fun e : MapEntry => e.born)).Nodup) (hj : (es.toList.map (fun e : MapEntry => e.born))[j]? = some s) : es.findIdx? (fun e => (e.born : Int) == (s : Int)) = some j := by
  rw [findIdx_arr es, List.findIdx?_eq_some_iff_getElem]
  rw [List.getElem?_map] at hj
  obtain ⟨e, he, hs⟩ := Option.map_eq_some_iff.1 hj
  obtain ⟨hlt, hx⟩ := List.getElem?_eq_some_iff.1 he
  refine ⟨hlt, by rw [hx, hs]; simp, ?_⟩
  intro q hq
  simp only [Bool.not_eq_true, beq_eq_false_iff_ne, ne_eq]
  intro hc
  have hqs : es.toList[q].born = s := by omega
  have hp := List.pairwise_iff_getElem.1 hn q j (by rw [List.length_map]; omega) (by rw [List.length_map]; exact hlt) hq
  apply hp
  rw [List.getElem_map, List.getElem_map, hx, hqs, hs]
theorem MapS.store {M : List (κ × ν)} {s j : Nat} (H : St W w l) (hi : l[i]? = some (MapS r (ents ek ev M) s j)) {k : κ} {a : ν} (hk : (M[j]?).map (·.1) = some k) :
    ∃ w', (Instr.entryStore t (.map (some r)) (.int .i64 (s : Nat)) (ev a)).run P w = .ok () w' ∧ St W w' (l.set i (MapA r (ents ek ev (M.set j (k, a))))) := by
  obtain ⟨⟨es, clk⟩, ⟨he, hn, hc, hs⟩, H2⟩ := H.choose hi (fun q : Array MapEntry × Nat => blk r (.map q.1 q.2)) (fun q => entsOf q.1.toList = ents ek ev M ∧ (q.1.toList.map (fun e : MapEntry => e.born)).Nodup ∧ (∀ x ∈ q.1.toList, x.born < q.2) ∧ (q.1.toList.map (fun e : MapEntry => e.born))[j]? = some s) (fun I h ⟨es, clk, e, p⟩ => ⟨(es, clk), p, e⟩)
  have hlt := (List.getElem?_eq_some_iff.1 hi).1
  have hi2 : (l.set i (blk r (.map es clk)))[i]? = some (blk r (.map es clk)) := by simp [hlt]
  have hb := H2.blk_at hi2
  obtain ⟨hrun, H3⟩ := setObj_blk (P := P) (o' := .map (es.modify j fun e => { e with val := ev a }) clk) H2 hi2 rfl
  dsimp only at H2 he hn hc hs
  refine ⟨{ w with heap := w.heap.setIfInBounds r (.map (es.modify j fun e => { e with val := ev a }) clk) }, ?_, ?_⟩
  rotate_left
  · rw [List.set_set] at H3
    have hset : entsOf (es.modify j fun e => { e with val := ev a }).toList = ents ek ev (M.set j (k, a)) := by
      obtain ⟨m, hm, hk2⟩ := Option.map_eq_some_iff.1 hk
      refine List.ext_getElem? fun q => ?_
      have hq : (entsOf es.toList)[q]? = (ents ek ev M)[q]? := by rw [he]
      unfold entsOf ents at hq ⊢
      rw [List.getElem?_map, List.getElem?_map] at hq
      rw [List.getElem?_map, List.getElem?_map, Array.getElem?_toList, Array.getElem?_modify, List.getElem?_set]
      rw [Array.getElem?_toList] at hq
      by_cases h : j = q
      · subst h
        rw [if_pos rfl, if_pos rfl]
        have hl : j < M.length := (List.getElem?_eq_some_iff.1 hm).1
        rw [if_pos hl]
        rw [hm] at hq
        cases hes : es[j]? with
        | none => rw [hes] at hq; simp at hq
        | some e =>
          rw [hes] at hq
          simp only [Option.map_some, Option.some.injEq, Prod.mk.injEq] at hq ⊢
          exact ⟨by rw [hq.1, hk2], trivial⟩
      · rw [if_neg h, if_neg h]; exact hq
    have H4 := MapA.shut (i := i) (r := r) (es := es.modify j fun e => { e with val := ev a }) (clk := clk) H3 (by simp [hlt]) hset (by rw [entsOf_born es j (fun e => { e with val := ev a }) (fun e => rfl)]; exact hn) (by
      intro x hx
      have : x.born ∈ (es.modify j fun e => { e with val := ev a }).toList.map (fun e : MapEntry => e.born) := List.mem_map.2 ⟨x, hx, rfl⟩
      rw [entsOf_born es j (fun e => { e with val := ev a }) (fun e => rfl)] at this
      obtain ⟨y, hy, e⟩ := List.mem_map.1 this
      rw [← e]; exact hc y hy)
    rw [List.set_set] at H4
    exact H4
  · unfold Instr.entryStore
    simp only [Sem.run_bind, Result.andThen_ok, MapKept.run_getObj_map hb]
    have ha : (asInt (.int .i64 (s : Nat))).run P w = .ok (s : Int) w := rfl
    rw [ha]
    simp only [Result.andThen_ok, findIdx_born hn hs]
    exact hrun
end
section
variable {C : Ctx} {ρ : Env} {ops : Array Oper} {d : Nat} {K' : Env → World → Prop} {κ ν : Type} [DecidableEq κ] {ek : κ → Value} {ev : ν → Value} {W w : World} {r t kt et i ty : Nat} {pos : String} {af : Array Edge} {L : List (κ × ν)} {l : List Atom} {x y y2 : Operand}
theorem s_mapEntry (k : κ) (H : St W w l) (hi : l[i]? = some (MapA r (ents ek ev L))) (hK : KeyLaw C.P kt ek) (ht : C.P.underlying t = some (.map kt et)) {z : ν} (hz : ∀ w : World, (zeroValue et).run C.P w = .ok (ev z) w) (hno : ahas L k = false) (hx : opv C.n ρ x = .map (some r)) (hy : opv C.n ρ y = ek k) (hn : Nat.blt d C.n = true)
    (h : ∀ s w', St W w' (l.set i (MapS r (ents ek ev (L ++ [(k, z)])) s L.length)) → K' (upd ρ d (.tuple #[ev z, .int .i64 (s : Nat)])) w') : GOp C ops ⟨some d, .mapEntry t x y, ty, pos, af, none⟩ K' ρ w := by
  obtain ⟨w', s, hrun, H'⟩ := MapA.entry (P := C.P) H hi hK ht hz k hno
  refine r_val rfl rfl hn ?_ (h s w' H')
  simp [execOp, hx, hy, hrun]
theorem s_entryStore {M : List (κ × ν)} {s j : Nat} (H : St W w l) (hi : l[i]? = some (MapS r (ents ek ev M) s j)) (k : κ) (a : ν) (hk : (M[j]?).map (·.1) = some k) (hx : opv C.n ρ x = .map (some r)) (hy : opv C.n ρ y = .int .i64 (s : Nat)) (hy2 : opv C.n ρ y2 = ev a)
    (h : ∀ w', St W w' (l.set i (MapA r (ents ek ev (M.set j (k, a))))) → K' ρ w') : GOp C ops ⟨none, .entryStore t x y y2, ty, pos, af, none⟩ K' ρ w := by
  obtain ⟨w', hrun, H'⟩ := MapS.store (P := C.P) (t := t) H hi hk
  refine r_skip0 rfl rfl ?_ (h w' H')
  simp [execOp, hx, hy, hy2, hrun]
end
theorem clone_map {P : Program} {ρ : Shelf.Ren} (Ly : SlLaysW.n5 P ρ) {W w : World} {F : List Atom} {i r : Nat} {L : List (Value × Value)} (hi : F[i]? = some (MapA r L)) (H : St W w F) :
    Calls P (ρ.f 5) #[.map (some r)] w (Ret fun v w' => ∃ r2, v = .map (some r2) ∧ St W w' (MapA r2 L :: F)) := by
  obtain ⟨es, clk, ⟨he, hn, hc⟩, H2⟩ := MapA.open H hi
  have hlt := (List.getElem?_eq_some_iff.1 hi).1
  have hi2 : (F.set i (blk r (.map es clk)))[i]? = some (blk r (.map es clk)) := by simp [hlt]
  refine (AnyW.maps_Clone Ly r es clk w (H2.blk_at hi2)).mono ?_
  rintro e' w' ⟨rfl, rfl⟩
  refine ⟨w.heap.size, rfl, ?_⟩
  have H3 := H2.alloc (.map es clk)
  have H4 := MapA.shut (i := 0) H3 rfl he hn hc
  have H5 := MapA.shut (i := i + 1) (l := (blk w.heap.size (.map es clk) :: F.set i (blk r (.map es clk))).set 0 (MapA w.heap.size L)) H4 (by simpa using hi2) he hn hc
  have hid : (F.set i (blk r (.map es clk))).set i (MapA r L) = F := by
    rw [List.set_set]
    refine List.ext_getElem? fun j => ?_
    by_cases hj : i = j
    · subst hj; rw [List.getElem?_set_self hlt, hi]
    · rw [List.getElem?_set_ne hj]
  simp only [List.set_cons_zero, List.set_cons_succ, hid] at H5
  exact H5
end Sl
