/- New places: pieces by their numbers. No condition. -/
import Derived.Test.YteogdknlofcpiaaSlDH
import Derived.Test.YteogdknlofcpiaaSlCB
namespace Sl
open _root_.Go _root_.Go.RowKit
set_option linter.all false
set_option linter.unusedSimpArgs false
structure BytesD where
  data : List UInt8
  p : Option Addr
  c : Nat
instance : Inhabited BytesD := ⟨⟨[], none, 0⟩⟩
def evD (x : BytesD) : Value := .slice x.p x.data.length x.c
/-- What a map from numbers to bytes holds. -/
def bdA (E : List (I64 × BytesD)) : Atom := ⟨fun I h => h = Heap.none ∧ ∀ x ∈ E, (DtA x.2.p x.2.c x.2.data).sat I Heap.none, fun I J h hl ⟨a, b⟩ => ⟨a, fun x hx => (DtA x.2.p x.2.c x.2.data).mono I J _ hl (b x hx)⟩⟩
theorem bdA_pers (E : List (I64 × BytesD)) : (bdA E).pers := fun _ _ h => h.1
section
variable {W w : World} {F : List Atom} {i : Nat} {E : List (I64 × BytesD)}
theorem bdA_nil (H : St W w F) : St W w (bdA [] :: F) := H.derive2 fun I _ => ⟨rfl, fun x hx => by cases hx⟩
theorem bdA_snoc {k : I64} {x : BytesD} (H : St W w (DtA x.p x.c x.data :: bdA E :: F)) : St W w (bdA (E ++ [(k, x)]) :: F) := by
  have H2 : St W w (bdA (E ++ [(k, x)]) :: DtA x.p x.c x.data :: bdA E :: F) := H.derive2 fun I h => ⟨rfl, fun y hy => by
    rcases List.mem_append.1 hy with hy | hy
    · exact (h 1 _ rfl (bdA_pers E)).2 y hy
    · rw [List.mem_singleton] at hy
      subst hy
      exact h 0 _ rfl (DtA_pers _ _ _)⟩
  exact (H2.drop 1 rfl).drop 1 rfl
theorem aget_mem {κ ν : Type} [DecidableEq κ] {L : List (κ × ν)} {k : κ} {v : ν} (h : aget L k = some v) : (k, v) ∈ L := by
  unfold aget at h
  obtain ⟨x, hx, e⟩ := Option.map_eq_some_iff.1 h
  obtain ⟨hlt, hx2⟩ := List.getElem?_eq_some_iff.1 hx
  have hk := kidx_at hlt
  rw [hx2] at hk
  have : x = (k, v) := by cases x; simp at hk e; subst hk e; rfl
  rw [← this, ← hx2]; exact List.getElem_mem hlt
theorem bdA_at {k : I64} {x : BytesD} (H : St W w F) (hi : F[i]? = some (bdA E)) (hx : aget E k = some x) : St W w (DtA x.p x.c x.data :: F) :=
  H.derive2 fun I h => (h i _ hi (bdA_pers E)).2 _ (aget_mem hx)
theorem pcA_perm {L M : List PieceD} (H : St W w F) (hi : F[i]? = some (pcA L)) (hp : M.Perm L) : St W w (pcA M :: F) :=
  H.derive2 fun I h => ⟨rfl, fun x hx => (h i _ hi (pcA_pers L)).2 x (hp.mem_iff.1 hx)⟩
end
theorem aset_new {κ ν : Type} [DecidableEq κ] {L : List (κ × ν)} {k : κ} {v : ν} (h : ahas L k = false) : aset L k v = L ++ [(k, v)] := by
  unfold aset
  rw [kidx_has] at h
  rw [if_neg (of_decide_eq_false h)]
theorem look_none {E : List (I64 × BytesD)} {k : I64} (h : ahas E k = false) : lookV evD (.slice none 0 0) E k = .slice none 0 0 := by
  have h2 := aget_has E k
  rw [h] at h2
  unfold lookV
  cases hg : aget E k with
  | none => rfl
  | some a => rw [hg] at h2; cases h2
theorem look_some {E : List (I64 × BytesD)} {k : I64} {x : BytesD} (h : aget E k = some x) : lookV evD (.slice none 0 0) E k = evD x := by unfold lookV; rw [h]
/-! ## the state again -/
def dOf (E : List (I64 × BytesD)) (i : Nat) : List UInt8 := match aget E (i64N i) with | some x => x.data | none => []
def allOf (E : List (I64 × BytesD)) (j : Nat) : List UInt8 := (List.range j).flatMap (dOf E)
theorem allOf_succ (E : List (I64 × BytesD)) (j : Nat) : allOf E (j + 1) = allOf E j ++ dOf E j := by unfold allOf; rw [List.range_succ, List.flatMap_append]; simp
theorem allOf_le (E : List (I64 × BytesD)) {i j : Nat} (h : i ≤ j) : (allOf E i).length ≤ (allOf E j).length := by
  induction h with
  | refl => exact Nat.le_refl _
  | step _ ih => rw [allOf_succ, List.length_append]; omega
theorem dOf_some {E : List (I64 × BytesD)} {i : Nat} {x : BytesD} (h : aget E (i64N i) = some x) : dOf E i = x.data := by unfold dOf; rw [h]
def sw {α : Type} [Inhabited α] (L : List α) (i k : Nat) : List α := (L.set i (L.getD k default)).set k (L.getD i default)
theorem sw_perm {α : Type} [Inhabited α] {L : List α} {i k : Nat} (hi : i < L.length) (hk : k < L.length) : ((L.set i (L.getD k default)).set k (L.getD i default)).Perm L := by
  rw [List.getD_eq_getElem?_getD, List.getElem?_eq_getElem hk, List.getD_eq_getElem?_getD, List.getElem?_eq_getElem hi]
  exact List.set_set_perm hi hk
theorem chunks (s : List UInt8) : ∀ j, (List.range j).flatMap (fun i => (s.drop (i * 4096)).take 4096) = s.take (j * 4096)
  | 0 => by simp
  | j + 1 => by
    rw [List.range_succ, List.flatMap_append, chunks s j]
    simp only [List.flatMap_cons, List.flatMap_nil, List.append_nil]
    rw [Nat.add_mul, Nat.one_mul, List.take_add]
theorem many_all (n : Nat) : n ≤ manyOf n * 4096 := by unfold manyOf; omega
def keyed (E : List (I64 × BytesD)) : List (I64 × List UInt8) := E.map fun e => (e.1, e.2.data)
def told (V : List PieceV) : List (I64 × List UInt8) := V.map fun x => (x.index, x.data)
theorem keyed_len {E : List (I64 × BytesD)} {V : List PieceV} (h : keyed E = told V) : E.length = V.length := by
  have := congrArg List.length h
  simpa [keyed, told] using this
theorem ahas_iff {E : List (I64 × BytesD)} {k : I64} : ahas E k = true ↔ k ∈ (keyed E).map (·.1) := by
  unfold ahas keyed
  rw [List.any_eq_true, List.map_map]
  simp only [List.mem_map, decide_eq_true_eq, Function.comp]
theorem i64N_inj {i j : Nat} (hi : i ≤ 9223372036854775807) (hj : j ≤ 9223372036854775807) (h : i64N i = i64N j) : i = j := by
  have := congrArg I64.v h
  rw [i64N_v hi, i64N_v hj] at this
  omega
theorem cut_nodup {op : I64} {s : List UInt8} {m : Nat} (hm : m ≤ 1024) : ((cutL op s m).map PieceV.index).Nodup := by
  unfold cutL
  rw [List.map_map, List.Nodup, List.pairwise_map]
  refine List.Pairwise.imp_of_mem ?_ (List.nodup_range (n := m))
  intro a b ha hb hne e
  simp only [List.mem_range] at ha hb
  exact hne (i64N_inj (by omega) (by omega) e)
theorem cut_ok {op : I64} {s : List UInt8} (h : cutE op s = 0) {x : PieceV} (hx : x ∈ cutL op s (manyOf s.length)) : pieceOk x = true ∧ x.op = op ∧ x.many.v = (manyOf s.length : Nat) := by
  obtain ⟨i, hi, rfl⟩ := List.mem_map.1 hx
  rw [List.mem_range] at hi
  have ht : timeB op.v = true := by
    cases h1 : timeB op.v with
    | true => rfl
    | false => rw [cutE_1 h1] at h; cases h
  have hl : ¬ 4194304 < s.length := fun hc => by rw [cutE_3 ht hc] at h; cases h
  have hm := manyOf_le (n := s.length) (by omega)
  have hmv := i64N_v (n := manyOf s.length) (by omega)
  have hiv := i64N_v (n := i) (by omega)
  have h1 : 1 ≤ manyOf s.length := by unfold manyOf; omega
  refine ⟨?_, rfl, hmv⟩
  refine pieceB_t ht ⟨?_, ?_, ?_, ?_, ?_⟩
  · show 1 ≤ (i64N (manyOf s.length)).v; rw [hmv]; omega
  · show (i64N (manyOf s.length)).v ≤ 1024; rw [hmv]; omega
  · show 0 ≤ (i64N i).v; rw [hiv]; omega
  · show (i64N i).v < (i64N (manyOf s.length)).v; rw [hiv, hmv]; omega
  · show ((s.drop (i * 4096)).take 4096).length ≤ 4096; rw [List.length_take]; omega
theorem new_key {op : I64} {s : List UInt8} {V : List PieceV} {m i : Nat} (hm : m ≤ 1024) (hp : V.Perm (cutL op s m)) {E : List (I64 × BytesD)} (hE : keyed E = told (V.take i)) (hi : i < V.length) : ahas E (V.getD i default).index = false := by
  cases h : ahas E (V.getD i default).index with
  | false => rfl
  | true =>
    rw [ahas_iff, hE] at h
    have hn : (V.map PieceV.index).Nodup := (hp.map PieceV.index).nodup_iff.2 (cut_nodup hm)
    have e : (told (V.take i)).map (·.1) = (V.map PieceV.index).take i := by
      unfold told; rw [List.map_map, ← List.map_take]; rfl
    rw [e] at h
    obtain ⟨q, hq, e2⟩ := List.getElem_of_mem h
    rw [List.length_take, List.length_map] at hq
    rw [List.getElem_take, List.getElem_map] at e2
    have := List.pairwise_iff_getElem.1 hn q i (by rw [List.length_map]; omega) (by rw [List.length_map]; omega) (by omega)
    rw [List.getElem_map, List.getElem_map] at this
    exact absurd (by rw [e2, List.getD_eq_getElem?_getD, List.getElem?_eq_getElem hi]; rfl) this
theorem keyed_step {V : List PieceV} {E : List (I64 × BytesD)} {i : Nat} {y : BytesD} (hE : keyed E = told (V.take i)) (hi : i < V.length) (hy : y.data = (V.getD i default).data) : keyed (E ++ [((V.getD i default).index, y)]) = told (V.take (i + 1)) := by
  have e : V.take (i + 1) = V.take i ++ [V.getD i default] := by
    rw [List.take_add_one, List.getElem?_eq_getElem hi, List.getD_eq_getElem?_getD, List.getElem?_eq_getElem hi]; rfl
  rw [e]
  unfold keyed told at *
  rw [List.map_append, List.map_append, hE]
  simp [hy]
theorem aget_of_mem {E : List (I64 × BytesD)} {k : I64} {D : List UInt8} (hn : ((keyed E).map (·.1)).Nodup) (h : (k, D) ∈ keyed E) : ∃ x, aget E k = some x ∧ x.data = D := by
  have hk : ahas E k = true := ahas_iff.2 (List.mem_map.2 ⟨_, h, rfl⟩)
  have h2 := aget_has E k
  rw [hk] at h2
  obtain ⟨x, hx⟩ := Option.isSome_iff_exists.1 h2
  refine ⟨x, hx, ?_⟩
  have hm := aget_mem hx
  have hm2 : (k, x.data) ∈ keyed E := List.mem_map.2 ⟨_, hm, rfl⟩
  obtain ⟨a, ha, ea⟩ := List.getElem_of_mem hm2
  obtain ⟨b, hb, eb⟩ := List.getElem_of_mem h
  rcases Nat.lt_trichotomy a b with hlt | heq | hgt
  · have := List.pairwise_iff_getElem.1 hn a b (by rw [List.length_map]; omega) (by rw [List.length_map]; omega) hlt
    rw [List.getElem_map, List.getElem_map, ea, eb] at this
    exact absurd rfl this
  · subst heq; rw [ea] at eb; exact (Prod.mk.injEq .. ▸ eb).2
  · have := List.pairwise_iff_getElem.1 hn b a (by rw [List.length_map]; omega) (by rw [List.length_map]; omega) hgt
    rw [List.getElem_map, List.getElem_map, ea, eb] at this
    exact absurd rfl this
theorem whole_at {op : I64} {s : List UInt8} {V : List PieceV} {m : Nat} (hm : m ≤ 1024) (hp : V.Perm (cutL op s m)) {E : List (I64 × BytesD)} (hE : keyed E = told V) {i : Nat} (hi : i < m) : ∃ x, aget E (i64N i) = some x ∧ x.data = (s.drop (i * 4096)).take 4096 := by
  have hn : (V.map PieceV.index).Nodup := (hp.map PieceV.index).nodup_iff.2 (cut_nodup hm)
  refine aget_of_mem ?_ ?_
  · rw [hE]; unfold told; rw [List.map_map]; exact hn
  · rw [hE]
    refine List.mem_map.2 ⟨pcAt op s i, hp.mem_iff.2 (List.mem_map.2 ⟨i, List.mem_range.2 hi, rfl⟩), rfl⟩
theorem whole_all {op : I64} {s : List UInt8} {V : List PieceV} (hm : manyOf s.length ≤ 1024) (hp : V.Perm (cutL op s (manyOf s.length))) {E : List (I64 × BytesD)} (hE : keyed E = told V) : allOf E (manyOf s.length) = s := by
  have h : allOf E (manyOf s.length) = (List.range (manyOf s.length)).flatMap (fun i => (s.drop (i * 4096)).take 4096) := by
    unfold allOf
    rw [List.flatMap_def, List.flatMap_def]
    congr 1
    refine List.map_congr_left fun i hi => ?_
    obtain ⟨x, hx, hd⟩ := whole_at hm hp hE (List.mem_range.1 hi)
    rw [dOf_some hx, hd]
  rw [h, chunks, List.take_of_length_le (many_all _)]
theorem cutE_7 {s : List UInt8} {op : I64} (h7 : op.v = 7) (h : ¬ cutE op s = 0) : cutE op s = 3 := by
  have ht : timeB op.v = true := by rw [h7]; rfl
  by_cases hc : 4194304 < s.length
  · exact cutE_3 ht hc
  · exact absurd (cutE_0 ht hc) h
/-! ## the pieces as they lie -/
def o7 : I64 := ⟨7, by decide, by decide⟩
theorem getD_v {L : List PieceD} {i : Nat} (hi : i < L.length) : (L.map PieceD.v).getD i default = (L.getD i default).v := by
  simp [List.getD_eq_getElem?_getD, List.getElem?_map, List.getElem?_eq_getElem hi]
section
variable {op : I64} {s : List UInt8} {L : List PieceD} {E : List (I64 × BytesD)} {i : Nat}
theorem piece_at (h : cutE op s = 0) (hp : (L.map PieceD.v).Perm (cutL op s (manyOf s.length))) (hi : i < L.length) : pieceOk (L.getD i default).v = true ∧ (L.getD i default).v.op.v = op.v ∧ (L.getD i default).v.many.v = (manyOf s.length : Nat) := by
  have hm : (L.getD i default).v ∈ cutL op s (manyOf s.length) := by
    refine hp.mem_iff.1 ?_
    rw [List.getD_eq_getElem?_getD, List.getElem?_eq_getElem hi]
    exact List.mem_map.2 ⟨_, List.getElem_mem hi, rfl⟩
  obtain ⟨a, b, c⟩ := cut_ok h hm
  exact ⟨a, congrArg I64.v b, c⟩
theorem new_key2 (hm : manyOf s.length ≤ 1024) (hp : (L.map PieceD.v).Perm (cutL op s (manyOf s.length))) (hE : keyed E = told ((L.map PieceD.v).take i)) (hi : i < L.length) : ahas E (L.getD i default).v.index = false := by
  have := new_key hm hp hE (i := i) (by rw [List.length_map]; exact hi)
  rw [getD_v hi] at this
  exact this
theorem keyed_step2 {p : Option Addr} {c : Nat} (hE : keyed E = told ((L.map PieceD.v).take i)) (hi : i < L.length) : keyed (E ++ [((L.getD i default).v.index, (⟨(L.getD i default).v.data, p, c⟩ : BytesD))]) = told ((L.map PieceD.v).take (i + 1)) := by
  have := keyed_step (y := ⟨(L.getD i default).v.data, p, c⟩) hE (by rw [List.length_map]; exact hi) (by rw [getD_v hi])
  rw [getD_v hi] at this
  exact this
theorem keyed_len2 (hE : keyed E = told ((L.map PieceD.v).take i)) (hi : i ≤ L.length) : E.length = i := by
  rw [keyed_len hE, List.length_take, List.length_map]; omega
theorem pieces_len (hp : (L.map PieceD.v).Perm (cutL op s (manyOf s.length))) : L.length = manyOf s.length := by
  have := hp.length_eq
  rw [List.length_map, cutL_len] at this
  exact this
theorem keyed_all (hE : keyed E = told ((L.map PieceD.v).take i)) (hi : i = L.length) : keyed E = told (L.map PieceD.v) := by
  subst hi; rw [← List.length_map (f := PieceD.v), List.take_length] at hE; exact hE
theorem manyOf_1 (n : Nat) : 1 ≤ manyOf n := by unfold manyOf; omega
end
theorem pcBytes_len {p : PieceV} (h : pieceOk p = true) : (pcBytes p).length ≤ 140737488355328 := by
  obtain ⟨q1, q2, q3, q4, q5, q6, q7⟩ := pieceOk_is h
  have z1 := sizeU_le (u := p.op.v.toNat) (by omega)
  have z2 := sizeU_le (u := p.many.v.toNat) (by omega)
  have z3 := sizeU_le (u := p.index.v.toNat) (by omega)
  have z4 : (bstr p.data).size = p.data.length := rfl
  have z5 := sizeU_le (u := (bstr p.data).size) (by rw [z4]; omega)
  have z6 : (textB (bstr p.data)).length = sizeU p.data.length + 8 * p.data.length := by rw [textB_len]; rfl
  rw [z4] at z5
  rw [pcBytes_yes h, pk_len]
  unfold pcB
  simp only [List.length_append, natB_len]
  omega
theorem read_at {p : PieceV} (h : pieceOk p = true) : ppE (remB (pcBytes p) 0) = 0 ∧ ppV (remB (pcBytes p) 0) = p := by
  have hb : remB (pcBytes p) 0 = pcB p ++ padB (pcB p) := by rw [pcBytes_yes h]; unfold remB; rw [bits_pk, List.drop_zero]
  rw [hb]
  exact pc_read h (pad_end _)
end Sl
