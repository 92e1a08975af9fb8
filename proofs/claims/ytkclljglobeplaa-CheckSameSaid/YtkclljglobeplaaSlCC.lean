/- The library's sort of texts, over rows. No condition. -/
import Derived.Test.YtkclljglobeplaaSlCB
import Derived.Shelf.SortM.Plain
import Derived.Shelf.SortM.SortNone
namespace Sl
open _root_.Go _root_.Go.RowKit _root_.Go.Proofs
set_option linter.all false
set_option linter.unusedSimpArgs false
theorem St.grow {W w : World} {l : List Atom} (H : St W w l) (os : Array Obj) : St W (Sort.grow w os) l := by
  obtain ⟨I, h, dI, hI, hh, s⟩ := H.mem
  have hle : (heapOf w).le (heapOf (Sort.grow w os)) := by
    intro k o hk
    show (w.heap ++ os)[k]? = some o
    have hk' : w.heap[k]? = some o := hk
    rw [Array.getElem?_append_left (Array.getElem?_eq_some_iff.1 hk').1]
    exact hk'
  exact ⟨H.os, H.tape, H.output, I, h, dI, Heap.le_trans hI hle, Heap.le_trans hh hle, s⟩
theorem St.ahead {W w : World} {l : List Atom} (H : St W w l) (n : Nat) : St W (Sort.ahead w n) l := by
  obtain ⟨I, h, dI, hI, hh, s⟩ := H.mem
  exact ⟨H.os, H.tape, H.output, I, h, dI, hI, hh, s⟩
/-- Texts in order. -/
def leS (a b : Str) : Bool := !sLt b.v a.v
def sortS (L : List Str) : List Str := L.mergeSort leS
def bytesS (s : Str) : List UInt8 := s.v.toList
theorem encStr_bytes (s : Str) : encStr (bytesS s) = .string s.v := by
  unfold encStr bytesS
  rw [ByteArray.toList_eq]
theorem sortS_map (L : List Str) : (L.map bytesS).mergeSort (fun x y => decide (x ≤ y)) = (sortS L).map bytesS := by
  unfold sortS
  refine (List.map_mergeSort ?_).symm
  intro a _ b _
  unfold leS sLt bytesS
  rw [bytesLess_eq]
  rw [Bool.eq_iff_iff]
  simp
theorem sortS_perm (L : List Str) : (sortS L).Perm L := List.mergeSort_perm L leS
theorem sortS_len (L : List Str) : (sortS L).length = L.length := (sortS_perm L).length_eq
theorem leS_trans (a b c : Str) (h1 : leS a b = true) (h2 : leS b c = true) : leS a c = true := by
  unfold leS at *
  simp only [Bool.not_eq_true'] at *
  cases hc : sLt c.v a.v with
  | false => rfl
  | true =>
    cases hb : sLt b.v c.v with
    | true => have := sLt_trans hb hc; rw [h1] at this; cases this
    | false => have e := sLt_total h2 hb; rw [e] at hc; rw [h1] at hc; cases hc
theorem leS_total (a b : Str) : (leS a b || leS b a) = true := by
  unfold leS
  cases h : sLt b.v a.v with
  | false => rfl
  | true => rw [sLt_asymm h]; rfl
theorem sortS_sorted (L : List Str) : (sortS L).Pairwise (fun a b => leS a b = true) := List.pairwise_mergeSort leS_trans leS_total L
theorem leS_antisymm {a b : Str} (h1 : leS a b = true) (h2 : leS b a = true) : a = b := by
  unfold leS at *
  simp only [Bool.not_eq_true'] at *
  exact Str.eq_of (sLt_total h2 h1)
theorem sorted_unique {L M : List Str} (hL : L.Pairwise (fun a b => leS a b = true)) (hM : M.Pairwise (fun a b => leS a b = true)) (hp : L.Perm M) : L = M :=
  List.Perm.eq_of_pairwise (fun a b _ _ h1 h2 => leS_antisymm h1 h2) hL hM hp
theorem flatMap_str (L : List Str) : L.flatMap strCell = (L.map bytesS).map encStr := by
  rw [List.map_map]
  induction L with
  | nil => rfl
  | cons a L ih =>
    rw [List.flatMap_cons, ih, List.map_cons]
    show [Value.string a.v] ++ _ = encStr (bytesS a) :: _
    rw [encStr_bytes]; rfl
theorem put_take {enc : List UInt8 → Value} {cur : Array Value} {ss : List (List UInt8)} (h : ss.length ≤ cur.size) : (Sort.putCells enc 0 ss.toArray cur).toList.take ss.length = ss.map enc := by
  refine List.ext_getElem? fun q => ?_
  rw [List.getElem?_take]
  unfold Sort.putCells
  by_cases hq : q < ss.length
  · rw [if_pos hq, Array.getElem?_toList, Array.getElem?_mapIdx, Array.getElem?_eq_getElem (by omega), List.getElem?_map, List.getElem?_eq_getElem hq]
    simp only [Option.map_some]
    rw [if_pos ⟨Nat.zero_le _, by simpa using hq⟩]
    simp [hq]
  · rw [if_neg hq, List.getElem?_eq_none (by simpa using Nat.le_of_not_lt hq)]
theorem sort_str {P : Program} {ρ : Shelf.Ren} (Ly : SlLaysM.n6 P ρ) {W w : World} {F : List Atom} {i : Nat} {e : TypeId} {p : Option Addr} {c : Nat} {L : List Str} (H : St W w F) (hi : F[i]? = some (Row e 1 (.slice p L.length c) L.length (L.flatMap strCell))) (hl : L.length < 4611686018427387904) :
    Calls P (ρ.f 6) #[.slice p L.length c] w (Ret fun v w' => v = .tuple #[] ∧ St W w' (F.set i (Row e 1 (.slice p L.length c) L.length ((sortS L).flatMap strCell)))) := by
  rcases Nat.eq_zero_or_pos L.length with h0 | h0
  · have hL : L = [] := List.eq_nil_of_length_eq_zero h0
    subst hL
    refine (AnyM.slices_Sort_string_none Ly p c w).mono ?_
    rintro e' w' ⟨rfl, rfl⟩
    refine ⟨rfl, ?_⟩
    have e1 : sortS [] = [] := by simp [sortS]
    rw [e1]
    have hid : F.set i (Row e 1 (.slice p ([] : List Str).length c) ([] : List Str).length (([] : List Str).flatMap strCell)) = F := by
      refine List.ext_getElem? fun j => ?_
      by_cases hj : i = j
      · subst hj
        rw [List.getElem?_set_self (List.getElem?_eq_some_iff.1 hi).1, hi]
      · rw [List.getElem?_set_ne hj]
    rw [hid]; exact H
  · obtain ⟨g, cur, rfl, h1, h2, h3, h4, h5, H2⟩ := Row.open2 H hi h0
    have hlt := (List.getElem?_eq_some_iff.1 hi).1
    have hi2 : (F.set i (blk g (.cells cur e)))[i]? = some (blk g (.cells cur e)) := by simp [hlt]
    have hb := H2.blk_at hi2
    have hsz : (L.map bytesS).length = L.length := List.length_map ..
    have hH : Sort.Holds encStr w g 0 (L.map bytesS).toArray := by
      intro j hj
      have hj' : j < L.length := by simpa using hj
      have hc : cur[j]? = some (encStr (bytesS L[j])) := by
        have e1 : ((cur.toList.drop 0).take (L.length * 1))[j]? = (L.flatMap strCell)[j]? := by rw [h4]
        rw [flatMap_str, List.getElem?_take_of_lt (by omega), List.drop_zero, Array.getElem?_toList, List.getElem?_map, List.getElem?_map, List.getElem?_eq_getElem hj'] at e1
        exact e1
      refine ⟨?_, ?_⟩
      · refine cell_of hb ?_
        rw [Nat.zero_add, hc]
        simp [hj']
      · simp [World.frozen?, hb]
    have hg : g < w.heap.size := (Array.getElem?_eq_some_iff.1 hb).1
    have := AnyM.slices_Sort_string Ly g 0 c (L.map bytesS) w hH hg (by rw [hsz]; exact hl)
    rw [hsz] at this
    refine this.mono ?_
    rintro e' w' ⟨rfl, n, os, rfl⟩
    refine ⟨rfl, ?_⟩
    rw [sortS_map]
    refine St.grow ?_ os
    have H3 := H2.ahead n
    have hb3 := H3.blk_at hi2
    have H4 : St W (Sort.putRow encStr (Sort.ahead w n) g 0 ((sortS L).map bytesS).toArray) ((F.set i (blk g (.cells cur e))).set i (blk g (.cells (Sort.putCells encStr 0 ((sortS L).map bytesS).toArray cur) e))) := by
      refine H3.set_blk hi2 rfl rfl rfl ?_ ?_
      · show ((Sort.ahead w n).heap.modify g _)[g]? = _
        rw [Array.getElem?_modify, if_pos rfl, hb3]; rfl
      · intro j _ hj
        show ((Sort.ahead w n).heap.modify g _)[j]? = _
        rw [Array.getElem?_modify, if_neg (fun e => hj e.symm)]
    rw [List.set_set] at H4
    have hlen : ((sortS L).map bytesS).length = L.length := by rw [List.length_map, sortS_len]
    have H5 := Row.shut2 (i := i) (g := g) (e := e) (cur := Sort.putCells encStr 0 ((sortS L).map bytesS).toArray cur) (n := L.length) (c := c) (size := 1) (xs := (sortS L).flatMap strCell) H4 (by simp [hlt]) rfl h1 h2 (by
      unfold Sort.putCells; rw [Array.size_mapIdx]; exact h3) (by
      rw [List.drop_zero, flatMap_str, Nat.mul_one, ← hlen]
      exact put_take (by rw [hlen, h3]; omega)) (one_str _)
    rw [List.set_set] at H5
    exact H5
theorem sortS_of_perm {M L : List Str} (h : M.Perm L) : sortS M = sortS L :=
  sorted_unique (sortS_sorted M) (sortS_sorted L) ((sortS_perm M).trans (h.trans (sortS_perm L).symm))
end Sl
