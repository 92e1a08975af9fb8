/- Sorts of whole numbers; entries of maps that are set in two steps; maps that are cloned. No condition. -/
import Derived.Test.YthggoibbkloefaaSlCC
import Derived.Shelf.SlMaps.Clone
namespace Sl
open _root_.Go _root_.Go.RowKit _root_.Go.Proofs
set_option linter.all false
set_option linter.unusedSimpArgs false
def i64c (n : I64) : List Value := [.int .i64 n.v]
theorem i64c_len (n : I64) : (i64c n).length = 1 := rfl
theorem one_i64c : ∀ (L : List I64) (x : Value), x ∈ L.flatMap i64c → x.oneCell' = true := fun L x hx => by
 obtain ⟨a, _, ha⟩ := List.mem_flatMap.1 hx
 simp only [i64c, List.mem_singleton] at ha
 subst ha; rfl
def leI (a b : I64) : Bool := decide (a.v ≤ b.v)
def sortI (L : List I64) : List I64 := L.mergeSort leI
theorem sortI_map (L : List I64) : (L.map I64.v).mergeSort (fun x y => decide (x ≤ y)) = (sortI L).map I64.v := by
 unfold sortI
 refine (List.map_mergeSort ?_).symm
 intro a _ b _
 rfl
theorem sortI_perm (L : List I64) : (sortI L).Perm L := List.mergeSort_perm L leI
theorem sortI_len (L : List I64) : (sortI L).length = L.length := (sortI_perm L).length_eq
theorem leI_trans (a b c : I64) (h1 : leI a b = true) (h2 : leI b c = true) : leI a c = true := by
 unfold leI at *
 simp only [decide_eq_true_eq] at *
 omega
theorem leI_total (a b : I64) : (leI a b || leI b a) = true := by
 unfold leI
 simp only [Bool.or_eq_true, decide_eq_true_eq]
 omega
theorem sortI_sorted (L : List I64) : (sortI L).Pairwise (fun a b => leI a b = true) := List.pairwise_mergeSort leI_trans leI_total L
theorem leI_antisymm {a b : I64} (h1 : leI a b = true) (h2 : leI b a = true) : a = b := by
 unfold leI at *
 simp only [decide_eq_true_eq] at *
 exact I64.eq_of (by omega)
theorem sortedI_unique {L M : List I64} (hL : L.Pairwise (fun a b => leI a b = true)) (hM : M.Pairwise (fun a b => leI a b = true)) (hp : L.Perm M) : L = M :=
 List.Perm.eq_of_pairwise (fun a b _ _ h1 h2 => leI_antisymm h1 h2) hL hM hp
theorem sortI_of_perm {M L : List I64} (h : M.Perm L) : sortI M = sortI L :=
 sortedI_unique (sortI_sorted M) (sortI_sorted L) ((sortI_perm M).trans (h.trans (sortI_perm L).symm))
theorem flatMap_int (L : List I64) : L.flatMap i64c = (L.map I64.v).map (Value.int .i64) := by
 rw [List.map_map]
 induction L with
 | nil => rfl
 | cons a L ih => rw [List.flatMap_cons, ih, List.map_cons]; rfl
theorem put_takeI {enc : Int → Value} {cur : Array Value} {ss : List Int} (h : ss.length ≤ cur.size) : (Sort.putCells enc 0 ss.toArray cur).toList.take ss.length = ss.map enc := by
 refine List.ext_getElem? fun q => ?_
 rw [List.getElem?_take]
 unfold Sort.putCells
 by_cases hq : q < ss.length
 ·rw [if_pos hq, Array.getElem?_toList, Array.getElem?_mapIdx, Array.getElem?_eq_getElem (by omega), List.getElem?_map, List.getElem?_eq_getElem hq]
  simp only [Option.map_some]
  rw [if_pos ⟨Nat.zero_le _, by simpa using hq⟩]
  simp [hq]
 ·rw [if_neg hq, List.getElem?_eq_none (by simpa using Nat.le_of_not_lt hq)]
theorem sort_int {P : Program} {ρ : Shelf.Ren} (Ly : SlLaysM.n5 P ρ) {W w : World} {F : List Atom} {i : Nat} {e : TypeId} {p : Option Addr} {c : Nat} {L : List I64} (H : St W w F) (hi : F[i]? = some (Row e 1 (.slice p L.length c) L.length (L.flatMap i64c))) (hl : L.length < 4611686018427387904) :
  Calls P (ρ.f 5) #[.slice p L.length c] w (Ret fun v w' => v = .tuple #[] ∧ St W w' (F.set i (Row e 1 (.slice p L.length c) L.length ((sortI L).flatMap i64c)))) := by
 rcases Nat.eq_zero_or_pos L.length with h0 | h0
 ·have hL : L = [] := List.eq_nil_of_length_eq_zero h0
  subst hL
  refine (AnyM.slices_Sort_int_none Ly p c w).mono ?_
  rintro e' w' ⟨rfl, rfl⟩
  refine ⟨rfl, ?_⟩
  have e1 : sortI [] = [] := by simp [sortI]
  rw [e1]
  have hid : F.set i (Row e 1 (.slice p ([] : List I64).length c) ([] : List I64).length (([] : List I64).flatMap i64c)) = F := by
   refine List.ext_getElem? fun j => ?_
   by_cases hj : i = j
   ·subst hj
    rw [List.getElem?_set_self (List.getElem?_eq_some_iff.1 hi).1, hi]
   ·rw [List.getElem?_set_ne hj]
  rw [hid]; exact H
 ·obtain ⟨g, cur, rfl, h1, h2, h3, h4, h5, H2⟩ := Row.open2 H hi h0
  have hlt := (List.getElem?_eq_some_iff.1 hi).1
  have hi2 : (F.set i (blk g (.cells cur e)))[i]? = some (blk g (.cells cur e)) := by simp [hlt]
  have hb := H2.blk_at hi2
  have hsz : (L.map I64.v).length = L.length := List.length_map ..
  have hH : Sort.Holds (Value.int .i64) w g 0 (L.map I64.v).toArray := by
   intro j hj
   have hj' : j < L.length := by simpa using hj
   have hc : cur[j]? = some ((Value.int .i64) (L[j].v)) := by
    have e1 : ((cur.toList.drop 0).take (L.length * 1))[j]? = (L.flatMap i64c)[j]? := by rw [h4]
    rw [flatMap_int, List.getElem?_take_of_lt (by omega), List.drop_zero, Array.getElem?_toList, List.getElem?_map, List.getElem?_map, List.getElem?_eq_getElem hj'] at e1
    exact e1
   refine ⟨?_, ?_⟩
   ·refine cell_of hb ?_
    rw [Nat.zero_add, hc]
    simp [hj']
   ·simp [World.frozen?, hb]
  have hg : g < w.heap.size := (Array.getElem?_eq_some_iff.1 hb).1
  have := AnyM.slices_Sort_int Ly g 0 c (L.map I64.v) w hH hg (by rw [hsz]; exact hl)
  rw [hsz] at this
  refine this.mono ?_
  rintro e' w' ⟨rfl, n, os, rfl⟩
  refine ⟨rfl, ?_⟩
  rw [sortI_map]
  refine St.grow ?_ os
  have H3 := H2.ahead n
  have hb3 := H3.blk_at hi2
  have H4 : St W (Sort.putRow (Value.int .i64) (Sort.ahead w n) g 0 ((sortI L).map I64.v).toArray) ((F.set i (blk g (.cells cur e))).set i (blk g (.cells (Sort.putCells (Value.int .i64) 0 ((sortI L).map I64.v).toArray cur) e))) := by
   refine H3.set_blk hi2 rfl rfl rfl ?_ ?_
   ·show ((Sort.ahead w n).heap.modify g _)[g]? = _
    rw [Array.getElem?_modify, if_pos rfl, hb3]; rfl
   ·intro j _ hj
    show ((Sort.ahead w n).heap.modify g _)[j]? = _
    rw [Array.getElem?_modify, if_neg (fun e => hj e.symm)]
  rw [List.set_set] at H4
  have hlen : ((sortI L).map I64.v).length = L.length := by rw [List.length_map, sortI_len]
  have H5 := Row.shut2 (i := i) (g := g) (e := e) (cur := Sort.putCells (Value.int .i64) 0 ((sortI L).map I64.v).toArray cur) (n := L.length) (c := c) (size := 1) (xs := (sortI L).flatMap i64c) H4 (by simp [hlt]) rfl h1 h2 (by
   unfold Sort.putCells; rw [Array.size_mapIdx]; exact h3) (by
   rw [List.drop_zero, flatMap_int, Nat.mul_one, ← hlen]
   exact put_takeI (by rw [hlen, h3]; omega)) (one_i64c _)
  rw [List.set_set] at H5
  exact H5
section
variable {P : Program} {κ ν : Type} [DecidableEq κ] {ek : κ → Value} {ev : ν → Value} {W w : World} {r t kt et i : Nat} {L : List (κ × ν)} {l : List Atom}
end
section
variable {C : Ctx} {ρ : Env} {ops : Array Oper} {d : Nat} {K' : Env → World → Prop} {κ ν : Type} [DecidableEq κ] {ek : κ → Value} {ev : ν → Value} {W w : World} {r t kt et i ty : Nat} {pos : String} {af : Array Edge} {L : List (κ × ν)} {l : List Atom} {x y y2 : Operand}
end
end Sl
