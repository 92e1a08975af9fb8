/- Old places: the law's plain parts. No condition. -/
import Derived.Test.YteogdknlofcpiaaSlDE
namespace Sl
open _root_.Go _root_.Go.RowKit
set_option linter.all false
set_option linter.unusedSimpArgs false
section
variable {ups : List I64} {has : List Bool} {n : I64} {j i : Nat} {ph : Int}
theorem oth_eq (h : (ups.getD j default).v = n.v) : othersB ups has n (j + 1) = othersB ups has n j := by
  rw [others_succ, decide_eq_true (I64.eq_of h)]; simp
theorem oth_ne (h : ¬ (ups.getD j default).v = n.v) : othersB ups has n (j + 1) = (othersB ups has n j && has.getD j false) := by
  rw [others_succ, decide_eq_false (fun e => h (by rw [e]))]; simp
theorem rm_4 (h : ∀ i, i < ups.length → ¬ (ups.getD i default).v = n.v) : rmE ups has n = 4 ∧ rmHas ups has n = has ∧ rmAll ups has n = false ∧ rmP ups has n ph = ph := by
  have hm : ¬ n ∈ ups := fun e => by obtain ⟨i, hi, e2⟩ := mem_getD e; exact h i hi (by rw [e2])
  have h1 : rmE ups has n = 4 := if_neg hm
  have h3 : rmAll ups has n = false := by unfold rmAll; rw [h1]; rfl
  exact ⟨h1, if_neg (by rw [h1]; decide), h3, if_neg (by rw [h3]; simp)⟩
theorem rm_5 (hn : ups.Nodup) (hi : i < ups.length) (e : (ups.getD i default).v = n.v) (hh : has.getD i false = true) : rmE ups has n = 5 ∧ rmHas ups has n = has ∧ rmAll ups has n = false ∧ rmP ups has n ph = ph := by
  have e := I64.eq_of e
  have h1 : rmE ups has n = 5 := by unfold rmE; rw [if_pos (e ▸ getD_mem hi), rAt_is hn hi e, if_pos hh]
  have h3 : rmAll ups has n = false := by unfold rmAll; rw [h1]; rfl
  exact ⟨h1, if_neg (by rw [h1]; decide), h3, if_neg (by rw [h3]; simp)⟩
theorem rm_0 (hn : ups.Nodup) (hi : i < ups.length) (e : (ups.getD i default).v = n.v) (hh : has.getD i false = false) : rmE ups has n = 0 ∧ rmHas ups has n = has.set i true ∧ rmAll ups has n = othersB ups has n ups.length := by
  have e := I64.eq_of e
  have h1 : rmE ups has n = 0 := by unfold rmE; rw [if_pos (e ▸ getD_mem hi), rAt_is hn hi e, if_neg (by rw [hh]; simp)]
  refine ⟨h1, ?_, ?_⟩
  · unfold rmHas; rw [if_pos h1, rAt_is hn hi e]
  · unfold rmAll; rw [h1]; rfl
theorem at_step {a : Int} (h : (a = -1 ∧ ∀ i, i < j → ¬ (ups.getD i default).v = n.v) ∨ ∃ i : Nat, a = (i : Int) ∧ i < j ∧ (ups.getD i default).v = n.v) (hne : ¬ (ups.getD j default).v = n.v) : (a = -1 ∧ ∀ i, i < j + 1 → ¬ (ups.getD i default).v = n.v) ∨ ∃ i : Nat, a = (i : Int) ∧ i < j + 1 ∧ (ups.getD i default).v = n.v := by
  rcases h with ⟨h1, h2⟩ | ⟨i, h1, h2, h3⟩
  · exact .inl ⟨h1, fun i hi => by by_cases e : i = j; (subst e; exact hne); exact h2 i (by omega)⟩
  · exact .inr ⟨i, h1, by omega, h3⟩
theorem twice_step (h : ∀ q, q < i → ¬ (ups.getD j default).v = (ups.getD q default).v) (hne : ¬ (ups.getD j default).v = (ups.getD i default).v) : ∀ q, q < i + 1 → ¬ (ups.getD j default).v = (ups.getD q default).v := fun q hq => by
  by_cases e : q = i
  · subst e; exact hne
  · exact h q (by omega)
theorem twice_not (h : ∀ q, q < j → ¬ (ups.getD j default).v = (ups.getD q default).v) : ¬ ups.getD j default ∈ ups.take j := not_mem_take fun i hi _ e => h i hi (by rw [e])
theorem gt_step {pre : List I64} {x : Int} {k : Nat} (h : ∀ q, k ≤ q → q < pre.length → x < (pre.getD q default).v) (h1 : x < (pre.getD (k - 1) default).v) (hk : 0 < k) : ∀ q, k - 1 ≤ q → q < pre.length → x < (pre.getD q default).v := fun q hq hl => by
  by_cases e : q = k - 1
  · subst e; exact h1
  · exact h q (by omega) hl
end
theorem missU_le {ups : List I64} {has : List Bool} {pre : List I64} {j : Nat} (hp : pre.Perm (missU ups has j)) : pre.length ≤ j := by
  rw [hp.length_eq]
  unfold missU
  rw [List.length_map]
  exact Nat.le_trans (List.length_filter_le ..) (by simp)
theorem take_pre {L pre : List I64} {j : Nat} (hp : pre = L.take j) (hj : j < L.length) : pre ++ [L.getD j default] = L.take (j + 1) ∧ pre ++ [L.getD j default] <+: L := by
  rw [hp, take_snocI hj]; exact ⟨rfl, List.take_prefix ..⟩
theorem flatI_ins (pre : List I64) (x : I64) (k : Nat) : (pre.take k ++ [x] ++ pre.drop k).flatMap i64c = (pre.take k).flatMap i64c ++ [.int .i64 x.v] ++ (pre.drop k).flatMap i64c := by
  rw [List.flatMap_append, List.flatMap_append]; rfl
theorem ins_len (pre : List I64) (x : I64) {k : Nat} (hk : k ≤ pre.length) : (pre.take k ++ [x] ++ pre.drop k).length = pre.length + 1 := by
  simp; omega
/-- An operation of a script. -/
structure MvOp where
  do_ : I64
  from_ : I64
  state : List UInt8
  p : Option Addr
  c : Nat
instance : Inhabited MvOp := ⟨⟨default, default, [], none, 0⟩⟩
def mvCell (x : MvOp) : List Value := [.int .i64 x.do_.v, .int .i64 x.from_.v, .slice x.p x.state.length x.c]
theorem mvCell_len (x : MvOp) : (mvCell x).length = 3 := rfl
theorem one_mv (a : MvOp) (x : Value) (hx : x ∈ mvCell a) : x.oneCell' = true := by
  simp only [mvCell, List.mem_cons, List.not_mem_nil, or_false] at hx
  rcases hx with rfl | rfl | rfl <;> rfl
def mvsA (L : List MvOp) : Atom := ⟨fun I h => h = Heap.none ∧ ∀ x ∈ L, (DtA x.p x.c x.state).sat I Heap.none, fun I J h hl ⟨a, b⟩ => ⟨a, fun x hx => (DtA x.p x.c x.state).mono I J _ hl (b x hx)⟩⟩
theorem mvsA_pers (L : List MvOp) : (mvsA L).pers := fun _ _ h => h.1
theorem mvsA_at {W w : World} {F : List Atom} {i : Nat} {L : List MvOp} {j : Nat} (H : St W w F) (hi : F[i]? = some (mvsA L)) (hj : j < L.length) : St W w (DtA (L.getD j default).p (L.getD j default).c (L.getD j default).state :: F) :=
  H.derive2 fun I h => (h i _ hi (mvsA_pers L)).2 _ (by
    rw [List.getD_eq_getElem?_getD, List.getElem?_eq_getElem hj]
    exact List.getElem_mem hj)
end Sl
