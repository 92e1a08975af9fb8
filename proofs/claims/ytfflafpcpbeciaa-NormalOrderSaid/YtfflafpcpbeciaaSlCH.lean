/- Trees that a call owns: what is cloned, lent, spoiled; trees that are the same but for where they lie. No condition. -/
import Derived.Test.YtfflafpcpbeciaaSlCG
import Derived.Test.YtfflafpcpbeciaaSlAB
namespace Sl
open _root_.Go _root_.Go.RowKit _root_.Go.Proofs
set_option linter.all false
set_option linter.unusedSimpArgs false
/-! ## rows whose elements have several cells -/
theorem writes_get (vs : List Value) : ∀ (cs : Array Value) (off q : Nat), off + vs.length ≤ cs.size → (writes cs off vs)[q]? = if off ≤ q ∧ q < off + vs.length then vs[q - off]? else cs[q]? := by
  induction vs with
  | nil => intro cs off q h; rw [if_neg (by simp only [List.length_nil]; omega)]; rfl
  | cons v vs ih =>
    intro cs off q h
    simp only [List.length_cons] at h
    show (writes (cs.setIfInBounds off v) (off + 1) vs)[q]? = _
    rw [ih _ _ _ (by simp; omega)]
    by_cases hq : q = off
    · subst hq
      rw [if_neg (by omega), if_pos (by simp), Array.getElem?_setIfInBounds, if_pos rfl]; simp; omega
    · by_cases h2 : off + 1 ≤ q ∧ q < off + 1 + vs.length
      · rw [if_pos h2, if_pos (by simp only [List.length_cons]; omega)]
        obtain ⟨k, rfl⟩ : ∃ k, q = off + 1 + k := ⟨q - (off + 1), by omega⟩
        rw [show off + 1 + k - (off + 1) = k from by omega, show off + 1 + k - off = k + 1 from by omega]; rfl
      · rw [if_neg h2, if_neg (by simp only [List.length_cons]; omega), Array.getElem?_setIfInBounds, if_neg (fun e => hq e.symm)]
theorem row_setN {α : Type} {f : α → List Value} {s : Nat} (hf : ∀ a, (f a).length = s) {L : List α} {cur : Array Value} (h0 : 0 < s) (hx : (cur.toList.drop 0).take (L.length * s) = L.flatMap f) (hs : L.length * s ≤ cur.size) {j : Nat} (hj : j < L.length) (a' : α) :
    ((writes cur (0 + j * s) (f a')).toList.drop 0).take ((L.set j a').length * s) = (L.set j a').flatMap f := by
  have hb : (j + 1) * s ≤ L.length * s := Nat.mul_le_mul_right _ hj
  rw [Nat.add_mul, Nat.one_mul] at hb
  rw [List.drop_zero, List.length_set]
  refine List.ext_getElem? fun q => ?_
  by_cases hq : q < L.length * s
  · rw [List.getElem?_take_of_lt hq, Array.getElem?_toList, writes_get _ _ _ _ (by rw [hf]; omega), hf]
    have hqs : q / s < L.length := (Nat.div_lt_iff_lt_mul h0).2 hq
    have hr : q % s < s := Nat.mod_lt _ h0
    have he : q = q / s * s + q % s := by rw [Nat.mul_comm]; exact (Nat.div_add_mod q s).symm
    by_cases hc : q / s = j
    · rw [if_pos (by rw [← hc]; omega)]
      have h2 : (L.set j a')[q / s]? = some a' := by rw [hc, List.getElem?_set_self (by omega)]
      have h3 := flat_at' hf (L.set j a') (q / s) (q % s) a' h2 hr
      rw [← he] at h3
      rw [h3]; congr 1; rw [← hc]; omega
    · rw [if_neg (by
        rintro ⟨h1, h2⟩
        apply hc
        have h4 : q / s ≥ j := (Nat.le_div_iff_mul_le h0).2 (by omega)
        have h5 : q / s < j + 1 := (Nat.div_lt_iff_lt_mul h0).2 (by rw [Nat.add_mul, Nat.one_mul]; omega)
        omega)]
      have h2 : (L.set j a')[q / s]? = some L[q / s] := by rw [List.getElem?_set_ne (fun e => hc e.symm), List.getElem?_eq_getElem hqs]
      have h3 := flat_at' hf (L.set j a') (q / s) (q % s) _ h2 hr
      have h4 := flat_at' hf L (q / s) (q % s) _ (List.getElem?_eq_getElem hqs) hr
      rw [← he] at h3 h4
      rw [h3, ← h4, ← hx, List.drop_zero, List.getElem?_take_of_lt hq, Array.getElem?_toList]
  · rw [List.getElem?_eq_none (Nat.le_trans (List.length_take_le ..) (by omega)), List.getElem?_eq_none (by rw [flat_len hf, List.length_set]; omega)]
/-! ## trees that are owned -/
mutual
def TreeA (ct nt : TypeId) : NodeD → Atom
  | .mk _ _ _ tp tc tests kp kc kids => star [pure' (tests.length * 136 ≤ 140737488355328 ∧ kids.length * 88 ≤ 140737488355328), Row ct 11 (.slice tp tests.length tc) tests.length (tests.flatMap condCell), Row nt 5 (.slice kp kids.length kc) kids.length (kids.flatMap nodeCell), TreesA ct nt kids]
def TreesA (ct nt : TypeId) : List NodeD → Atom
  | [] => emp
  | k :: l => star [TreeA ct nt k, TreesA ct nt l]
end
theorem TreeA_eq {ct nt : TypeId} {n : NodeD} : TreeA ct nt n = star [pure' (n.tests.length * 136 ≤ 140737488355328 ∧ n.kids.length * 88 ≤ 140737488355328), Row ct 11 (.slice n.tp n.tests.length n.tc) n.tests.length (n.tests.flatMap condCell), Row nt 5 (.slice n.kp n.kids.length n.kc) n.kids.length (n.kids.flatMap nodeCell), TreesA ct nt n.kids] := by cases n; rfl
theorem Im_mono {I J : Heap} {size : Nat} {v : Value} {m : Nat} {xs : List Value} (hl : I.le J) (h : (Im size v m xs).sat I Heap.none) : (Im size v m xs).sat J Heap.none := (Im size v m xs).mono _ _ _ hl h
theorem TreesA.nil {W w : World} {l : List Atom} {ct nt : TypeId} (H : St W w l) : St W w (TreesA ct nt [] :: l) := H.cons_emp
theorem Stars2 {I : Heap} {A B : Atom} {g : Heap} : (star [A, B]).sat I g ↔ ∃ h1 h2, h1.disj h2 ∧ g = h1.union h2 ∧ A.sat I h1 ∧ B.sat I h2 := by
  constructor
  · rintro ⟨h1, h2, d, e, a, h3, h4, d2, e2, b, e5⟩
    have e5 : h4 = Heap.none := e5
    subst e5
    rw [Heap.union_none] at e2
    subst e2
    exact ⟨h1, h2, d, e, a, b⟩
  · rintro ⟨h1, h2, d, e, a, b⟩
    exact ⟨h1, h2, d, e, a, h2, Heap.none, Heap.disj_none _, (Heap.union_none _).symm, b, rfl⟩
theorem TreesA_app {ct nt : TypeId} (l m : List NodeD) : ∀ I g, (TreesA ct nt (l ++ m)).sat I g ↔ (star [TreesA ct nt l, TreesA ct nt m]).sat I g := by
  induction l with
  | nil =>
    intro I g
    rw [Stars2]
    constructor
    · intro h; exact ⟨Heap.none, g, Heap.none_disj _, (Heap.none_union _).symm, rfl, h⟩
    · rintro ⟨h1, h2, d, e, z, b⟩
      have z : h1 = Heap.none := z
      subst z
      rw [Heap.none_union] at e
      subst e; exact b
  | cons k l ih =>
    intro I g
    show (star [TreeA ct nt k, TreesA ct nt (l ++ m)]).sat I g ↔ _
    rw [Stars2, Stars2]
    constructor
    · rintro ⟨h1, h2, d, e, a, b⟩
      obtain ⟨h3, h4, d2, e2, b1, b2⟩ := Stars2.1 ((ih I h2).1 b)
      subst e2
      have ⟨d11, d12⟩ := Heap.disj_union_right.1 d
      exact ⟨h1.union h3, h4, Heap.disj_union_left.2 ⟨d12, d2⟩, by rw [e, Heap.union_assoc], Stars2.2 ⟨h1, h3, d11, rfl, a, b1⟩, b2⟩
    · rintro ⟨h1, h2, d, e, a, b⟩
      obtain ⟨h3, h4, d2, e2, b1, b2⟩ := Stars2.1 a
      subst e2
      have ⟨d11, d12⟩ := Heap.disj_union_left.1 d
      exact ⟨h3, h4.union h2, Heap.disj_union_right.2 ⟨d2, d11⟩, by rw [e, Heap.union_assoc], b1, (ih I _).2 (Stars2.2 ⟨h4, h2, d12, rfl, b2, b⟩)⟩
section
variable {W w : World} {l : List Atom} {ct nt : TypeId} {n : NodeD} {C D : List NodeD}
theorem TreesA.snoc (H : St W w (TreeA ct nt n :: TreesA ct nt C :: l)) : St W w (TreesA ct nt (C ++ [n]) :: l) := by
  have H2 : St W w (TreesA ct nt C :: TreeA ct nt n :: l) := H.move 1 rfl
  have H3 := St.shut_star (ls := [TreesA ct nt C, TreeA ct nt n]) H2
  exact H3.conv (i := 0) rfl fun I g hs => by
    rw [TreesA_app, Stars2]
    obtain ⟨h1, h2, d, e, a, b⟩ := Stars2.1 hs
    exact ⟨h1, h2, d, e, a, Stars2.2 ⟨h2, Heap.none, Heap.disj_none _, (Heap.union_none _).symm, b, rfl⟩⟩
theorem TreesA.split (H : St W w (TreesA ct nt (C ++ n :: D) :: l)) : St W w (TreeA ct nt n :: TreesA ct nt C :: TreesA ct nt D :: l) := by
  have H1 := H.conv (A' := star [TreesA ct nt C, TreesA ct nt (n :: D)]) (i := 0) rfl fun I g hs => (TreesA_app C (n :: D) I g).1 hs
  have H2 := St.open_star (ls := [TreesA ct nt C, TreesA ct nt (n :: D)]) H1
  have H3 : St W w (TreesA ct nt (n :: D) :: TreesA ct nt C :: l) := H2.move 1 rfl
  have H4 : St W w (TreeA ct nt n :: TreesA ct nt D :: TreesA ct nt C :: l) := St.open_star (ls := [TreeA ct nt n, TreesA ct nt D]) H3
  have H5 : St W w (TreesA ct nt C :: TreeA ct nt n :: TreesA ct nt D :: l) := H4.move 2 rfl
  exact H5.move 1 rfl
theorem TreeA.make (n : NodeD) (hb : n.tests.length * 136 ≤ 140737488355328 ∧ n.kids.length * 88 ≤ 140737488355328) (H : St W w (Row ct 11 (.slice n.tp n.tests.length n.tc) n.tests.length (n.tests.flatMap condCell) :: Row nt 5 (.slice n.kp n.kids.length n.kc) n.kids.length (n.kids.flatMap nodeCell) :: TreesA ct nt n.kids :: l)) : St W w (TreeA ct nt n :: l) := by
  have H2 := St.shut_star (ls := [pure' _, _, _, _]) (H.shut_pure hb)
  rw [TreeA_eq]; exact H2
theorem TreeA.open (H : St W w (TreeA ct nt n :: l)) : (n.tests.length * 136 ≤ 140737488355328 ∧ n.kids.length * 88 ≤ 140737488355328) ∧ St W w (Row ct 11 (.slice n.tp n.tests.length n.tc) n.tests.length (n.tests.flatMap condCell) :: Row nt 5 (.slice n.kp n.kids.length n.kc) n.kids.length (n.kids.flatMap nodeCell) :: TreesA ct nt n.kids :: l) := by
  rw [TreeA_eq] at H
  exact St.open_pure (St.open_star (ls := [pure' _, _, _, _]) H)
end
/-! ## the same, but for where they lie -/
mutual
def eraseN : NodeD → NodeD
  | .mk kind var typ _ _ tests _ _ kids => .mk kind var typ none 0 tests none 0 (eraseL kids)
def eraseL : List NodeD → List NodeD
  | [] => []
  | k :: l => eraseN k :: eraseL l
end
theorem eraseL_map (l : List NodeD) : eraseL l = l.map eraseN := by induction l with | nil => rfl | cons k l ih => simp only [eraseL, List.map_cons, ih]
section
variable {n : NodeD}
theorem erase_kind : (eraseN n).kind = n.kind := by cases n; rfl
theorem erase_var : (eraseN n).var = n.var := by cases n; rfl
theorem erase_typ : (eraseN n).typ = n.typ := by cases n; rfl
theorem erase_tests : (eraseN n).tests = n.tests := by cases n; rfl
theorem erase_kids : (eraseN n).kids = n.kids.map eraseN := by cases n; rw [← eraseL_map]; rfl
theorem erase_eq {m : NodeD} (h1 : m.kind = n.kind) (h2 : m.var = n.var) (h3 : m.typ = n.typ) (h4 : m.tests = n.tests) (h5 : m.kids.map eraseN = n.kids.map eraseN) : eraseN m = eraseN n := by
  cases m; cases n
  simp only [NodeD.kind, NodeD.var, NodeD.typ, NodeD.tests, NodeD.kids] at *
  subst h1 h2 h3 h4
  simp only [eraseN, eraseL_map, h5]
end
theorem erase_size (n : NodeD) : sizeN (eraseN n) = sizeN n := by
  induction n using nodeD_induct with
  | h n ih =>
    rw [sizeN_eq, sizeN_eq, erase_kids, sizeL_sum, sizeL_sum, List.map_map]
    have : n.kids.map (sizeN ∘ eraseN) = n.kids.map sizeN := List.map_congr_left fun k hk => ih k hk
    rw [this]
/-! ## the sameness that is asked -/
def sameCs : List CondV → List CondV → Bool
  | [], [] => true
  | a :: l, b :: m => sameCd a b && sameCs l m
  | _, _ => false
mutual
def sameNB : NodeD → NodeD → Bool
  | .mk kind var typ _ _ tests _ _ kids, m => decide (kind.v = m.kind.v) && decide (var.v = m.var.v) && decide (typ.v = m.typ.v) && sameCs tests m.tests && sameNL kids m.kids
def sameNL : List NodeD → List NodeD → Bool
  | [], [] => true
  | k :: l, q :: m => sameNB k q && sameNL l m
  | _, _ => false
end
section
variable {l m : List CondV} {j : Nat}
end
/-! ## cloning, kid by kid -/
theorem drop_len {C l : List NodeD} {j : Nat} (hC : C.length = j) (hj : j ≤ l.length) : (C ++ l.drop j).length = l.length := by rw [List.length_append, List.length_drop]; omega
theorem set_clone {C l : List NodeD} {j : Nat} (hC : C.length = j) (hj : j < l.length) (q : NodeD) : (C ++ l.drop j).set j q = C ++ [q] ++ l.drop (j + 1) := by
  rw [List.set_append_right _ _ (by omega), show j - C.length = 0 from by omega, List.drop_eq_getElem_cons hj, List.set_cons_zero, List.append_assoc]; rfl
theorem clone_get {C l : List NodeD} {j : Nat} (hC : C.length = j) (hj : j < l.length) : (C ++ l.drop j).getD j default = l.getD j default := by
  rw [List.getD_eq_getElem?_getD, List.getD_eq_getElem?_getD, List.getElem?_append_right (by omega), show j - C.length = 0 from by omega, List.getElem?_drop]; rfl
/-! ## parts of what may be -/
mutual
def partsN : NodeD → Bool
  | .mk kind var typ tp tc tests kp kc kids => decide (shapeE (.mk kind var typ tp tc tests kp kc kids) = 0) && decide (bindsE (.mk kind var typ tp tc tests kp kc kids) = 0) && !partsL kids
def partsL : List NodeD → Bool
  | [] => false
  | k :: l => (!partsN k) || partsL l
end
theorem sizeN_mem {n k : NodeD} (h : k ∈ n.kids) : sizeN k < sizeN n := by
  rw [sizeN_eq (n := n)]; have := sizeL_mem h; omega
/-! ## what is owned is lent, what is shared lies beside it -/
section
variable {W w : World} {A B Q : Atom} {G : List Atom} {i : Nat}
end
/-- A pattern that is read; a pattern that is owned. -/
def PatI (p : PatD) : Atom := ⟨fun I h => h = Heap.none ∧ NodeOk I p.root ∧ (Im 11 (.slice p.wp p.wh.length p.wc) p.wh.length (p.wh.flatMap condCell)).sat I Heap.none, fun I J h hl ⟨a, b, c⟩ => ⟨a, b.mono hl, Im_mono hl c⟩⟩
theorem PatI_pers (p : PatD) : (PatI p).pers := fun _ _ h => h.1
def PatO (ct nt : TypeId) (p : PatD) : Atom := star [TreeA ct nt p.root, Row ct 11 (.slice p.wp p.wh.length p.wc) p.wh.length (p.wh.flatMap condCell)]
section
variable {W w : World} {F : List Atom} {p c : PatD}
theorem PatI.in {i k : Nat} (H : St W w F) (hi : F[i]? = some (NodeA p.root)) (hk : F[k]? = some (Im 11 (.slice p.wp p.wh.length p.wc) p.wh.length (p.wh.flatMap condCell))) : St W w (PatI p :: F) :=
  H.derive fun I h => ⟨rfl, (h _ _ hi (NodeA_pers _)).2, h _ _ hk (Im_pers _ _ _ _)⟩
theorem PatI.out {i : Nat} (H : St W w F) (hi : F[i]? = some (PatI p)) : St W w (NodeA p.root :: Im 11 (.slice p.wp p.wh.length p.wc) p.wh.length (p.wh.flatMap condCell) :: F) := by
  have H1 : St W w (Im 11 (.slice p.wp p.wh.length p.wc) p.wh.length (p.wh.flatMap condCell) :: F) := H.derive fun I h => (h _ _ hi (PatI_pers _)).2.2
  exact H1.derive fun I h => ⟨rfl, (h (i + 1) _ (by simpa using hi) (PatI_pers _)).2.1⟩
end
def samePB (p q : PatD) : Bool := decide (p.name.v = q.name.v) && decide (p.win.v = q.win.v) && sameCs p.wh q.wh && sameNB p.root q.root
section
variable {W w : World} {l : List Atom} {ct nt : TypeId} {C D : List NodeD} {j : Nat}
theorem TreesA.at (H : St W w (TreesA ct nt (C ++ D.drop j) :: l)) (hj : j < D.length) : St W w (TreeA ct nt (D.getD j default) :: TreesA ct nt C :: TreesA ct nt (D.drop (j + 1)) :: l) := by
  rw [drop_getD hj] at H
  exact TreesA.split H
end
def kind99 (q : NodeD) : NodeD := .mk ⟨99, by decide, by decide⟩ q.var q.typ q.tp q.tc q.tests q.kp q.kc q.kids
def rel99 (c : CondV) : CondV := ⟨c.left, ⟨99, by decide, by decide⟩, c.right⟩
end Sl
