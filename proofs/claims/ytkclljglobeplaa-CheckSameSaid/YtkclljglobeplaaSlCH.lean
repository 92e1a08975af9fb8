/- Trees that a call owns: what is cloned, lent, spoiled; trees that are the same but for where they lie. No condition. -/
import Derived.Test.YtkclljglobeplaaSlCG
import Derived.Test.YtkclljglobeplaaSlAB
namespace Sl
open _root_.Go _root_.Go.RowKit _root_.Go.Proofs
set_option linter.all false
set_option linter.unusedSimpArgs false
/-! ## rows whose elements have several cells -/
theorem writes_get (vs : List Value) : ∀ (cs : Array Value) (off q : Nat), off + vs.length ≤ cs.size → (writes cs off vs)[q]? = if off ≤ q ∧ q < off + vs.length then vs[q - off]? else cs[q]? := by
  induction vs with
  | nil => intro cs off q h; rw [if_neg (by simp only [List.length_nil]; omega)]; rfl
  | cons v vs ih =>
    intro cs off q h
    simp only [List.length_cons] at h
    show (writes (cs.setIfInBounds off v) (off + 1) vs)[q]? = _
    rw [ih _ _ _ (by simp; omega)]
    by_cases hq : q = off
    · subst hq
      rw [if_neg (by omega), if_pos (by simp), Array.getElem?_setIfInBounds, if_pos rfl]; simp; omega
    · by_cases h2 : off + 1 ≤ q ∧ q < off + 1 + vs.length
      · rw [if_pos h2, if_pos (by simp only [List.length_cons]; omega)]
        obtain ⟨k, rfl⟩ : ∃ k, q = off + 1 + k := ⟨q - (off + 1), by omega⟩
        rw [show off + 1 + k - (off + 1) = k from by omega, show off + 1 + k - off = k + 1 from by omega]; rfl
      · rw [if_neg h2, if_neg (by simp only [List.length_cons]; omega), Array.getElem?_setIfInBounds, if_neg (fun e => hq e.symm)]
theorem row_setN {α : Type} {f : α → List Value} {s : Nat} (hf : ∀ a, (f a).length = s) {L : List α} {cur : Array Value} (h0 : 0 < s) (hx : (cur.toList.drop 0).take (L.length * s) = L.flatMap f) (hs : L.length * s ≤ cur.size) {j : Nat} (hj : j < L.length) (a' : α) :
    ((writes cur (0 + j * s) (f a')).toList.drop 0).take ((L.set j a').length * s) = (L.set j a').flatMap f := by
  have hb : (j + 1) * s ≤ L.length * s := Nat.mul_le_mul_right _ hj
  rw [Nat.add_mul, Nat.one_mul] at hb
  rw [List.drop_zero, List.length_set]
  refine List.ext_getElem? fun q => ?_
  by_cases hq : q < L.length * s
  · rw [List.getElem?_take_of_lt hq, Array.getElem?_toList, writes_get _ _ _ _ (by rw [hf]; omega), hf]
    have hqs : q / s < L.length := (Nat.div_lt_iff_lt_mul h0).2 hq
    have hr : q % s < s := Nat.mod_lt _ h0
    have he : q = q / s * s + q % s := by rw [Nat.mul_comm]; exact (Nat.div_add_mod q s).symm
    by_cases hc : q / s = j
    · rw [if_pos (by rw [← hc]; omega)]
      have h2 : (L.set j a')[q / s]? = some a' := by rw [hc, List.getElem?_set_self (by omega)]
      have h3 := flat_at' hf (L.set j a') (q / s) (q % s) a' h2 hr
      rw [← he] at h3
      rw [h3]; congr 1; rw [← hc]; omega
    · rw [if_neg (by
        rintro ⟨h1, h2⟩
        apply hc
        have h4 : q / s ≥ j := (Nat.le_div_iff_mul_le h0).2 (by omega)
        have h5 : q / s < j + 1 := (Nat.div_lt_iff_lt_mul h0).2 (by rw [Nat.add_mul, Nat.one_mul]; omega)
        omega)]
      have h2 : (L.set j a')[q / s]? = some L[q / s] := by rw [List.getElem?_set_ne (fun e => hc e.symm), List.getElem?_eq_getElem hqs]
      have h3 := flat_at' hf (L.set j a') (q / s) (q % s) _ h2 hr
      have h4 := flat_at' hf L (q / s) (q % s) _ (List.getElem?_eq_getElem hqs) hr
      rw [← he] at h3 h4
      rw [h3, ← h4, ← hx, List.drop_zero, List.getElem?_take_of_lt hq, Array.getElem?_toList]
  · rw [List.getElem?_eq_none (Nat.le_trans (List.length_take_le ..) (by omega)), List.getElem?_eq_none (by rw [flat_len hf, List.length_set]; omega)]
/-! ## trees that are owned -/
mutual
def TreeA (ct nt : TypeId) : NodeD → Atom
  | .mk _ _ _ tp tc tests kp kc kids => star [pure' (tests.length * 136 ≤ 140737488355328 ∧ kids.length * 88 ≤ 140737488355328), Row ct 11 (.slice tp tests.length tc) tests.length (tests.flatMap condCell), Row nt 5 (.slice kp kids.length kc) kids.length (kids.flatMap nodeCell), TreesA ct nt kids]
def TreesA (ct nt : TypeId) : List NodeD → Atom
  | [] => emp
  | k :: l => star [TreeA ct nt k, TreesA ct nt l]
end
theorem TreeA_eq {ct nt : TypeId} {n : NodeD} : TreeA ct nt n = star [pure' (n.tests.length * 136 ≤ 140737488355328 ∧ n.kids.length * 88 ≤ 140737488355328), Row ct 11 (.slice n.tp n.tests.length n.tc) n.tests.length (n.tests.flatMap condCell), Row nt 5 (.slice n.kp n.kids.length n.kc) n.kids.length (n.kids.flatMap nodeCell), TreesA ct nt n.kids] := by cases n; rfl
theorem star_solid {l : List Atom} (h : ∀ A ∈ l, A.solid) : (star l).solid := by
  intro I J
  induction l with
  | nil => exact fun _ e => e
  | cons A l ih => rintro g ⟨h1, h2, d, e, a, s⟩; exact ⟨h1, h2, d, e, h A (List.mem_cons_self ..) I J h1 a, ih (fun B hB => h B (List.mem_cons_of_mem _ hB)) h2 s⟩
theorem pure_solid (p : Prop) : (pure' p).solid := fun _ _ _ h => h
theorem TreesA_solid' {ct nt : TypeId} (l : List NodeD) (h : ∀ k ∈ l, (TreeA ct nt k).solid) : (TreesA ct nt l).solid := by
  induction l with
  | nil => exact emp_solid
  | cons k l ih =>
    refine star_solid fun A hA => ?_
    simp only [List.mem_cons, List.not_mem_nil, or_false] at hA
    rcases hA with rfl | rfl
    · exact h k (List.mem_cons_self ..)
    · exact ih fun q hq => h q (List.mem_cons_of_mem _ hq)
theorem TreeA_solid {ct nt : TypeId} (n : NodeD) : (TreeA ct nt n).solid := by
  induction n using nodeD_induct with
  | h n ih =>
    rw [TreeA_eq]
    refine star_solid fun A hA => ?_
    simp only [List.mem_cons, List.not_mem_nil, or_false] at hA
    rcases hA with rfl | rfl | rfl | rfl
    · exact pure_solid _
    · exact fun _ _ _ h => h
    · exact fun _ _ _ h => h
    · exact TreesA_solid' _ ih
theorem Im_mono {I J : Heap} {size : Nat} {v : Value} {m : Nat} {xs : List Value} (hl : I.le J) (h : (Im size v m xs).sat I Heap.none) : (Im size v m xs).sat J Heap.none := (Im size v m xs).mono _ _ _ hl h
theorem TreesA_ok {ct nt : TypeId} (l : List NodeD) (h : ∀ k ∈ l, ∀ I g, (TreeA ct nt k).sat I g → g.le I → NodeOk I k) : ∀ I g, (TreesA ct nt l).sat I g → g.le I → ∀ k ∈ l, NodeOk I k := by
  induction l with
  | nil => intro I g _ _ k hk; cases hk
  | cons a l ih =>
    rintro I g ⟨h1, h2, d, e, a1, h3, h4, d2, e2, s, e5⟩ hle k hk
    have e5 : h4 = Heap.none := e5
    subst e5
    rw [Heap.union_none] at e2
    subst e2
    subst e
    rcases List.mem_cons.1 hk with rfl | hk
    · exact h k (List.mem_cons_self ..) I h1 a1 (Heap.le_trans (Heap.le_union_left _ _) hle)
    · exact ih (fun q hq => h q (List.mem_cons_of_mem _ hq)) I h2 s (Heap.le_trans (Heap.le_union_right d) hle) k hk
theorem TreeA_ok {ct nt : TypeId} (n : NodeD) : ∀ I g, (TreeA ct nt n).sat I g → g.le I → NodeOk I n := by
  induction n using nodeD_induct with
  | h n ih =>
    intro I g hs hle
    rw [TreeA_eq] at hs
    obtain ⟨h1, h2, d, e, ⟨z1, hb⟩, h3, h4, d2, e2, r1, h5, h6, d3, e3, r2, h7, h8, d4, e4, ts, e5⟩ := hs
    have e5 : h8 = Heap.none := e5
    subst e5
    rw [Heap.union_none] at e4
    subst e4
    subst z1
    rw [Heap.none_union] at e
    subst e
    subst e3
    subst e2
    have l1 : h3.le I := Heap.le_trans (Heap.le_union_left _ _) hle
    have l2 : (h5.union h6).le I := Heap.le_trans (Heap.le_union_right d2) hle
    exact .mk (Row_lends I h3 r1 l1) (Row_lends I h5 r2 (Heap.le_trans (Heap.le_union_left _ _) l2)) hb (TreesA_ok n.kids ih I h6 ts (Heap.le_trans (Heap.le_union_right d3) l2))
theorem TreeA_lends {ct nt : TypeId} (n : NodeD) : ∀ I g, (TreeA ct nt n).sat I g → g.le I → (NodeA n).sat I Heap.none := fun I g h hl => ⟨rfl, TreeA_ok n I g h hl⟩
/-- What is owned is turned no more from here on. -/
theorem St.freeze {W w : World} {l : List Atom} {i : Nat} {A B : Atom} (hAB : ∀ I g, A.sat I g → g.le I → B.sat I Heap.none) (H : St W w l) (hi : l[i]? = some A) : St W w (l.set i B) := by
  have H2 := H.share hi
  have hlt := (List.getElem?_eq_some_iff.1 hi).1
  have hi2 : (l.set i (shared A))[i]? = some (shared A) := by simp [hlt]
  have H3 := H2.conv (A' := B) hi2 fun I g ⟨h1, h2, h3, h4⟩ => by subst h1; exact hAB I h2 (A.mono _ _ _ (fun _ _ e => e) h4) h3
  rwa [List.set_set] at H3
theorem TreeA.freeze {W w : World} {l : List Atom} {i : Nat} {ct nt : TypeId} {n : NodeD} (H : St W w l) (hi : l[i]? = some (TreeA ct nt n)) : St W w (l.set i (NodeA n)) := H.freeze (TreeA_lends n) hi
theorem TreesA.nil {W w : World} {l : List Atom} {ct nt : TypeId} (H : St W w l) : St W w (TreesA ct nt [] :: l) := H.cons_emp
theorem Stars2 {I : Heap} {A B : Atom} {g : Heap} : (star [A, B]).sat I g ↔ ∃ h1 h2, h1.disj h2 ∧ g = h1.union h2 ∧ A.sat I h1 ∧ B.sat I h2 := by
  constructor
  · rintro ⟨h1, h2, d, e, a, h3, h4, d2, e2, b, e5⟩
    have e5 : h4 = Heap.none := e5
    subst e5
    rw [Heap.union_none] at e2
    subst e2
    exact ⟨h1, h2, d, e, a, b⟩
  · rintro ⟨h1, h2, d, e, a, b⟩
    exact ⟨h1, h2, d, e, a, h2, Heap.none, Heap.disj_none _, (Heap.union_none _).symm, b, rfl⟩
theorem TreesA_app {ct nt : TypeId} (l m : List NodeD) : ∀ I g, (TreesA ct nt (l ++ m)).sat I g ↔ (star [TreesA ct nt l, TreesA ct nt m]).sat I g := by
  induction l with
  | nil =>
    intro I g
    rw [Stars2]
    constructor
    · intro h; exact ⟨Heap.none, g, Heap.none_disj _, (Heap.none_union _).symm, rfl, h⟩
    · rintro ⟨h1, h2, d, e, z, b⟩
      have z : h1 = Heap.none := z
      subst z
      rw [Heap.none_union] at e
      subst e; exact b
  | cons k l ih =>
    intro I g
    show (star [TreeA ct nt k, TreesA ct nt (l ++ m)]).sat I g ↔ _
    rw [Stars2, Stars2]
    constructor
    · rintro ⟨h1, h2, d, e, a, b⟩
      obtain ⟨h3, h4, d2, e2, b1, b2⟩ := Stars2.1 ((ih I h2).1 b)
      subst e2
      have ⟨d11, d12⟩ := Heap.disj_union_right.1 d
      exact ⟨h1.union h3, h4, Heap.disj_union_left.2 ⟨d12, d2⟩, by rw [e, Heap.union_assoc], Stars2.2 ⟨h1, h3, d11, rfl, a, b1⟩, b2⟩
    · rintro ⟨h1, h2, d, e, a, b⟩
      obtain ⟨h3, h4, d2, e2, b1, b2⟩ := Stars2.1 a
      subst e2
      have ⟨d11, d12⟩ := Heap.disj_union_left.1 d
      exact ⟨h3, h4.union h2, Heap.disj_union_right.2 ⟨d2, d11⟩, by rw [e, Heap.union_assoc], b1, (ih I _).2 (Stars2.2 ⟨h4, h2, d12, rfl, b2, b⟩)⟩
section
variable {W w : World} {l : List Atom} {ct nt : TypeId} {n : NodeD} {C D : List NodeD}
theorem TreesA.snoc (H : St W w (TreeA ct nt n :: TreesA ct nt C :: l)) : St W w (TreesA ct nt (C ++ [n]) :: l) := by
  have H2 : St W w (TreesA ct nt C :: TreeA ct nt n :: l) := H.move 1 rfl
  have H3 := St.shut_star (ls := [TreesA ct nt C, TreeA ct nt n]) H2
  exact H3.conv (i := 0) rfl fun I g hs => by
    rw [TreesA_app, Stars2]
    obtain ⟨h1, h2, d, e, a, b⟩ := Stars2.1 hs
    exact ⟨h1, h2, d, e, a, Stars2.2 ⟨h2, Heap.none, Heap.disj_none _, (Heap.union_none _).symm, b, rfl⟩⟩
theorem TreesA.split (H : St W w (TreesA ct nt (C ++ n :: D) :: l)) : St W w (TreeA ct nt n :: TreesA ct nt C :: TreesA ct nt D :: l) := by
  have H1 := H.conv (A' := star [TreesA ct nt C, TreesA ct nt (n :: D)]) (i := 0) rfl fun I g hs => (TreesA_app C (n :: D) I g).1 hs
  have H2 := St.open_star (ls := [TreesA ct nt C, TreesA ct nt (n :: D)]) H1
  have H3 : St W w (TreesA ct nt (n :: D) :: TreesA ct nt C :: l) := H2.move 1 rfl
  have H4 : St W w (TreeA ct nt n :: TreesA ct nt D :: TreesA ct nt C :: l) := St.open_star (ls := [TreeA ct nt n, TreesA ct nt D]) H3
  have H5 : St W w (TreesA ct nt C :: TreeA ct nt n :: TreesA ct nt D :: l) := H4.move 2 rfl
  exact H5.move 1 rfl
theorem TreesA.join (H : St W w (TreeA ct nt n :: TreesA ct nt C :: TreesA ct nt D :: l)) : St W w (TreesA ct nt (C ++ n :: D) :: l) := by
  have H2 : St W w (TreesA ct nt (C ++ [n]) :: TreesA ct nt D :: l) := TreesA.snoc H
  have H3 := St.shut_star (ls := [TreesA ct nt (C ++ [n]), TreesA ct nt D]) H2
  have H4 := H3.conv (A' := TreesA ct nt ((C ++ [n]) ++ D)) (i := 0) rfl fun I g hs => (TreesA_app _ _ I g).2 hs
  rwa [List.append_assoc] at H4
theorem TreeA.make (n : NodeD) (hb : n.tests.length * 136 ≤ 140737488355328 ∧ n.kids.length * 88 ≤ 140737488355328) (H : St W w (Row ct 11 (.slice n.tp n.tests.length n.tc) n.tests.length (n.tests.flatMap condCell) :: Row nt 5 (.slice n.kp n.kids.length n.kc) n.kids.length (n.kids.flatMap nodeCell) :: TreesA ct nt n.kids :: l)) : St W w (TreeA ct nt n :: l) := by
  have H2 := St.shut_star (ls := [pure' _, _, _, _]) (H.shut_pure hb)
  rw [TreeA_eq]; exact H2
theorem TreeA.open (H : St W w (TreeA ct nt n :: l)) : (n.tests.length * 136 ≤ 140737488355328 ∧ n.kids.length * 88 ≤ 140737488355328) ∧ St W w (Row ct 11 (.slice n.tp n.tests.length n.tc) n.tests.length (n.tests.flatMap condCell) :: Row nt 5 (.slice n.kp n.kids.length n.kc) n.kids.length (n.kids.flatMap nodeCell) :: TreesA ct nt n.kids :: l) := by
  rw [TreeA_eq] at H
  exact St.open_pure (St.open_star (ls := [pure' _, _, _, _]) H)
end
/-! ## the same, but for where they lie -/
mutual
def eraseN : NodeD → NodeD
  | .mk kind var typ _ _ tests _ _ kids => .mk kind var typ none 0 tests none 0 (eraseL kids)
def eraseL : List NodeD → List NodeD
  | [] => []
  | k :: l => eraseN k :: eraseL l
end
theorem eraseL_map (l : List NodeD) : eraseL l = l.map eraseN := by induction l with | nil => rfl | cons k l ih => simp only [eraseL, List.map_cons, ih]
section
variable {n : NodeD}
theorem erase_kind : (eraseN n).kind = n.kind := by cases n; rfl
theorem erase_var : (eraseN n).var = n.var := by cases n; rfl
theorem erase_typ : (eraseN n).typ = n.typ := by cases n; rfl
theorem erase_tests : (eraseN n).tests = n.tests := by cases n; rfl
theorem erase_kids : (eraseN n).kids = n.kids.map eraseN := by cases n; rw [← eraseL_map]; rfl
theorem erase_eq {m : NodeD} (h1 : m.kind = n.kind) (h2 : m.var = n.var) (h3 : m.typ = n.typ) (h4 : m.tests = n.tests) (h5 : m.kids.map eraseN = n.kids.map eraseN) : eraseN m = eraseN n := by
  cases m; cases n
  simp only [NodeD.kind, NodeD.var, NodeD.typ, NodeD.tests, NodeD.kids] at *
  subst h1 h2 h3 h4
  simp only [eraseN, eraseL_map, h5]
end
theorem foldl_map' {α β σ : Type} (f : σ → β → σ) (g : α → β) (l : List α) (s : σ) : (l.map g).foldl f s = l.foldl (fun s a => f s (g a)) s := List.foldl_map ..
theorem foldl_congr {α σ : Type} {f g : σ → α → σ} {l : List α} (h : ∀ a ∈ l, ∀ s, f s a = g s a) : ∀ s, l.foldl f s = l.foldl g s := by
  induction l with
  | nil => intro s; rfl
  | cons a l ih => intro s; simp only [List.foldl_cons]; rw [h a (List.mem_cons_self ..)]; exact ih (fun b hb => h b (List.mem_cons_of_mem _ hb)) _
theorem isEmpty_map {α β : Type} (f : α → β) (l : List α) : (l.map f).isEmpty = l.isEmpty := by cases l <;> rfl
theorem erase_terms (n : NodeD) : termsN (eraseN n) = termsN n := by
  induction n using nodeD_induct with
  | h n ih => rw [termsN_eq, termsN_eq, erase_kids, isEmpty_map, foldl_map']; congr 1; exact foldl_congr (fun k hk s => by rw [ih k hk]) _
theorem erase_deep (n : NodeD) : deepN (eraseN n) = deepN n := by
  induction n using nodeD_induct with
  | h n ih => rw [deepN_eq, deepN_eq, erase_kids, foldl_map']; congr 2; exact foldl_congr (fun k hk s => by rw [ih k hk]) _
theorem erase_alts (n : NodeD) : altsN (eraseN n) = altsN n := by
  induction n using nodeD_induct with
  | h n ih =>
    rw [altsN_eq, altsN_eq, erase_kids, isEmpty_map, foldl_map', foldl_map', erase_kind]
    have e1 : n.kids.foldl (fun s a => min (s + altsN (eraseN a)) 65) 0 = n.kids.foldl (fun s a => min (s + altsN a) 65) 0 := foldl_congr (fun k hk s => by rw [ih k hk]) _
    have e2 : n.kids.foldl (fun s a => min (s * altsN (eraseN a)) 65) 1 = n.kids.foldl (fun s a => min (s * altsN a) 65) 1 := foldl_congr (fun k hk s => by rw [ih k hk]) _
    rw [e1, e2]
theorem erase_walk (n : NodeD) : ∀ L, walkN (eraseN n) L = walkN n L := by
  induction n using nodeD_induct with
  | h n ih => intro L; rw [walkN_eq, walkN_eq, erase_kids, foldl_map', erase_var]; exact foldl_congr (fun k hk s => by rw [ih k hk]) _
theorem erase_vars (n : NodeD) : varsS (eraseN n) = varsS n := by unfold varsS; rw [erase_walk]
theorem erase_node (n : NodeD) : nodeE (eraseN n) = nodeE n := by
  induction n using nodeD_induct with
  | h n ih =>
    rw [nodeE_eq, nodeE_eq, erase_kids, erase_kind, erase_var, erase_typ, erase_tests, List.length_map, List.map_map]
    have : n.kids.map (nodeE ∘ eraseN) = n.kids.map nodeE := List.map_congr_left fun k hk => ih k hk
    rw [this]
theorem bindsL_congr {f : NodeD → NodeD} (l : List NodeD) (h1 : ∀ k ∈ l, bindsE (f k) = bindsE k) (h2 : ∀ k ∈ l, varsS (f k) = varsS k) (b : Bool) : ∀ had, bindsL b (l.map f) had = bindsL b l had := by
  induction l with
  | nil => intro had; rfl
  | cons k l ih =>
    intro had
    have ih := ih (fun q hq => h1 q (List.mem_cons_of_mem _ hq)) (fun q hq => h2 q (List.mem_cons_of_mem _ hq))
    simp only [List.map_cons, bindsL]
    rw [h1 k (List.mem_cons_self ..), h2 k (List.mem_cons_self ..), ih, ih]
theorem erase_binds (n : NodeD) : bindsE (eraseN n) = bindsE n := by
  induction n using nodeD_induct with
  | h n ih => rw [bindsE_eq, bindsE_eq, erase_kids, erase_kind]; exact bindsL_congr n.kids ih (fun k _ => erase_vars k) _ _
theorem erase_shape (n : NodeD) : shapeE (eraseN n) = shapeE n := by unfold shapeE; rw [erase_deep, erase_terms, erase_node, erase_alts]
theorem erase_size (n : NodeD) : sizeN (eraseN n) = sizeN n := by
  induction n using nodeD_induct with
  | h n ih =>
    rw [sizeN_eq, sizeN_eq, erase_kids, sizeL_sum, sizeL_sum, List.map_map]
    have : n.kids.map (sizeN ∘ eraseN) = n.kids.map sizeN := List.map_congr_left fun k hk => ih k hk
    rw [this]
/-! ## the sameness that is asked -/
def sameCs : List CondV → List CondV → Bool
  | [], [] => true
  | a :: l, b :: m => sameCd a b && sameCs l m
  | _, _ => false
mutual
def sameNB : NodeD → NodeD → Bool
  | .mk kind var typ _ _ tests _ _ kids, m => decide (kind.v = m.kind.v) && decide (var.v = m.var.v) && decide (typ.v = m.typ.v) && sameCs tests m.tests && sameNL kids m.kids
def sameNL : List NodeD → List NodeD → Bool
  | [], [] => true
  | k :: l, q :: m => sameNB k q && sameNL l m
  | _, _ => false
end
theorem sameNB_eq {n m : NodeD} : sameNB n m = (decide (n.kind.v = m.kind.v) && decide (n.var.v = m.var.v) && decide (n.typ.v = m.typ.v) && sameCs n.tests m.tests && sameNL n.kids m.kids) := by cases n; rfl
theorem sameCs_refl (l : List CondV) : sameCs l l = true := by induction l with | nil => rfl | cons a l ih => simp only [sameCs, sameCd_refl, ih, Bool.and_self]
section
variable {l m : List CondV} {j : Nat}
theorem sameCs_len : ∀ {l m : List CondV}, ¬ l.length = m.length → sameCs l m = false
  | [], [], h => absurd rfl h
  | [], _ :: _, _ => rfl
  | _ :: _, [], _ => rfl
  | a :: l, b :: m, h => by simp only [sameCs]; rw [sameCs_len (l := l) (m := m) (by simpa using h), Bool.and_false]
theorem sameCs_at : ∀ {l m : List CondV} {j : Nat}, j < l.length → l.length = m.length → sameCd (l.getD j default) (m.getD j default) = false → sameCs l m = false
  | [], _, _, h, _, _ => absurd h (Nat.not_lt_zero _)
  | _ :: _, [], _, _, h, _ => by simp at h
  | a :: l, b :: m, 0, _, _, h => by
    have h : sameCd a b = false := h
    simp only [sameCs]; rw [h, Bool.false_and]
  | a :: l, b :: m, j + 1, h1, h2, h3 => by simp only [sameCs]; rw [sameCs_at (l := l) (m := m) (j := j) (by simpa using h1) (by simpa using h2) (by simpa using h3), Bool.and_false]
theorem sameCs_all : ∀ {l m : List CondV}, l.length = m.length → (∀ q, q < l.length → sameCd (l.getD q default) (m.getD q default) = true) → sameCs l m = true
  | [], [], _, _ => rfl
  | [], _ :: _, h, _ => by simp at h
  | _ :: _, [], h, _ => by simp at h
  | a :: l, b :: m, h, hz => by
    have h0 : sameCd a b = true := hz 0 (by simp)
    simp only [sameCs]; rw [h0, sameCs_all (l := l) (m := m) (by simpa using h) (fun q hq => by simpa using hz (q + 1) (by simpa using hq)), Bool.and_self]
theorem sameNL_len : ∀ {l m : List NodeD}, ¬ l.length = m.length → sameNL l m = false
  | [], [], h => absurd rfl h
  | [], _ :: _, _ => rfl
  | _ :: _, [], _ => rfl
  | a :: l, b :: m, h => by simp only [sameNL]; rw [sameNL_len (l := l) (m := m) (by simpa using h), Bool.and_false]
theorem sameNL_at : ∀ {l m : List NodeD} {j : Nat}, j < l.length → l.length = m.length → sameNB (l.getD j default) (m.getD j default) = false → sameNL l m = false
  | [], _, _, h, _, _ => absurd h (Nat.not_lt_zero _)
  | _ :: _, [], _, _, h, _ => by simp at h
  | a :: l, b :: m, 0, _, _, h => by
    have h : sameNB a b = false := h
    simp only [sameNL]; rw [h, Bool.false_and]
  | a :: l, b :: m, j + 1, h1, h2, h3 => by simp only [sameNL]; rw [sameNL_at (l := l) (m := m) (j := j) (by simpa using h1) (by simpa using h2) (by simpa using h3), Bool.and_false]
theorem sameNL_all : ∀ {l m : List NodeD}, l.length = m.length → (∀ q, q < l.length → sameNB (l.getD q default) (m.getD q default) = true) → sameNL l m = true
  | [], [], _, _ => rfl
  | [], _ :: _, h, _ => by simp at h
  | _ :: _, [], h, _ => by simp at h
  | a :: l, b :: m, h, hz => by
    have h0 : sameNB a b = true := hz 0 (by simp)
    simp only [sameNL]; rw [h0, sameNL_all (l := l) (m := m) (by simpa using h) (fun q hq => by simpa using hz (q + 1) (by simpa using hq)), Bool.and_self]
end
theorem sameNL_map {l m : List NodeD} (h : l.map eraseN = m.map eraseN) (hk : ∀ k ∈ l, ∀ q, eraseN q = eraseN k → sameNB k q = true) : sameNL l m = true := by
  induction l generalizing m with
  | nil => cases m with | nil => rfl | cons b m => cases h
  | cons a l ih =>
    cases m with
    | nil => cases h
    | cons b m =>
      simp only [List.map_cons, List.cons.injEq] at h
      simp only [sameNL]
      rw [hk a (List.mem_cons_self ..) b h.1.symm, ih h.2 (fun k hk' => hk k (List.mem_cons_of_mem _ hk')), Bool.and_self]
theorem same_erase (n : NodeD) : ∀ m, eraseN m = eraseN n → sameNB n m = true := by
  induction n using nodeD_induct with
  | h n ih =>
    intro m h
    have h1 : m.kind = n.kind := by have := congrArg NodeD.kind h; rwa [erase_kind, erase_kind] at this
    have h2 : m.var = n.var := by have := congrArg NodeD.var h; rwa [erase_var, erase_var] at this
    have h3 : m.typ = n.typ := by have := congrArg NodeD.typ h; rwa [erase_typ, erase_typ] at this
    have h4 : m.tests = n.tests := by have := congrArg NodeD.tests h; rwa [erase_tests, erase_tests] at this
    have h5 : m.kids.map eraseN = n.kids.map eraseN := by have := congrArg NodeD.kids h; rwa [erase_kids, erase_kids] at this
    rw [sameNB_eq, h1, h2, h3, h4, sameCs_refl, sameNL_map h5.symm ih]; simp
/-! ## cloning, kid by kid -/
theorem drop_len {C l : List NodeD} {j : Nat} (hC : C.length = j) (hj : j ≤ l.length) : (C ++ l.drop j).length = l.length := by rw [List.length_append, List.length_drop]; omega
theorem set_clone {C l : List NodeD} {j : Nat} (hC : C.length = j) (hj : j < l.length) (q : NodeD) : (C ++ l.drop j).set j q = C ++ [q] ++ l.drop (j + 1) := by
  rw [List.set_append_right _ _ (by omega), show j - C.length = 0 from by omega, List.drop_eq_getElem_cons hj, List.set_cons_zero, List.append_assoc]; rfl
theorem clone_map {C l : List NodeD} {j : Nat} (h : C.map eraseN = (l.take j).map eraseN) (hj : j < l.length) {q : NodeD} (hq : eraseN q = eraseN (l.getD j default)) : (C ++ [q]).map eraseN = (l.take (j + 1)).map eraseN := by
  rw [take_getD hj, List.map_append, List.map_append, h]; simp only [List.map_cons, List.map_nil, hq]
theorem clone_get {C l : List NodeD} {j : Nat} (hC : C.length = j) (hj : j < l.length) : (C ++ l.drop j).getD j default = l.getD j default := by
  rw [List.getD_eq_getElem?_getD, List.getD_eq_getElem?_getD, List.getElem?_append_right (by omega), show j - C.length = 0 from by omega, List.getElem?_drop]; rfl
/-! ## parts of what may be -/
mutual
def partsN : NodeD → Bool
  | .mk kind var typ tp tc tests kp kc kids => decide (shapeE (.mk kind var typ tp tc tests kp kc kids) = 0) && decide (bindsE (.mk kind var typ tp tc tests kp kc kids) = 0) && !partsL kids
def partsL : List NodeD → Bool
  | [] => false
  | k :: l => (!partsN k) || partsL l
end
theorem partsL_any (l : List NodeD) : partsL l = l.any fun k => !partsN k := by induction l with | nil => rfl | cons k l ih => simp only [partsL, List.any_cons, ih]
theorem partsN_eq {n : NodeD} : partsN n = (decide (shapeE n = 0) && decide (bindsE n = 0) && !(n.kids.any fun k => !partsN k)) := by cases n; rw [← partsL_any]; rfl
theorem sizeN_mem {n k : NodeD} (h : k ∈ n.kids) : sizeN k < sizeN n := by
  rw [sizeN_eq (n := n)]; have := sizeL_mem h; omega
theorem terms_size (n : NodeD) : sizeN n ≤ 1048576 → 1 ≤ termsN n ∧ termsN n ≤ (sizeN n : Int) := by
  induction n using nodeD_induct with
  | h n ih =>
    intro hz
    rw [termsN_eq]
    cases hk : n.kids.isEmpty with
    | true => rw [if_pos rfl]; have := sizeN_pos n; omega
    | false =>
      rw [if_neg (by simp)]
      have : ∀ (l : List NodeD), (∀ k ∈ l, k ∈ n.kids) → ∀ s : Int, 0 ≤ s → s + (sizeL l : Int) ≤ 1048576 → (if l = [] then s else s + 1) ≤ l.foldl (fun s k => wI (s + termsN k)) s ∧ l.foldl (fun s k => wI (s + termsN k)) s ≤ s + (sizeL l : Int) := by
        intro l
        induction l with
        | nil => intro _ s h1 h2; simp [sizeL]
        | cons k l ihl =>
          intro hl s h1 h2
          have hkm := hl k (List.mem_cons_self ..)
          have h3 := ih k hkm (by have := sizeN_mem hkm; omega)
          simp only [sizeL] at h2 ⊢
          have e : wI (s + termsN k) = s + termsN k := wI_small (by omega)
          have h4 := ihl (fun q hq => hl q (List.mem_cons_of_mem _ hq)) (s + termsN k) (by omega) (by omega)
          simp only [List.foldl_cons, e]
          rw [if_neg (by simp)]
          have h5 : s + termsN k ≤ (if l = [] then s + termsN k else s + termsN k + 1) := by split <;> omega
          refine ⟨by omega, by omega⟩
      have h6 := this n.kids (fun _ h => h) 0 (by omega) (by rw [sizeN_eq] at hz; omega)
      have h7 : ¬ n.kids = [] := fun e => by rw [e] at hk; cases hk
      rw [if_neg h7] at h6
      rw [sizeN_eq]
      exact ⟨by omega, by omega⟩
theorem terms_kid {n k : NodeD} (hz : sizeN n ≤ 1048576) (hk : k ∈ n.kids) : termsN k ≤ termsN n := by
  rw [termsN_eq (n := n)]
  have he : n.kids.isEmpty = false := by cases h : n.kids with | nil => rw [h] at hk; cases hk | cons a l => rfl
  rw [if_neg (by rw [he]; simp)]
  have : ∀ (l : List NodeD), (∀ q ∈ l, q ∈ n.kids) → ∀ s : Int, 0 ≤ s → s + (sizeL l : Int) ≤ 1048576 → s ≤ l.foldl (fun s k => wI (s + termsN k)) s ∧ (k ∈ l → termsN k ≤ l.foldl (fun s k => wI (s + termsN k)) s) := by
    intro l
    induction l with
    | nil => intro _ s h1 h2; exact ⟨by simp, fun h => by cases h⟩
    | cons q l ihl =>
      intro hl s h1 h2
      have hqm := hl q (List.mem_cons_self ..)
      have h3 := terms_size q (by have := sizeN_mem hqm; omega)
      simp only [sizeL] at h2
      have e : wI (s + termsN q) = s + termsN q := wI_small (by omega)
      have h4 := ihl (fun q hq => hl q (List.mem_cons_of_mem _ hq)) (s + termsN q) (by omega) (by omega)
      simp only [List.foldl_cons, e]
      refine ⟨by omega, fun h => ?_⟩
      rcases List.mem_cons.1 h with rfl | h
      · omega
      · exact h4.2 h
  exact (this n.kids (fun _ h => h) 0 (by omega) (by rw [sizeN_eq] at hz; omega)).2 hk
theorem deep_size (n : NodeD) : sizeN n ≤ 1048576 → 1 ≤ deepN n ∧ deepN n ≤ (sizeN n : Int) := by
  induction n using nodeD_induct with
  | h n ih =>
    intro hz
    rw [deepN_eq]
    have : ∀ (l : List NodeD), (∀ k ∈ l, k ∈ n.kids) → ∀ s : Int, 0 ≤ s → s ≤ (sizeL n.kids : Int) → 0 ≤ l.foldl (fun s k => max s (deepN k)) s ∧ l.foldl (fun s k => max s (deepN k)) s ≤ (sizeL n.kids : Int) := by
      intro l
      induction l with
      | nil => intro _ s h1 h2; exact ⟨h1, h2⟩
      | cons k l ihl =>
        intro hl s h1 h2
        have hkm := hl k (List.mem_cons_self ..)
        have h3 := ih k hkm (by have := sizeN_mem hkm; omega)
        have h4 := sizeL_mem hkm
        exact ihl (fun q hq => hl q (List.mem_cons_of_mem _ hq)) (max s (deepN k)) (by omega) (by omega)
    have h5 := this n.kids (fun _ h => h) 0 (by omega) (by omega)
    rw [sizeN_eq] at hz ⊢
    rw [wI_small (by omega)]
    omega
theorem deep_kid {n k : NodeD} (hz : sizeN n ≤ 1048576) (hk : k ∈ n.kids) : deepN k ≤ deepN n := by
  rw [deepN_eq (n := n)]
  have : ∀ (l : List NodeD), (∀ q ∈ l, q ∈ n.kids) → ∀ s : Int, 0 ≤ s → s ≤ 1048576 → (0 ≤ l.foldl (fun s k => max s (deepN k)) s ∧ l.foldl (fun s k => max s (deepN k)) s ≤ 1048576) ∧ s ≤ l.foldl (fun s k => max s (deepN k)) s ∧ (k ∈ l → deepN k ≤ l.foldl (fun s k => max s (deepN k)) s) := by
    intro l
    induction l with
    | nil => intro _ s h1 h2; exact ⟨⟨h1, h2⟩, Int.le_refl _, fun h => by cases h⟩
    | cons q l ihl =>
      intro hl s h1 h2
      have hqm := hl q (List.mem_cons_self ..)
      have h3 := deep_size q (by have := sizeN_mem hqm; omega)
      have h6 := sizeN_mem hqm
      have h4 := ihl (fun q hq => hl q (List.mem_cons_of_mem _ hq)) (max s (deepN q)) (by omega) (by omega)
      simp only [List.foldl_cons]
      refine ⟨h4.1, by omega, fun h => ?_⟩
      rcases List.mem_cons.1 h with rfl | h
      · omega
      · exact h4.2.2 h
  have h5 := this n.kids (fun _ h => h) 0 (by omega) (by omega)
  rw [wI_small (by omega)]
  have := h5.2.2 hk
  omega
theorem alts_pos (n : NodeD) : nodeE n = 0 → 1 ≤ altsN n := by
  induction n using nodeD_induct with
  | h n ih =>
    intro he
    obtain ⟨h1, h2⟩ := nodeE_zero he
    rw [altsN_eq]
    cases hk : n.kids.isEmpty with
    | true => rw [if_pos rfl]; omega
    | false =>
      rw [if_neg (by simp)]
      have hs : ∀ (l : List NodeD), (∀ k ∈ l, k ∈ n.kids) → ∀ s : Int, 0 ≤ s → (if l = [] then s else 1) ≤ l.foldl (fun s k => min (s + altsN k) 65) s := by
        intro l
        induction l with
        | nil => intro _ s h; simp
        | cons k l ihl =>
          intro hl s h
          have h3 := ih k (hl k (List.mem_cons_self ..)) (h2 k (hl k (List.mem_cons_self ..)))
          have h4 := ihl (fun q hq => hl q (List.mem_cons_of_mem _ hq)) (min (s + altsN k) 65) (by omega)
          simp only [List.foldl_cons]
          rw [if_neg (by simp)]
          have : 1 ≤ (if l = [] then min (s + altsN k) 65 else 1) := by split <;> omega
          omega
      have hp : ∀ (l : List NodeD), (∀ k ∈ l, k ∈ n.kids) → ∀ s : Int, 1 ≤ s → 1 ≤ l.foldl (fun s k => min (s * altsN k) 65) s := by
        intro l
        induction l with
        | nil => intro _ s h; exact h
        | cons k l ihl =>
          intro hl s h
          have h3 := ih k (hl k (List.mem_cons_self ..)) (h2 k (hl k (List.mem_cons_self ..)))
          have h5 : 1 * 1 ≤ s * altsN k := Int.mul_le_mul h h3 (by omega) (by omega)
          exact ihl (fun q hq => hl q (List.mem_cons_of_mem _ hq)) (min (s * altsN k) 65) (by omega)
      have h7 : ¬ n.kids = [] := fun e => by rw [e] at hk; cases hk
      split
      · have := hs n.kids (fun _ h => h) 0 (by omega)
        rw [if_neg h7] at this; exact this
      · exact hp n.kids (fun _ h => h) 1 (by omega)
theorem alts_kid {n k : NodeD} (he : nodeE n = 0) (hk : k ∈ n.kids) : altsN k ≤ altsN n := by
  obtain ⟨h1, h2⟩ := nodeE_zero he
  rw [altsN_eq (n := n)]
  have hne : n.kids.isEmpty = false := by cases h : n.kids with | nil => rw [h] at hk; cases hk | cons a l => rfl
  rw [if_neg (by rw [hne]; simp)]
  have hs : ∀ (l : List NodeD), ∀ s : Int, 0 ≤ s → s ≤ 65 → s ≤ l.foldl (fun s k => min (s + altsN k) 65) s ∧ (k ∈ l → altsN k ≤ l.foldl (fun s k => min (s + altsN k) 65) s) := by
    intro l
    induction l with
    | nil => intro s h1 h2; exact ⟨Int.le_refl _, fun h => by cases h⟩
    | cons q l ihl =>
      intro s h1 h2
      have h3 := altsN_range q
      have h4 := ihl (min (s + altsN q) 65) (by omega) (by omega)
      simp only [List.foldl_cons]
      refine ⟨by omega, fun h => ?_⟩
      rcases List.mem_cons.1 h with rfl | h
      · omega
      · exact h4.2 h
  have hp : ∀ (l : List NodeD), (∀ q ∈ l, q ∈ n.kids) → ∀ s : Int, 1 ≤ s → s ≤ 65 → s ≤ l.foldl (fun s k => min (s * altsN k) 65) s ∧ (k ∈ l → altsN k ≤ l.foldl (fun s k => min (s * altsN k) 65) s) := by
    intro l
    induction l with
    | nil => intro _ s h1 h2; exact ⟨Int.le_refl _, fun h => by cases h⟩
    | cons q l ihl =>
      intro hl s h1 h3
      have h4 := altsN_range q
      have h5 := alts_pos q (h2 q (hl q (List.mem_cons_self ..)))
      have h6 : s * 1 ≤ s * altsN q := Int.mul_le_mul_of_nonneg_left h5 (by omega)
      have h7 : 1 * altsN q ≤ s * altsN q := Int.mul_le_mul_of_nonneg_right h1 (by omega)
      have h8 := ihl (fun x hx => hl x (List.mem_cons_of_mem _ hx)) (min (s * altsN q) 65) (by omega) (by omega)
      simp only [List.foldl_cons]
      refine ⟨by omega, fun h => ?_⟩
      rcases List.mem_cons.1 h with rfl | h
      · omega
      · exact h8.2 h
  split
  · exact (hs n.kids 0 (by omega) (by omega)).2 hk
  · exact (hp n.kids (fun _ h => h) 1 (by omega) (by omega)).2 hk
theorem shape_parts {n : NodeD} (h : shapeE n = 0) : deepN n ≤ 8 ∧ termsN n ≤ 12 ∧ nodeE n = 0 ∧ altsN n ≤ 64 := by
  have h0 := shape_node h
  unfold shapeE at h
  by_cases a : 8 < deepN n ∨ 12 < termsN n
  · rw [if_pos a] at h; omega
  · rw [if_neg a, if_neg (show ¬ ¬ nodeE n = 0 from fun x => x h0)] at h
    by_cases b : 64 < altsN n
    · rw [if_pos b] at h; omega
    · exact ⟨by omega, by omega, h0, by omega⟩
theorem shape_kid {n k : NodeD} (hz : sizeN n ≤ 1048576) (h : shapeE n = 0) (hk : k ∈ n.kids) : shapeE k = 0 := by
  obtain ⟨h1, h2, h3, h4⟩ := shape_parts h
  have h5 := deep_kid hz hk
  have h6 := terms_kid hz hk
  have h7 := alts_kid h3 hk
  have h8 := (nodeE_zero h3).2 k hk
  unfold shapeE
  rw [if_neg (by omega), if_neg (by omega), if_neg (by omega)]
theorem binds_kids {b : Bool} (l : List NodeD) : ∀ had, bindsL b l had = 0 → ∀ k ∈ l, bindsE k = 0 := by
  induction l with
  | nil => intro had _ k hk; cases hk
  | cons a l ih =>
    intro had h k hk
    unfold bindsL at h
    split at h
    · rename_i ha
      rcases List.mem_cons.1 hk with rfl | hk
      · exact ha
      · split at h
        · split at h
          · omega
          · exact ih _ h k hk
        · exact ih _ h k hk
    · rename_i ha; exact absurd h ha
theorem parts_all (n : NodeD) : sizeN n ≤ 1048576 → shapeE n = 0 → bindsE n = 0 → partsN n = true := by
  induction n using nodeD_induct with
  | h n ih =>
    intro hz hs hb
    rw [partsN_eq, decide_eq_true hs, decide_eq_true hb]
    have : (n.kids.any fun k => !partsN k) = false := by
      rw [List.any_eq_false]
      intro k hk
      rw [bindsE_eq] at hb
      rw [ih k hk (by have := sizeN_mem hk; omega) (shape_kid hz hs hk) (binds_kids _ _ hb k hk)]; simp
    rw [this]; rfl
theorem pat_zero {p : PatD} (h : patE p = 0) : (¬ (nameB p.name.v = false ∨ p.win.v < 1 ∨ 1099511627776 < p.win.v)) ∧ shapeE p.root = 0 ∧ bindsE p.root = 0 ∧ condsE p.wh (varsS p.root) = 0 := by
  unfold patE at h
  split at h
  · omega
  · rename_i h1
    split at h
    · rename_i h2; exact absurd h h2
    · rename_i h2
      split at h
      · rename_i h3; exact absurd h h3
      · rename_i h3; exact ⟨h1, Classical.byContradiction h2, Classical.byContradiction h3, h⟩
theorem parts_pat {p : PatD} (h : patE p = 0) (hz : sizeN p.root ≤ 1048576) : partsN p.root = true := by
  obtain ⟨_, h1, h2, _⟩ := pat_zero h
  exact parts_all _ hz h1 h2
theorem firstE_memC {l : List CondV} {f : CondV → Int} (h : firstE (l.map f) = 0) : ∀ k ∈ l, f k = 0 := by
  induction l with
  | nil => intro k hk; cases hk
  | cons a l ih =>
    intro k hk
    simp only [List.map_cons, firstE] at h
    by_cases ha : f a = 0
    · rw [if_pos ha] at h
      rcases List.mem_cons.1 hk with rfl | hk
      · exact ha
      · exact ih h k hk
    · rw [if_neg ha] at h; exact absurd h ha
theorem pat_sub {p q : PatD} (h : patE p = 0) (h1 : q.name = p.name) (h2 : q.win = p.win) (h3 : eraseN q.root = eraseN p.root) (h4 : q.wh.length ≤ p.wh.length) (h5 : ∀ x ∈ q.wh, x ∈ p.wh) : patE q = 0 := by
  obtain ⟨a1, a2, a3, a4⟩ := pat_zero h
  have e1 : shapeE q.root = shapeE p.root := by rw [← erase_shape, h3, erase_shape]
  have e2 : bindsE q.root = bindsE p.root := by rw [← erase_binds, h3, erase_binds]
  have e3 : varsS q.root = varsS p.root := by rw [← erase_vars, h3, erase_vars]
  unfold patE
  rw [h1, h2, e1, e2, e3, if_neg a1, if_neg (by omega), if_neg (by omega)]
  unfold condsE at a4 ⊢
  split at a4
  · omega
  · rw [if_neg (by omega)]
    refine firstE_zero _ fun x hx => ?_
    obtain ⟨c, hc, rfl⟩ := List.mem_map.1 hx
    exact firstE_memC a4 c (h5 c hc)
theorem sub_snoc {S L : List CondV} {j : Nat} (h : ∀ x ∈ S, x ∈ L) (hj : j < L.length) : ∀ x ∈ S ++ [L.getD j default], x ∈ L := by
  intro x hx
  rcases List.mem_append.1 hx with hx | hx
  · exact h x hx
  · simp only [List.mem_singleton] at hx
    subst hx; exact getD_mem' hj
theorem and15 (j : Nat) (hj : j < 9223372036854775808) : bitOp .and .i64 (j : Int) 15 = ((j % 16 : Nat) : Int) := by
  have h := bit_and (K := .i64) (a := j) (b := 15) (Nat.lt_trans hj (by decide)) (by decide)
  rw [show (15 : Nat) = 2 ^ 4 - 1 from rfl, Nat.and_two_pow_sub_one_eq_mod] at h
  have h2 : ((2 ^ 4 - 1 : Nat) : Int) = 15 := rfl
  rw [h2] at h
  rw [h]
  exact wi64 (by have : j % 2 ^ 4 < 2 ^ 4 := Nat.mod_lt _ (by decide); omega)
theorem shr_out (u k : Nat) (hk : k < 16) : (u : Int).fdiv (2 ^ (min ((k : Nat) : Int).toNat IntKind.u16.bits)) = ((u / 2 ^ k : Nat) : Int) := shr_nat (j := (k : Int)) rfl (show k ≤ 16 from by omega)
theorem and_out (v : Nat) (hv : v < 65536) : bitOp .and .u16 (v : Int) 1 = ((v % 2 : Nat) : Int) := by
  have := bit_and (K := .u16) (a := v) (b := 1) hv (by decide)
  rw [Nat.and_one_is_mod] at this
  have h2 : ((1 : Nat) : Int) = 1 := rfl
  rw [h2] at this
  rw [this]
  exact wu16 (by have : v % 2 < 2 := Nat.mod_lt _ (by decide); omega)
theorem out_lt (u k : Nat) (h : u < 65536) : u / 2 ^ k < 65536 := Nat.lt_of_le_of_lt (Nat.div_le_self _ _) h
/-! ## what is owned is lent, what is shared lies beside it -/
section
variable {W w : World} {A B Q : Atom} {G : List Atom} {i : Nat}
theorem St.lentQ (hAB : ∀ I h, A.sat I h → h.le I → B.sat I Heap.none) (H : St W w (A :: G)) (hq : G[i]? = some Q) (hQ : Q.pers) : ∃ I ha, A.sat I ha ∧ St W w [B, Q, kept ha G] := by
  obtain ⟨I, h, dI, hI, hh, ha, hg, d, e, a, s⟩ := H.mem
  subst e
  have q := Stars.pers_at s hq hQ
  have ⟨dI1, dI2⟩ := Heap.disj_union_right.1 dI
  have hle : I.le (I.union ha) := Heap.le_union_left I ha
  have hla : ha.le (I.union ha) := Heap.le_union_right dI1
  refine ⟨I, ha, a, ⟨H.os, H.tape, H.output, I.union ha, hg, Heap.disj_union_left.2 ⟨dI2, d⟩, Heap.union_le hI (Heap.le_trans (Heap.le_union_left ha hg) hh), Heap.le_trans (Heap.le_union_right d) hh, ?_⟩⟩
  refine ⟨Heap.none, hg, Heap.none_disj hg, (Heap.none_union hg).symm, hAB _ _ (A.mono _ _ _ hle a) hla, ?_⟩
  refine ⟨Heap.none, hg, Heap.none_disj hg, (Heap.none_union hg).symm, Q.mono _ _ _ hle q, ?_⟩
  exact ⟨hg, Heap.none, Heap.disj_none hg, (Heap.union_none hg).symm, ⟨hla, I, hle, dI1, s⟩, rfl⟩
theorem lendQ {P : Program} {k : FuncId} {args : Array Value} {p : Value → Prop} (hA : A.solid) (hB : B.pers) (hAB : ∀ I h, A.sat I h → h.le I → B.sat I Heap.none) (H : St W w (A :: G)) (hq : G[i]? = some Q) (hQ : Q.pers)
    (C : ∀ F : List Atom, F[0]? = some B → F[1]? = some Q → St W w F → Calls P k args w (Ret fun v w' => p v ∧ St W w' F)) : Calls P k args w (Ret fun v w' => p v ∧ St W w' (A :: G)) := by
  obtain ⟨I, ha, a, H2⟩ := St.lentQ hAB H hq hQ
  refine (C _ rfl rfl H2).mono fun e w' hh => ?_
  cases e with
  | returned v =>
    obtain ⟨hp, H3⟩ := hh
    have H4 : St W w' [emp, B, kept ha G] := (H3.drop 1 rfl).cons_emp
    exact ⟨hp, (St.unlent (X := emp) emp_solid hA a hB H4).drop 0 rfl⟩
  | _ => exact hh.elim
end
/-- A pattern that is read; a pattern that is owned. -/
def PatI (p : PatD) : Atom := ⟨fun I h => h = Heap.none ∧ NodeOk I p.root ∧ (Im 11 (.slice p.wp p.wh.length p.wc) p.wh.length (p.wh.flatMap condCell)).sat I Heap.none, fun I J h hl ⟨a, b, c⟩ => ⟨a, b.mono hl, Im_mono hl c⟩⟩
theorem PatI_pers (p : PatD) : (PatI p).pers := fun _ _ h => h.1
def PatO (ct nt : TypeId) (p : PatD) : Atom := star [TreeA ct nt p.root, Row ct 11 (.slice p.wp p.wh.length p.wc) p.wh.length (p.wh.flatMap condCell)]
theorem PatO_solid {ct nt : TypeId} (p : PatD) : (PatO ct nt p).solid := star_solid fun A hA => by
  simp only [List.mem_cons, List.not_mem_nil, or_false] at hA
  rcases hA with rfl | rfl
  · exact TreeA_solid _
  · exact fun _ _ _ h => h
theorem PatO_lends {ct nt : TypeId} (p : PatD) : ∀ I h, (PatO ct nt p).sat I h → h.le I → (PatI p).sat I Heap.none := fun I h hs hl => by
  obtain ⟨h1, h2, d, e, a, b⟩ := Stars2.1 hs
  subst e
  exact ⟨rfl, TreeA_ok _ I h1 a (Heap.le_trans (Heap.le_union_left _ _) hl), Row_lends I h2 b (Heap.le_trans (Heap.le_union_right d) hl)⟩
section
variable {W w : World} {F : List Atom} {p c : PatD}
theorem PatI.in {i k : Nat} (H : St W w F) (hi : F[i]? = some (NodeA p.root)) (hk : F[k]? = some (Im 11 (.slice p.wp p.wh.length p.wc) p.wh.length (p.wh.flatMap condCell))) : St W w (PatI p :: F) :=
  H.derive fun I h => ⟨rfl, (h _ _ hi (NodeA_pers _)).2, h _ _ hk (Im_pers _ _ _ _)⟩
theorem PatI.out {i : Nat} (H : St W w F) (hi : F[i]? = some (PatI p)) : St W w (NodeA p.root :: Im 11 (.slice p.wp p.wh.length p.wc) p.wh.length (p.wh.flatMap condCell) :: F) := by
  have H1 : St W w (Im 11 (.slice p.wp p.wh.length p.wc) p.wh.length (p.wh.flatMap condCell) :: F) := H.derive fun I h => (h _ _ hi (PatI_pers _)).2.2
  exact H1.derive fun I h => ⟨rfl, (h (i + 1) _ (by simpa using hi) (PatI_pers _)).2.1⟩
theorem same_lend {P : Program} {f : FuncId} {args : Array Value} {ct nt : TypeId} {i k a : Nat} (hi : F[i]? = some (NodeA p.root)) (hk : F[k]? = some (Im 11 (.slice p.wp p.wh.length p.wc) p.wh.length (p.wh.flatMap condCell))) (ha : F[a]? = some (PatO ct nt c)) (hai : a ≠ i) (hak : a ≠ k) (H : St W w F)
    (C : ∀ F' : List Atom, F'[0]? = some (NodeA p.root) → F'[1]? = some (Im 11 (.slice p.wp p.wh.length p.wc) p.wh.length (p.wh.flatMap condCell)) → F'[2]? = some (NodeA c.root) → F'[3]? = some (Im 11 (.slice c.wp c.wh.length c.wc) c.wh.length (c.wh.flatMap condCell)) → St W w F' → Calls P f args w (Ret fun v w' => v = .bool true ∧ St W w' F')) : Calls P f args w (Ret fun v w' => v = .bool true ∧ St W w' F) := by
  have H1 := H.front ha
  have hi2 : (F.set a emp)[i]? = some (NodeA p.root) := by rw [List.getElem?_set_ne hai]; exact hi
  have hk2 : (F.set a emp)[k]? = some (Im 11 (.slice p.wp p.wh.length p.wc) p.wh.length (p.wh.flatMap condCell)) := by rw [List.getElem?_set_ne hak]; exact hk
  have H2 : St W w (PatO ct nt c :: PatI p :: F.set a emp) := (PatI.in (i := i + 1) (k := k + 1) H1 (by simpa using hi2) (by simpa using hk2)).move 1 rfl
  refine (lendQ (p := fun v => v = .bool true) (PatO_solid c) (PatI_pers c) (PatO_lends c) H2 (i := 0) rfl (PatI_pers p) fun F' h0 h1 HF => ?_).mono fun e w' hh => ?_
  · have G1 := PatI.out (i := 0) HF h0
    have G2 := PatI.out (i := 3) (p := p) G1 (by simpa using h1)
    refine (C _ rfl rfl rfl rfl G2).mono fun e w' hh => ?_
    cases e with
    | returned v => exact ⟨hh.1, ((((hh.2.drop 0 rfl).drop 0 rfl).drop 0 rfl).drop 0 rfl)⟩
    | _ => exact hh.elim
  · cases e with
    | returned v => exact ⟨hh.1, by
        have H3 : St W w' (PatO ct nt c :: F.set a emp) := hh.2.drop 1 rfl
        have H4 := St.back ha H3
        have hid : F.set a (PatO ct nt c) = F := by
          refine List.ext_getElem? fun j => ?_
          by_cases hj : a = j
          · subst hj; rw [List.getElem?_set_self (List.getElem?_eq_some_iff.1 ha).1, ha]
          · rw [List.getElem?_set_ne hj]
        rwa [hid] at H4⟩
    | _ => exact hh.elim
end
def samePB (p q : PatD) : Bool := decide (p.name.v = q.name.v) && decide (p.win.v = q.win.v) && sameCs p.wh q.wh && sameNB p.root q.root
theorem samePB_clone {p c : PatD} (h1 : c.name = p.name) (h2 : c.win = p.win) (h3 : c.wh = p.wh) (h4 : eraseN c.root = eraseN p.root) : samePB p c = true := by
  unfold samePB; rw [h1, h2, h3, sameCs_refl, same_erase _ _ h4]; simp
/-! ## spoiling -/
theorem node_cell {cs : Array Value} {o : Nat} {n : NodeD} (h : (cs.toList.drop o).take 5 = nodeCell n) (k : Nat) (hk : k < 5) : cs[o + k]? = (nodeCell n)[k]? := by
  rw [← h, List.getElem?_take_of_lt hk, List.getElem?_drop, Array.getElem?_toList]
theorem node_cell0 {cs : Array Value} {o : Nat} {n : NodeD} (h : (cs.toList.drop o).take 5 = nodeCell n) : cs[o]? = (nodeCell n)[0]? := node_cell h 0 (by decide)
section
variable {W w : World} {l : List Atom} {ct nt : TypeId} {C D : List NodeD} {j : Nat}
theorem TreesA.at (H : St W w (TreesA ct nt (C ++ D.drop j) :: l)) (hj : j < D.length) : St W w (TreeA ct nt (D.getD j default) :: TreesA ct nt C :: TreesA ct nt (D.drop (j + 1)) :: l) := by
  rw [drop_getD hj] at H
  exact TreesA.split H
theorem TreesA.back {q : NodeD} (H : St W w (TreeA ct nt q :: TreesA ct nt C :: TreesA ct nt (D.drop (j + 1)) :: l)) : St W w (TreesA ct nt (C ++ [q] ++ D.drop (j + 1)) :: l) := by
  have := TreesA.join H
  rwa [List.append_assoc]
end
def kind99 (q : NodeD) : NodeD := .mk ⟨99, by decide, by decide⟩ q.var q.typ q.tp q.tc q.tests q.kp q.kc q.kids
theorem kind99_tree {ct nt : TypeId} (q : NodeD) : TreeA ct nt (kind99 q) = TreeA ct nt q := by cases q; rfl
theorem kind99_cell {q x : NodeD} (h : nodeCell q = nodeCell x) : (nodeCell x).set 0 (.int .i64 99) = nodeCell (kind99 q) := by rw [← h]; cases q; rfl
def rel99 (c : CondV) : CondV := ⟨c.left, ⟨99, by decide, by decide⟩, c.right⟩
theorem set99 {C l : List NodeD} {j : Nat} (hC : C.length = j) (hj : j < l.length) (q : NodeD) : (C ++ l.drop j).set j q = C ++ [q] ++ l.drop (j + 1) := set_clone hC hj q
end Sl
