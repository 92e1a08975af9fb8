/- Events in lists, each with its attributes' slice; what the document's streams answer. No condition. -/
import Derived.Test.YtheggchlcpafmaaSlBA
import Derived.Test.YtheggchlcpafmaaSlN
import Derived.Test.YtheggchlcpafmaaSlY
namespace Sl
open _root_.Go _root_.Go.RowKit
set_option linter.all false
set_option linter.unusedSimpArgs false
instance : Inhabited EvD := ⟨⟨default, none, 0⟩⟩
def evdCell (e : EvD) : List Value := evCell e.ev e.av
theorem evdCell_len (e : EvD) : (evdCell e).length = 5 := rfl
def evA (L : List EvD) : Atom := allA (L.map fun e => (e.av, e.ev.attrs))
theorem evA_pers (L : List EvD) : (evA L).pers := allA_pers _
section
variable {W w : World} {F : List Atom} {i : Nat}
theorem evA_at {L : List EvD} {j : Nat} (H : St W w F) (hi : F[i]? = some (evA L)) (hj : j < L.length) : St W w (Attrs (L.getD j default).av (L.getD j default).ev.attrs :: F) := by
  refine allA_at H hi (j := j) (x := ((L.getD j default).av, (L.getD j default).ev.attrs)) ?_
  simp [List.getD_eq_getElem?_getD, List.getElem?_eq_getElem hj]
theorem evA_nil (H : St W w F) : St W w (evA [] :: F) :=
  H.cons_emp.conv (i := 0) rfl fun I h e => ⟨e, by simp⟩
theorem St.merge {A B C : Atom} (H : St W w (A :: B :: F)) (h : ∀ I h1 h2, A.sat I h1 → B.sat I h2 → h1.disj h2 → C.sat I (h1.union h2)) : St W w (C :: F) := by
  obtain ⟨I, g, dI, hI, hh, h1, h2, d, e, a, h3, h4, d2, e2, b, s⟩ := H.mem
  subst e2
  have ⟨d13, d14⟩ := Heap.disj_union_right.1 d
  exact ⟨H.os, H.tape, H.output, I, g, dI, hI, hh, h1.union h3, h4, Heap.disj_union_left.2 ⟨d14, d2⟩, by rw [e, Heap.union_assoc], h I h1 h3 a b d13, s⟩
theorem evA_snoc {L : List EvD} {e : EvD} (H : St W w (Attrs e.av e.ev.attrs :: evA L :: F)) : St W w (evA (L ++ [e]) :: F) :=
  H.merge fun I h1 h2 a b _ => by
    have e1 := Attrs_pers _ _ _ _ a
    have e2 := evA_pers _ _ _ b
    subst e1; subst e2
    refine ⟨rfl, fun x hx => ?_⟩
    simp only [List.map_append, List.mem_append, List.map_cons, List.map_nil, List.mem_singleton] at hx
    rcases hx with hx | hx
    · exact b.2 x hx
    · subst hx; exact a
/-- The events of streams, in a list, each with its slice. -/
theorem evd_of {evs : List EvM} {avs : List Value} (hl : avs.length = evs.length) (H : St W w F) (hi : F[i]? = some (star (evIms evs avs))) : ∃ L : List EvD, (L.map EvD.ev = evs ∧ evRow evs avs = L.flatMap evdCell) ∧ St W w (evA L :: F) := by
  have key : ∀ (evs : List EvM) (avs : List Value) I h, avs.length = evs.length → Stars I (evIms evs avs) h → h = Heap.none ∧ ∃ L : List EvD, (L.map EvD.ev = evs ∧ evRow evs avs = L.flatMap evdCell) ∧ (evA L).sat I Heap.none := by
    intro evs
    induction evs with
    | nil => intro avs I h hl hs; cases avs with
      | nil => exact ⟨hs, [], ⟨rfl, rfl⟩, rfl, by simp⟩
      | cons a b => simp at hl
    | cons e evs ih =>
      intro avs I h hl hs
      cases avs with
      | nil => simp at hl
      | cons av avs =>
        obtain ⟨h1, h2, d, e1, a, s⟩ := hs
        obtain ⟨r1, L, ⟨r2, r3⟩, r4⟩ := ih avs I h2 (by simpa using hl) s
        have e2 := Attrs_pers _ _ _ _ a
        have a' : (Attrs av e.attrs).sat I h1 := a
        subst e2; subst r1
        obtain ⟨_, _, _, p, c, hav, _, _⟩ := a
        have hav : av = .slice p e.attrs.length c := hav
        refine ⟨by rw [e1, Heap.union_none], ⟨e, p, c⟩ :: L, ⟨by simp [r2], ?_⟩, rfl, ?_⟩
        · have : evRow (e :: evs) (av :: avs) = evCell e av ++ evRow evs avs := rfl
          rw [this, r3, List.flatMap_cons, hav]
          rfl
        · intro x hx
          rcases List.mem_cons.1 hx with rfl | hx
          · rw [hav] at a'; exact a'
          · exact r4.2 x hx
  have hp : (star (evIms evs avs)).pers := fun I h s => (key evs avs I h hl s).1
  obtain ⟨L, hL, H2⟩ := (H.dup hi hp).choose (i := 0) rfl evA (fun L => L.map EvD.ev = evs ∧ evRow evs avs = L.flatMap evdCell) (fun I h s => by
    obtain ⟨e, L, h1, h2⟩ := key evs avs I h hl s
    subst e
    exact ⟨L, h1, h2⟩)
  exact ⟨L, hL, H2⟩
theorem evRow_of (L : List EvD) : evRow (L.map EvD.ev) (L.map EvD.av) = L.flatMap evdCell := by
  induction L with
  | nil => rfl
  | cons e L ih =>
    have : evRow ((e :: L).map EvD.ev) ((e :: L).map EvD.av) = evCell e.ev e.av ++ evRow (L.map EvD.ev) (L.map EvD.av) := rfl
    rw [this, ih]; rfl
theorem evIms_of {L : List EvD} (H : St W w F) (hi : F[i]? = some (evA L)) : St W w (F.set i (star (evIms (L.map EvD.ev) (L.map EvD.av)))) := by
  refine H.conv hi fun I h s => ?_
  have key : ∀ L : List EvD, (evA L).sat I Heap.none → Stars I (evIms (L.map EvD.ev) (L.map EvD.av)) Heap.none := by
    intro L
    induction L with
    | nil => exact fun _ => rfl
    | cons e L ih => exact fun s => ⟨Heap.none, Heap.none, Heap.none_disj _, (Heap.none_union _).symm, s.2 (e.av, e.ev.attrs) (by simp), ih ⟨rfl, fun x hx => s.2 x (by simp only [List.map_cons]; exact List.mem_cons_of_mem _ hx)⟩⟩
  have e := evA_pers _ _ _ s
  subst e
  exact key L s
/-- A row of like things is opened to be read, and shut again. -/
theorem Row.openL {α : Type} {f : α → List Value} {s : Nat} (hf : ∀ a, (f a).length = s) (hs : 0 < s) {L : List α} {e : TypeId} {p : Option Addr} {n c : Nat} (H : St W w F) (hi : F[i]? = some (Row e s (.slice p n c) n (L.flatMap f))) (hn : 0 < n) :
    ∃ (g : Nat) (cur : Array Value), p = some ⟨g, 0, none⟩ ∧ L.length = n ∧ (cur.toList.drop 0).take (L.length * s) = L.flatMap f ∧ 0 + L.length * s ≤ cur.size ∧ St W w (F.set i (blk g (.cells cur e (0, 0)))) ∧
      (∀ {W' w' : World} {F' : List Atom} (i' : Nat), St W' w' F' → F'[i']? = some (blk g (.cells cur e (0, 0))) → St W' w' (F'.set i' (Row e s (.slice p n c) n (L.flatMap f)))) := by
  have hl := Row.len H hi
  rw [flat_len hf] at hl
  have hl : L.length = n := Nat.eq_of_mul_eq_mul_right hs hl
  obtain ⟨g, cur, h1, h2, h3, h4, h5, h6, H2⟩ := Row.open2 H hi hn
  refine ⟨g, cur, h1, hl, by rw [hl]; exact h5, ?_, H2, fun i' H' hi' => Row.shut2 H' hi' h1 h2 h3 h4 h5 h6⟩
  rw [hl, h4, Nat.zero_add]
  exact Nat.mul_le_mul_right s h2
theorem Row.lenL {α : Type} {f : α → List Value} {s : Nat} (hf : ∀ a, (f a).length = s) (hs : 0 < s) {L : List α} {e : TypeId} {v : Value} {n : Nat} (H : St W w F) (hi : F[i]? = some (Row e s v n (L.flatMap f))) : L.length = n := by
  have hl := Row.len H hi
  rw [flat_len hf] at hl
  exact Nat.eq_of_mul_eq_mul_right hs hl
end
/-! ### what the document says of streams -/
def cntK (evs : List EvM) (s : Int) : Nat → Int
  | 0 => 0
  | k + 1 => if (evs.getD k default).src.v = s then cntK evs s k + 1 else cntK evs s k
def lastK (evs : List EvM) (s : Int) : Nat → Int
  | 0 => 0
  | k + 1 => if (evs.getD k default).src.v = s then (evs.getD k default).time.v else lastK evs s k
theorem cntK_app (evs : List EvM) (e : EvM) (s : Int) : ∀ k, k ≤ evs.length → cntK (evs ++ [e]) s k = cntK evs s k
  | 0, _ => rfl
  | k + 1, h => by
    have e1 : (evs ++ [e]).getD k default = evs.getD k default := by
      simp only [List.getD_eq_getElem?_getD]; rw [List.getElem?_append_left (by omega)]
    simp only [cntK, e1, cntK_app evs e s k (by omega)]
theorem lastK_app (evs : List EvM) (e : EvM) (s : Int) : ∀ k, k ≤ evs.length → lastK (evs ++ [e]) s k = lastK evs s k
  | 0, _ => rfl
  | k + 1, h => by
    have e1 : (evs ++ [e]).getD k default = evs.getD k default := by
      simp only [List.getD_eq_getElem?_getD]; rw [List.getElem?_append_left (by omega)]
    simp only [lastK, e1, lastK_app evs e s k (by omega)]
theorem getD_last (evs : List EvM) (e : EvM) : (evs ++ [e]).getD evs.length default = e := by simp [List.getD_eq_getElem?_getD]
theorem cntK_snoc (evs : List EvM) (e : EvM) (s : Int) : cntK (evs ++ [e]) s (evs ++ [e]).length = if e.src.v = s then cntK evs s evs.length + 1 else cntK evs s evs.length := by
  rw [List.length_append]
  show cntK (evs ++ [e]) s (evs.length + 1) = _
  simp only [cntK, getD_last, cntK_app evs e s _ (Nat.le_refl _)]
theorem lastK_snoc (evs : List EvM) (e : EvM) (s : Int) : lastK (evs ++ [e]) s (evs ++ [e]).length = if e.src.v = s then e.time.v else lastK evs s evs.length := by
  rw [List.length_append]
  show lastK (evs ++ [e]) s (evs.length + 1) = _
  simp only [lastK, getD_last, lastK_app evs e s _ (Nat.le_refl _)]
theorem cntK_range (evs : List EvM) (s : Int) : ∀ k, 0 ≤ cntK evs s k ∧ cntK evs s k ≤ k
  | 0 => ⟨Int.le_refl _, Int.le_refl _⟩
  | k + 1 => by have := cntK_range evs s k; simp only [cntK]; split <;> omega
theorem lastK_range (evs : List EvM) (s : Int) : ∀ k, -9223372036854775808 ≤ lastK evs s k ∧ lastK evs s k ≤ 9223372036854775807
  | 0 => by simp [lastK]
  | k + 1 => by have := lastK_range evs s k; simp only [lastK]; split; exact ⟨I64.lo _, I64.hi _⟩; exact this
def rClosed (many : Int) (gone : List Bool) (s : Int) : Bool := if 0 ≤ s ∧ s < many then gone.getD s.toNat false else false
def rMark (many : Int) (evs : List EvM) (gone : List Bool) (s : Int) : Int := if rClosed many gone s = true then 1099511627777 else lastK evs s evs.length
def rAcc (many : Int) (evs : List EvM) (gone : List Bool) (e : EvM) : Int :=
  if ¬ evE e = 0 then evE e
  else if ¬ (0 ≤ e.src.v ∧ e.src.v < many) then 40
  else if gone.getD e.src.v.toNat false = true then 43
  else if ¬ e.seq.v = cntK evs e.src.v evs.length then 42
  else if e.time.v < rMark many evs gone e.src.v then 41
  else if (65536 : Int) ≤ evs.length then 3 else 0
def rClose (many : Int) (gone : List Bool) (s : Int) : Int := if 0 ≤ s ∧ s < many then (if gone.getD s.toNat false = true then 43 else 0) else 1
def rGone (many : Int) (gone : List Bool) (s : Int) : List Bool := if rClose many gone s = 0 then gone.set s.toNat true else gone
/-- The program's streams are the document's. -/
structure SR (many : Int) (st : List S3) (evs : List EvM) (gone : List Bool) : Prop where
  l16 : st.length = 16
  lm : gone.length = many.toNat
  m1 : 1 ≤ many
  m16 : many ≤ 16
  at_ : ∀ s : Nat, (s : Int) < many → (st.getD s default).next = cntK evs s evs.length ∧ (st.getD s default).last = lastK evs s evs.length ∧ (st.getD s default).closed = gone.getD s false
  out : ∀ s : Int, ¬ (0 ≤ s ∧ s < many) → cntK evs s evs.length = 0 ∧ lastK evs s evs.length = 0
section
variable {many : Int} {st : List S3} {evs : List EvM} {gone : List Bool}
theorem SR.at' (h : SR many st evs gone) {n : Int} (hn : 0 ≤ n ∧ n < many) : (st.getD n.toNat default).next = cntK evs n evs.length ∧ (st.getD n.toNat default).last = lastK evs n evs.length ∧ (st.getD n.toNat default).closed = gone.getD n.toNat false := by
  have := h.at_ n.toNat (by omega)
  rwa [show ((n.toNat : Nat) : Int) = n from by omega] at this
theorem SR.next (h : SR many st evs gone) (n : Int) : nextOf many st n = cntK evs n evs.length := by
  unfold nextOf
  split
  · rename_i hn; exact (h.at' hn).1
  · rename_i hn; exact (h.out n hn).1.symm
theorem SR.closed (h : SR many st evs gone) (n : Int) : closedOf many st n = rClosed many gone n := by
  unfold closedOf rClosed
  split
  · rename_i hn; exact (h.at' hn).2.2
  · rfl
theorem SR.mark (h : SR many st evs gone) (n : Int) : markOf many st n = rMark many evs gone n := by
  unfold markOf rMark rClosed
  split
  · rename_i hn
    rw [(h.at' hn).2.2, (h.at' hn).2.1]
  · rename_i hn
    simp [(h.out n hn).2]
theorem SR.acc (h : SR many st evs gone) (e : EvM) : acceptE many st evs.length e = rAcc many evs gone e := by
  unfold acceptE rAcc
  by_cases h1 : evE e = 0
  · by_cases hn : 0 ≤ e.src.v ∧ e.src.v < many
    · obtain ⟨a1, a2, a3⟩ := h.at' hn
      have k1 : ¬ ¬ evE e = 0 := not_not_intro h1
      have k2 : ¬ ¬ (0 ≤ e.src.v ∧ e.src.v < many) := not_not_intro hn
      rw [if_neg k1, if_neg k1, if_neg k2, if_neg k2, a1, a2, a3]
      by_cases hg : gone.getD e.src.v.toNat false = true
      · rw [if_pos hg, if_pos hg]
      · have hc : rClosed many gone e.src.v = false := by unfold rClosed; rw [if_pos hn]; simpa using hg
        rw [if_neg hg, if_neg hg]
        unfold rMark
        rw [hc]
        simp
    · have k1 : ¬ ¬ evE e = 0 := not_not_intro h1
      rw [if_neg k1, if_neg k1, if_pos hn, if_pos hn]
  · rw [if_pos h1, if_pos h1]
theorem SR.close (h : SR many st evs gone) (n : Int) : closeE many st n = rClose many gone n := by
  unfold closeE rClose
  split
  · rename_i hn; rw [(h.at' hn).2.2]
  · rfl
theorem SR.acc_keep (h : SR many st evs gone) (e : EvM) : SR many (accSt many st evs e) (accEvs many st evs e) gone := by
  unfold accSt accEvs
  by_cases ha : acceptE many st evs.length e = 0
  · rw [if_pos ha, if_pos ha]
    have hn : 0 ≤ e.src.v ∧ e.src.v < many := by
      apply Decidable.byContradiction
      intro hn
      unfold acceptE at ha
      by_cases h1 : evE e = 0
      · rw [if_neg (not_not_intro h1), if_pos hn] at ha; cases ha
      · rw [if_pos h1] at ha; exact h1 ha
    have hl : e.src.v.toNat < st.length := by rw [h.l16]; have := h.m16; omega
    refine ⟨by rw [List.length_set]; exact h.l16, h.lm, h.m1, h.m16, fun s hs => ?_, fun s hs => ?_⟩
    · rw [cntK_snoc, lastK_snoc]
      obtain ⟨a1, a2, a3⟩ := h.at_ s hs
      by_cases hq : e.src.v.toNat = s
      · subst hq
        rw [getD_set_S3 hl, if_pos (by omega), if_pos (by omega)]
        exact ⟨by rw [a1], rfl, a3⟩
      · have e1 : (st.set e.src.v.toNat ⟨(st.getD e.src.v.toNat default).next + 1, e.time.v, (st.getD e.src.v.toNat default).closed⟩).getD s default = st.getD s default := by
          simp only [List.getD_eq_getElem?_getD]; rw [List.getElem?_set_ne hq]
        rw [e1, if_neg (by omega), if_neg (by omega)]
        exact ⟨a1, a2, a3⟩
    · rw [cntK_snoc, lastK_snoc, if_neg (by omega), if_neg (by omega)]
      exact h.out s hs
  · rw [if_neg ha, if_neg ha]
    exact h
theorem SR.close_keep (h : SR many st evs gone) (n : Int) : SR many (closeSt many st n) evs (rGone many gone n) := by
  unfold closeSt rGone rClose
  by_cases hn : 0 ≤ n ∧ n < many
  · rw [if_pos hn, if_pos hn]
    have hl : n.toNat < st.length := by rw [h.l16]; have := h.m16; omega
    have hg : n.toNat < gone.length := by rw [h.lm]; omega
    have key : SR many (st.set n.toNat { st.getD n.toNat default with closed := true }) evs (gone.set n.toNat true) := by
      refine ⟨by rw [List.length_set]; exact h.l16, by rw [List.length_set]; exact h.lm, h.m1, h.m16, fun s hs => ?_, h.out⟩
      obtain ⟨a1, a2, a3⟩ := h.at_ s hs
      by_cases hq : n.toNat = s
      · subst hq
        rw [getD_set_S3 hl]
        refine ⟨a1, a2, ?_⟩
        simp [List.getD_eq_getElem?_getD, hg]
      · have e1 : (st.set n.toNat { st.getD n.toNat default with closed := true }).getD s default = st.getD s default := by
          simp only [List.getD_eq_getElem?_getD]; rw [List.getElem?_set_ne hq]
        have e2 : (gone.set n.toNat true).getD s false = gone.getD s false := by
          simp only [List.getD_eq_getElem?_getD]; rw [List.getElem?_set_ne hq]
        rw [e1, e2]
        exact ⟨a1, a2, a3⟩
    by_cases hc : gone.getD n.toNat false = true
    · rw [if_pos hc, if_neg (by decide)]
      rw [set_closed (by rw [(h.at' hn).2.2]; exact hc)]
      exact h
    · rw [if_neg hc, if_pos rfl]
      exact key
  · rw [if_neg hn, if_neg hn, if_neg (by decide)]
    exact h
end
theorem SR.init {many : Int} (h1 : 1 ≤ many) (h2 : many ≤ 16) : SR many zeroSt [] (List.replicate many.toNat false) := by
  refine ⟨by simp [zeroSt], by simp, h1, h2, fun s hs => ?_, fun s _ => ⟨rfl, rfl⟩⟩
  have e1 : zeroSt.getD s default = ⟨0, 0, false⟩ := by
    simp only [zeroSt, List.getD_eq_getElem?_getD, List.getElem?_replicate]
    split <;> rfl
  have e2 : (List.replicate many.toNat false).getD s false = false := by
    simp only [List.getD_eq_getElem?_getD, List.getElem?_replicate]
    split <;> rfl
  rw [e1, e2]
  exact ⟨rfl, rfl, rfl⟩
/-! ### a list that is gone through -/
theorem pre_snoc {evs : List EvM} {pre : List EvD} {x : EvD} (h : (pre ++ [x]).map EvD.ev <+: evs) : pre.map EvD.ev <+: evs ∧ pre.length < evs.length ∧ x.ev = evs.getD pre.length default := by
  obtain ⟨t, rfl⟩ := h
  refine ⟨⟨[x.ev] ++ t, by simp⟩, by simp, ?_⟩
  simp [List.getD_eq_getElem?_getD]
theorem pre_take {evs : List EvM} {pre : List EvD} (h : pre.map EvD.ev <+: evs) : pre.map EvD.ev = evs.take pre.length := by
  have := List.prefix_iff_eq_take.1 h
  simpa using this
end Sl
namespace Sl
open _root_.Go _root_.Go.RowKit
theorem map_getD_ev (L : List EvD) (i : Nat) : (L.map EvD.ev).getD i default = (L.getD i default).ev := by
  simp only [List.getD_eq_getElem?_getD, List.getElem?_map]
  cases L[i]? <;> rfl
section
variable {L : List EvD} {s : Int} {i : Nat}
theorem cnt_yes (h : (L.getD i default).ev.src.v = s) : cntK (L.map EvD.ev) s (i + 1) = cntK (L.map EvD.ev) s i + 1 := by
  rw [cntK, map_getD_ev, if_pos h]
theorem cnt_no (h : ¬ (L.getD i default).ev.src.v = s) : cntK (L.map EvD.ev) s (i + 1) = cntK (L.map EvD.ev) s i := by
  rw [cntK, map_getD_ev, if_neg h]
theorem last_yes (h : (L.getD i default).ev.src.v = s) : lastK (L.map EvD.ev) s (i + 1) = (L.getD i default).ev.time.v := by
  rw [lastK, map_getD_ev, if_pos h]
theorem last_no (h : ¬ (L.getD i default).ev.src.v = s) : lastK (L.map EvD.ev) s (i + 1) = lastK (L.map EvD.ev) s i := by
  rw [lastK, map_getD_ev, if_neg h]
theorem cnt_end (h : i = L.length) : cntK (L.map EvD.ev) s i = cntK (L.map EvD.ev) s (L.map EvD.ev).length := by rw [List.length_map, h]
theorem last_end (h : i = L.length) : lastK (L.map EvD.ev) s i = lastK (L.map EvD.ev) s (L.map EvD.ev).length := by rw [List.length_map, h]
variable {many : Int} {evs : List EvM} {gone : List Bool} {e : EvM}
theorem rAcc_1 (h : ¬ evE e = 0) : rAcc many evs gone e = evE e := if_pos h
theorem rAcc_2 (h : evE e = 0) (h2 : ¬ (0 ≤ e.src.v ∧ e.src.v < many)) : rAcc many evs gone e = 40 := by unfold rAcc; rw [if_neg (not_not_intro h), if_pos h2]
theorem rAcc_3 (h : evE e = 0) (h2 : 0 ≤ e.src.v ∧ e.src.v < many) (h3 : gone.getD e.src.v.toNat false = true) : rAcc many evs gone e = 43 := by unfold rAcc; rw [if_neg (not_not_intro h), if_neg (not_not_intro h2), if_pos h3]
theorem rAcc_4 (h : evE e = 0) (h2 : 0 ≤ e.src.v ∧ e.src.v < many) (h3 : gone.getD e.src.v.toNat false = false) (h4 : ¬ e.seq.v = cntK evs e.src.v evs.length) : rAcc many evs gone e = 42 := by unfold rAcc; rw [if_neg (not_not_intro h), if_neg (not_not_intro h2), if_neg (by rw [h3]; simp), if_pos h4]
theorem rAcc_5 (h : evE e = 0) (h2 : 0 ≤ e.src.v ∧ e.src.v < many) (h3 : gone.getD e.src.v.toNat false = false) (h4 : e.seq.v = cntK evs e.src.v evs.length) (h5 : e.time.v < rMark many evs gone e.src.v) : rAcc many evs gone e = 41 := by unfold rAcc; rw [if_neg (not_not_intro h), if_neg (not_not_intro h2), if_neg (by rw [h3]; simp), if_neg (not_not_intro h4), if_pos h5]
theorem rAcc_6 (h : evE e = 0) (h2 : 0 ≤ e.src.v ∧ e.src.v < many) (h3 : gone.getD e.src.v.toNat false = false) (h4 : e.seq.v = cntK evs e.src.v evs.length) (h5 : ¬ e.time.v < rMark many evs gone e.src.v) (h6 : (65536 : Int) ≤ evs.length) : rAcc many evs gone e = 3 := by unfold rAcc; rw [if_neg (not_not_intro h), if_neg (not_not_intro h2), if_neg (by rw [h3]; simp), if_neg (not_not_intro h4), if_neg h5, if_pos h6]
theorem rAcc_0 (h : evE e = 0) (h2 : 0 ≤ e.src.v ∧ e.src.v < many) (h3 : gone.getD e.src.v.toNat false = false) (h4 : e.seq.v = cntK evs e.src.v evs.length) (h5 : ¬ e.time.v < rMark many evs gone e.src.v) (h6 : ¬ (65536 : Int) ≤ evs.length) : rAcc many evs gone e = 0 := by unfold rAcc; rw [if_neg (not_not_intro h), if_neg (not_not_intro h2), if_neg (by rw [h3]; simp), if_neg (not_not_intro h4), if_neg h5, if_neg h6]
/-- The list of what was accepted, behind an event that is handed in. -/
def rList (many : Int) (evs : List EvM) (gone : List Bool) (e : EvM) : List EvM := if rAcc many evs gone e = 0 then evs ++ [e] else evs
theorem rList_yes (h : rAcc many evs gone e = 0) : rList many evs gone e = evs ++ [e] := if_pos h
theorem rList_no (h : ¬ rAcc many evs gone e = 0) : rList many evs gone e = evs := if_neg h
theorem SR.list {st : List S3} (h : SR many st evs gone) (e : EvM) : accEvs many st evs e = rList many evs gone e := by unfold accEvs rList; rw [h.acc]
theorem rClosed_in (h : 0 ≤ s ∧ s < many) : rClosed many gone s = gone.getD s.toNat false := if_pos h
theorem rClosed_out (h : ¬ (0 ≤ s ∧ s < many)) : rClosed many gone s = false := if_neg h
theorem rMark_c (h : rClosed many gone s = true) : rMark many evs gone s = 1099511627777 := if_pos h
theorem rMark_o (h : rClosed many gone s = false) : rMark many evs gone s = lastK evs s evs.length := if_neg (by rw [h]; simp)
theorem rClose_1 (h : ¬ (0 ≤ s ∧ s < many)) : rClose many gone s = 1 := if_neg h
theorem rClose_43 (h : 0 ≤ s ∧ s < many) (h2 : gone.getD s.toNat false = true) : rClose many gone s = 43 := by unfold rClose; rw [if_pos h, if_pos h2]
theorem rClose_0 (h : 0 ≤ s ∧ s < many) (h2 : gone.getD s.toNat false = false) : rClose many gone s = 0 := by unfold rClose; rw [if_pos h, if_neg (by rw [h2]; simp)]
theorem rGone_yes (h : rClose many gone s = 0) : rGone many gone s = gone.set s.toNat true := if_pos h
theorem rGone_no (h : ¬ rClose many gone s = 0) : rGone many gone s = gone := if_neg h
end
/-- Are just these events told? -/
instance : DecidableEq EvM := fun a b => decidable_of_iff (sameEv a b = true) sameEv_iff
def toldB (evs want : List EvM) : Bool := decide (evs = want)
theorem toldB_no_len {evs want : List EvM} (h : ¬ evs.length = want.length) : toldB evs want = false := decide_eq_false fun e => h (by rw [e])
end Sl
namespace Sl
open _root_.Go _root_.Go.RowKit
theorem evA_atD {W w : World} {F : List Atom} {i : Nat} {L : List EvD} (j : Nat) (H : St W w F) (hi : F[i]? = some (evA L)) : St W w (Attrs (L.getD j default).av (L.getD j default).ev.attrs :: F) := by
  by_cases hj : j < L.length
  · exact evA_at H hi hj
  · have e : L.getD j default = default := by simp [List.getD_eq_getElem?_getD, List.getElem?_eq_none (Nat.le_of_not_lt hj)]
    rw [e]
    exact Row.im (Row.nil_intro H 0 4) (i := 0) rfl
section
variable {evs : List EvM} {L Lw pre : List EvD} {x : EvD} {j n : Nat}
theorem ok_step (hp : pre.map EvD.ev = evs.take j) (hL : L.map EvD.ev = evs) (hj : j < evs.length) (hx : x.ev = (L.getD j default).ev) : (pre ++ [x]).map EvD.ev = evs.take (j + 1) ∧ (pre ++ [x]).map EvD.ev <+: evs := by
  have h : (pre ++ [x]).map EvD.ev = evs.take (j + 1) := by
    rw [List.map_append, hp, List.take_add_one]
    congr 1
    have h1 : evs[j]? = some (L.getD j default).ev := by
      rw [← hL, List.getElem?_map]
      have : j < L.length := by rw [← hL] at hj; simpa using hj
      simp [List.getD_eq_getElem?_getD, List.getElem?_eq_getElem this]
    rw [h1]
    simp [hx]
  exact ⟨h, h ▸ List.take_prefix _ _⟩
theorem take_lenE {α : Type} {l m : List α} {n : Nat} (h : l = m.take n) (hn : n ≤ m.length) : l.length = n := by rw [h]; simp [hn]
theorem map_len {pre : List EvD} {evs : List EvM} {j : Nat} (hp : pre.map EvD.ev = evs.take j) (hj : j ≤ evs.length) : pre.length = j := by
  have := take_lenE hp hj
  simpa using this
theorem told_step (hp : pre.map EvD.ev = (Lw.map EvD.ev).take pre.length) (hn : n = pre.length) (hl : (n : Int) < (Lw.length : Int)) (h : sameEv x.ev (Lw.getD n default).ev = true) : (pre ++ [x]).map EvD.ev = (Lw.map EvD.ev).take (pre ++ [x]).length ∧ (pre ++ [x]).length ≤ Lw.length := by
  subst hn
  refine ⟨?_, by simp; omega⟩
  have := (ok_step (x := x) (L := Lw) hp rfl (by simp; omega) (sameEv_iff.1 h)).1
  simpa using this
theorem told_no1 (hn : n = pre.length) (hl : ¬ (n : Int) < (Lw.length : Int)) : ¬ (pre ++ [x]).map EvD.ev <+: Lw.map EvD.ev := fun h => by
  have := h.length_le
  simp at this
  omega
theorem told_no2 (hn : n = pre.length) (h : sameEv x.ev (Lw.getD n default).ev = false) : ¬ (pre ++ [x]).map EvD.ev <+: Lw.map EvD.ev := fun hp => by
  obtain ⟨h1, h2, h3⟩ := pre_snoc hp
  rw [map_getD_ev, ← hn] at h3
  rw [sameEv_iff.2 h3] at h
  cases h
theorem told_end (hS : L.map EvD.ev = evs) (hp : L.map EvD.ev = (Lw.map EvD.ev).take L.length) (_hl : L.length ≤ Lw.length) (hn : n = L.length) : decide ((n : Int) = (Lw.length : Int)) = toldB evs (Lw.map EvD.ev) := by
  subst hn
  unfold toldB
  apply decide_eq_decide.2
  constructor
  · intro h
    have e : L.length = Lw.length := by omega
    rw [← hS, hp, e]
    exact List.take_of_length_le (by rw [List.length_map]; exact Nat.le_refl _)
  · intro h
    have := congrArg List.length (hS.trans h)
    simp at this
    omega
theorem told_stop (hS : L.map EvD.ev <+: evs) (hp : ¬ L.map EvD.ev <+: Lw.map EvD.ev) : toldB evs (Lw.map EvD.ev) = false :=
  decide_eq_false fun e => hp (e ▸ hS)
theorem len_snoc (pre : List EvD) (x : EvD) : (((pre ++ [x]).length : Nat) : Int) = (pre.length : Int) + 1 := by simp
theorem flat_snocE (pre : List EvD) (x : EvD) : (pre ++ [x]).flatMap evdCell = pre.flatMap evdCell ++ evdCell x := by simp
end
end Sl
namespace Sl
open _root_.Go _root_.Go.RowKit
theorem evE_len {e : EvM} (h : evE e = 0) : e.attrs.length ≤ 8 := attrsE_len (evE_range h).2.2.2.2.2
theorem ev_bound {evs : List EvM} {L : List EvD} {j : Nat} (hne : ∀ e ∈ evs, evE e = 0) (hL : L.map EvD.ev = evs) (hj : j < evs.length) : (L.getD j default).ev.attrs.length ≤ 8 := by
  apply evE_len
  apply hne
  rw [← hL]
  have hj : j < L.length := by rw [← hL] at hj; simpa using hj
  refine List.mem_map.2 ⟨L.getD j default, ?_, rfl⟩
  rw [List.getD_eq_getElem?_getD, List.getElem?_eq_getElem hj]
  exact List.getElem_mem hj
/-- What was accepted may be, and is not too much. -/
def okEvs (evs : List EvM) : Prop := (∀ e ∈ evs, evE e = 0) ∧ evs.length ≤ 65536
theorem okEvs_nil : okEvs [] := ⟨(fun _ h => by simp at h), by decide⟩
theorem okEvs_acc {many : Int} {st : List S3} {evs : List EvM} (h : okEvs evs) (e : EvM) : okEvs (accEvs many st evs e) := by
  unfold accEvs
  split
  · rename_i ha
    have h1 : evE e = 0 := by
      apply Decidable.byContradiction
      intro hn
      rw [acceptE_1 hn] at ha
      exact hn ha
    refine ⟨fun x hx => ?_, ?_⟩
    · rcases List.mem_append.1 hx with hx | hx
      · exact h.1 x hx
      · rw [List.mem_singleton.1 hx]; exact h1
    · rw [List.length_append]
      have : ¬ (65536 : Int) ≤ evs.length := fun hn => by
        unfold acceptE at ha
        split at ha
        · rename_i hq; exact hq h1
        · split at ha
          · cases ha
          · split at ha
            · cases ha
            · split at ha
              · cases ha
              · split at ha
                · cases ha
                · first | (cases ha; done) | (rw [if_pos hn] at ha; cases ha)
      have := h.2
      simp
      omega
  · exact h
end Sl
namespace Sl
open _root_.Go _root_.Go.RowKit
theorem writes_all : ∀ (vs : List Value) (pre : List Value) (cs : List Value), cs.length = vs.length → writes (pre ++ cs).toArray pre.length vs = (pre ++ vs).toArray
  | [], pre, cs, h => by
    have : cs = [] := List.eq_nil_of_length_eq_zero h
    subst this; rfl
  | v :: vs, pre, c :: cs, h => by
    show writes ((pre ++ c :: cs).toArray.setIfInBounds pre.length v) (pre.length + 1) vs = _
    have e : (pre ++ c :: cs).toArray.setIfInBounds pre.length v = ((pre ++ [v]) ++ cs).toArray := by
      apply Array.ext'
      simp
    have h2 := writes_all vs (pre ++ [v]) cs (by simpa using h)
    rw [e]
    rw [List.length_append] at h2
    simpa using h2
theorem writes_whole {cs : Array Value} {vs : List Value} (h : cs.size = vs.length) : writes cs 0 vs = vs.toArray := by
  have := writes_all vs [] cs.toList (by simpa using h)
  simpa using this
theorem st_one {many : Int} {st : List S3} {p : Option Addr} {n c : Nat} : ∀ v ∈ (stCells many st (.slice p n c)).toList, v.oneCell' = true := by
  intro v hv
  simp only [stCells, List.mem_cons, List.mem_append, List.mem_flatMap, s3Cell, List.not_mem_nil, or_false] at hv
  rcases hv with rfl | ⟨a, _, rfl | rfl | rfl⟩ | rfl <;> rfl
end Sl
