/- New places: whatever comes in whatever order. No condition. -/
import Derived.Test.YteogdknlofcpiaaSlDI
import Derived.Test.YteogdknlofcpiaaSlDL
import Derived.Test.YteogdknlofcpiaaSlT
import Derived.Test.YteogdknlofcpiaaSlE
import Derived.Test.YteogdknlofcpiaaSlN
namespace Sl
open _root_.Go _root_.Go.RowKit
set_option linter.all false
set_option linter.unusedSimpArgs false
/-- What waits: a row of its own; behind the end it is shared. -/
def wtA (T : TypeId) (ov : Bool) (p : Option Addr) (c : Nat) (L : List ItemD) : Atom := match ov with
  | true => Im 6 (.slice p L.length c) L.length (L.flatMap itCell)
  | false => Row T 6 (.slice p L.length c) L.length (L.flatMap itCell)
theorem wt_f {T : TypeId} {ov : Bool} {p : Option Addr} {c : Nat} {L : List ItemD} (h : ov = false) : wtA T ov p c L = Row T 6 (.slice p L.length c) L.length (L.flatMap itCell) := by subst h; rfl
theorem wtA_rd (T : TypeId) (ov : Bool) (p : Option Addr) (c : Nat) (L : List ItemD) : RdA (wtA T ov p c L) 6 (.slice p L.length c) L.length (L.flatMap itCell) := by
  cases ov with
  | true => exact RdA.im
  | false => exact RdA.row
/-- A new place: its number, whether all was taken, the pieces, what waits. -/
structure LdS where
  op : I64
  ov : Bool
  PV : List PieceV
  V : List ItemV
def kOf (PV : List PieceV) : Int := if PV.length = 0 then 0 else (PV.getD 0 default).many.v
theorem kOf_pos {PV : List PieceV} (h : 0 < PV.length) : kOf PV = (PV.getD 0 default).many.v := if_neg (by omega)
theorem kOf_snoc {PV : List PieceV} {x : PieceV} (h : 0 < PV.length → x.many.v = kOf PV) : kOf (PV ++ [x]) = x.many.v := by
  cases PV with
  | nil => rfl
  | cons a t => rw [h (by simp)]; rfl
structure LOk (s : LdS) : Prop where
  nd : (s.PV.map PieceV.index).Nodup
  ok : ∀ x ∈ s.PV, pieceOk x = true ∧ x.op.v = s.op.v ∧ x.many.v = kOf s.PV
  vl : s.V.length ≤ 4096
def opE (ov : Bool) : Int := if ov = true then 241 else 0
theorem opE_t {ov : Bool} (h : ¬ opE ov = 0) : ov = true := by cases ov with | true => rfl | false => exact absurd rfl h
theorem opE_f {ov : Bool} (h : opE ov = 0) : ov = false := by cases ov with | false => rfl | true => cases h
/-! ## an item arrives -/
noncomputable def arE (s : LdS) (x : ItemD) : Int := if s.ov = true then 241 else if ¬ itE x = 0 then itE x else if ¬ x.op.v = s.op.v then 243 else if 4096 ≤ s.V.length then 6 else 0
noncomputable def arS (s : LdS) (x : ItemD) : LdS := if arE s x = 0 then { s with V := s.V ++ [x.v] } else s
section
variable {s : LdS} {x : ItemD}
theorem ar_1 (h : s.ov = true) : arE s x = 241 := if_pos h
theorem ar_2 (h : s.ov = false) (h2 : ¬ itE x = 0) : arE s x = itE x := by unfold arE; rw [if_neg (by rw [h]; simp), if_pos h2]
theorem ar_3 (h : s.ov = false) (h2 : itE x = 0) (h3 : ¬ x.op.v = s.op.v) : arE s x = 243 := by unfold arE; rw [if_neg (by rw [h]; simp), if_neg (by simpa using h2), if_pos h3]
theorem ar_4 (h : s.ov = false) (h2 : itE x = 0) (h3 : x.op.v = s.op.v) (h4 : 4096 ≤ s.V.length) : arE s x = 6 := by unfold arE; rw [if_neg (by rw [h]; simp), if_neg (by simpa using h2), if_neg (by simpa using h3), if_pos h4]
theorem ar_5 (h : s.ov = false) (h2 : itE x = 0) (h3 : x.op.v = s.op.v) (h4 : ¬ 4096 ≤ s.V.length) : arE s x = 0 := by unfold arE; rw [if_neg (by rw [h]; simp), if_neg (by simpa using h2), if_neg (by simpa using h3), if_neg h4]
theorem arS_no (h : ¬ arE s x = 0) : arS s x = s := if_neg h
theorem arS_yes (h : arE s x = 0) : arS s x = { s with V := s.V ++ [x.v] } := if_pos h
theorem LOk.ar (h : LOk s) (x : ItemD) : LOk (arS s x) := by
  by_cases h0 : arE s x = 0
  · rw [arS_yes h0]
    refine ⟨h.nd, h.ok, ?_⟩
    have : ¬ 4096 ≤ s.V.length := fun hc => by
      unfold arE at h0
      split at h0
      · cases h0
      · split at h0
        · exact absurd h0 ‹_›
        · split at h0
          · cases h0
          · first | (rw [if_pos hc] at h0; cases h0) | cases h0
    show (s.V ++ [x.v]).length ≤ 4096
    rw [List.length_append]; simp; omega
  · rw [arS_no h0]; exact h
end
/-! ## a piece comes -/
def lpBad (s : LdS) (x : PieceV) : Prop := pieceOk x = false ∨ ¬ x.op.v = s.op.v ∨ (0 < s.PV.length ∧ ¬ x.many.v = kOf s.PV)
instance (s : LdS) (x : PieceV) : Decidable (lpBad s x) := by unfold lpBad; infer_instance
def lpE (s : LdS) (x : PieceV) : Int := if s.ov = true then 241 else if lpBad s x then 242 else if (s.PV.any fun y => decide (y.index = x.index)) = true then (if (s.PV.any fun y => decide (y.index = x.index) && decide (y.data = x.data)) = true then 5 else 242) else 0
def lpB (s : LdS) (x : PieceV) : Bool := decide (lpE s x = 0) && decide (((s.PV.length + 1 : Nat) : Int) = x.many.v)
def lpS (s : LdS) (x : PieceV) : LdS := if lpE s x = 0 then { s with PV := s.PV ++ [x] } else s
def gd (E : List (I64 × BytesD)) (k : I64) : BytesD := (aget E k).getD ⟨[], none, 0⟩
theorem gd_look (E : List (I64 × BytesD)) (k : I64) : lookV evD (.slice none 0 0) E k = evD (gd E k) := by
  unfold lookV gd; cases aget E k <;> rfl
theorem gd_at {W w : World} {F : List Atom} {i : Nat} {E : List (I64 × BytesD)} (k : I64) (H : St W w F) (hi : F[i]? = some (bdA E)) : St W w (DtA (gd E k).p (gd E k).c (gd E k).data :: F) := by
  unfold gd
  cases h : aget E k with
  | some x => exact bdA_at H hi h
  | none => exact Row.im (Row.nil_intro H 0 1) (i := 0) rfl
theorem idx_mem {PV : List PieceV} {E : List (I64 × BytesD)} (hE : keyed E = told PV) {k : I64} : ahas E k = true ↔ k ∈ PV.map PieceV.index := by
  rw [ahas_iff, hE]; unfold told; rw [List.map_map]; exact Iff.rfl
theorem gd_is {PV : List PieceV} {E : List (I64 × BytesD)} (hE : keyed E = told PV) (nd : (PV.map PieceV.index).Nodup) {y : PieceV} (hy : y ∈ PV) : (gd E y.index).data = y.data := by
  obtain ⟨x, hx, hd⟩ := aget_of_mem (E := E) (k := y.index) (D := y.data) (by rw [hE]; unfold told; rw [List.map_map]; exact nd) (by rw [hE]; exact List.mem_map.2 ⟨y, hy, rfl⟩)
  unfold gd; rw [hx]; exact hd
theorem nd_uniq {PV : List PieceV} (nd : (PV.map PieceV.index).Nodup) {x y : PieceV} (hx : x ∈ PV) (hy : y ∈ PV) (h : x.index = y.index) : x = y := by
  obtain ⟨a, ha, ea⟩ := List.getElem_of_mem hx
  obtain ⟨b, hb, eb⟩ := List.getElem_of_mem hy
  have key : ∀ {a b : Nat} (ha : a < PV.length) (hb : b < PV.length), a < b → ¬ (PV[a]).index = (PV[b]).index := fun ha hb hlt e => by
    have := List.pairwise_iff_getElem.1 nd _ _ (by rw [List.length_map]; exact ha) (by rw [List.length_map]; exact hb) hlt
    rw [List.getElem_map, List.getElem_map] at this
    exact this e
  rcases Nat.lt_trichotomy a b with hlt | heq | hgt
  · exact absurd (by rw [ea, eb]; exact h) (key ha hb hlt)
  · subst heq; rw [← ea, ← eb]
  · exact absurd (by rw [ea, eb]; exact h.symm) (key hb ha hgt)
section
variable {s : LdS} {x : PieceV} {E : List (I64 × BytesD)}
theorem lp_1 (h : s.ov = true) : lpE s x = 241 := if_pos h
theorem lp_2 (h : s.ov = false) (h2 : lpBad s x) : lpE s x = 242 := by unfold lpE; rw [if_neg (by rw [h]; simp), if_pos h2]
theorem lp_good (h : s.ov = false) (h2 : ¬ lpBad s x) : lpE s x = if (s.PV.any fun y => decide (y.index = x.index)) = true then (if (s.PV.any fun y => decide (y.index = x.index) && decide (y.data = x.data)) = true then 5 else 242) else 0 := by unfold lpE; rw [if_neg (by rw [h]; simp), if_neg h2]
theorem lp_b1 (h : pieceOk x = false) : lpBad s x := .inl h
theorem lp_b2 (h : ¬ x.op.v = s.op.v) : lpBad s x := .inr (.inl h)
theorem lp_b3 (h : 0 < kOf s.PV) (h2 : ¬ x.many.v = kOf s.PV) : lpBad s x := .inr (.inr ⟨by
  cases hl : s.PV with
  | nil => rw [hl] at h; cases h
  | cons a t => simp, h2⟩)
theorem lp_b3r (h : 0 < s.PV.length) (h2 : ¬ (s.PV.getD 0 default).many.v = x.many.v) : lpBad s x := .inr (.inr ⟨h, fun e => h2 (by rw [e, kOf_pos h])⟩)
theorem lp_ok (h : pieceOk x = true) (h2 : x.op.v = s.op.v) (h3 : 0 < s.PV.length → x.many.v = kOf s.PV) : ¬ lpBad s x := by
  rintro (e | e | ⟨e, e2⟩)
  · rw [h] at e; cases e
  · exact e h2
  · exact e2 (h3 e)
theorem lp_0 (h : s.ov = false) (h2 : ¬ lpBad s x) (h3 : ∀ y ∈ s.PV, ¬ y.index = x.index) : lpE s x = 0 := by
  rw [lp_good h h2, if_neg]
  intro hc
  obtain ⟨y, hy, e⟩ := List.any_eq_true.1 hc
  exact h3 y hy (of_decide_eq_true e)
theorem lp_5 (h : s.ov = false) (h2 : ¬ lpBad s x) {y : PieceV} (hy : y ∈ s.PV) (hi : y.index = x.index) (hd : y.data = x.data) : lpE s x = 5 := by
  rw [lp_good h h2, if_pos (List.any_eq_true.2 ⟨y, hy, decide_eq_true hi⟩), if_pos (List.any_eq_true.2 ⟨y, hy, by rw [decide_eq_true hi, decide_eq_true hd]; rfl⟩)]
theorem lp_242 (h : s.ov = false) (h2 : ¬ lpBad s x) (nd : (s.PV.map PieceV.index).Nodup) {y : PieceV} (hy : y ∈ s.PV) (hi : y.index = x.index) (hd : ¬ y.data = x.data) : lpE s x = 242 := by
  rw [lp_good h h2, if_pos (List.any_eq_true.2 ⟨y, hy, decide_eq_true hi⟩), if_neg]
  intro hc
  obtain ⟨z, hz, e⟩ := List.any_eq_true.1 hc
  rw [Bool.and_eq_true] at e
  have := nd_uniq nd hy hz (hi.trans (of_decide_eq_true e.1).symm)
  subst this
  exact hd (of_decide_eq_true e.2)
theorem lpp_0 (h : s.ov = false) (h2 : ¬ lpBad s x) (hE : keyed E = told s.PV) (h3 : ahas E x.index = false) : lpE s x = 0 := lp_0 h h2 fun y hy e => by
  have := (idx_mem hE).2 (List.mem_map.2 ⟨y, hy, e⟩)
  rw [h3] at this; cases this
theorem lpp_5 (h : s.ov = false) (h2 : ¬ lpBad s x) (hE : keyed E = told s.PV) (nd : (s.PV.map PieceV.index).Nodup) (h3 : ahas E x.index = true) (hd : (gd E x.index).data = x.data) : lpE s x = 5 := by
  obtain ⟨y, hy, e⟩ := List.mem_map.1 ((idx_mem hE).1 h3)
  exact lp_5 h h2 hy e (by rw [← gd_is hE nd hy, e]; exact hd)
theorem lpp_242 (h : s.ov = false) (h2 : ¬ lpBad s x) (hE : keyed E = told s.PV) (nd : (s.PV.map PieceV.index).Nodup) (h3 : ahas E x.index = true) (hd : ¬ (gd E x.index).data = x.data) : lpE s x = 242 := by
  obtain ⟨y, hy, e⟩ := List.mem_map.1 ((idx_mem hE).1 h3)
  exact lp_242 h h2 nd hy e (by rw [← gd_is hE nd hy, e]; exact hd)
theorem idx_eq {a b : I64} (h : a.v = b.v) : a = b := I64.eq_of h
theorem getD_memV {PV : List PieceV} {j : Nat} (hj : j < PV.length) : PV.getD j default ∈ PV := by
  rw [List.getD_eq_getElem?_getD, List.getElem?_eq_getElem hj]; exact List.getElem_mem hj
theorem ba_eq {a b : List UInt8} : ((⟨a.toArray⟩ : ByteArray) = ⟨b.toArray⟩) ↔ a = b := by
  constructor
  · intro h; have := congrArg (fun z : ByteArray => z.data.toList) h; simpa using this
  · intro h; rw [h]
theorem samePc_data {a b : PieceV} (h1 : a.op.v = b.op.v) (h2 : a.many.v = b.many.v) (h3 : a.index.v = b.index.v) : samePc a b = decide (a.data = b.data) := by
  unfold samePc; rw [decide_eq_true h1, decide_eq_true h2, decide_eq_true h3]; simp only [Bool.true_and]; exact decide_eq_decide.2 ba_eq
theorem lpr_at (hs : LOk s) (h : s.ov = false) (h2 : ¬ lpBad s x) {j : Nat} (hj : j < s.PV.length) (hi : (s.PV.getD j default).index.v = x.index.v) : lpE s x = if samePc (s.PV.getD j default) x = true then 5 else 242 := by
  have hm := getD_memV hj
  obtain ⟨_, ho, hk⟩ := hs.ok _ hm
  have hno : x.op.v = s.op.v := Classical.byContradiction fun e => h2 (lp_b2 e)
  have hnk : x.many.v = kOf s.PV := Classical.byContradiction fun e => h2 (.inr (.inr ⟨by omega, e⟩))
  rw [samePc_data (ho.trans hno.symm) (hk.trans hnk.symm) hi]
  by_cases hd : (s.PV.getD j default).data = x.data
  · rw [lp_5 h h2 hm (idx_eq hi) hd, decide_eq_true hd]; rfl
  · rw [lp_242 h h2 hs.nd hm (idx_eq hi) hd, decide_eq_false hd]; rfl
theorem lpr_0 (h : s.ov = false) (h2 : ¬ lpBad s x) (hz : ∀ q, q < s.PV.length → ¬ (s.PV.getD q default).index.v = x.index.v) : lpE s x = 0 := lp_0 h h2 fun y hy e => by
  obtain ⟨q, hq, eq⟩ := List.getElem_of_mem hy
  refine hz q hq ?_
  rw [List.getD_eq_getElem?_getD, List.getElem?_eq_getElem hq]
  show (s.PV[q]).index.v = _
  rw [eq, e]
theorem lpS_no (h : ¬ lpE s x = 0) : lpS s x = s := if_neg h
theorem lpS_yes (h : lpE s x = 0) : lpS s x = { s with PV := s.PV ++ [x] } := if_pos h
theorem lpB_no (h : ¬ lpE s x = 0) : lpB s x = false := by unfold lpB; rw [decide_eq_false h]; rfl
theorem lpB_yes (h : lpE s x = 0) : lpB s x = decide (((s.PV.length + 1 : Nat) : Int) = x.many.v) := by unfold lpB; rw [decide_eq_true h]; rfl
/-- what a piece that is taken is -/
theorem lp_zero (h : lpE s x = 0) : s.ov = false ∧ ¬ lpBad s x ∧ ∀ y ∈ s.PV, ¬ y.index = x.index := by
  unfold lpE at h
  split at h
  · cases h
  · rename_i h1
    split at h
    · cases h
    · rename_i h2
      split at h
      · split at h <;> cases h
      · rename_i h3
        refine ⟨by simpa using h1, h2, fun y hy e => h3 (List.any_eq_true.2 ⟨y, hy, decide_eq_true e⟩)⟩
theorem lp_many (h : lpE s x = 0) : pieceOk x = true ∧ x.op.v = s.op.v ∧ (0 < s.PV.length → x.many.v = kOf s.PV) := by
  obtain ⟨_, h2, _⟩ := lp_zero h
  refine ⟨?_, Classical.byContradiction fun e => h2 (lp_b2 e), fun hp => Classical.byContradiction fun e => h2 (.inr (.inr ⟨hp, e⟩))⟩
  cases hc : pieceOk x with
  | true => rfl
  | false => exact absurd (lp_b1 hc) h2
theorem LOk.lp (hs : LOk s) (x : PieceV) : LOk (lpS s x) := by
  by_cases h : lpE s x = 0
  · rw [lpS_yes h]
    obtain ⟨_, h2, h3⟩ := lp_zero h
    obtain ⟨m1, m2, m3⟩ := lp_many h
    have hk : kOf (s.PV ++ [x]) = x.many.v := kOf_snoc m3
    refine ⟨?_, fun y hy => ?_, hs.vl⟩
    · show ((s.PV ++ [x]).map PieceV.index).Nodup
      rw [List.map_append]
      refine List.nodup_append.2 ⟨hs.nd, by simp, fun a ha b hb => ?_⟩
      obtain ⟨y, hy, rfl⟩ := List.mem_map.1 ha
      rw [List.map_singleton, List.mem_singleton] at hb
      subst hb
      exact h3 y hy
    · show pieceOk y = true ∧ y.op.v = s.op.v ∧ y.many.v = kOf (s.PV ++ [x])
      rcases List.mem_append.1 hy with hy | hy
      · obtain ⟨a, b, c⟩ := hs.ok y hy
        exact ⟨a, b, by rw [hk, m3 (List.length_pos_of_mem hy)]; exact c⟩
      · rw [List.mem_singleton] at hy
        subst hy
        exact ⟨m1, m2, hk.symm⟩
  · rw [lpS_no h]; exact hs
end
theorem pigeon : ∀ (n : Nat) (L : List Nat), L.Nodup → (∀ x ∈ L, x < n) → L.length ≤ n
  | 0, L, _, h => by
    cases L with
    | nil => simp
    | cons a t => exact absurd (h a (by simp)) (by omega)
  | n + 1, L, hn, h => by
    have h1 := pigeon n (L.erase n) (hn.erase n) fun x hx => by
      have hm := (hn.mem_erase_iff).1 hx
      have := h x hm.2
      omega
    by_cases hc : n ∈ L
    · rw [List.length_erase_of_mem hc] at h1; omega
    · rw [List.erase_of_not_mem hc] at h1; omega
theorem LOk.pn {s : LdS} (h : LOk s) : s.PV.length ≤ 1024 ∧ 0 ≤ kOf s.PV ∧ kOf s.PV ≤ 1024 ∧ (0 < s.PV.length ↔ 0 < kOf s.PV) := by
  have hk : 0 ≤ kOf s.PV ∧ kOf s.PV ≤ 1024 ∧ (0 < s.PV.length ↔ 0 < kOf s.PV) := by
    rcases Nat.eq_zero_or_pos s.PV.length with h0 | h0
    · unfold kOf; rw [if_pos h0]; omega
    · obtain ⟨a, _, c⟩ := h.ok _ (getD_memV h0)
      obtain ⟨_, _, q3, q4, _⟩ := pieceOk_is a
      rw [← c]; omega
  refine ⟨?_, hk⟩
  have := pigeon 1024 (s.PV.map fun y => y.index.v.toNat) (by
    have e : (s.PV.map fun y => y.index.v.toNat) = (s.PV.map PieceV.index).map fun k => k.v.toNat := by rw [List.map_map]; rfl
    rw [e]
    unfold List.Nodup
    rw [List.pairwise_map]
    refine h.nd.imp_of_mem fun {a b} ha hb hne e => hne (idx_eq ?_)
    obtain ⟨y, hy, rfl⟩ := List.mem_map.1 ha
    obtain ⟨z, hz, rfl⟩ := List.mem_map.1 hb
    obtain ⟨_, _, _, _, q5, _⟩ := pieceOk_is (h.ok y hy).1
    obtain ⟨_, _, _, _, r5, _⟩ := pieceOk_is (h.ok z hz).1
    omega) fun x hx => by
    obtain ⟨y, hy, rfl⟩ := List.mem_map.1 hx
    obtain ⟨_, _, _, q4, q5, q6, _⟩ := pieceOk_is (h.ok y hy).1
    omega
  rw [List.length_map] at this
  exact this
/-! ## all is taken -/
def inV (PV : List PieceV) (i k : Nat) : List UInt8 := ((PV.take k).filter fun y => decide (y.index.v = (i : Int))).flatMap PieceV.data
def allV (PV : List PieceV) (j : Nat) : List UInt8 := (List.range j).flatMap fun i => inV PV i PV.length
def ltE (s : LdS) : Int := if s.ov = false ∧ 0 < kOf s.PV ∧ (s.PV.length : Int) = kOf s.PV then 0 else 241
def ltB (s : LdS) : List UInt8 := if ltE s = 0 then allV s.PV s.PV.length else []
def ltV (s : LdS) : List ItemV := if ltE s = 0 then s.V else []
def ltS (s : LdS) : LdS := if ltE s = 0 then { s with ov := true } else s
theorem inV_0 (PV : List PieceV) (i : Nat) : inV PV i 0 = [] := by unfold inV; rw [List.take_zero]; rfl
theorem takeV {PV : List PieceV} {k : Nat} (hk : k < PV.length) : PV.take (k + 1) = PV.take k ++ [PV.getD k default] := by
  rw [List.take_add_one, List.getElem?_eq_getElem hk, List.getD_eq_getElem?_getD, List.getElem?_eq_getElem hk]; rfl
theorem inV_yes {PV : List PieceV} {i k : Nat} (hk : k < PV.length) (h : (PV.getD k default).index.v = (i : Int)) : inV PV i (k + 1) = inV PV i k ++ (PV.getD k default).data := by
  unfold inV; rw [takeV hk, List.filter_append, List.flatMap_append, List.filter_cons_of_pos (by exact decide_eq_true h)]; simp
theorem inV_no {PV : List PieceV} {i k : Nat} (hk : k < PV.length) (h : ¬ (PV.getD k default).index.v = (i : Int)) : inV PV i (k + 1) = inV PV i k := by
  unfold inV; rw [takeV hk, List.filter_append, List.flatMap_append, List.filter_cons_of_neg (by simpa using h)]; simp
theorem allV_succ (PV : List PieceV) (j : Nat) : allV PV (j + 1) = allV PV j ++ inV PV j PV.length := by unfold allV; rw [List.range_succ, List.flatMap_append]; simp
section
variable {s : LdS} {E : List (I64 × BytesD)}
/-- at most one piece has the number -/
theorem filt_one (h : LOk s) (i k : Nat) : (inV s.PV i k = [] ∧ (k = s.PV.length → ¬ ∃ y ∈ s.PV, y.index.v = (i : Int))) ∨ ∃ y ∈ s.PV, y.index.v = (i : Int) ∧ inV s.PV i k = y.data := by
  cases hf : (s.PV.take k).filter fun y => decide (y.index.v = (i : Int)) with
  | nil =>
    refine .inl ⟨by unfold inV; rw [hf]; rfl, fun hk => ?_⟩
    rintro ⟨y, hy, e⟩
    subst hk
    rw [List.take_length] at hf
    have := (List.mem_filter (p := fun y : PieceV => decide (y.index.v = (i : Int)))).2 ⟨hy, decide_eq_true e⟩
    rw [hf] at this
    cases this
  | cons a t =>
    have ha : a ∈ (s.PV.take k).filter fun y => decide (y.index.v = (i : Int)) := by rw [hf]; simp
    obtain ⟨ha1, ha2⟩ := List.mem_filter.1 ha
    refine .inr ⟨a, List.mem_of_mem_take ha1, of_decide_eq_true ha2, ?_⟩
    cases t with
    | nil => unfold inV; rw [hf]; simp
    | cons b u =>
      have hsub : ((s.PV.take k).filter fun y => decide (y.index.v = (i : Int))).Sublist s.PV := List.filter_sublist.trans (List.take_sublist k s.PV)
      have hn := (hsub.map PieceV.index).nodup h.nd
      rw [hf] at hn
      have hb : b ∈ (s.PV.take k).filter fun y => decide (y.index.v = (i : Int)) := by rw [hf]; simp
      have hb2 := of_decide_eq_true (List.mem_filter.1 hb).2
      have e : a.index = b.index := idx_eq ((of_decide_eq_true ha2).trans hb2.symm)
      simp [e] at hn
theorem inV_le (h : LOk s) (i k : Nat) : (inV s.PV i k).length ≤ 4096 := by
  rcases filt_one h i k with ⟨e, _⟩ | ⟨y, hy, _, e⟩
  · rw [e]; simp
  · rw [e]; exact (pieceOk_is (h.ok y hy).1).2.2.2.2.2.2
theorem allV_le (h : LOk s) (j : Nat) : (allV s.PV j).length ≤ 4096 * j := by
  induction j with
  | zero => exact Nat.le_refl _
  | succ j ih => rw [allV_succ, List.length_append]; have := inV_le h j s.PV.length; omega
theorem gd_all (h : LOk s) (hE : keyed E = told s.PV) {i : Nat} (hi : i ≤ 1024) {k : I64} (hk : k.v = (i : Int)) : (gd E k).data = inV s.PV i s.PV.length := by
  rcases filt_one h i s.PV.length with ⟨e, hn⟩ | ⟨y, hy, hyi, e⟩
  · rw [e]
    unfold gd
    cases ha : aget E k with
    | none => rfl
    | some x =>
      have h1 : ahas E k = true := by rw [← aget_has, ha]; rfl
      obtain ⟨y, hy, ey⟩ := List.mem_map.1 ((idx_mem hE).1 h1)
      exact absurd ⟨y, hy, by rw [ey]; exact hk⟩ (hn rfl)
  · rw [e, ← gd_is hE h.nd hy, idx_eq (hyi.trans hk.symm)]
theorem lt_1 (h : s.ov = true) : ltE s = 241 := if_neg fun e => by rw [h] at e; cases e.1
theorem lt_2 (h : ¬ (0 < kOf s.PV ∧ (s.PV.length : Int) = kOf s.PV)) : ltE s = 241 := if_neg fun e => h e.2
theorem lt_0 (h : s.ov = false) (h2 : 0 < kOf s.PV ∧ (s.PV.length : Int) = kOf s.PV) : ltE s = 0 := if_pos ⟨h, h2⟩
theorem lt_241 (h : ltE s = 241) : ¬ ltE s = 0 := by rw [h]; decide
theorem ltS_no (h : ltE s = 241) : ltS s = s := if_neg (lt_241 h)
theorem ltS_yes (h : ltE s = 0) : ltS s = { s with ov := true } := if_pos h
theorem ltB_no (h : ltE s = 241) : ltB s = [] := if_neg (lt_241 h)
theorem ltB_yes (h : ltE s = 0) : ltB s = allV s.PV s.PV.length := if_pos h
theorem ltV_no (h : ltE s = 241) : ltV s = [] := if_neg (lt_241 h)
theorem ltV_yes (h : ltE s = 0) : ltV s = s.V := if_pos h
theorem LOk.lt (h : LOk s) : LOk (ltS s) := by
  unfold ltS; split
  · exact ⟨h.nd, h.ok, h.vl⟩
  · exact h
end
/-- How many wait. -/
def lwN (s : LdS) : Nat := if s.ov = true then 0 else s.V.length
/-- where a new place lies: the program's -/
structure LnX (s : LdS) where
  m : Nat
  p : Option Addr
  c : Nat
  E : List (I64 × BytesD)
  L : List ItemD
  hE : keyed E = told s.PV
  hL : L.map ItemD.v = s.V
/-- and the document's -/
structure RnX (s : LdS) where
  p : Option Addr
  c : Nat
  q : Option Addr
  d : Nat
  L : List ItemD
  Ps : List PieceD
  hL : L.map ItemD.v = if s.ov = true then [] else s.V
  hP : Ps.map PieceD.v = s.PV
def newL (op : I64) : LdS := ⟨op, false, [], []⟩
theorem newL_ok (op : I64) : LOk (newL op) := ⟨by simp [newL], fun x hx => (by cases hx), by simp [newL]⟩
/-- A step of a script. -/
structure StpD where
  do_ : I64
  it : ItemD
  pc : PieceD
instance : Inhabited StpD := ⟨⟨default, default, default⟩⟩
def stpCell (x : StpD) : List Value := .int .i64 x.do_.v :: (itCell x.it ++ pcCell x.pc)
theorem stpCell_len (x : StpD) : (stpCell x).length = 11 := rfl
theorem one_stp (a : StpD) (x : Value) (hx : x ∈ stpCell a) : x.oneCell' = true := by
  rcases List.mem_cons.1 hx with rfl | hx
  · rfl
  · rcases List.mem_append.1 hx with hx | hx
    · exact one_it _ x hx
    · exact one_pc _ x hx
/-- What steps hold. -/
def stpsA (L : List StpD) : Atom := ⟨fun I h => h = Heap.none ∧ ∀ x ∈ L, (itsA [x.it]).sat I Heap.none ∧ (pcA [x.pc]).sat I Heap.none, fun I J h hl ⟨a, b⟩ => ⟨a, fun x hx => ⟨(itsA [x.it]).mono I J _ hl (b x hx).1, (pcA [x.pc]).mono I J _ hl (b x hx).2⟩⟩⟩
theorem stpsA_pers (L : List StpD) : (stpsA L).pers := fun _ _ h => h.1
section
variable {W w : World} {F : List Atom} {i j : Nat} {L : List StpD}
theorem getD_memS (hj : j < L.length) : L.getD j default ∈ L := by
  rw [List.getD_eq_getElem?_getD, List.getElem?_eq_getElem hj]; exact List.getElem_mem hj
theorem stps_bs (H : St W w F) (hi : F[i]? = some (stpsA L)) (hj : j < L.length) : St W w (BsA (L.getD j default).it :: F) :=
  H.derive2 fun I h => ((((h i _ hi (stpsA_pers L)).2 _ (getD_memS hj)).1).2 _ (by simp)).1
theorem stps_bd (H : St W w F) (hi : F[i]? = some (stpsA L)) (hj : j < L.length) : St W w (bndsA (L.getD j default).it.bs :: F) :=
  H.derive2 fun I h => ((((h i _ hi (stpsA_pers L)).2 _ (getD_memS hj)).1).2 _ (by simp)).2
theorem stps_dt (H : St W w F) (hi : F[i]? = some (stpsA L)) (hj : j < L.length) : St W w (DtA (L.getD j default).pc.p (L.getD j default).pc.c (L.getD j default).pc.v.data :: F) :=
  H.derive2 fun I h => (((h i _ hi (stpsA_pers L)).2 _ (getD_memS hj)).2).2 _ (by simp)
end
/-! ## what the walks ask -/
section
variable {s : LdS} {x : PieceV} {E : List (I64 × BytesD)}
def wholeB (s : LdS) : Bool := decide (0 < kOf s.PV) && decide ((s.PV.length : Int) = kOf s.PV)
theorem whole_snoc (h : lpE s x = 0) : wholeB { s with PV := s.PV ++ [x] } = lpB s x := by
  obtain ⟨m1, _, m3⟩ := lp_many h
  obtain ⟨_, _, q3, _⟩ := pieceOk_is m1
  rw [lpB_yes h]
  unfold wholeB
  rw [show kOf ({ s with PV := s.PV ++ [x] } : LdS).PV = x.many.v from kOf_snoc m3, decide_eq_true (show 0 < x.many.v by omega), Bool.true_and]
  show decide (((s.PV ++ [x]).length : Int) = x.many.v) = _
  rw [List.length_append]; rfl
theorem keyed_snoc {p : Option Addr} {c : Nat} (h : keyed E = told s.PV) : keyed (E ++ [(x.index, (⟨x.data, p, c⟩ : BytesD))]) = told (s.PV ++ [x]) := by
  unfold keyed told at *; rw [List.map_append, List.map_append, h]; rfl
theorem whole_t (h : wholeB s = true) : 0 < kOf s.PV ∧ (s.PV.length : Int) = kOf s.PV := by
  unfold wholeB at h; rw [Bool.and_eq_true] at h; exact ⟨of_decide_eq_true h.1, of_decide_eq_true h.2⟩
theorem whole_f (h : wholeB s = false) : ¬ (0 < kOf s.PV ∧ (s.PV.length : Int) = kOf s.PV) := fun e => by
  unfold wholeB at h; rw [decide_eq_true e.1, decide_eq_true e.2] at h; cases h
theorem whole_is : (0 < kOf s.PV ∧ (s.PV.length : Int) = kOf s.PV) → wholeB s = true := fun e => by
  unfold wholeB; rw [decide_eq_true e.1, decide_eq_true e.2]; rfl
theorem whole_no : ¬ (0 < kOf s.PV ∧ (s.PV.length : Int) = kOf s.PV) → wholeB s = false := fun h => by
  cases hc : wholeB s with
  | false => rfl
  | true => exact absurd (whole_t hc) h
theorem pv_at {Ps : List PieceD} (h : Ps.map PieceD.v = s.PV) {j : Nat} (hj : j < Ps.length) : s.PV.getD j default = (Ps.getD j default).v := by rw [← h]; exact getD_v hj
theorem pv_len {Ps : List PieceD} (h : Ps.map PieceD.v = s.PV) : Ps.length = s.PV.length := by rw [← h, List.length_map]
theorem pv_k {Ps : List PieceD} (h : Ps.map PieceD.v = s.PV) (h0 : 0 < Ps.length) : kOf s.PV = (Ps.getD 0 default).v.many.v := by rw [kOf_pos (by rw [← pv_len h]; exact h0), pv_at h h0]
theorem wt_of {W w : World} {F : List Atom} {T : TypeId} {ov : Bool} {p : Option Addr} {c : Nat} {L : List ItemD} (H : St W w (Row T 6 (.slice p L.length c) L.length (L.flatMap itCell) :: F)) : St W w (wtA T ov p c L :: F) := by
  cases ov with
  | false => exact H
  | true => exact Row.im H (i := 0) rfl
theorem it_len {L : List ItemD} {V : List ItemV} (h : L.map ItemD.v = V) : L.length = V.length := by rw [← h, List.length_map]
theorem lw_len {L : List ItemD} (h : L.map ItemD.v = if s.ov = true then [] else s.V) : L.length = lwN s := by
  unfold lwN; rw [← List.length_map (f := ItemD.v), h]; split <;> rfl
theorem lw_f {L : List ItemD} (h : s.ov = false) (h2 : L.map ItemD.v = if s.ov = true then [] else s.V) : L.map ItemD.v = s.V := by rw [h2, if_neg (by rw [h]; simp)]
end
section
variable {s : LdS} {x : PieceV} {Ps : List PieceD} {j : Nat}
theorem lw_snoc {L : List ItemD} {y : ItemD} {z : ItemV} (hov : s.ov = false) (hL : L.map ItemD.v = if s.ov = true then [] else s.V) (hy : y.v = z) : (L ++ [y]).map ItemD.v = if s.ov = true then [] else s.V ++ [z] := by
  rw [List.map_append, lw_f hov hL, if_neg (by rw [hov]; simp), List.map_singleton, hy]
theorem lv_snoc {L : List ItemD} {y : ItemD} {z : ItemV} (hL : L.map ItemD.v = s.V) (hy : y.v = z) : (L ++ [y]).map ItemD.v = s.V ++ [z] := by
  rw [List.map_append, hL, List.map_singleton, hy]
theorem ck_no {b : Bool} (h : ¬ (if b = true then (0 : Int) else 242) = 0) : b = false := by cases b with | false => rfl | true => exact absurd rfl h
theorem ck_yes {b : Bool} (h : (if b = true then (0 : Int) else 242) = 0) : b = true := by cases b with | true => rfl | false => cases h
theorem lpr_5 (hs : LOk s) (hov : s.ov = false) (hg : ¬ lpBad s x) (hP : Ps.map PieceD.v = s.PV) (hj : j < Ps.length) (hi : (Ps.getD j default).v.index.v = x.index.v) (hm : samePc (Ps.getD j default).v x = true) : lpE s x = 5 := by
  have h9 := lpr_at hs hov hg (j := j) (by rw [← pv_len hP]; exact hj) (by rw [pv_at hP hj]; exact hi)
  rw [pv_at hP hj, hm, if_pos rfl] at h9; exact h9
theorem lpr_242 (hs : LOk s) (hov : s.ov = false) (hg : ¬ lpBad s x) (hP : Ps.map PieceD.v = s.PV) (hj : j < Ps.length) (hi : (Ps.getD j default).v.index.v = x.index.v) (hm : samePc (Ps.getD j default).v x = false) : lpE s x = 242 := by
  have h9 := lpr_at hs hov hg (j := j) (by rw [← pv_len hP]; exact hj) (by rw [pv_at hP hj]; exact hi)
  rw [pv_at hP hj, hm, if_neg (by simp)] at h9; exact h9
theorem lpr_z (hov : s.ov = false) (hg : ¬ lpBad s x) (hP : Ps.map PieceD.v = s.PV) (hz : ∀ q, q < Ps.length → ¬ (Ps.getD q default).v.index.v = x.index.v) : lpE s x = 0 :=
  lpr_0 hov hg fun q hq => by rw [pv_at hP (by rw [pv_len hP]; exact hq)]; exact hz q (by rw [pv_len hP]; exact hq)
theorem lp_b3p (hP : Ps.map PieceD.v = s.PV) (h : 0 < Ps.length) (h2 : ¬ (Ps.getD 0 default).v.many.v = x.many.v) : lpBad s x := lp_b3r (by rw [← pv_len hP]; exact h) (by rw [pv_at hP h]; exact h2)
theorem lp_okp (hP : Ps.map PieceD.v = s.PV) (h : pieceOk x = true) (h2 : x.op.v = s.op.v) (h3 : 0 < Ps.length → (Ps.getD 0 default).v.many.v = x.many.v) : ¬ lpBad s x := lp_ok h h2 fun h0 => by
  have h1 : 0 < Ps.length := by rw [pv_len hP]; exact h0
  rw [pv_k hP h1, h3 h1]
theorem dat_le (hs : LOk s) (hP : Ps.map PieceD.v = s.PV) (hj : j < Ps.length) : (Ps.getD j default).v.data.length ≤ 4096 := by
  have hm := getD_memV (PV := s.PV) (j := j) (by rw [← pv_len hP]; exact hj)
  rw [pv_at hP hj] at hm
  exact (pieceOk_is (hs.ok _ hm).1).2.2.2.2.2.2
theorem inV_yesP (hP : Ps.map PieceD.v = s.PV) {i : Nat} (hj : j < Ps.length) (h : (Ps.getD j default).v.index.v = (i : Int)) : inV s.PV i (j + 1) = inV s.PV i j ++ (Ps.getD j default).v.data := by
  rw [inV_yes (by rw [← pv_len hP]; exact hj) (by rw [pv_at hP hj]; exact h), pv_at hP hj]
theorem inV_noP (hP : Ps.map PieceD.v = s.PV) {i : Nat} (hj : j < Ps.length) (h : ¬ (Ps.getD j default).v.index.v = (i : Int)) : inV s.PV i (j + 1) = inV s.PV i j :=
  inV_no (by rw [← pv_len hP]; exact hj) (by rw [pv_at hP hj]; exact h)
end
theorem lp_dat {s : LdS} {x : PieceV} (h : ¬ lpBad s x) : x.data.length ≤ 4096 := by
  have hp : pieceOk x = true := by
    cases hc : pieceOk x with
    | true => rfl
    | false => exact absurd (lp_b1 hc) h
  exact (pieceOk_is hp).2.2.2.2.2.2
def stpOk (I : Heap) (x : StpD) : Prop := (itsA [x.it]).sat I Heap.none ∧ (pcA [x.pc]).sat I Heap.none ∧ bsOk x.it.bs
theorem stpOk_of {I : Heap} {x : StpD} (h1 : (BsA x.it).sat I Heap.none) (h2 : (bndsA x.it.bs).sat I Heap.none) (h3 : bsOk x.it.bs) (h4 : (DtA x.pc.p x.pc.c x.pc.v.data).sat I Heap.none) : stpOk I x :=
  ⟨⟨rfl, fun y hy => by rw [List.mem_singleton] at hy; subst hy; exact ⟨h1, h2⟩⟩, ⟨rfl, fun y hy => by rw [List.mem_singleton] at hy; subst hy; exact h4⟩, h3⟩
end Sl
