/- EventRises: what holds of streams of four sources beside what a reader has counted. No condition. -/
import Derived.Test.YtheggchlcpafmaaSlW
namespace Sl
open _root_.Go _root_.Go.RowKit
set_option linter.all false
def i64' (n : Int) : I64 := if h : -9223372036854775808 ≤ n ∧ n ≤ 9223372036854775807 then ⟨n, h.1, h.2⟩ else default
def bev (s t : I64) : EvM := ⟨i64' 0, s, t, ⟨⟨#[116]⟩, by decide⟩, []⟩
/-- One step of a script. -/
structure OpM where
  do_ : I64
  ev : EvM
  p : Option Addr
  c : Nat
  source : I64
def OpM.av (o : OpM) : Value := .slice o.p o.ev.attrs.length o.c
instance : Inhabited EvM := ⟨⟨default, default, default, default, []⟩⟩
instance : Inhabited OpM := ⟨⟨default, default, none, 0, default⟩⟩
def opCell (o : OpM) : List Value := [.int .i64 o.do_.v, .int .i64 o.ev.src.v, .int .i64 o.ev.seq.v, .int .i64 o.ev.time.v, .string o.ev.typ.v, .slice o.p o.ev.attrs.length o.c, .int .i64 o.source.v]
theorem opCell_len (o : OpM) : (opCell o).length = 7 := rfl
def allA (l : List (Value × List AttrV)) : Atom := ⟨fun I h => h = Heap.none ∧ ∀ x ∈ l, (Attrs x.1 x.2).sat I Heap.none, fun I J h hl ⟨a, b⟩ => ⟨a, fun x hx => (Attrs x.1 x.2).mono I J _ hl (b x hx)⟩⟩
theorem allA_pers (l) : (allA l).pers := fun _ _ h => h.1
theorem allA_at {W w : World} {F : List Atom} {l : List (Value × List AttrV)} {i j : Nat} {x} (H : St W w F) (hi : F[i]? = some (allA l)) (hj : l[j]? = some x) : St W w (Attrs x.1 x.2 :: F) := by
  refine (H.dup hi (allA_pers l)).conv (i := 0) rfl fun I h ⟨a, b⟩ => ?_
  subst a
  exact b x (List.mem_of_getElem? hj)
def opsA (ops : List OpM) : Atom := allA (ops.map fun o => (o.av, o.ev.attrs))
theorem opsA_pers (ops : List OpM) : (opsA ops).pers := allA_pers _
theorem opsA_at {W w : World} {F : List Atom} {ops : List OpM} {i j : Nat} (H : St W w F) (hi : F[i]? = some (opsA ops)) (hj : j < ops.length) : St W w (Attrs (ops.getD j default).av (ops.getD j default).ev.attrs :: F) := by
  refine allA_at H hi (j := j) (x := ((ops.getD j default).av, (ops.getD j default).ev.attrs)) ?_
  simp [List.getD_eq_getElem?_getD, List.getElem?_eq_getElem hj]
/-- Whole numbers in a block. -/
def intCells (l : List Int) : Array Value := (l.map (Value.int .i64)).toArray
theorem ints_size (l : List Int) : (intCells l).size = l.length := by simp [intCells]
theorem ints_get {l : List Int} {i : Nat} (h : i < l.length) : (intCells l)[0 + i * 1]? = some (.int .i64 (l.getD i 0)) := by
  simp [intCells, List.getD_eq_getElem?_getD, h]
theorem ints_set {l : List Int} {i : Nat} (h : i < l.length) (x : Int) : (intCells l).setIfInBounds (0 + i * 1) (.int .i64 x) = intCells (l.set i x) := by
  apply Array.ext'
  simp [intCells, List.map_set]
/-- What a reader has counted is what the streams have. -/
def Inv4 (st : List S3) (nx la : List Int) : Prop :=
  st.length = 16 ∧ nx.length = 4 ∧ la.length = 4 ∧ ∀ s, s < 4 → nx.getD s 0 = (st.getD s default).next ∧ la.getD s 0 = (st.getD s default).last ∧ (st.getD s default).last ≤ 1099511627776
theorem getD_set {α : Type} {l : List α} {i j : Nat} {x d : α} (h : i < l.length) : (l.set i x).getD j d = if i = j then x else l.getD j d := by
  simp only [List.getD_eq_getElem?_getD, List.getElem?_set]
  split
  · rename_i hij; subst hij; simp [h]
  · rfl
theorem Inv4_0 : Inv4 zeroSt [0, 0, 0, 0] [0, 0, 0, 0] := ⟨rfl, rfl, rfl, by decide⟩
section
variable {st : List S3} {nx la : List Int} {evs : List EvM} {e : EvM} {n : Int}
theorem acceptE_is (h : acceptE 4 st evs.length e = 0) : evE e = 0 ∧ 0 ≤ e.src.v ∧ e.src.v < 4 ∧ (st.getD e.src.v.toNat default).closed = false ∧ e.seq.v = (st.getD e.src.v.toNat default).next ∧ (st.getD e.src.v.toNat default).last ≤ e.time.v := by
  unfold acceptE at h
  split at h
  · rename_i h1; exact absurd h h1
  · rename_i h1
    split at h
    · cases h
    · rename_i h2
      split at h
      · cases h
      · rename_i h3
        split at h
        · cases h
        · rename_i h4
          split at h
          · cases h
          · rename_i h5
            exact ⟨by simpa using h1, by omega, by omega, by simpa using h3, by simpa using h4, by omega⟩
theorem Inv4_no (h : Inv4 st nx la) (hn : ¬ acceptE 4 st evs.length e = 0) : Inv4 (accSt 4 st evs e) nx la := by rw [(accSt_no hn).1]; exact h
theorem Inv4_acc (h : Inv4 st nx la) (ha : acceptE 4 st evs.length e = 0) : Inv4 (accSt 4 st evs e) (nx.set e.src.v.toNat (nx.getD e.src.v.toNat 0 + 1)) (la.set e.src.v.toNat e.time.v) := by
  obtain ⟨h1, h2, h3, h4⟩ := h
  obtain ⟨a1, a2, a3, a4, a5, a6⟩ := acceptE_is ha
  rw [(accSt_yes ha).1]
  refine ⟨st_len_set h1, by simpa using h2, by simpa using h3, fun s hs => ?_⟩
  rw [getD_set (by omega), getD_set (by omega), getD_set (by omega)]
  have := h4 s hs
  split
  · rename_i hs'
    subst hs'
    refine ⟨by rw [this.1], rfl, ?_⟩
    have := timeB_range (evE_range a1).2.2.2.1
    show e.time.v ≤ _
    omega
  · exact this
theorem Inv4_close (h : Inv4 st nx la) : Inv4 (closeSt 4 st n) nx la := by
  obtain ⟨h1, h2, h3, h4⟩ := h
  unfold closeSt
  split
  · refine ⟨st_len_set h1, h2, h3, fun s hs => ?_⟩
    rw [getD_set (by omega)]
    have := h4 s hs
    split
    · rename_i hs'; subst hs'; exact this
    · exact this
  · exact ⟨h1, h2, h3, h4⟩
theorem mark_acc (h : Inv4 st nx la) (s : Nat) (hs : s < 4) : markOf 4 st s ≤ markOf 4 (accSt 4 st evs e) s := by
  by_cases ha : acceptE 4 st evs.length e = 0
  · obtain ⟨h1, h2, h3, h4⟩ := h
    obtain ⟨a1, a2, a3, a4, a5, a6⟩ := acceptE_is ha
    rw [(accSt_yes ha).1]
    unfold markOf
    have hr : 0 ≤ (s : Int) ∧ (s : Int) < 4 := by omega
    rw [if_pos hr, if_pos hr, Int.toNat_natCast, getD_set (by omega)]
    by_cases hs' : e.src.v.toNat = s
    · subst hs'
      rw [if_pos rfl, if_neg (by rw [a4]; simp), if_neg (show ¬ (st.getD e.src.v.toNat default).closed = true by rw [a4]; simp)]
      exact a6
    · rw [if_neg hs']; exact Int.le_refl _
  · rw [(accSt_no ha).1]; exact Int.le_refl _
theorem mark_close (h : Inv4 st nx la) (s : Nat) (hs : s < 4) : markOf 4 st s ≤ markOf 4 (closeSt 4 st n) s := by
  obtain ⟨h1, h2, h3, h4⟩ := h
  unfold closeSt
  split
  · unfold markOf
    have hr : 0 ≤ (s : Int) ∧ (s : Int) < 4 := by omega
    rw [if_pos hr, if_pos hr, Int.toNat_natCast, getD_set (by omega)]
    have := (h4 s hs).2.2
    by_cases hs' : n.toNat = s
    · subst hs'
      rw [if_pos rfl, if_pos (show (true : Bool) = true from rfl)]
      split <;> omega
    · rw [if_neg hs']; exact Int.le_refl _
  · exact Int.le_refl _
theorem mark_open (h : acceptE 4 st evs.length e = 0) : markOf 4 st e.src.v.toNat = (st.getD e.src.v.toNat default).last := by
  obtain ⟨a1, a2, a3, a4, a5, a6⟩ := acceptE_is h
  unfold markOf
  rw [if_pos (by omega), Int.toNat_natCast, if_neg (by rw [a4]; simp)]
theorem closed_open (h : acceptE 4 st evs.length e = 0) : closedOf 4 st e.src.v = false := by
  obtain ⟨a1, a2, a3, a4, a5, a6⟩ := acceptE_is h
  unfold closedOf
  rw [if_pos (by omega), a4]
end
end Sl
