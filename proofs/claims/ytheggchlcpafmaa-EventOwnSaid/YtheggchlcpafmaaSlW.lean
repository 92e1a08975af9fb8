/- What a stream of events holds, in memory and as plain data. No condition. -/
import Derived.Test.YtheggchlcpafmaaSlV
namespace Sl
open _root_.Go _root_.Go.RowKit
set_option linter.all false
/-- What a source has said. -/
structure S3 where
  next : Int
  last : Int
  closed : Bool
instance : Inhabited S3 := ⟨⟨0, 0, false⟩⟩
def s3Cell (s : S3) : List Value := [.int .i64 s.next, .int .i64 s.last, .bool s.closed]
theorem s3Cell_len (s : S3) : (s3Cell s).length = 3 := rfl
def stCells (many : Int) (st : List S3) (v : Value) : Array Value := (.int .i64 many :: (st.flatMap s3Cell ++ [v])).toArray
theorem st_size (many : Int) (st : List S3) (v : Value) : (stCells many st v).size = st.length * 3 + 2 := by
  simp [stCells, flat_len s3Cell_len]
theorem st_many (many : Int) (st : List S3) (v : Value) : (stCells many st v)[0]? = some (.int .i64 many) := by simp [stCells]
theorem st_hx (many : Int) (st : List S3) (v : Value) : ((stCells many st v).toList.drop 1).take (st.length * 3) = st.flatMap s3Cell := by
  simp only [stCells, List.drop_succ_cons, List.drop_zero]
  rw [← flat_len s3Cell_len st]
  exact List.take_left
theorem st_hs (many : Int) (st : List S3) (v : Value) : 1 + st.length * 3 ≤ (stCells many st v).size := by rw [st_size]; omega
theorem st_all {st : List S3} (h : st.length = 16) (many : Int) (v : Value) : (stCells many st v)[49]? = some v := by
  have hl : (Value.int .i64 many :: st.flatMap s3Cell).length = 49 := by simp [flat_len s3Cell_len, h]
  have e : (stCells many st v).toList = (Value.int .i64 many :: st.flatMap s3Cell) ++ [v] := by simp [stCells]
  rw [← Array.getElem?_toList, e, List.getElem?_append_right (by omega), hl]
  rfl
theorem flat_set {α : Type} {f : α → List Value} {s : Nat} (hf : ∀ a, (f a).length = s) (a' : α) (t : Nat) (x : Value) : ∀ (L : List α) (i : Nat) (d : α), i < L.length → t < s → (f (L.getD i d)).set t x = f a' → (L.flatMap f).set (i * s + t) x = (L.set i a').flatMap f
  | [], i, d, h, _, _ => by simp at h
  | a :: L, 0, d, _, ht, h => by
    simp only [List.flatMap_cons, List.set_cons_zero, Nat.zero_mul, Nat.zero_add, List.getD_cons_zero] at *
    rw [List.set_append_left _ _ (by rw [hf]; exact ht), h]
  | a :: L, i + 1, d, h, ht, he => by
    simp only [List.flatMap_cons, List.set_cons_succ, List.getD_cons_succ] at *
    rw [List.set_append_right _ _ (by rw [hf, Nat.add_mul]; omega), hf, show (i + 1) * s + t - s = i * s + t by rw [Nat.add_mul]; omega, flat_set hf a' t x L i d (by simpa using h) ht he]
theorem st_set {st : List S3} {j : Nat} (hj : j < st.length) (t : Nat) (ht : t < 3) (many : Int) (v x : Value) (s' : S3) (h : (s3Cell (st.getD j default)).set t x = s3Cell s') : (stCells many st v).setIfInBounds (1 + j * 3 + t) x = stCells many (st.set j s') v := by
  apply Array.ext'
  have e : ∀ st : List S3, (stCells many st v).toList = Value.int .i64 many :: (st.flatMap s3Cell ++ [v]) := fun st => by simp [stCells]
  rw [Array.toList_setIfInBounds, e, e, show 1 + j * 3 + t = (j * 3 + t) + 1 by omega, List.set_cons_succ,
    List.set_append_left _ _ (by rw [flat_len s3Cell_len]; omega), flat_set s3Cell_len s' t x st j default hj ht h]
theorem st_setAll {st : List S3} (h : st.length = 16) (many : Int) (v x : Value) : (stCells many st v).setIfInBounds 49 x = stCells many st x := by
  apply Array.ext'
  have hl : (st.flatMap s3Cell).length = 48 := by simp [flat_len s3Cell_len, h]
  have e : ∀ v, (stCells many st v).toList = Value.int .i64 many :: (st.flatMap s3Cell ++ [v]) := fun v => by simp [stCells]
  rw [Array.toList_setIfInBounds, e, e, List.set_cons_succ, List.set_append_right _ _ (by omega), hl]
  rfl
/-- The cells of events, each with its attributes' slice. -/
def evRow (evs : List EvM) (avs : List Value) : List Value := (evs.zip avs).flatMap fun x => evCell x.1 x.2
def evIms (evs : List EvM) (avs : List Value) : List Atom := (evs.zip avs).map fun x => Attrs x.2 x.1.attrs
def zeroSt : List S3 := List.replicate 16 ⟨0, 0, false⟩
theorem evRow_snoc (evs : List EvM) (avs : List Value) (e : EvM) (av : Value) (h : avs.length = evs.length) : evRow (evs ++ [e]) (avs ++ [av]) = evRow evs avs ++ evCell e av := by
  simp [evRow, List.zip_append h.symm]
theorem evIms_snoc (evs : List EvM) (avs : List Value) (e : EvM) (av : Value) (h : avs.length = evs.length) : evIms (evs ++ [e]) (avs ++ [av]) = evIms evs avs ++ [Attrs av e.attrs] := by
  simp [evIms, List.zip_append h.symm]
section
variable {W w : World} {l : List Atom}
theorem St.star_snoc {ls : List Atom} {A : Atom} (H : St W w (star ls :: A :: l)) : St W w (star (ls ++ [A]) :: l) := by
  have h1 := H.open_star
  have h2 : St W w ((ls ++ [A]) ++ l) := by simpa using h1
  exact h2.shut_star
end
theorem evE_40 {e : EvM} (h : e.src.v < 0 ∨ 16 ≤ e.src.v ∨ timeB e.seq.v = false ∨ timeB e.time.v = false ∨ nameB e.typ.v = false) : evE e = 40 := if_pos h
theorem evE_in {e : EvM} (h1 : 0 ≤ e.src.v) (h2 : e.src.v < 16) (h3 : timeB e.seq.v = true) (h4 : timeB e.time.v = true) (h5 : nameB e.typ.v = true) : evE e = attrsE e.attrs :=
  if_neg (by rintro (h | h | h | h | h) <;> first | omega | simp_all)
def markOf (many : Int) (st : List S3) (n : Int) : Int := if 0 ≤ n ∧ n < many then (if (st.getD n.toNat default).closed = true then 1099511627777 else (st.getD n.toNat default).last) else 0
def closedOf (many : Int) (st : List S3) (n : Int) : Bool := if 0 ≤ n ∧ n < many then (st.getD n.toNat default).closed else false
def nextOf (many : Int) (st : List S3) (n : Int) : Int := if 0 ≤ n ∧ n < many then (st.getD n.toNat default).next else 0
theorem isNone_t {α : Type} {p : Option α} (h : p = none) : p.isNone = true := by rw [h]; rfl
theorem isNone_f {α : Type} {p : Option α} (h : ¬ p = none) : p.isNone = false := by cases p with | none => exact absurd rfl h | some _ => rfl
theorem st_len_set {st : List S3} {i : Nat} {x : S3} (h : st.length = 16) : (st.set i x).length = 16 := by rw [List.length_set]; exact h
/-- What is told of an event that is handed in. -/
def acceptE (many : Int) (st : List S3) (n : Nat) (e : EvM) : Int :=
  if ¬ evE e = 0 then evE e
  else if ¬ (0 ≤ e.src.v ∧ e.src.v < many) then 40
  else if (st.getD e.src.v.toNat default).closed = true then 43
  else if ¬ e.seq.v = (st.getD e.src.v.toNat default).next then 42
  else if e.time.v < (st.getD e.src.v.toNat default).last then 41
  else if (65536 : Int) ≤ n then 3 else 0
def accSt (many : Int) (st : List S3) (evs : List EvM) (e : EvM) : List S3 :=
  if acceptE many st evs.length e = 0 then st.set e.src.v.toNat ⟨(st.getD e.src.v.toNat default).next + 1, e.time.v, (st.getD e.src.v.toNat default).closed⟩ else st
def accEvs (many : Int) (st : List S3) (evs : List EvM) (e : EvM) : List EvM := if acceptE many st evs.length e = 0 then evs ++ [e] else evs
def closeE (many : Int) (st : List S3) (n : Int) : Int := if 0 ≤ n ∧ n < many then (if (st.getD n.toNat default).closed = true then 43 else 0) else 1
def closeSt (many : Int) (st : List S3) (n : Int) : List S3 := if 0 ≤ n ∧ n < many then st.set n.toNat { st.getD n.toNat default with closed := true } else st
section
variable {many : Int} {st : List S3} {n : Nat} {e : EvM}
theorem acceptE_1 (h : ¬ evE e = 0) : acceptE many st n e = evE e := if_pos h
theorem acceptE_2 (h : evE e = 0) (h2 : ¬ (0 ≤ e.src.v ∧ e.src.v < many)) : acceptE many st n e = 40 := by unfold acceptE; rw [if_neg (by simpa using h), if_pos h2]
theorem acceptE_3 (h : evE e = 0) (h2 : 0 ≤ e.src.v ∧ e.src.v < many) (h3 : (st.getD e.src.v.toNat default).closed = true) : acceptE many st n e = 43 := by unfold acceptE; rw [if_neg (by simpa using h), if_neg (by simpa using h2), if_pos h3]
theorem acceptE_4 (h : evE e = 0) (h2 : 0 ≤ e.src.v ∧ e.src.v < many) (h3 : (st.getD e.src.v.toNat default).closed = false) (h4 : ¬ e.seq.v = (st.getD e.src.v.toNat default).next) : acceptE many st n e = 42 := by unfold acceptE; rw [if_neg (by simpa using h), if_neg (by simpa using h2), if_neg (by rw [h3]; simp), if_pos h4]
theorem acceptE_5 (h : evE e = 0) (h2 : 0 ≤ e.src.v ∧ e.src.v < many) (h3 : (st.getD e.src.v.toNat default).closed = false) (h4 : e.seq.v = (st.getD e.src.v.toNat default).next) (h5 : e.time.v < (st.getD e.src.v.toNat default).last) : acceptE many st n e = 41 := by unfold acceptE; rw [if_neg (by simpa using h), if_neg (by simpa using h2), if_neg (by rw [h3]; simp), if_neg (by simpa using h4), if_pos h5]
theorem acceptE_6 (h : evE e = 0) (h2 : 0 ≤ e.src.v ∧ e.src.v < many) (h3 : (st.getD e.src.v.toNat default).closed = false) (h4 : e.seq.v = (st.getD e.src.v.toNat default).next) (h5 : ¬ e.time.v < (st.getD e.src.v.toNat default).last) (h6 : (65536 : Int) ≤ n) : acceptE many st n e = 3 := by unfold acceptE; rw [if_neg (by simpa using h), if_neg (by simpa using h2), if_neg (by rw [h3]; simp), if_neg (by simpa using h4), if_neg h5, if_pos h6]
theorem acceptE_0 (h : evE e = 0) (h2 : 0 ≤ e.src.v ∧ e.src.v < many) (h3 : (st.getD e.src.v.toNat default).closed = false) (h4 : e.seq.v = (st.getD e.src.v.toNat default).next) (h5 : ¬ e.time.v < (st.getD e.src.v.toNat default).last) (h6 : ¬ (65536 : Int) ≤ n) : acceptE many st n e = 0 := by unfold acceptE; rw [if_neg (by simpa using h), if_neg (by simpa using h2), if_neg (by rw [h3]; simp), if_neg (by simpa using h4), if_neg h5, if_neg h6]
theorem accSt_no {evs : List EvM} (h : ¬ acceptE many st evs.length e = 0) : accSt many st evs e = st ∧ accEvs many st evs e = evs := ⟨if_neg h, if_neg h⟩
theorem accSt_yes {evs : List EvM} (h : acceptE many st evs.length e = 0) : accSt many st evs e = st.set e.src.v.toNat ⟨(st.getD e.src.v.toNat default).next + 1, e.time.v, (st.getD e.src.v.toNat default).closed⟩ ∧ accEvs many st evs e = evs ++ [e] := ⟨if_pos h, if_pos h⟩
theorem attrsE_len {as : List AttrV} (h : attrsE as = 0) : as.length ≤ 8 := by
  unfold attrsE at h
  split at h
  · cases h
  · omega
theorem set_set_S3 (st : List S3) (i : Nat) (x y : S3) : (st.set i x).set i y = st.set i y := List.set_set ..
theorem getD_set_S3 {st : List S3} {i : Nat} (h : i < st.length) (x : S3) : (st.set i x).getD i default = x := by simp [List.getD, h]
end
theorem closeSt_0 {many : Int} {st : List S3} {n : Int} (h : 0 ≤ n ∧ n < many) : closeSt many st n = st.set n.toNat { st.getD n.toNat default with closed := true } := if_pos h
theorem closeSt_no' {many : Int} {st : List S3} {n : Int} (h : ¬ (0 ≤ n ∧ n < many)) : closeSt many st n = st := if_neg h
theorem set_getD_S3 (st : List S3) (i : Nat) (h : i < st.length) : st.set i (st.getD i default) = st := by
  apply List.ext_getElem
  · simp
  · intro j h1 h2
    rw [List.getElem_set]
    split
    · rename_i e; subst e; simp [List.getD, h]
    · rfl
theorem set_closed {st : List S3} {i : Nat} (h : (st.getD i default).closed = true) : st.set i { st.getD i default with closed := true } = st := by
  have e : ({ st.getD i default with closed := true } : S3) = st.getD i default := by
    cases hs : st.getD i default with
    | mk a b c => rw [hs] at h; cases h; rfl
  rw [e]
  refine List.ext_getElem? fun j => ?_
  by_cases hj : i = j
  · subst hj
    by_cases hi : i < st.length
    · rw [List.getElem?_set_self hi, List.getD_eq_getElem?_getD, List.getElem?_eq_getElem hi]; rfl
    · rw [List.getElem?_eq_none (by rw [List.length_set]; omega), List.getElem?_eq_none (by omega)]
  · rw [List.getElem?_set_ne hj]
theorem closeSt_no {many : Int} {st : List S3} {n : Int} (h : ¬ (0 ≤ n ∧ n < many) ∨ (st.getD n.toNat default).closed = true) : closeSt many st n = st := by
  unfold closeSt
  split
  · rename_i hn
    exact set_closed (h.resolve_left (fun h => h hn))
  · rfl
theorem closeE_0 {many : Int} {st : List S3} {n : Int} (h : 0 ≤ n ∧ n < many) (h2 : (st.getD n.toNat default).closed = false) : closeE many st n = 0 := by
  unfold closeE; rw [if_pos h, if_neg (by rw [h2]; simp)]
theorem closeE_43 {many : Int} {st : List S3} {n : Int} (h : 0 ≤ n ∧ n < many) (h2 : (st.getD n.toNat default).closed = true) : closeE many st n = 43 := by
  unfold closeE; rw [if_pos h, if_pos h2]
theorem closeE_1 {many : Int} {st : List S3} {n : Int} (h : ¬ (0 ≤ n ∧ n < many)) : closeE many st n = 1 := if_neg h
end Sl
