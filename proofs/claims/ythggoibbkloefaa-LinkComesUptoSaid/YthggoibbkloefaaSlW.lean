/- What a stream of events holds, in memory and as plain data. No condition. -/
import Derived.Test.YthggoibbkloefaaSlV
namespace Sl
open _root_.Go _root_.Go.RowKit
set_option linter.all false
/-- What a source has said. -/
structure S3 where
  next : Int
  last : Int
  closed : Bool
instance : Inhabited S3 := ⟨⟨0, 0, false⟩⟩
def s3Cell (s : S3) : List Value := [.int .i64 s.next, .int .i64 s.last, .bool s.closed]
def stCells (many : Int) (st : List S3) (v : Value) : Array Value := (.int .i64 many :: (st.flatMap s3Cell ++ [v])).toArray
theorem flat_set {α : Type} {f : α → List Value} {s : Nat} (hf : ∀ a, (f a).length = s) (a' : α) (t : Nat) (x : Value) : ∀ (L : List α) (i : Nat) (d : α), i < L.length → t < s → (f (L.getD i d)).set t x = f a' → (L.flatMap f).set (i * s + t) x = (L.set i a').flatMap f
  | [], i, d, h, _, _ => by simp at h
  | a :: L, 0, d, _, ht, h => by
    simp only [List.flatMap_cons, List.set_cons_zero, Nat.zero_mul, Nat.zero_add, List.getD_cons_zero] at *
    rw [List.set_append_left _ _ (by rw [hf]; exact ht), h]
  | a :: L, i + 1, d, h, ht, he => by
    simp only [List.flatMap_cons, List.set_cons_succ, List.getD_cons_succ] at *
    rw [List.set_append_right _ _ (by rw [hf, Nat.add_mul]; omega), hf, show (i + 1) * s + t - s = i * s + t by rw [Nat.add_mul]; omega, flat_set hf a' t x L i d (by simpa using h) ht he]
/-- The cells of events, each with its attributes' slice. -/
def evRow (evs : List EvM) (avs : List Value) : List Value := (evs.zip avs).flatMap fun x => evCell x.1 x.2
def evIms (evs : List EvM) (avs : List Value) : List Atom := (evs.zip avs).map fun x => Attrs x.2 x.1.attrs
def zeroSt : List S3 := List.replicate 16 ⟨0, 0, false⟩
section
variable {W w : World} {l : List Atom}
end
def markOf (many : Int) (st : List S3) (n : Int) : Int := if 0 ≤ n ∧ n < many then (if (st.getD n.toNat default).closed = true then 1099511627777 else (st.getD n.toNat default).last) else 0
def closedOf (many : Int) (st : List S3) (n : Int) : Bool := if 0 ≤ n ∧ n < many then (st.getD n.toNat default).closed else false
def nextOf (many : Int) (st : List S3) (n : Int) : Int := if 0 ≤ n ∧ n < many then (st.getD n.toNat default).next else 0
theorem isNone_t {α : Type} {p : Option α} (h : p = none) : p.isNone = true := by rw [h]; rfl
theorem isNone_f {α : Type} {p : Option α} (h : ¬ p = none) : p.isNone = false := by cases p with | none => exact absurd rfl h | some _ => rfl
/-- What is told of an event that is handed in. -/
def acceptE (many : Int) (st : List S3) (n : Nat) (e : EvM) : Int :=
  if ¬ evE e = 0 then evE e
  else if ¬ (0 ≤ e.src.v ∧ e.src.v < many) then 40
  else if (st.getD e.src.v.toNat default).closed = true then 43
  else if ¬ e.seq.v = (st.getD e.src.v.toNat default).next then 42
  else if e.time.v < (st.getD e.src.v.toNat default).last then 41
  else if (65536 : Int) ≤ n then 3 else 0
def accSt (many : Int) (st : List S3) (evs : List EvM) (e : EvM) : List S3 :=
  if acceptE many st evs.length e = 0 then st.set e.src.v.toNat ⟨(st.getD e.src.v.toNat default).next + 1, e.time.v, (st.getD e.src.v.toNat default).closed⟩ else st
def accEvs (many : Int) (st : List S3) (evs : List EvM) (e : EvM) : List EvM := if acceptE many st evs.length e = 0 then evs ++ [e] else evs
def closeE (many : Int) (st : List S3) (n : Int) : Int := if 0 ≤ n ∧ n < many then (if (st.getD n.toNat default).closed = true then 43 else 0) else 1
def closeSt (many : Int) (st : List S3) (n : Int) : List S3 := if 0 ≤ n ∧ n < many then st.set n.toNat { st.getD n.toNat default with closed := true } else st
section
variable {many : Int} {st : List S3} {n : Nat} {e : EvM}
end
end Sl
