import Derived.Test.YteogdknlofcpiaaGreatSlV
namespace Sl
open _root_.Go _root_.Go.RowKit
set_option linter.all false
structure S3 where
 next : Int
 last : Int
 closed : Bool
instance : Inhabited S3 := ⟨⟨0, 0, false⟩⟩
theorem flat_set {α : Type} {f : α → List Value} {s : Nat} (hf : ∀ a, (f a).length = s) (a' : α) (t : Nat) (x : Value) : ∀ (L : List α) (i : Nat) (d : α), i < L.length → t < s → (f (L.getD i d)).set t x = f a' → (L.flatMap f).set (i * s + t) x = (L.set i a').flatMap f
 | [], i, d, h, _, _ => by simp at h
 | a :: L, 0, d, _, ht, h => by
  simp only [List.flatMap_cons, List.set_cons_zero, Nat.zero_mul, Nat.zero_add, List.getD_cons_zero] at *
  rw [List.set_append_left _ _ (by rw [hf]; exact ht), h]
 | a :: L, i + 1, d, h, ht, he => by
  simp only [List.flatMap_cons, List.set_cons_succ, List.getD_cons_succ] at *
  rw [List.set_append_right _ _ (by rw [hf, Nat.add_mul]; omega), hf, show (i + 1) * s + t - s = i * s + t by rw [Nat.add_mul]; omega, flat_set hf a' t x L i d (by simpa using h) ht he]
section
variable {W w : World} {l : List Atom}
end
theorem evE_40 {e : EvM} (h : e.src.v < 0 ∨ 16 ≤ e.src.v ∨ timeB e.seq.v = false ∨ timeB e.time.v = false ∨ nameB e.typ.v = false) : evE e = 40 := if_pos h
theorem evE_in {e : EvM} (h1 : 0 ≤ e.src.v) (h2 : e.src.v < 16) (h3 : timeB e.seq.v = true) (h4 : timeB e.time.v = true) (h5 : nameB e.typ.v = true) : evE e = attrsE e.attrs :=
 if_neg (by rintro (h | h | h | h | h) <;> first | omega | simp_all)
theorem isNone_t {α : Type} {p : Option α} (h : p = none) : p.isNone = true := by rw [h]; rfl
theorem isNone_f {α : Type} {p : Option α} (h : ¬ p = none) : p.isNone = false := by cases p with | none => exact absurd rfl h | some _ => rfl
section
variable {many : Int} {st : List S3} {n : Nat} {e : EvM}
theorem attrsE_len {as : List AttrV} (h : attrsE as = 0) : as.length ≤ 8 := by
 unfold attrsE at h
 split at h
 ·cases h
 ·omega
end
end Sl
