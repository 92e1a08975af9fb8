import Derived.Test.YteogdknlofcpiaaGreatSlDK
import Derived.Test.YteogdknlofcpiaaGreatSlDD
namespace Sl
open _root_.Go _root_.Go.RowKit
set_option linter.all false
set_option linter.unusedSimpArgs false
structure ItemV where
 op : I64
 inp : I64
 ep : I64
 kind : I64
 bs : List BoundV
 t : I64
structure ItemD where
 op : I64
 inp : I64
 ep : I64
 kind : I64
 p : Option Addr
 c : Nat
 bs : List BoundD
 t : I64
instance : Inhabited ItemD := ⟨⟨default, default, default, default, none, 0, [], default⟩⟩
def ItemD.v (x : ItemD) : ItemV := ⟨x.op, x.inp, x.ep, x.kind, x.bs.map BoundD.v, x.t⟩
def itCell (x : ItemD) : List Value := [.int .i64 x.op.v, .int .i64 x.inp.v, .int .i64 x.ep.v, .int .i64 x.kind.v, .slice x.p x.bs.length x.c, .int .i64 x.t.v]
theorem itCell_len (x : ItemD) : (itCell x).length = 6 := rfl
theorem one_it (a : ItemD) (x : Value) (hx : x ∈ itCell a) : x.oneCell' = true := by
 simp only [itCell, List.mem_cons, List.not_mem_nil, or_false] at hx
 rcases hx with rfl | rfl | rfl | rfl | rfl | rfl <;> rfl
abbrev BsA (x : ItemD) : Atom := Im 6 (.slice x.p x.bs.length x.c) x.bs.length (x.bs.flatMap bndCell)
def itsA (L : List ItemD) : Atom := ⟨fun I h => h = Heap.none ∧ ∀ x ∈ L, (BsA x).sat I Heap.none ∧ (bndsA x.bs).sat I Heap.none, fun I J h hl ⟨a, b⟩ => ⟨a, fun x hx => ⟨(BsA x).mono I J _ hl (b x hx).1, (bndsA x.bs).mono I J _ hl (b x hx).2⟩⟩⟩
theorem itsA_pers (L : List ItemD) : (itsA L).pers := fun _ _ h => h.1
section
variable {W w : World} {F : List Atom} {i : Nat} {L : List ItemD}
theorem itsA_nil (H : St W w F) : St W w (itsA [] :: F) := H.derive2 fun I _ => ⟨rfl, fun x hx => by cases hx⟩
theorem getD_memI {j : Nat} (hj : j < L.length) : L.getD j default ∈ L := by
 rw [List.getD_eq_getElem?_getD, List.getElem?_eq_getElem hj]
 exact List.getElem_mem hj
theorem itsA_bs {j : Nat} (H : St W w F) (hi : F[i]? = some (itsA L)) (hj : j < L.length) : St W w (BsA (L.getD j default) :: F) := H.derive2 fun I h => ((h i _ hi (itsA_pers L)).2 _ (getD_memI hj)).1
theorem itsA_at {j : Nat} (H : St W w F) (hi : F[i]? = some (itsA L)) (hj : j < L.length) : St W w (bndsA (L.getD j default).bs :: F) := H.derive2 fun I h => ((h i _ hi (itsA_pers L)).2 _ (getD_memI hj)).2
theorem itsA_snoc {x : ItemD} (H : St W w (BsA x :: bndsA x.bs :: itsA L :: F)) : St W w (itsA (L ++ [x]) :: F) := by
 have H2 : St W w (itsA (L ++ [x]) :: BsA x :: bndsA x.bs :: itsA L :: F) := H.derive2 fun I h => ⟨rfl, fun y hy => by
  rcases List.mem_append.1 hy with hy | hy
  ·exact (h 2 _ rfl (itsA_pers L)).2 y hy
  ·rw [List.mem_singleton] at hy
   subst hy
   exact ⟨h 0 _ rfl (Im_pers _ _ _ _), h 1 _ rfl (bndsA_pers _)⟩⟩
 exact ((H2.drop 1 rfl).drop 1 rfl).drop 1 rfl
theorem itsA_app {M : List ItemD} (H : St W w (itsA M :: itsA L :: F)) : St W w (itsA (L ++ M) :: F) := by
 have H2 : St W w (itsA (L ++ M) :: itsA M :: itsA L :: F) := H.derive2 fun I h => ⟨rfl, fun y hy => by
  rcases List.mem_append.1 hy with hy | hy
  ·exact (h 1 _ rfl (itsA_pers L)).2 y hy
  ·exact (h 0 _ rfl (itsA_pers M)).2 y hy⟩
 exact (H2.drop 1 rfl).drop 1 rfl
theorem itsA_sub {M : List ItemD} (H : St W w F) (hi : F[i]? = some (itsA L)) (hs : ∀ x ∈ M, x ∈ L) : St W w (itsA M :: F) := H.derive2 fun I h => ⟨rfl, fun x hx => (h i _ hi (itsA_pers L)).2 x (hs x hx)⟩
end
def bsOk (L : List BoundD) : Prop := L.length * 80 ≤ 140737488355328 ∧ ∀ i, i < L.length → (L.getD i default).ev.ev.attrs.length * 48 ≤ 140737488355328
theorem bsOk_nil : bsOk [] := ⟨by simp, fun i hi => by simp at hi⟩
def okI (x : ItemD) : Prop := timeB x.op.v = true ∧ timeB x.inp.v = true ∧ timeB x.ep.v = true ∧ ((x.kind.v = 1 ∧ x.t.v = 0) ∨ (x.kind.v = 2 ∧ 0 ≤ x.t.v ∧ x.t.v ≤ 1099511627777 ∧ x.bs.length = 0) ∨ (x.kind.v = 3 ∧ x.t.v = 0 ∧ x.bs.length = 0))
open Classical in
noncomputable def itE (x : ItemD) : Int := if ¬ okI x then 243 else if x.kind.v = 1 then ptE x.bs else 0
theorem itE_243 {x : ItemD} (h : ¬ okI x) : itE x = 243 := by unfold itE; rw [if_pos h]
theorem itE_1 {x : ItemD} (h : okI x) (h1 : x.kind.v = 1) : itE x = ptE x.bs := by unfold itE; rw [if_neg (by simpa using h), if_pos h1]
theorem itE_0 {x : ItemD} (h : okI x) (h1 : ¬ x.kind.v = 1) : itE x = 0 := by unfold itE; rw [if_neg (by simpa using h), if_neg h1]
def t3B (x y z : Int) : Bool := decide ((0 ≤ x ∧ x ≤ 1099511627776) ∧ (0 ≤ y ∧ y ≤ 1099511627776) ∧ (0 ≤ z ∧ z ≤ 1099511627776))
theorem timeB_is {n : Int} : timeB n = true ↔ 0 ≤ n ∧ n ≤ 1099511627776 := by unfold timeB; exact decide_eq_true_iff
theorem t3_is {x y z : Int} : t3B x y z = true ↔ timeB x = true ∧ timeB y = true ∧ timeB z = true := by rw [timeB_is, timeB_is, timeB_is]; unfold t3B; exact decide_eq_true_iff
theorem okI_t3 {x : ItemD} (h : okI x) : t3B x.op.v x.inp.v x.ep.v = true := t3_is.2 ⟨h.1, h.2.1, h.2.2.1⟩
theorem okI_of {x : ItemD} (h : t3B x.op.v x.inp.v x.ep.v = true) (h2 : (x.kind.v = 1 ∧ x.t.v = 0) ∨ (x.kind.v = 2 ∧ 0 ≤ x.t.v ∧ x.t.v ≤ 1099511627777 ∧ x.bs.length = 0) ∨ (x.kind.v = 3 ∧ x.t.v = 0 ∧ x.bs.length = 0)) : okI x := ⟨(t3_is.1 h).1, (t3_is.1 h).2.1, (t3_is.1 h).2.2, h2⟩
theorem okI_of3 {x : ItemD} (a : timeB x.op.v = true) (b : timeB x.inp.v = true) (c : timeB x.ep.v = true) (h2 : (x.kind.v = 1 ∧ x.t.v = 0) ∨ (x.kind.v = 2 ∧ 0 ≤ x.t.v ∧ x.t.v ≤ 1099511627777 ∧ x.bs.length = 0) ∨ (x.kind.v = 3 ∧ x.t.v = 0 ∧ x.bs.length = 0)) : okI x := ⟨a, b, c, h2⟩
theorem bad_t3 {x : ItemD} (h : t3B x.op.v x.inp.v x.ep.v = false) : ¬ okI x := fun k => by rw [okI_t3 k] at h; cases h
theorem bad_1 {x : ItemD} (h : timeB x.op.v = false) : ¬ okI x := fun k => by rw [k.1] at h; cases h
theorem bad_2 {x : ItemD} (h : timeB x.inp.v = false) : ¬ okI x := fun k => by rw [k.2.1] at h; cases h
theorem bad_3 {x : ItemD} (h : timeB x.ep.v = false) : ¬ okI x := fun k => by rw [k.2.2.1] at h; cases h
theorem bad_4 {x : ItemD} (h : ¬ ((x.kind.v = 1 ∧ x.t.v = 0) ∨ (x.kind.v = 2 ∧ 0 ≤ x.t.v ∧ x.t.v ≤ 1099511627777 ∧ x.bs.length = 0) ∨ (x.kind.v = 3 ∧ x.t.v = 0 ∧ x.bs.length = 0))) : ¬ okI x := fun k => h k.2.2.2
open Classical in
noncomputable def sameIt (x y : ItemD) : Bool := decide (x.v = y.v)
section
open Classical
variable {x y : ItemD}
theorem sameIt_is : sameIt x y = true ↔ x.v = y.v := by unfold sameIt; exact decide_eq_true_iff
theorem sameIt_eq : sameIt x y = (decide (x.op.v = y.op.v) && decide (x.inp.v = y.inp.v) && decide (x.ep.v = y.ep.v) && decide (x.kind.v = y.kind.v) && decide (x.t.v = y.t.v) && sameBs x.bs y.bs) := by
 rw [Bool.eq_iff_iff, sameIt_is]
 simp only [Bool.and_eq_true, decide_eq_true_eq, sameBs_is]
 constructor
 ·intro h
  exact ⟨⟨⟨⟨⟨congrArg (fun z : ItemV => z.op.v) h, congrArg (fun z : ItemV => z.inp.v) h⟩, congrArg (fun z : ItemV => z.ep.v) h⟩, congrArg (fun z : ItemV => z.kind.v) h⟩, congrArg (fun z : ItemV => z.t.v) h⟩, congrArg ItemV.bs h⟩
 ·rintro ⟨⟨⟨⟨⟨h1, h2⟩, h3⟩, h4⟩, h5⟩, h6⟩
  unfold ItemD.v
  rw [I64.eq_of h1, I64.eq_of h2, I64.eq_of h3, I64.eq_of h4, I64.eq_of h5, h6]
end
theorem its_at {L M : List ItemD} {i : Nat} (h : L.map ItemD.v = M.map ItemD.v) (hi : i < L.length) : (L.getD i default).v = (M.getD i default).v := by
 have hl : L.length = M.length := by simpa using congrArg List.length h
 have := congrArg (fun K : List ItemV => K[i]?) h
 simp only [List.getElem?_map, List.getElem?_eq_getElem hi, List.getElem?_eq_getElem (show i < M.length by omega), Option.map_some, Option.some.injEq] at this
 rw [List.getD_eq_getElem?_getD, List.getD_eq_getElem?_getD, List.getElem?_eq_getElem hi, List.getElem?_eq_getElem (show i < M.length by omega)]
 exact this
end Sl
