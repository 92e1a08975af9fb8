/- Conditions of bound events; conditions that are parted. No condition. -/
import Derived.Test.YtfflafpcpbeciaaSlBE
import Derived.Test.YtfflafpcpbeciaaSlP
namespace Sl
open _root_.Go _root_.Go.RowKit
set_option linter.all false
set_option linter.unusedSimpArgs false
def bndsA (L : List BoundD) : Atom := evA (L.map BoundD.ev)
def bIdx (o : OpdV) (bs : List BoundD) : Int := idxB (fun b : BoundD => decide (b.var.v = o.var.v)) bs
def bvV (o : OpdV) (bs : List BoundD) : ValV := if o.attr.v = ByteArray.empty then o.val else if 0 ≤ bIdx o bs then getV (bs.getD (bIdx o bs).toNat default).ev.ev.attrs o.attr.v else default
def bvIs (o : OpdV) (bs : List BoundD) : Bool := if o.attr.v = ByteArray.empty then true else decide (0 ≤ bIdx o bs)
section
variable {o : OpdV} {bs : List BoundD}
theorem bv_val (h : o.attr.v = ByteArray.empty) : bvV o bs = o.val ∧ bvIs o bs = true := ⟨if_pos h, if_pos h⟩
theorem bv_get (h : ¬ o.attr.v = ByteArray.empty) (h0 : 0 ≤ bIdx o bs) : bvV o bs = getV (bs.getD (bIdx o bs).toNat default).ev.ev.attrs o.attr.v ∧ bvIs o bs = true := by
  unfold bvV bvIs; rw [if_neg h, if_neg h, if_pos h0]; exact ⟨rfl, decide_eq_true h0⟩
end
def condB (c : CondV) (bs : List BoundD) : Bool := !bvIs c.left bs || !bvIs c.right bs || holdsB c.rel.v (bvV c.left bs) (bvV c.right bs)
def allB (l : List CondV) (bs : List BoundD) : Bool := !(l.any fun c => !condB c bs)
/-! ## parted -/
def pickB (l : List CondV) (vars : List Str) (is : Bool) : List CondV := l.filter fun c => decide (readyB c vars = is)
theorem take_getD {α : Type} [Inhabited α] {L : List α} {j : Nat} (h : j < L.length) : L.take (j + 1) = L.take j ++ [L.getD j default] := by
  rw [List.take_succ, List.getElem?_eq_getElem h, List.getD_eq_getElem?_getD, List.getElem?_eq_getElem h]; rfl
/-! ## once and for all -/
theorem idxB_app {α : Type} [Inhabited α] {p : α → Bool} {L M : List α} (h : L.any p = true) : idxB p (L ++ M) = idxB p L ∧ 0 ≤ idxB p L := by
  have h0 : 0 ≤ idxB p L := by have := idxB_any (p := p) (L := L); rw [h] at this; exact of_decide_eq_true this
  have hl : L.findIdx p < L.length := by unfold idxB at h0; split at h0 <;> first | assumption | omega
  refine ⟨?_, h0⟩
  unfold idxB
  rw [List.findIdx_append, if_pos hl, if_pos hl, List.length_append, if_pos (by omega)]
theorem bv_app {o : OpdV} {bs ms : List BoundD} (h : o.attr.v = ByteArray.empty ∨ (bs.any fun b => decide (b.var.v = o.var.v)) = true) : bvV o (bs ++ ms) = bvV o bs ∧ bvIs o (bs ++ ms) = bvIs o bs := by
  by_cases ha : o.attr.v = ByteArray.empty
  · exact ⟨by rw [(bv_val ha).1, (bv_val ha).1], by rw [(bv_val ha).2, (bv_val ha).2]⟩
  · have h2 := h.resolve_left ha
    have e := idxB_app (M := ms) h2
    have e1 : bIdx o (bs ++ ms) = bIdx o bs := e.1
    have e2 : 0 ≤ bIdx o bs := e.2
    have hl : (bIdx o bs).toNat < bs.length := (idxB_is (p := fun b : BoundD => decide (b.var.v = o.var.v)) e2).1
    have g := bv_get (bs := bs) ha e2
    have g2 := bv_get (bs := bs ++ ms) ha (by rw [e1]; exact e2)
    rw [g.1, g.2, g2.1, g2.2, e1]
    refine ⟨?_, rfl⟩
    rw [List.getD_eq_getElem?_getD, List.getElem?_append_left hl, ← List.getD_eq_getElem?_getD]
theorem has_vars (bs : List BoundD) (s : ByteArray) : hasS (bs.map BoundD.var) s = bs.any fun b => decide (b.var.v = s) := by
  rw [← hasS_comm, List.any_map]; rfl
theorem ready_of {c : CondV} {vars : List Str} (h : readyB c vars = true) : ∀ x ∈ namesV c, hasS vars x.v = true := by
  intro x hx
  unfold readyB at h
  have : ((namesV c).any fun x => !hasS vars x.v) = false := by simpa using h
  have := List.any_eq_false.1 this x hx
  simpa using this
theorem names_left {c : CondV} (h : ¬ c.left.attr.v = ByteArray.empty) : ∃ x ∈ namesV c, x.v = c.left.var.v := by
  unfold namesV; rw [if_neg h]
  repeat' split
  all_goals simp
theorem names_right {c : CondV} (h : ¬ c.right.attr.v = ByteArray.empty) : ∃ x ∈ namesV c, x.v = c.right.var.v := by
  unfold namesV
  by_cases hl : c.left.attr.v = ByteArray.empty
  · rw [if_pos hl, if_neg h]; simp
  · rw [if_neg hl, if_neg h]
    by_cases he : c.left.var.v = c.right.var.v
    · rw [if_pos he]; simp [he]
    · rw [if_neg he]; split <;> simp
theorem once {c : CondV} {bs ms : List BoundD} (h : readyB c (bs.map BoundD.var) = true) : condB c bs = condB c (bs ++ ms) := by
  have hn := ready_of h
  have hl : c.left.attr.v = ByteArray.empty ∨ (bs.any fun b => decide (b.var.v = c.left.var.v)) = true := by
    by_cases ha : c.left.attr.v = ByteArray.empty
    · exact .inl ha
    · obtain ⟨x, hx, e⟩ := names_left ha
      refine .inr ?_; rw [← has_vars, ← e]; exact hn x hx
  have hr : c.right.attr.v = ByteArray.empty ∨ (bs.any fun b => decide (b.var.v = c.right.var.v)) = true := by
    by_cases ha : c.right.attr.v = ByteArray.empty
    · exact .inl ha
    · obtain ⟨x, hx, e⟩ := names_right ha
      refine .inr ?_; rw [← has_vars, ← e]; exact hn x hx
  unfold condB
  rw [(bv_app (ms := ms) hl).1, (bv_app (ms := ms) hl).2, (bv_app (ms := ms) hr).1, (bv_app (ms := ms) hr).2]
/-! ## the same -/
def sameVal (a b : ValV) : Bool := (decide (a.kind.v = b.kind.v) && (decide (a.n.v = b.n.v) && (decide (a.s.v = b.s.v) && true)))
def sameOpd (a b : OpdV) : Bool := (decide (a.var.v = b.var.v) && (decide (a.attr.v = b.attr.v) && (sameVal a.val b.val && true)))
def sameCd (a b : CondV) : Bool := (sameOpd a.left b.left && (decide (a.rel.v = b.rel.v) && (sameOpd a.right b.right && true)))
section
variable {P : Program} (w : World)
end
section
variable {C : Ctx} {ρ : Env} {w W : World} {l : List Atom} {ops : Array Oper} {K' : Env → World → Prop} {d ty : Nat} {pos : String} {af : Array Edge} {x y : Operand} {e : TypeId} {size : Nat}
end
end Sl
