/- Conditions of bound events; conditions that are parted. No condition. -/
import Derived.Test.YtkclljglobeplaaSlBE
import Derived.Test.YtkclljglobeplaaSlP
namespace Sl
open _root_.Go _root_.Go.RowKit
set_option linter.all false
set_option linter.unusedSimpArgs false
def bndsA (L : List BoundD) : Atom := evA (L.map BoundD.ev)
theorem bndsA_pers (L : List BoundD) : (bndsA L).pers := evA_pers _
theorem getD_map_ev (L : List BoundD) (j : Nat) : (L.map BoundD.ev).getD j default = (L.getD j default).ev := by
  rw [List.getD_eq_getElem?_getD, List.getElem?_map, List.getD_eq_getElem?_getD]
  cases L[j]? <;> rfl
theorem bndsA_at {W w : World} {F : List Atom} {i : Nat} {L : List BoundD} (j : Nat) (H : St W w F) (hi : F[i]? = some (bndsA L)) : St W w (Attrs (L.getD j default).ev.av (L.getD j default).ev.ev.attrs :: F) := by
  have h := evA_atD j H (i := i) hi
  rw [getD_map_ev] at h
  exact h
def bIdx (o : OpdV) (bs : List BoundD) : Int := idxB (fun b : BoundD => decide (b.var.v = o.var.v)) bs
def bvV (o : OpdV) (bs : List BoundD) : ValV := if o.attr.v = ByteArray.empty then o.val else if 0 ≤ bIdx o bs then getV (bs.getD (bIdx o bs).toNat default).ev.ev.attrs o.attr.v else default
def bvIs (o : OpdV) (bs : List BoundD) : Bool := if o.attr.v = ByteArray.empty then true else decide (0 ≤ bIdx o bs)
section
variable {o : OpdV} {bs : List BoundD}
theorem bv_val (h : o.attr.v = ByteArray.empty) : bvV o bs = o.val ∧ bvIs o bs = true := ⟨if_pos h, if_pos h⟩
theorem bv_get (h : ¬ o.attr.v = ByteArray.empty) (h0 : 0 ≤ bIdx o bs) : bvV o bs = getV (bs.getD (bIdx o bs).toNat default).ev.ev.attrs o.attr.v ∧ bvIs o bs = true := by
  unfold bvV bvIs; rw [if_neg h, if_neg h, if_pos h0]; exact ⟨rfl, decide_eq_true h0⟩
theorem bv_no (h : ¬ o.attr.v = ByteArray.empty) (h0 : ¬ 0 ≤ bIdx o bs) : bvV o bs = default ∧ bvIs o bs = false := by
  unfold bvV bvIs; rw [if_neg h, if_neg h, if_neg h0]; exact ⟨rfl, decide_eq_false h0⟩
theorem bv_at {i : Nat} (h : ¬ o.attr.v = ByteArray.empty) (hz : ∀ j, j < i → decide ((bs.getD j default).var.v = o.var.v) = false) (hi : i < bs.length) (hp : (bs.getD i default).var.v = o.var.v) : bvV o bs = ofV o (bs.getD i default).ev.ev.attrs ∧ bvIs o bs = true := by
  have e : bIdx o bs = i := idxB_at (p := fun b : BoundD => decide (b.var.v = o.var.v)) hz hi (decide_eq_true hp)
  have := bv_get (bs := bs) h (by omega)
  rw [e] at this
  rw [ofV_get h]; exact this
theorem bv_none (h : ¬ o.attr.v = ByteArray.empty) (hz : ∀ j, j < bs.length → decide ((bs.getD j default).var.v = o.var.v) = false) : bvV o bs = default ∧ bvIs o bs = false := by
  have e : bIdx o bs = -1 := idxB_none (p := fun b : BoundD => decide (b.var.v = o.var.v)) hz
  exact bv_no h (by omega)
end
def condB (c : CondV) (bs : List BoundD) : Bool := !bvIs c.left bs || !bvIs c.right bs || holdsB c.rel.v (bvV c.left bs) (bvV c.right bs)
def allB (l : List CondV) (bs : List BoundD) : Bool := !(l.any fun c => !condB c bs)
theorem all_no {l : List CondV} {bs : List BoundD} (h : (l.any fun c => !condB c bs) = true) : allB l bs = false := by unfold allB; rw [h]; rfl
theorem all_yes {l : List CondV} {bs : List BoundD} (h : (l.any fun c => !condB c bs) = false) : allB l bs = true := by unfold allB; rw [h]; rfl
/-! ## parted -/
def pickB (l : List CondV) (vars : List Str) (is : Bool) : List CondV := l.filter fun c => decide (readyB c vars = is)
theorem take_getD {α : Type} [Inhabited α] {L : List α} {j : Nat} (h : j < L.length) : L.take (j + 1) = L.take j ++ [L.getD j default] := by
  rw [List.take_succ, List.getElem?_eq_getElem h, List.getD_eq_getElem?_getD, List.getElem?_eq_getElem h]; rfl
theorem pick_yes {l : List CondV} {vars : List Str} {is : Bool} {j : Nat} (h : j < l.length) (hr : readyB (l.getD j default) vars = is) : pickB (l.take (j + 1)) vars is = pickB (l.take j) vars is ++ [l.getD j default] := by
  unfold pickB; rw [take_getD h, List.filter_append]; congr 1
  rw [List.filter_cons_of_pos (by simpa using hr), List.filter_nil]
theorem pick_no {l : List CondV} {vars : List Str} {is : Bool} {j : Nat} (h : j < l.length) (hr : ¬ readyB (l.getD j default) vars = is) : pickB (l.take (j + 1)) vars is = pickB (l.take j) vars is := by
  unfold pickB; rw [take_getD h, List.filter_append, List.filter_cons_of_neg (by simpa using hr), List.filter_nil, List.append_nil]
theorem pick_nil {l : List CondV} {vars : List Str} {is : Bool} : pickB (l.take 0) vars is = [] := rfl
theorem pick_all {l : List CondV} {vars : List Str} {is : Bool} {j : Nat} (h : j = l.length) : pickB (l.take j) vars is = pickB l vars is := by rw [h, List.take_length]
theorem pick_len (l : List CondV) (vars : List Str) (is : Bool) : (pickB l vars is).length ≤ l.length := List.length_filter_le _ _
theorem pick_two (l : List CondV) (vars : List Str) : (pickB l vars true).length + (pickB l vars false).length = l.length := by
  unfold pickB
  induction l with
  | nil => rfl
  | cons c l ih =>
    cases hr : readyB c vars
    · rw [List.filter_cons_of_neg (by simp [hr]), List.filter_cons_of_pos (by simp [hr])]; simp only [List.length_cons]; omega
    · rw [List.filter_cons_of_pos (by simp [hr]), List.filter_cons_of_neg (by simp [hr])]; simp only [List.length_cons]; omega
theorem all_two (l : List CondV) (vars : List Str) (bs : List BoundD) : allB l bs = (allB (pickB l vars true) bs && allB (pickB l vars false) bs) := by
  unfold allB pickB
  induction l with
  | nil => rfl
  | cons c l ih =>
    have e : ∀ a b : Bool, (!(a || b)) = (!a && !b) := by decide
    cases hr : readyB c vars
    · rw [List.filter_cons_of_neg (by simp [hr]), List.filter_cons_of_pos (by simp [hr]), List.any_cons, List.any_cons, e, e, ih]
      cases (!(!condB c bs)) <;> simp
    · rw [List.filter_cons_of_pos (by simp [hr]), List.filter_cons_of_neg (by simp [hr]), List.any_cons, List.any_cons, e, e, ih]
      cases (!(!condB c bs)) <;> simp
/-! ## once and for all -/
theorem idxB_app {α : Type} [Inhabited α] {p : α → Bool} {L M : List α} (h : L.any p = true) : idxB p (L ++ M) = idxB p L ∧ 0 ≤ idxB p L := by
  have h0 : 0 ≤ idxB p L := by have := idxB_any (p := p) (L := L); rw [h] at this; exact of_decide_eq_true this
  have hl : L.findIdx p < L.length := by unfold idxB at h0; split at h0 <;> first | assumption | omega
  refine ⟨?_, h0⟩
  unfold idxB
  rw [List.findIdx_append, if_pos hl, if_pos hl, List.length_append, if_pos (by omega)]
theorem bv_app {o : OpdV} {bs ms : List BoundD} (h : o.attr.v = ByteArray.empty ∨ (bs.any fun b => decide (b.var.v = o.var.v)) = true) : bvV o (bs ++ ms) = bvV o bs ∧ bvIs o (bs ++ ms) = bvIs o bs := by
  by_cases ha : o.attr.v = ByteArray.empty
  · exact ⟨by rw [(bv_val ha).1, (bv_val ha).1], by rw [(bv_val ha).2, (bv_val ha).2]⟩
  · have h2 := h.resolve_left ha
    have e := idxB_app (M := ms) h2
    have e1 : bIdx o (bs ++ ms) = bIdx o bs := e.1
    have e2 : 0 ≤ bIdx o bs := e.2
    have hl : (bIdx o bs).toNat < bs.length := (idxB_is (p := fun b : BoundD => decide (b.var.v = o.var.v)) e2).1
    have g := bv_get (bs := bs) ha e2
    have g2 := bv_get (bs := bs ++ ms) ha (by rw [e1]; exact e2)
    rw [g.1, g.2, g2.1, g2.2, e1]
    refine ⟨?_, rfl⟩
    rw [List.getD_eq_getElem?_getD, List.getElem?_append_left hl, ← List.getD_eq_getElem?_getD]
theorem has_vars (bs : List BoundD) (s : ByteArray) : hasS (bs.map BoundD.var) s = bs.any fun b => decide (b.var.v = s) := by
  rw [← hasS_comm, List.any_map]; rfl
theorem ready_of {c : CondV} {vars : List Str} (h : readyB c vars = true) : ∀ x ∈ namesV c, hasS vars x.v = true := by
  intro x hx
  unfold readyB at h
  have : ((namesV c).any fun x => !hasS vars x.v) = false := by simpa using h
  have := List.any_eq_false.1 this x hx
  simpa using this
theorem names_left {c : CondV} (h : ¬ c.left.attr.v = ByteArray.empty) : ∃ x ∈ namesV c, x.v = c.left.var.v := by
  unfold namesV; rw [if_neg h]
  repeat' split
  all_goals simp
theorem names_right {c : CondV} (h : ¬ c.right.attr.v = ByteArray.empty) : ∃ x ∈ namesV c, x.v = c.right.var.v := by
  unfold namesV
  by_cases hl : c.left.attr.v = ByteArray.empty
  · rw [if_pos hl, if_neg h]; simp
  · rw [if_neg hl, if_neg h]
    by_cases he : c.left.var.v = c.right.var.v
    · rw [if_pos he]; simp [he]
    · rw [if_neg he]; split <;> simp
theorem once {c : CondV} {bs ms : List BoundD} (h : readyB c (bs.map BoundD.var) = true) : condB c bs = condB c (bs ++ ms) := by
  have hn := ready_of h
  have hl : c.left.attr.v = ByteArray.empty ∨ (bs.any fun b => decide (b.var.v = c.left.var.v)) = true := by
    by_cases ha : c.left.attr.v = ByteArray.empty
    · exact .inl ha
    · obtain ⟨x, hx, e⟩ := names_left ha
      refine .inr ?_; rw [← has_vars, ← e]; exact hn x hx
  have hr : c.right.attr.v = ByteArray.empty ∨ (bs.any fun b => decide (b.var.v = c.right.var.v)) = true := by
    by_cases ha : c.right.attr.v = ByteArray.empty
    · exact .inl ha
    · obtain ⟨x, hx, e⟩ := names_right ha
      refine .inr ?_; rw [← has_vars, ← e]; exact hn x hx
  unfold condB
  rw [(bv_app (ms := ms) hl).1, (bv_app (ms := ms) hl).2, (bv_app (ms := ms) hr).1, (bv_app (ms := ms) hr).2]
/-- What is written no more may be told twice. -/
theorem blk_imm {W w : World} {F : List Atom} {i : Nat} {g : Nat} {o : Obj} (H : St W w F) (hi : F[i]? = some (blk g o)) : St W w (F.set i (imm g o)) := by
  have H2 := H.share hi
  have hi2 : (F.set i (shared (blk g o)))[i]? = some (shared (blk g o)) := by
    have := (List.getElem?_eq_some_iff.1 hi).1
    simp [this]
  have H3 := H2.conv (A' := imm g o) hi2 (by
    rintro I h1 ⟨hn, h2, hle, a⟩
    refine ⟨hn, ?_⟩
    have e : h2 = Heap.one g o := a
    subst e
    exact Heap.of_one_le hle)
  rwa [List.set_set] at H3
/-! ## the same -/
def sameVal (a b : ValV) : Bool := (decide (a.kind.v = b.kind.v) && (decide (a.n.v = b.n.v) && (decide (a.s.v = b.s.v) && true)))
def sameOpd (a b : OpdV) : Bool := (decide (a.var.v = b.var.v) && (decide (a.attr.v = b.attr.v) && (sameVal a.val b.val && true)))
def sameCd (a b : CondV) : Bool := (sameOpd a.left b.left && (decide (a.rel.v = b.rel.v) && (sameOpd a.right b.right && true)))
theorem sameVal_refl (a : ValV) : sameVal a a = true := by simp [sameVal]
theorem sameOpd_refl (a : OpdV) : sameOpd a a = true := by simp [sameOpd, sameVal]
theorem sameCd_refl (a : CondV) : sameCd a a = true := by simp [sameCd, sameOpd, sameVal]
theorem bnds_sat {I : Heap} {L : List BoundD} (h : ∀ b ∈ L, evdOk I b.ev) : (bndsA L).sat I Heap.none :=
  ⟨rfl, fun x hx => by
    obtain ⟨e, he, rfl⟩ := List.mem_map.1 hx
    obtain ⟨b, hb, rfl⟩ := List.mem_map.1 he
    exact h b hb⟩
/-! ## room for more -/
theorem St.append_room {P : Program} {W w : World} {l : List Atom} {i : Nat} {e : TypeId} {size n : Nat} {p : Option Addr} {c : Nat} {xs : List Value} {t ty : TypeId} {u : Value} {m bytes : Nat} {news : List Value} (H : St W w l) (hi : l[i]? = some (Row e size (.slice p n c) n xs)) (hr : Rd w size u m news)
    (hA : appInfo P t e size bytes size) (hsz : 0 < size) (h63 : n + m ≤ maxLen) (hroom : n + m ≤ c) :
    ∃ w', (Builtin.append_ #[t, t] ty #[.slice p n c, u]).run P w = .ok (.slice p (n + m) c) w' ∧ St W w' (l.set i (Row e size (.slice p (n + m) c) (n + m) (xs ++ news))) := by
  obtain ⟨ht, ti, z, hti, hz, rfl, rfl, hzs, _⟩ := hA
  obtain ⟨hl, hone2, hu⟩ := hr
  have hlen := Row.len H hi
  have hone : ∀ x ∈ xs, x.oneCell' = true := by
    obtain ⟨I, h1, _, _, hh, a, _⟩ := H.get hi
    exact a
  have honeA : ∀ x ∈ xs ++ news, x.oneCell' = true := fun x hx => (List.mem_append.1 hx).elim (hone x) (hone2 x)
  have hlenA : (xs ++ news).length = (n + m) * ti.size := by rw [List.length_append, hlen, hl, Nat.add_mul]
  have idle : ∀ (_ : m = 0), (Builtin.append_ #[t, t] ty #[.slice p n c, u]).run P w = .ok (.slice p n c) w → ∃ w', (Builtin.append_ #[t, t] ty #[.slice p n c, u]).run P w = .ok (.slice p (n + m) c) w' ∧ St W w' (l.set i (Row e ti.size (.slice p (n + m) c) (n + m) (xs ++ news))) := by
    intro hm hrun
    subst hm
    have hn : news = [] := List.eq_nil_of_length_eq_zero (by simpa using hl)
    subst hn
    refine ⟨w, hrun, ?_⟩
    have hid : l.set i (Row e ti.size (.slice p n c) n xs) = l := by
      refine List.ext_getElem? fun j => ?_
      by_cases hj : i = j
      · subst hj
        rw [List.getElem?_set_self (List.getElem?_eq_some_iff.1 hi).1, hi]
      · rw [List.getElem?_set_ne hj]
    simpa [hid] using H
  rcases hu with ⟨rfl, rfl⟩ | ⟨a, c', rfl, hcells⟩
  · refine idle rfl ?_
    cases p <;> simp [Builtin.append_, run_underlying ht, Go.sizeOf, typeInfo, hti, Builtin.lenOf, Builtin.firstCells, show n ≤ c by omega, storeCells]
  · by_cases hm : m = 0
    · refine idle hm ?_
      subst hm
      cases p <;> simp [Builtin.append_, run_underlying ht, Go.sizeOf, typeInfo, hti, Builtin.lenOf, Builtin.firstCells, show n ≤ c by omega, storeCells, loadCells, loadCellsFrom]
    · obtain ⟨I, h1, _, _, hh, _, _, aa⟩ := H.get hi
      rcases aa with ⟨hv, _, _⟩ | ⟨g, cap, cur, hv, hc, hcm, hcs, htake, rfl⟩
      · injection hv with _ _ hcc; omega
      · injection hv with e1 e2 e3
        subst e1; subst e3
        have hg : w.heap[g]? = some (.cells cur e (0, 0)) := Heap.of_one_le hh
        have hfit : n * ti.size + news.length ≤ cur.size := by rw [hl, hcs, ← Nat.add_mul]; exact Nat.mul_le_mul_right _ hroom
        have hr := run_append_room (P := P) w t ty e ti ht hti g n c cur hg a m c' news hl hcells hone2 hroom hfit
        refine ⟨_, hr, ?_⟩
        refine H.upd hi rfl rfl rfl ?_
        rintro I h1 dI hI hh1 ⟨_, _, aa⟩
        rcases aa with ⟨hv, _, _⟩ | ⟨g', cap', cur', hv, _, _, _, _, rfl⟩
        · cases hv
        · injection hv with h1 h2 h3
          injection h1 with h1
          injection h1 with h1
          subst h1
          refine ⟨_, ⟨honeA, hlenA, .inr ⟨g, c, _, rfl, hroom, hcm, ?_, ?_, rfl⟩⟩, Heap.one_le (setRow_heap w g cur (cur.toList.take (n * ti.size) ++ news ++ cur.toList.drop (n * ti.size + news.length)).toArray e _ hg), ?_, ?_⟩
          · simp only [List.size_toArray, List.length_append, List.length_take, List.length_drop, Array.length_toList]; omega
          · rw [htake, ← hlenA]; exact List.take_left
          · intro k hk; left; unfold Heap.one at hk ⊢; split at hk <;> simp_all
          · intro k hk hk2; exact setRow_other w g k _ (fun e => by subst e; simp [Heap.one] at hk2)
section
variable {P : Program} (w : World)
theorem run_append_nil0 (t u ty e : TypeId) (k : IntKind) (i : TypeInfo) (z : Value) (ht : P.underlying t = some (.slice e)) (hu : P.underlying u = some (.int k)) (hi : P.info? e = some i) (hz : i.zero = some z)
    (m : Nat) (hm : 0 < m) (hs : 0 < i.size) (hb : m * i.bytes ≤ 281474976710656) (hb0 : 0 < i.bytes) (h63 : (m : Int) ≤ 9223372036854775807) (hfit : Builtin.nextslicecap m 0 * i.bytes ≤ 281474976710656) :
    (Builtin.append_ #[t, u] ty #[.slice none 0 0, .int .i64 (m : Int)]).run P w =
      .ok (.slice (some ⟨w.heap.size, 0, none⟩) m (grownCap w m 0 e)) (w.drew.alloc (.cells (Builtin.zeroCells z.cells m ++ Builtin.zeroCells z.cells (grownCap w m 0 e - m)) e)) := by
  have hn : ¬ (m ≤ 0) := by omega
  have h63' : ¬ (9223372036854775807 < (m : Int)) := by omega
  have h48' : ¬ (281474976710656 < Builtin.nextslicecap m 0 * i.bytes) := by omega
  have hw : IntKind.i64.wrap (m : Int) = m := wi64 (by omega)
  have hneg : ¬ ((m : Int) < 0) := by omega
  have hbig : ¬ (281474976710656 < (m : Int) * (i.bytes : Int)) := by
    have h2 : (m : Int) * (i.bytes : Int) = ((m * i.bytes : Nat) : Int) := (Int.natCast_mul m i.bytes).symm
    rw [h2]
    generalize m * i.bytes = q at *
    omega
  have hms2 : ¬ (m = 0 ∨ i.size = 0) := by omega
  have hms : ¬ (m * i.size = 0) := by have := Nat.mul_pos hm hs; omega
  have hm0 : ¬ m = 0 := by omega
  simp [Builtin.append_, run_underlying ht, run_underlying hu, Go.sizeOf, typeInfo, zeroValue, asInt, asIntOf, hi, hz, hw, hneg, hbig, hms, hms2, hn, hm0, h63', h48', Question.forced, newRow, grownCap, run_firstCells_none]
end
section
variable {C : Ctx} {ρ : Env} {w W : World} {l : List Atom} {ops : Array Oper} {K' : Env → World → Prop} {d ty : Nat} {pos : String} {af : Array Edge} {x y : Operand} {e : TypeId} {size : Nat}
theorem s_cap (m : Nat) {t : TypeId} {p : Option Addr} {n : Nat} (hx : opv C.n ρ x = .slice p n m) (ht : ∃ e, C.P.underlying t = some (.slice e)) (hn : Nat.blt d C.n = true) (h : K' (upd ρ d (.int .i64 m)) w) : GOp C ops ⟨some d, .call { callee := .builtin .cap, args := #[x], argTypes := #[t] }, ty, pos, af, none⟩ K' ρ w := by
  obtain ⟨e, he⟩ := ht
  refine r_val rfl rfl hn ?_ h
  simp [execOp, resolve, invoke, builtin, hx, Builtin.cap_, run_underlying he, goInt]
/-- There is room. -/
theorem s_append_room {t : TypeId} {u : Value} {p : Option Addr} {n m c bytes : Nat} {xs news : List Value} (H : St W w l) (i : Nat) (hi : l[i]? = some (Row e size (.slice p n c) n xs)) (hc : n + m ≤ c) (hx : opv C.n ρ x = .slice p n c) (hy : opv C.n ρ y = u) (hr : Rd w size u m news)
    (hA : appInfo C.P t e size bytes size) (hsz : 0 < size) (h63 : n + m ≤ maxLen) {n' : Nat} {xs' : List Value} (hn' : n + m = n') (hxs' : xs ++ news = xs') (hn : Nat.blt d C.n = true)
    (h : ∀ w', St W w' (l.set i (Row e size (.slice p n' c) n' xs')) → K' (upd ρ d (.slice p n' c)) w') : GOp C ops ⟨some d, .call { callee := .builtin .append, args := #[x, y], argTypes := #[t, t] }, ty, pos, af, none⟩ K' ρ w := by
  subst hn' hxs'
  obtain ⟨w', hrun, H'⟩ := H.append_room (P := C.P) (t := t) (ty := ty) hi hr hA hsz h63 hc
  refine r_val rfl rfl hn ?_ (h w' H')
  simp [execOp, resolve, invoke, builtin, hx, hy, hrun]
/-- Room made where there was nothing. -/
theorem s_append0n {t u : TypeId} {k : IntKind} {z : Value} {m bytes : Nat} (H : St W w l) (hm0 : 0 < m) (hx : opv C.n ρ x = .slice none 0 0) (hy : opv C.n ρ y = .int .i64 (m : Int))
    (ht : C.P.underlying t = some (.slice e)) (hu : C.P.underlying u = some (.int k)) (hI : (C.P.info? e).map (fun i => (i.zero, i.size, i.bytes)) = some (some z, size, bytes)) (hzs : z.cells.size = size)
    (hsz : 0 < size) (hb0 : 0 < bytes) (h63 : m ≤ maxLen) (hbytes : m * bytes ≤ 281474976710656) (hn : Nat.blt d C.n = true)
    (h : ∀ g c cur w', St W w' (blk g (.cells cur e) :: l) → m ≤ c → c ≤ maxLen → cur.size = c * size → K' (upd ρ d (.slice (some ⟨g, 0, none⟩) m c)) w') : GOp C ops ⟨some d, .call { callee := .builtin .append, args := #[x, y], argTypes := #[t, u] }, ty, pos, af, none⟩ K' ρ w := by
  cases hti : C.P.info? e with
  | none => simp [hti] at hI
  | some ti =>
    simp only [hti, Option.map_some, Option.some.injEq, Prod.mk.injEq] at hI
    obtain ⟨hz, rfl, rfl⟩ := hI
    have hfit : Builtin.nextslicecap m 0 * ti.bytes ≤ 281474976710656 := by unfold Builtin.nextslicecap; rw [if_pos (by omega)]; exact hbytes
    have hrun := run_append_nil0 (P := C.P) w t u ty e k ti z ht hu hti hz m hm0 hsz hbytes hb0 (by simp only [maxLen] at h63; omega) hfit
    have hge := grownCap_ge w m 0 e
    have hcm : grownCap w m 0 e ≤ maxLen := grownCap_le_maxLen w m 0 e h63
    refine r_val rfl rfl hn ?_ (h _ (grownCap w m 0 e) (Builtin.zeroCells z.cells m ++ Builtin.zeroCells z.cells (grownCap w m 0 e - m)) _ ((H.drew).alloc _) hge hcm (by
      simp only [Array.size_append, size_zeroCells, hzs, ← Nat.add_mul]
      congr 1
      omega))
    simp [execOp, resolve, invoke, builtin, hx, hy, hrun]
end
theorem bnds_app {W w : World} {F : List Atom} {L M : List BoundD} {i j : Nat} (H : St W w F) (hi : F[i]? = some (bndsA L)) (hj : F[j]? = some (bndsA M)) : St W w (bndsA (L ++ M) :: F) := by
  have H2 := (H.dup hi (bndsA_pers L)).dup (i := j + 1) (by exact hj) (bndsA_pers M)
  refine H2.merge fun I h1 h2 a b _ => ?_
  have e1 := bndsA_pers _ _ _ a
  have e2 := bndsA_pers _ _ _ b
  subst e1; subst e2
  refine ⟨rfl, fun x hx => ?_⟩
  rw [List.map_append, List.map_append, List.mem_append] at hx
  exact hx.elim (b.2 x) (a.2 x)
theorem map_take_snoc {L : List BoundD} {j : Nat} (h : j < L.length) : (L.take (j + 1)).map BoundD.var = (L.take j).map BoundD.var ++ [(L.getD j default).var] := by
  rw [take_getD h, List.map_append]; rfl
end Sl
