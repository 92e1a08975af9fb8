/- Two ends at a law: rows lent, masks, what is done. No condition. -/
import Derived.Test.YthggoibbkloefaaSlEB
import Derived.Test.YthggoibbkloefaaSlAB
import Derived.Test.YthggoibbkloefaaSlN
namespace Sl
open _root_.Go _root_.Go.RowKit
set_option linter.all false
/-! ## two rows are lent -/
theorem Stars2L {I : Heap} {A B : Atom} {g : Heap} : (star [A, B]).sat I g ↔ ∃ h1 h2, h1.disj h2 ∧ g = h1.union h2 ∧ A.sat I h1 ∧ B.sat I h2 := by
  constructor
  · rintro ⟨h1, h2, d, e, a, h3, h4, d2, e2, b, e5⟩
    have e5 : h4 = Heap.none := e5
    subst e5
    rw [Heap.union_none] at e2
    subst e2
    exact ⟨h1, h2, d, e, a, b⟩
  · rintro ⟨h1, h2, d, e, a, b⟩
    exact ⟨h1, h2, d, e, a, h2, Heap.none, Heap.disj_none _, (Heap.union_none _).symm, b, rfl⟩
theorem star_solidL {l : List Atom} (h : ∀ A ∈ l, A.solid) : (star l).solid := by
  intro I J
  induction l with
  | nil => exact fun _ e => e
  | cons A l ih => rintro g ⟨h1, h2, d, e, a, s⟩; exact ⟨h1, h2, d, e, h A (List.mem_cons_self ..) I J h1 a, ih (fun B hB => h B (List.mem_cons_of_mem _ hB)) h2 s⟩
section
variable {W w : World} {A B Q : Atom} {G : List Atom} {i : Nat}
theorem St.lentQL (hAB : ∀ I h, A.sat I h → h.le I → B.sat I Heap.none) (H : St W w (A :: G)) (hq : G[i]? = some Q) (hQ : Q.pers) : ∃ I ha, A.sat I ha ∧ St W w [B, Q, kept ha G] := by
  obtain ⟨I, h, dI, hI, hh, ha, hg, d, e, a, s⟩ := H.mem
  subst e
  have q := Stars.pers_at2 s hq hQ
  have ⟨dI1, dI2⟩ := Heap.disj_union_right.1 dI
  have hle : I.le (I.union ha) := Heap.le_union_left I ha
  have hla : ha.le (I.union ha) := Heap.le_union_right dI1
  refine ⟨I, ha, a, ⟨H.os, H.tape, H.output, I.union ha, hg, Heap.disj_union_left.2 ⟨dI2, d⟩, Heap.union_le hI (Heap.le_trans (Heap.le_union_left ha hg) hh), Heap.le_trans (Heap.le_union_right d) hh, ?_⟩⟩
  refine ⟨Heap.none, hg, Heap.none_disj hg, (Heap.none_union hg).symm, hAB _ _ (A.mono _ _ _ hle a) hla, ?_⟩
  refine ⟨Heap.none, hg, Heap.none_disj hg, (Heap.none_union hg).symm, Q.mono _ _ _ hle q, ?_⟩
  exact ⟨hg, Heap.none, Heap.disj_none hg, (Heap.union_none hg).symm, ⟨hla, I, hle, dI1, s⟩, rfl⟩
theorem lendQL {P : Program} {k : FuncId} {args : Array Value} {p : Value → Prop} (hA : A.solid) (hB : B.pers) (hAB : ∀ I h, A.sat I h → h.le I → B.sat I Heap.none) (H : St W w (A :: G)) (hq : G[i]? = some Q) (hQ : Q.pers)
    (C : ∀ F : List Atom, F[0]? = some B → F[1]? = some Q → St W w F → Calls P k args w (Ret fun v w' => p v ∧ St W w' F)) : Calls P k args w (Ret fun v w' => p v ∧ St W w' (A :: G)) := by
  obtain ⟨I, ha, a, H2⟩ := St.lentQL hAB H hq hQ
  refine (C _ rfl rfl H2).mono fun e w' hh => ?_
  cases e with
  | returned v =>
    obtain ⟨hp, H3⟩ := hh
    have H4 : St W w' [emp, B, kept ha G] := (H3.drop 1 rfl).cons_emp
    exact ⟨hp, (St.unlent (X := emp) emp_solid hA a hB H4).drop 0 rfl⟩
  | _ => exact hh.elim
end
def Im2 (s1 : Nat) (v1 : Value) (n1 : Nat) (x1 : List Value) (s2 : Nat) (v2 : Value) (n2 : Nat) (x2 : List Value) : Atom := ⟨fun I h => h = Heap.none ∧ (Im s1 v1 n1 x1).sat I Heap.none ∧ (Im s2 v2 n2 x2).sat I Heap.none, fun I J h hl ⟨a, b, c⟩ => ⟨a, (Im s1 v1 n1 x1).mono I J _ hl b, (Im s2 v2 n2 x2).mono I J _ hl c⟩⟩
theorem rows_lend {P : Program} {k : FuncId} {args : Array Value} {q : Value → Prop} {W w : World} {F : List Atom} {e1 s1 n1 e2 s2 n2 : Nat} {v1 v2 : Value} {x1 x2 : List Value} {L : List BytesD} {i j a : Nat} (hi : F[i]? = some (Row e1 s1 v1 n1 x1)) (hj : (F.set i emp)[j]? = some (Row e2 s2 v2 n2 x2)) (ha : ((F.set i emp).set j emp)[a]? = some (byA L)) (H : St W w F)
    (C : ∀ G : List Atom, G[0]? = some (Im s1 v1 n1 x1) → G[1]? = some (Im s2 v2 n2 x2) → G[2]? = some (byA L) → St W w G → Calls P k args w (Ret fun v w' => q v ∧ St W w' G)) : Calls P k args w (Ret fun v w' => q v ∧ St W w' F) := by
  have H1 : St W w (star [Row e2 s2 v2 n2 x2, Row e1 s1 v1 n1 x1] :: (F.set i emp).set j emp) := St.shut_star (ls := [_, _]) ((H.front hi).front (i := j + 1) (by exact hj))
  have hp : (Im2 s1 v1 n1 x1 s2 v2 n2 x2).pers := fun _ _ h => h.1
  refine (lendQL (p := q) (B := Im2 s1 v1 n1 x1 s2 v2 n2 x2) (star_solidL fun A hA => by
    simp only [List.mem_cons, List.not_mem_nil, or_false] at hA
    rcases hA with rfl | rfl <;> exact Row_solid _ _ _ _ _) hp (fun I h hs hl => by
      obtain ⟨h1, h2, d, e, r2, r1⟩ := Stars2L.1 hs
      subst e
      exact ⟨rfl, Row_lends I h2 r1 (Heap.le_trans (Heap.le_union_right d) hl), Row_lends I h1 r2 (Heap.le_trans (Heap.le_union_left _ _) hl)⟩) H1 ha (byA_pers L) fun G h0 h1 HG => ?_).mono fun e w' hh => ?_
  · have G2 : St W w (Im s2 v2 n2 x2 :: byA L :: G) := (HG.derive2 (A' := byA L) fun I h => h 1 _ h1 (byA_pers L)).derive2 fun I h => (h 1 _ (by exact h0) hp).2.2
    have G3 : St W w (Im s1 v1 n1 x1 :: Im s2 v2 n2 x2 :: byA L :: G) := G2.derive2 fun I h => (h 2 _ (by exact h0) hp).2.1
    refine (C _ rfl rfl rfl G3).mono fun e w' hh => ?_
    cases e with
    | returned v => exact ⟨hh.1, (((hh.2.drop 0 rfl).drop 0 rfl).drop 0 rfl)⟩
    | _ => exact hh.elim
  · cases e with
    | returned v =>
      have H3 := St.open_star hh.2
      exact ⟨hh.1, St.back_same hi (St.back_same (i := j + 1) (by exact hj) H3)⟩
    | _ => exact hh.elim
theorem Row.capOf {W w : World} {l : List Atom} {i : Nat} {e : TypeId} {size : Nat} {p : Option Addr} {c m n : Nat} {xs : List Value} (H : St W w l) (hi : l[i]? = some (Row e size (.slice p n c) m xs)) : n ≤ c := by
  obtain ⟨I, h1, _, hI, hh, hone, hlen, a⟩ := H.get hi
  rcases a with ⟨hv, hn, _⟩ | ⟨g, cap, cur, hv, hc, _⟩
  · injection hv with q1 q2 q3
    omega
  · injection hv with q1 q2 q3
    omega
/-! ## masks -/
def maskN (n : Int) (m : Nat) : Nat := (BitVec.ofInt 64 n &&& BitVec.ofInt 64 (m : Int)).toNat
theorem maskN_le (n : Int) {m : Nat} (hm : m < 18446744073709551616) : maskN n m ≤ m := by
  unfold maskN
  rw [BitVec.toNat_and]
  have h2 : (BitVec.ofInt 64 (m : Int)).toNat = m := by
    rw [BitVec.ofInt_natCast, BitVec.toNat_ofNat]
    exact Nat.mod_eq_of_lt hm
  rw [h2]
  exact Nat.and_le_right
theorem and_mask (n : Int) {m : Nat} (hm : m < 9223372036854775808) : bitOp .and .i64 n (m : Int) = (maskN n m : Int) := by
  show IntKind.i64.wrap (((BitVec.ofInt 64 n) &&& (BitVec.ofInt 64 (m : Int))).toNat : Int) = _
  have := maskN_le n (m := m) (by omega)
  exact wi64 (by unfold maskN at this; omega)
def slN (n : Int) : Nat := 1 + maskN n 255 % 64
theorem slN_le (n : Int) : 1 ≤ slN n ∧ slN n ≤ 64 := by
  unfold slN
  have := Nat.mod_lt (maskN n 255) (show 0 < 64 by decide)
  omega
/-- A number of any kind as one without a sign. -/
def natU64 (n : Int) : Nat := (n % 18446744073709551616).toNat
theorem natU64_lt (n : Int) : natU64 n < 18446744073709551616 := by unfold natU64; omega
theorem conv_u64 (n : Int) : IntKind.u64.wrap n = (natU64 n : Int) := by
  have h0 : IntKind.u64.wrap n = n % 18446744073709551616 := by simp [IntKind.wrap, IntKind.signed, IntKind.bits]
  rw [h0]; unfold natU64; omega
/-! ## what is done -/
structure ActV where
  do_ : I64
  who : I64
  n : I64
  body : List UInt8
structure ActD where
  v : ActV
  p : Option Addr
  c : Nat
instance : Inhabited ActV := ⟨⟨default, default, default, []⟩⟩
instance : Inhabited ActD := ⟨⟨default, none, 0⟩⟩
def ActD.by (x : ActD) : BytesD := ⟨x.v.body, x.p, x.c⟩
def actCell (x : ActD) : List Value := [.int .i64 x.v.do_.v, .int .i64 x.v.who.v, .int .i64 x.v.n.v, .slice x.p x.v.body.length x.c]
theorem actCell_len (x : ActD) : (actCell x).length = 4 := rfl
theorem one_act (a : ActD) (x : Value) (hx : x ∈ actCell a) : x.oneCell' = true := by
  simp only [actCell, List.mem_cons, List.not_mem_nil, or_false] at hx
  rcases hx with rfl | rfl | rfl | rfl <;> rfl
theorem act_at {L : List ActD} {k : Nat} (hk : k < L.length) : (L.getD k default).by ∈ L.map ActD.by := List.mem_map_of_mem (f := ActD.by) (getD_mem hk)
def whichN (n : I64) (len : Nat) : Nat := natU64 n.v % len
def act0 (P : PairV) (x : ActV) : PairV :=
  if x.do_.v = 0 then give0 P x.body else if x.do_.v = 1 then clock0 P else if x.do_.v = 2 ∧ 0 < P.t0.length then pass0 P (P.t0.getD (whichN x.n P.t0.length) default) else P
def actP (P : PairV) (x : ActV) : PairV := if maskN x.who.v 1 = 0 then act0 P x else swp (act0 (swp P) x)
theorem mask1 (n : Int) : maskN n 1 = 0 ∨ maskN n 1 = 1 := by have := maskN_le n (m := 1) (by decide); omega
theorem whichN_lt {n : I64} {len : Nat} (h : 0 < len) : whichN n len < len := Nat.mod_lt _ h
theorem Inv.picked {sl n P} (h : Inv sl n P) (x : I64) (hl : 0 < P.t0.length) : TOk P.e0 P.g0 (P.t0.getD (whichN x P.t0.length) default) := h.a.t _ (getD_mem (whichN_lt hl))
theorem Inv.act0 {sl n P} (h : Inv sl n P) (hn : n < 1099511627776) (x : ActV) : Inv sl (n + 1) (act0 P x) := by
  unfold Sl.act0
  split
  · exact h.give
  · split
    · exact h.clock hn
    · split
      · rename_i hc
        exact (h.pass (h.picked x.n hc.2)).up
      · exact h.up
theorem Inv.act {sl n P} (h : Inv sl n P) (hn : n < 1099511627776) (x : ActV) : Inv sl (n + 1) (actP P x) := by
  unfold actP
  split
  · exact h.act0 hn x
  · exact (h.swp.act0 hn x).swp
theorem Inv.heldN {sl n P} (h : Inv sl n P) (hn : n ≤ 1099511627776) : P.e1.held.length ≤ 1099511627776 := by
  have h1 := h.a.d.held
  have h2 := h.a.d.under_le
  have h3 := h.a.g
  have hnd := h.a.d.nd
  have h4 : ∀ x ∈ (P.e1.held.map (·.1)).map (fun k : I64 => k.v.toNat), x ∈ List.range n := fun x hx => by
    obtain ⟨k, hk, rfl⟩ := List.mem_map.1 hx
    obtain ⟨y, hy, rfl⟩ := List.mem_map.1 hk
    have := h1 y hy
    rw [List.mem_range]; omega
  have h5 : ((P.e1.held.map (·.1)).map (fun k : I64 => k.v.toNat)).Nodup := by
    rw [List.nodup_iff_pairwise_ne, List.pairwise_map]
    refine List.Pairwise.imp_of_mem (R := fun a b => a ≠ b) (fun {a b} ha hb hne e => hne ?_) hnd
    obtain ⟨y, hy, rfl⟩ := List.mem_map.1 ha
    obtain ⟨z, hz, rfl⟩ := List.mem_map.1 hb
    have := h1 y hy
    have := h1 z hz
    exact I64.eq (by omega)
  have h6 := List.Nodup.length_le_of_subset h5 (fun x hx => h4 x hx)
  rw [List.length_map, List.length_map, List.length_range] at h6
  omega
/-- Where what a pair has lies. -/
structure PairQ where
  l0 : Nat
  l1 : Nat
  p1 : Option Addr
  k1 : Nat
  p2 : Option Addr
  k2 : Nat
  p3 : Option Addr
  k3 : Nat
  p4 : Option Addr
  k4 : Nat
  p5 : Option Addr
  k5 : Nat
  p6 : Option Addr
  k6 : Nat
theorem Row.lenOf {W w : World} {l : List Atom} {i : Nat} {e : TypeId} {size : Nat} {v : Value} {m : Nat} {xs : List Value} (H : St W w l) (hi : l[i]? = some (Row e size v m xs)) : m ≤ 9223372036854775807 := by
  obtain ⟨I, h1, _, hI, hh, hone, hlen, a⟩ := H.get hi
  rcases a with ⟨hv, hn, _⟩ | ⟨g, cap, cur, hv, hc, hm, _⟩
  · omega
  · unfold maxLen at hm; omega
theorem take_by {L : List BytesD} {n : Nat} : ∀ y ∈ L.take n, y ∈ L := fun y hy => List.take_subset _ _ hy
theorem by_in {L : List BytesD} {k : Nat} (hk : k < L.length) : L.getD k default ∈ L := getD_mem hk
theorem same_at {D M : List BytesD} (h : D.map BytesD.data = M.map BytesD.data) (j : Nat) : (D.getD j default).data = (M.getD j default).data := by rw [byAt h j, byAt rfl j]
def dgAck1 : DgM := ⟨i64' 1, i64' 0, i64' 2, i64' 0, i64' 1, []⟩
theorem Inv.sent_not {sl n P b} (h : Inv sl n P) (hn : n < 1099511627776) (hE : ¬ sendE P.e0 b = 0) : 16384 < b.length ∨ 4096 ≤ P.e0.l.length := by
  have h1 := h.a.d.len
  have h2 := h.a.g
  by_cases hc : 16384 < b.length ∨ 4096 ≤ P.e0.l.length
  · exact hc
  · exact absurd (sendE_0 (by omega) (by omega)) hE
theorem drain_len : ∀ (n c : Nat) (h : List (I64 × List UInt8)), (drain n c h).1.length ≤ n
  | 0, _, _ => Nat.le_refl 0
  | n + 1, c, h => by
    cases hg : aget h (i64N c) with
    | none => rw [drain_none hg]; exact Nat.zero_le _
    | some b => rw [drain_some hg]; exact Nat.succ_le_succ (drain_len n _ _)
theorem Inv.takeN {sl n P d} (h : Inv sl n P) (hn : n < 1099511627776) (_ : TOk P.e0 P.g0 d) : (takeT P.e1 d).length ≤ 1099511627776 := by
  have h1 := h.heldN (Nat.le_of_lt hn)
  have h2 : P.e1.held.length ≤ n := by
    have h1 := h.a.d.held
    have h2 := h.a.d.under_le
    have h3 := h.a.g
    have hnd := h.a.d.nd
    have h4 : ∀ x ∈ (P.e1.held.map (·.1)).map (fun k : I64 => k.v.toNat), x ∈ List.range n := fun x hx => by
      obtain ⟨k, hk, rfl⟩ := List.mem_map.1 hx
      obtain ⟨y, hy, rfl⟩ := List.mem_map.1 hk
      have := h1 y hy
      rw [List.mem_range]; omega
    have h5 : ((P.e1.held.map (·.1)).map (fun k : I64 => k.v.toNat)).Nodup := by
      rw [List.nodup_iff_pairwise_ne, List.pairwise_map]
      refine List.Pairwise.imp_of_mem (R := fun a b => a ≠ b) (fun {a b} ha hb hne e => hne ?_) hnd
      obtain ⟨y, hy, rfl⟩ := List.mem_map.1 ha
      obtain ⟨z, hz, rfl⟩ := List.mem_map.1 hb
      have := h1 y hy
      have := h1 z hz
      exact I64.eq (by omega)
    have h6 := List.Nodup.length_le_of_subset h5 (fun x hx => h4 x hx)
    rw [List.length_map, List.length_map, List.length_range] at h6
    exact h6
  unfold takeT
  split
  · unfold takeC
    split
    · exact Nat.zero_le _
    · exact Nat.le_trans (drain_len _ _ _) (by omega)
  · exact Nat.zero_le _
theorem sendE_len {s : EndV} {b : List UInt8} (h : sendE s b = 0) : b.length ≤ 16384 := by
  by_cases hc : 16384 < b.length
  · rw [sendE_3 (.inl hc)] at h; cases h
  · omega
def actOk (I : Heap) (a : ActD) : Prop := (DtA a.p a.c a.v.body).sat I Heap.none
theorem acts_sat {I : Heap} {l : List ActD} (h : ∀ x ∈ l, actOk I x) : (byA (l.map ActD.by)).sat I Heap.none := ⟨rfl, fun x hx => by
  obtain ⟨y, hy, rfl⟩ := List.mem_map.1 hx
  exact h y hy⟩
end Sl
