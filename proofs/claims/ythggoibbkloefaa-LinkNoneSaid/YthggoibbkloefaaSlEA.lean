/- Ends of a way as data. No condition. -/
import Derived.Test.YthggoibbkloefaaSlDI
import Derived.Test.YthggoibbkloefaaSlM
namespace Sl
open _root_.Go _root_.Go.RowKit
set_option linter.all false
set_option linter.unusedSimpArgs false
/-! ## bytes of many -/
/-- What slices of bytes hold. -/
def byA (L : List BytesD) : Atom := ⟨fun I h => h = Heap.none ∧ ∀ x ∈ L, (DtA x.p x.c x.data).sat I Heap.none, fun I J h hl ⟨a, b⟩ => ⟨a, fun x hx => (DtA x.p x.c x.data).mono I J _ hl (b x hx)⟩⟩
theorem byA_pers (L : List BytesD) : (byA L).pers := fun _ _ h => h.1
section
variable {W w : World} {F : List Atom} {i j : Nat} {L M : List BytesD} {x : BytesD}
theorem byA_nil (H : St W w F) : St W w (byA [] :: F) := H.derive2 fun I _ => ⟨rfl, fun x hx => by cases hx⟩
theorem byA_sub (H : St W w F) (hi : F[i]? = some (byA L)) (h : ∀ x ∈ M, x ∈ L) : St W w (byA M :: F) := H.derive2 fun I hI => ⟨rfl, fun x hx => (hI i _ hi (byA_pers L)).2 x (h x hx)⟩
theorem byA_at (H : St W w F) (hi : F[i]? = some (byA L)) (h : x ∈ L) : St W w (DtA x.p x.c x.data :: F) := H.derive2 fun I hI => (hI i _ hi (byA_pers L)).2 x h
theorem byA_add (H : St W w F) (hi : F[i]? = some (byA L)) (hj : F[j]? = some (DtA x.p x.c x.data)) (h : ∀ y ∈ M, y ∈ L ∨ y = x) : St W w (byA M :: F) := H.derive2 fun I hI => ⟨rfl, fun y hy => by
  rcases h y hy with hy | hy
  ·exact (hI i _ hi (byA_pers L)).2 y hy
  ·subst hy; exact hI j _ hj (DtA_pers _ _ _)⟩
theorem byA_app {K : List BytesD} (H : St W w F) (hi : F[i]? = some (byA L)) (hj : F[j]? = some (byA K)) (h : ∀ y ∈ M, y ∈ L ∨ y ∈ K) : St W w (byA M :: F) := H.derive2 fun I hI => ⟨rfl, fun y hy => by
  rcases h y hy with hy | hy
  ·exact (hI i _ hi (byA_pers L)).2 y hy
  ·exact (hI j _ hj (byA_pers K)).2 y hy⟩
end
theorem getD_mem {α : Type} {L : List α} {i : Nat} {d : α} (h : i < L.length) : L.getD i d ∈ L := by
 rw [List.getD_eq_getElem?_getD, List.getElem?_eq_getElem h]; exact List.getElem_mem h
/-! ## bodies -/
structure BodV where
 b : List UInt8
 sent : Bool
 tm : Nat
structure BodD where
 v : BodV
 p : Option Addr
 c : Nat
instance : Inhabited BodV := ⟨⟨[], false, 0⟩⟩
instance : Inhabited BodD := ⟨⟨default, none, 0⟩⟩
def BodD.by (x : BodD) : BytesD := ⟨x.v.b, x.p, x.c⟩
def bodCell (x : BodD) : List Value := [.slice x.p x.v.b.length x.c, .bool x.v.sent, .int .i64 x.v.tm]
theorem bodCell_len (x : BodD) : (bodCell x).length = 3 := rfl
theorem one_bod (a : BodD) (x : Value) (hx : x ∈ bodCell a) : x.oneCell' = true := by
 simp only [bodCell, List.mem_cons, List.not_mem_nil, or_false] at hx
 rcases hx with rfl | rfl | rfl <;> rfl
instance : Inhabited DgD := ⟨⟨default, none, 0⟩⟩
def DgD.by (x : DgD) : BytesD := ⟨x.d.body, x.p, x.c⟩
theorem dgdCell_len (x : DgD) : (dgdCell x).length = 6 := rfl
def byCell (x : BytesD) : List Value := [evD x]
theorem byCell_len (x : BytesD) : (byCell x).length = 1 := rfl
/-! ## an end -/
structure EndV where
 frm : I64
 to_ : I64
 slide : Nat
 l : List BodV
 acked : Nat
 came : Nat
 held : List (I64 × List UInt8)
 clock : Nat
 owes : Bool
def mapB (E : List (I64 × BytesD)) : List (I64 × List UInt8) := E.map fun x => (x.1, x.2.data)
theorem kidx_map {κ ν μ : Type} [DecidableEq κ] (f : ν → μ) (k : κ) : ∀ (L : List (κ × ν)), kidx (L.map fun x => (x.1, f x.2)) k = kidx L k := by
 intro L
 unfold kidx
 rw [List.findIdx_map]; rfl
theorem aget_map {κ ν μ : Type} [DecidableEq κ] (f : ν → μ) (L : List (κ × ν)) (k : κ) : aget (L.map fun x => (x.1, f x.2)) k = (aget L k).map f := by
 unfold aget
 rw [kidx_map, List.getElem?_map]
 cases L[kidx L k]? <;> rfl
theorem ahas_map {κ ν μ : Type} [DecidableEq κ] (f : ν → μ) (L : List (κ × ν)) (k : κ) : ahas (L.map fun x => (x.1, f x.2)) k = ahas L k := by
 rw [← aget_has, ← aget_has, aget_map]; cases aget L k <;> rfl
theorem adel_map {κ ν μ : Type} [DecidableEq κ] (f : ν → μ) (L : List (κ × ν)) (k : κ) : adel (L.map fun x => (x.1, f x.2)) k = (adel L k).map fun x => (x.1, f x.2) := by
 unfold adel
 rw [kidx_map]
 generalize kidx L k = n
 induction L generalizing n with
 | nil => rfl
 | cons a l ih => cases n with
  | zero => rfl
  | succ n => show _ :: _ = _ :: _; rw [ih]
theorem mapB_get {E : List (I64 × BytesD)} {h : List (I64 × List UInt8)} (e : mapB E = h) (k : I64) : aget h k = (aget E k).map BytesD.data := by subst e; exact aget_map _ _ _
theorem mapB_has {E : List (I64 × BytesD)} {h : List (I64 × List UInt8)} (e : mapB E = h) (k : I64) : ahas h k = ahas E k := by subst e; exact ahas_map _ _ _
theorem mapB_del {E : List (I64 × BytesD)} {h : List (I64 × List UInt8)} (e : mapB E = h) (k : I64) : mapB (adel E k) = adel h k := by subst e; exact (adel_map _ _ _).symm
theorem mapB_len {E : List (I64 × BytesD)} {h : List (I64 × List UInt8)} (e : mapB E = h) : h.length = E.length := by subst e; exact List.length_map _
theorem mapB_set {E : List (I64 × BytesD)} {h : List (I64 × List UInt8)} (e : mapB E = h) {k : I64} (x : BytesD) (hn : ahas h k = false) : mapB (aset E k x) = h ++ [(k, x.data)] := by
 rw [aset_new (by rw [← mapB_has e]; exact hn)]; subst e; simp [mapB]
theorem adel_len {κ ν : Type} [DecidableEq κ] {L : List (κ × ν)} {k : κ} (h : ahas L k = true) : (adel L k).length + 1 = L.length := by
 rw [kidx_has] at h
 have h2 := of_decide_eq_true h
 unfold adel
 rw [List.length_eraseIdx, if_pos h2]; omega
theorem adel_sub {κ ν : Type} [DecidableEq κ] {L : List (κ × ν)} {k : κ} {x : κ × ν} (h : x ∈ adel L k) : x ∈ L := List.mem_of_mem_eraseIdx h
theorem has_of_get {κ ν : Type} [DecidableEq κ] {L : List (κ × ν)} {k : κ} {v : ν} (h : aget L k = some v) : ahas L k = true := by rw [← aget_has, h]; rfl
def mby (E : List (I64 × BytesD)) : List BytesD := E.map (·.2)
theorem mby_get {E : List (I64 × BytesD)} {k : I64} {x : BytesD} (h : aget E k = some x) : x ∈ mby E := List.mem_map_of_mem (f := (·.2)) (aget_mem h)
theorem mby_set {E : List (I64 × BytesD)} {k : I64} {x : BytesD} (h : ahas E k = false) : ∀ y ∈ mby (aset E k x), y ∈ mby E ∨ y = x := by
 intro y hy
 unfold mby at hy
 rw [aset_new h, List.map_append, List.mem_append] at hy
 exact hy.imp id List.mem_singleton.1
theorem mby_del {E : List (I64 × BytesD)} {k : I64} : ∀ y ∈ mby (adel E k), y ∈ mby E := by
 intro y hy
 obtain ⟨z, hz, rfl⟩ := List.mem_map.1 hy
 exact List.mem_map_of_mem (f := (·.2)) (adel_sub hz)
/-- Bodies that are asked for, among the first so many: sent again. -/
def mk1 (t : Nat) (x : BodV) : BodV := ⟨x.b, true, t⟩
def ns (x : BodV) : Bool := !x.sent
def rs (t : Nat) (x : BodV) : Bool := x.sent && decide (4 ≤ (t : Int) - (x.tm : Int))
def goL (q : BodV → Bool) (t : Nat) (l : List BodV) : Nat → List BodV
 | 0 => l
 | k + 1 => if q (l.getD k default) then (goL q t l k).set k (mk1 t (l.getD k default)) else goL q t l k
def dgOf (s : EndV) (i : Nat) (b : List UInt8) : DgM := ⟨s.frm, s.to_, i64N 1, i64N (s.acked + i), i64N s.came, b⟩
def ackOf (s : EndV) : DgM := ⟨s.frm, s.to_, i64N 2, i64N 0, i64N s.came, []⟩
def goT (q : BodV → Bool) (s : EndV) : Nat → List DgM
 | 0 => []
 | k + 1 => goT q s k ++ (if q (s.l.getD k default) then [dgOf s k (s.l.getD k default).b] else [])
theorem goL_len (q : BodV → Bool) (t : Nat) (l : List BodV) : ∀ k, (goL q t l k).length = l.length
 | 0 => rfl
 | k + 1 => by
  unfold goL
  split
  ·rw [List.length_set]; exact goL_len q t l k
  ·exact goL_len q t l k
theorem goL_at (q : BodV → Bool) (t : Nat) (l : List BodV) : ∀ k j, (goL q t l k).getD j default = if j < k ∧ j < l.length ∧ q (l.getD j default) = true then mk1 t (l.getD j default) else l.getD j default
 | 0, j => by unfold goL; rw [if_neg (by omega)]
 | k + 1, j => by
  have ih := goL_at q t l k j
  have hl := goL_len q t l k
  unfold goL
  by_cases hq : q (l.getD k default) = true
  ·rw [if_pos hq]
   by_cases hjk : j = k
   ·subst hjk
    by_cases hjl : j < l.length
    ·rw [if_pos ⟨by omega, hjl, hq⟩, List.getD_eq_getElem?_getD, List.getElem?_set_self (by omega)]; rfl
    ·rw [if_neg (fun e => hjl e.2.1), List.getD_eq_getElem?_getD, List.getElem?_eq_none (by rw [List.length_set]; omega), List.getD_eq_getElem?_getD, List.getElem?_eq_none (by omega)]
   ·rw [List.getD_eq_getElem?_getD, List.getElem?_set_ne (fun e => hjk e.symm), ← List.getD_eq_getElem?_getD, ih]
    by_cases hc : j < k ∧ j < l.length ∧ q (l.getD j default) = true
    ·rw [if_pos hc, if_pos ⟨by omega, hc.2⟩]
    ·rw [if_neg hc, if_neg (fun e => hc ⟨by omega, e.2⟩)]
  ·rw [if_neg hq, ih]
   by_cases hc : j < k ∧ j < l.length ∧ q (l.getD j default) = true
   ·rw [if_pos hc, if_pos ⟨by omega, hc.2⟩]
   ·rw [if_neg hc, if_neg (fun e => hc ⟨by
     rcases Nat.lt_succ_iff_lt_or_eq.1 e.1 with h | h
     ·exact h
     ·subst h; exact absurd e.2.2 hq, e.2⟩)]
theorem goL_next (q : BodV → Bool) (t : Nat) (l : List BodV) (k : Nat) : (goL q t l k).getD k default = l.getD k default := by rw [goL_at, if_neg (by omega)]
theorem goL_yes {q : BodV → Bool} {t : Nat} {l : List BodV} {k : Nat} (h : q (l.getD k default) = true) : goL q t l (k + 1) = (goL q t l k).set k (mk1 t (l.getD k default)) := if_pos h
theorem goL_no {q : BodV → Bool} {t : Nat} {l : List BodV} {k : Nat} (h : q (l.getD k default) = false) : goL q t l (k + 1) = goL q t l k := if_neg (by rw [h]; simp)
theorem goT_yes {q : BodV → Bool} {s : EndV} {k : Nat} (h : q (s.l.getD k default) = true) : goT q s (k + 1) = goT q s k ++ [dgOf s k (s.l.getD k default).b] := by rw [goT, if_pos h]
theorem goT_no {q : BodV → Bool} {s : EndV} {k : Nat} (h : q (s.l.getD k default) = false) : goT q s (k + 1) = goT q s k := by rw [goT, if_neg (by rw [h]; simp), List.append_nil]
theorem goT_len (q : BodV → Bool) (s : EndV) : ∀ k, (goT q s k).length ≤ k
 | 0 => Nat.le_refl 0
 | k + 1 => by
  have := goT_len q s k
  rw [goT, List.length_append]; split <;> simp <;> omega
def winN (s : EndV) : Nat := min s.slide s.l.length
/-- The bodies that are asked for go. -/
def thT (q : BodV → Bool) (s : EndV) : List DgM := goT q s (winN s)
def thS (q : BodV → Bool) (s : EndV) : EndV := { s with l := goL q s.clock s.l (winN s), owes := s.owes && (thT q s).isEmpty }
def outT (s : EndV) : List DgM := if thT ns s = [] ∧ s.owes = true then [ackOf s] else thT ns s
def outS (s : EndV) : EndV := { s with l := goL ns s.clock s.l (winN s), owes := false }
def tick1 (s : EndV) : EndV := { s with clock := s.clock + 1 }
def tick2 (s : EndV) : EndV := thS (rs (s.clock + 1)) (tick1 s)
def tickT (s : EndV) : List DgM := thT (rs (s.clock + 1)) (tick1 s) ++ outT (tick2 s)
def tickS (s : EndV) : EndV := outS (tick2 s)
def sendE (s : EndV) (b : List UInt8) : Int := if 16384 < b.length ∨ 1099511627776 ≤ s.acked + s.l.length then 3 else if 4096 ≤ s.l.length then 6 else 0
def sendS (s : EndV) (b : List UInt8) : EndV := if sendE s b = 0 then { s with l := s.l ++ [⟨b, false, 0⟩] } else s
def under (s : EndV) : Nat := s.l.findIdx fun x => !x.sent
theorem under_le (s : EndV) : under s ≤ s.l.length := List.findIdx_le_length
theorem under_at {s : EndV} {i : Nat} (h : i < under s) : (s.l.getD i default).sent = true := by
 have h2 := List.not_of_lt_findIdx h
 have h3 := under_le s
 rw [List.getD_eq_getElem?_getD, List.getElem?_eq_getElem (by omega)]
 simpa using h2
theorem under_end {s : EndV} (h : under s < s.l.length) : (s.l.getD (under s) default).sent = false := by
 have h2 : (!(s.l[under s]'h).sent) = true := List.findIdx_getElem (w := h)
 rw [List.getD_eq_getElem?_getD, List.getElem?_eq_getElem h]
 show (s.l[under s]'h).sent = false
 cases hs : (s.l[under s]'h).sent with
 | false => rfl
 | true => rw [hs] at h2; cases h2
/-- A datagram that is not of this end. -/
def stray (s : EndV) (d : DgM) : Bool := decide (¬ d.frm.v = s.to_.v ∨ ¬ d.to_.v = s.frm.v ∨ (s.acked : Int) + (under s : Int) < d.ack.v ∨ (d.kind.v = 1 ∧ (s.came : Int) + 64 ≤ d.seq.v))
def takeE (s : EndV) (d : DgM) : Int := if dgE d = 0 then (if stray s d = true then 210 else 0) else dgE d
def ackS (s : EndV) (a : Int) : EndV := if (s.acked : Int) < a then { s with l := s.l.drop (a.toNat - s.acked), acked := a.toNat } else s
/-- What comes in turn. -/
def drain : Nat → Nat → List (I64 × List UInt8) → List (List UInt8) × Nat × List (I64 × List UInt8)
 | 0, c, h => ([], c, h)
 | n + 1, c, h => match aget h (i64N c) with
  | none => ([], c, h)
  | some b => (b :: (drain n (c + 1) (adel h (i64N c))).1, (drain n (c + 1) (adel h (i64N c))).2)
theorem drain_none {c : Nat} {h : List (I64 × List UInt8)} (e : aget h (i64N c) = none) : ∀ n, drain n c h = ([], c, h)
 | 0 => rfl
 | n + 1 => by rw [drain, e]
theorem drain_some {n c : Nat} {h : List (I64 × List UInt8)} {b : List UInt8} (e : aget h (i64N c) = some b) : drain (n + 1) c h = (b :: (drain n (c + 1) (adel h (i64N c))).1, (drain n (c + 1) (adel h (i64N c))).2) := by rw [drain, e]
/-- The state while what came is taken. -/
def DrI (d0 : List (List UInt8) × Nat × List (I64 × List UInt8)) (o : List (List UInt8)) (c : Nat) (h : List (I64 × List UInt8)) : Prop := d0 = (o ++ (drain h.length c h).1, (drain h.length c h).2)
theorem DrI.start (c : Nat) (h : List (I64 × List UInt8)) : DrI (drain h.length c h) [] c h := rfl
theorem DrI.stop {d0 o c h} (H : DrI d0 o c h) (e : ahas h (i64N c) = false) : d0 = (o, c, h) := by
 have e2 : aget h (i64N c) = none := by
  have := aget_has h (i64N c)
  rw [e] at this
  cases hg : aget h (i64N c) with
  | none => rfl
  | some a => rw [hg] at this; cases this
 unfold DrI at H
 rw [drain_none e2] at H
 rw [H, List.append_nil]
theorem DrI.step {d0 o c h} {b : List UInt8} (H : DrI d0 o c h) (e : aget h (i64N c) = some b) : DrI d0 (o ++ [b]) (c + 1) (adel h (i64N c)) := by
 unfold DrI at *
 have hl := adel_len (has_of_get e)
 rw [← hl, drain_some e] at H
 rw [H, List.append_assoc]; rfl
def takeC (s : EndV) (d : DgM) : List (List UInt8) × Nat × List (I64 × List UInt8) :=
 if d.seq.v < (s.came : Int) ∨ ahas s.held d.seq = true then ([], s.came, s.held) else drain (s.held.length + 1) s.came (s.held ++ [(d.seq, d.body)])
def takeS (s : EndV) (d : DgM) : EndV :=
 if takeE s d = 0 then (if d.kind.v = 1 then { ackS s d.ack.v with owes := true, came := (takeC s d).2.1, held := (takeC s d).2.2 } else ackS s d.ack.v) else s
def takeT (s : EndV) (d : DgM) : List (List UInt8) := if takeE s d = 0 ∧ d.kind.v = 1 then (takeC s d).1 else []
def idle (s : EndV) : Bool := decide (s.l.length = 0) && decide (s.held.length = 0) && !s.owes
/-- Small enough for the machine's numbers. -/
def endOk (s : EndV) : Prop := s.clock ≤ 4611686018427387904 ∧ (∀ i, i < s.l.length → (s.l.getD i default).tm ≤ 4611686018427387904 ∧ (s.l.getD i default).b.length ≤ 16384) ∧ s.acked + s.l.length ≤ 1099511627776 ∧ s.came ≤ 1099511627777 ∧ 1 ≤ s.slide ∧ s.slide ≤ 64 ∧ ∀ x ∈ s.held, x.1.v ≤ 1099511627776
theorem bodAt {L : List BodD} {l : List BodV} (h : L.map BodD.v = l) (i : Nat) : (L.getD i default).v = l.getD i default := by
 subst h
 rw [List.getD_eq_getElem?_getD, List.getD_eq_getElem?_getD, List.getElem?_map]
 cases L[i]? <;> rfl
theorem lenOf {α β : Type} {f : α → β} {L : List α} {l : List β} (h : L.map f = l) : L.length = l.length := by subst h; rw [List.length_map]
theorem flat_app {α β : Type} (f : α → List β) (L M : List α) : (L ++ M).flatMap f = L.flatMap f ++ M.flatMap f := List.flatMap_append
theorem flat_one {α β : Type} (f : α → List β) (x : α) : [x].flatMap f = f x := by simp
/-- One body goes. -/
def dtS (s : EndV) (i : Nat) : EndV := { s with l := s.l.set i (mk1 s.clock (s.l.getD i default)), owes := false }
def thK (q : BodV → Bool) (s : EndV) (k : Nat) : EndV := { s with l := goL q s.clock s.l k, owes := s.owes && (goT q s k).isEmpty }
theorem thK_0 (q : BodV → Bool) (s : EndV) : thK q s 0 = s := by
 unfold thK goL goT
 cases s; simp
theorem thK_yes {q : BodV → Bool} {s : EndV} {k : Nat} (h : q (s.l.getD k default) = true) : dtS (thK q s k) k = thK q s (k + 1) := by
 unfold dtS thK
 simp only [goL_yes h, goT_yes h, goL_next]
 simp
theorem thK_no {q : BodV → Bool} {s : EndV} {k : Nat} (h : q (s.l.getD k default) = false) : thK q s k = thK q s (k + 1) := by
 unfold thK
 rw [goL_no h, goT_no h]
theorem thK_at (q : BodV → Bool) (s : EndV) (k : Nat) : (thK q s k).l.getD k default = s.l.getD k default := goL_next q s.clock s.l k
theorem thK_len (q : BodV → Bool) (s : EndV) (k : Nat) : (thK q s k).l.length = s.l.length := goL_len q s.clock s.l k
theorem getD_set_self {α : Type} {L : List α} {i : Nat} {a d : α} (h : i < L.length) : (L.set i a).getD i d = a := by
 rw [List.getD_eq_getElem?_getD, List.getElem?_set_self h]; rfl
theorem endOk_thK {q : BodV → Bool} {s : EndV} (h : endOk s) (k : Nat) : endOk (thK q s k) := by
 obtain ⟨h1, h2, h3, h4, h5, h6⟩ := h
 refine ⟨h1, fun i hi => ?_, by rw [thK_len]; exact h3, h4, h5, h6⟩
 show ((goL q s.clock s.l k).getD i default).tm ≤ _ ∧ ((goL q s.clock s.l k).getD i default).b.length ≤ _
 rw [goL_at]
 rw [thK_len] at hi
 split
 ·exact ⟨h1, (h2 i hi).2⟩
 ·exact h2 i hi
theorem endOk_th {q : BodV → Bool} {s : EndV} (h : endOk s) : endOk (thS q s) := endOk_thK h (winN s)
theorem endOk_tick1 {s : EndV} (h : endOk s) (h2 : s.clock + 1 ≤ 4611686018427387904) : endOk (tick1 s) := ⟨h2, h.2⟩
theorem endOk_owes {s : EndV} (h : endOk s) (b : Bool) : endOk { s with owes := b } := h
theorem endOk_out {s : EndV} (h : endOk s) : endOk (outS s) := endOk_owes (endOk_th h) false
theorem under_eq {s : EndV} {n : Nat} (h : ∀ j, j < n → (s.l.getD j default).sent = true) (hn : n ≤ s.l.length) (h2 : n < s.l.length → (s.l.getD n default).sent = false) : under s = n := by
 rcases Nat.lt_trichotomy (under s) n with h3 | h3 | h3
 ·have h4 := under_end (s := s) (by omega)
  rw [h _ h3] at h4; cases h4
 ·exact h3
 ·have h4 := under_le s
  have h5 := under_at h3
  rw [h2 (by omega)] at h5; cases h5
theorem i64N_0 {n : Nat} (h : n ≤ 1152921504606846976) : (i64N n).v = n := i64N_v (by omega)
def bset (L : List BodD) (k t : Nat) : List BodD := L.set k ⟨mk1 t (L.getD k default).v, (L.getD k default).p, (L.getD k default).c⟩
theorem bset_len (L : List BodD) (k t : Nat) : (bset L k t).length = L.length := List.length_set
theorem bset_v {L : List BodD} {l : List BodV} (h : L.map BodD.v = l) (k t : Nat) : (bset L k t).map BodD.v = l.set k (mk1 t (l.getD k default)) := by
 unfold bset
 rw [List.map_set, h, ← bodAt h k]
theorem bset_by {L : List BodD} {k t : Nat} (hk : k < L.length) : ∀ y ∈ (bset L k t).map BodD.by, y ∈ L.map BodD.by := by
 intro y hy
 obtain ⟨x, hx, rfl⟩ := List.mem_map.1 hy
 rcases List.mem_or_eq_of_mem_set hx with h | h
 ·exact List.mem_map_of_mem h
 ·subst h
  have h9 : (L.getD k default).by ∈ L.map BodD.by := List.mem_map_of_mem (f := BodD.by) (getD_mem hk)
  exact h9
theorem by_at {L : List BodD} {k : Nat} (hk : k < L.length) : (L.getD k default).by ∈ L.map BodD.by := List.mem_map_of_mem (f := BodD.by) (getD_mem hk)
theorem th_owes {q : BodV → Bool} {s : EndV} (h : ¬ (thT q s).length = 0) : (thS q s).owes = false := by
 show (s.owes && (thT q s).isEmpty) = false
 cases hT : thT q s with
 | nil => rw [hT] at h; exact absurd rfl h
 | cons a l => simp
theorem outS_no {s : EndV} (h : (thS ns s).owes = false) : thS ns s = outS s := by
 have : thS ns s = { thS ns s with owes := (thS ns s).owes } := rfl
 rw [this, h]; rfl
theorem outT_no {s : EndV} (h : (thS ns s).owes = false) : outT s = thT ns s := by
 unfold outT
 rw [if_neg]
 rintro ⟨h1, h2⟩
 have h3 : (s.owes && (thT ns s).isEmpty) = false := h
 rw [h1, h2] at h3; cases h3
theorem outT_yes {s : EndV} (h : (thT ns s).length = 0) (h2 : (thS ns s).owes = true) : outT s = [ackOf s] := by
 unfold outT
 have h3 : (s.owes && (thT ns s).isEmpty) = true := h2
 rw [Bool.and_eq_true] at h3
 rw [if_pos ⟨List.length_eq_zero_iff.1 h, h3.1⟩]
theorem outT_len (s : EndV) (h : endOk s) : (outT s).length ≤ 64 := by
 have h1 := goT_len ns s (winN s)
 have h2 : winN s ≤ 64 := by have := h.2.2.2.2.2.1; unfold winN; omega
 unfold outT
 split
 ·simp
 ·show (goT ns s (winN s)).length ≤ 64; omega
theorem thT_len (q : BodV → Bool) (s : EndV) (h : endOk s) : (thT q s).length ≤ 64 := by
 have h1 := goT_len q s (winN s)
 have h2 : winN s ≤ 64 := by have := h.2.2.2.2.2.1; unfold winN; omega
 show (goT q s (winN s)).length ≤ 64; omega
theorem lenNil {α β : Type} {f : α → β} {L : List α} {l : List β} (h : L.map f = l) (hl : l.length = 0) : L = [] := List.length_eq_zero_iff.1 (by rw [lenOf h, hl])
theorem app_map {α β : Type} {f : α → β} {L M : List α} {l m : List β} (h : L.map f = l) (h2 : M.map f = m) : (L ++ M).map f = l ++ m := by rw [List.map_append, h, h2]
theorem snoc_by {L : List BodD} {x : BodD} : ∀ y ∈ (L ++ [x]).map BodD.by, y ∈ L.map BodD.by ∨ y = x.by := by
 intro y hy
 rw [List.map_append, List.mem_append] at hy
 exact hy.imp id List.mem_singleton.1
theorem snoc_dg {L : List DgD} {x : DgD} : ∀ y ∈ (L ++ [x]).map DgD.by, y ∈ L.map DgD.by ∨ y = x.by := by
 intro y hy
 rw [List.map_append, List.mem_append] at hy
 exact hy.imp id List.mem_singleton.1
theorem snoc_b {L : List BytesD} {x : BytesD} : ∀ y ∈ L ++ [x], y ∈ L ∨ y = x := fun y hy => (List.mem_append.1 hy).imp id List.mem_singleton.1
theorem app_dg {L M : List DgD} : ∀ y ∈ (L ++ M).map DgD.by, y ∈ L.map DgD.by ∨ y ∈ M.map DgD.by := by
 intro y hy
 rw [List.map_append, List.mem_append] at hy
 exact hy
theorem app_b {L M : List BytesD} : ∀ y ∈ L ++ M, y ∈ L ∨ y ∈ M := fun y hy => List.mem_append.1 hy
theorem dg_at {L : List DgD} {k : Nat} (hk : k < L.length) : (L.getD k default).by ∈ L.map DgD.by := List.mem_map_of_mem (f := DgD.by) (getD_mem hk)
theorem dgAt {L : List DgD} {l : List DgM} (h : L.map DgD.d = l) (i : Nat) : (L.getD i default).d = l.getD i default := by
 subst h
 rw [List.getD_eq_getElem?_getD, List.getD_eq_getElem?_getD, List.getElem?_map]
 cases L[i]? <;> rfl
theorem byAt {L : List BytesD} {l : List (List UInt8)} (h : L.map BytesD.data = l) (i : Nat) : (L.getD i default).data = l.getD i default := by
 subst h
 rw [List.getD_eq_getElem?_getD, List.getD_eq_getElem?_getD, List.getElem?_map]
 cases L[i]? <;> rfl
theorem sendS_yes {s : EndV} {b : List UInt8} (h : sendE s b = 0) : sendS s b = { s with l := s.l ++ [⟨b, false, 0⟩] } := if_pos h
theorem sendS_no {s : EndV} {b : List UInt8} (h : ¬ sendE s b = 0) : sendS s b = s := if_neg h
theorem sendE_3 {s : EndV} {b : List UInt8} (h : 16384 < b.length ∨ 1099511627776 ≤ s.acked + s.l.length) : sendE s b = 3 := if_pos h
theorem sendE_6 {s : EndV} {b : List UInt8} (h : ¬ (16384 < b.length ∨ 1099511627776 ≤ s.acked + s.l.length)) (h2 : 4096 ≤ s.l.length) : sendE s b = 6 := by unfold sendE; rw [if_neg h, if_pos h2]
theorem sendE_0 {s : EndV} {b : List UInt8} (h : ¬ (16384 < b.length ∨ 1099511627776 ≤ s.acked + s.l.length)) (h2 : ¬ 4096 ≤ s.l.length) : sendE s b = 0 := by unfold sendE; rw [if_neg h, if_neg h2]
theorem getD_app {α : Type} {L : List α} {x d : α} {i : Nat} (h : i < (L ++ [x]).length) : (L ++ [x]).getD i d = if i < L.length then L.getD i d else x := by
 rw [List.length_append] at h
 simp only [List.length_cons, List.length_nil] at h
 split
 ·rw [List.getD_eq_getElem?_getD, List.getElem?_append_left (by assumption), ← List.getD_eq_getElem?_getD]
 ·have : i = L.length := by omega
  subst this
  rw [List.getD_eq_getElem?_getD, List.getElem?_append_right (Nat.le_refl _), Nat.sub_self]; rfl
theorem getD_dropD {α : Type} {L : List α} {d : α} {n i : Nat} : (L.drop n).getD i d = L.getD (n + i) d := by
 rw [List.getD_eq_getElem?_getD, List.getElem?_drop, ← List.getD_eq_getElem?_getD]
theorem endOk_send {s : EndV} {b : List UInt8} (h : endOk s) : endOk (sendS s b) := by
 by_cases hE : sendE s b = 0
 ·rw [sendS_yes hE]
  have h2 : ¬ (16384 < b.length ∨ 1099511627776 ≤ s.acked + s.l.length) := fun hc => by rw [sendE_3 hc] at hE; cases hE
  refine ⟨h.1, fun i hi => ?_, by show s.acked + (s.l ++ [_]).length ≤ _; rw [List.length_append]; simp only [List.length_cons, List.length_nil]; omega, h.2.2.2⟩
  show ((s.l ++ [_]).getD i default).tm ≤ _ ∧ ((s.l ++ [_]).getD i default).b.length ≤ _
  rw [getD_app hi]
  split
  ·exact h.2.1 i (by assumption)
  ·exact ⟨Nat.zero_le _, by show b.length ≤ _; omega⟩
 ·rw [sendS_no hE]; exact h
theorem drain_ok {B : Nat} (hB : B ≤ 1152921504606846976) : ∀ (n c : Nat) (h : List (I64 × List UInt8)), c ≤ B + 1 → (∀ x ∈ h, x.1.v ≤ (B : Int)) → (drain n c h).2.1 ≤ B + 1 ∧ ∀ x ∈ (drain n c h).2.2, x.1.v ≤ (B : Int)
 | 0, c, h, hc, hh => ⟨hc, hh⟩
 | n + 1, c, h, hc, hh => by
  cases hg : aget h (i64N c) with
  | none => rw [drain_none hg]; exact ⟨hc, hh⟩
  | some b =>
   rw [drain_some hg]
   have h1 := hh _ (aget_mem hg)
   have h2 : (i64N c).v = c := i64N_v (by omega)
   refine drain_ok hB n (c + 1) _ (by simp only at h1; omega) (fun x hx => hh x (adel_sub hx))
theorem takeE_0 {s : EndV} {d : DgM} (h : takeE s d = 0) : dgE d = 0 ∧ stray s d = false := by
 unfold takeE at h
 by_cases h1 : dgE d = 0
 ·rw [if_pos h1] at h
  refine ⟨h1, ?_⟩
  cases hs : stray s d with
  | false => rfl
  | true => rw [hs] at h; cases h
 ·rw [if_neg h1] at h; exact absurd h h1
theorem takeE_is {s : EndV} {d : DgM} (h : dgE d = 0) (h2 : stray s d = false) : takeE s d = 0 := by unfold takeE; rw [if_pos h, h2]; rfl
theorem takeE_210 {s : EndV} {d : DgM} (h : dgE d = 0) (h2 : stray s d = true) : takeE s d = 210 := by unfold takeE; rw [if_pos h, h2]; rfl
theorem takeE_no {s : EndV} {d : DgM} (h : ¬ dgE d = 0) : takeE s d = dgE d := by unfold takeE; rw [if_neg h]
theorem endOk_ack {s : EndV} {a : Int} (h : endOk s) (ha : a ≤ (s.acked : Int) + (under s : Int)) : endOk (ackS s a) := by
 unfold ackS
 split
 ·have hu := under_le s
  refine ⟨h.1, fun i hi => ?_, ?_, h.2.2.2⟩
  ·show ((s.l.drop _).getD i default).tm ≤ _ ∧ ((s.l.drop _).getD i default).b.length ≤ _
   have hi2 : i < (s.l.drop (a.toNat - s.acked)).length := hi
   rw [List.length_drop] at hi2
   rw [getD_dropD]; exact h.2.1 _ (by omega)
  ·show a.toNat + (s.l.drop _).length ≤ _
   rw [List.length_drop]
   have := h.2.2.1
   omega
 ·exact h
theorem dgE_seq {d : DgM} (h : dgE d = 0) : 0 ≤ d.seq.v ∧ d.seq.v ≤ 1099511627776 ∧ 0 ≤ d.ack.v ∧ d.ack.v ≤ 1099511627776 ∧ d.body.length ≤ 16384 ∧ (d.kind.v = 1 ∨ d.kind.v = 2) := by
 have h1 := dgE_is h
 unfold dgOk at h1
 obtain ⟨_, _, _, _, _, h2, h3, h4, h5, h6, h7⟩ := h1
 exact ⟨h2, h3, h4, h5, by omega, h7.imp id (·.1)⟩
theorem takeC_ok {s : EndV} {d : DgM} (h : endOk s) (hd : d.seq.v ≤ 1099511627776) : (takeC s d).2.1 ≤ 1099511627777 ∧ ∀ x ∈ (takeC s d).2.2, x.1.v ≤ 1099511627776 := by
 unfold takeC
 split
 ·exact ⟨h.2.2.2.1, h.2.2.2.2.2.2⟩
 ·refine drain_ok (B := 1099511627776) (by decide) _ _ _ h.2.2.2.1 (fun x hx => ?_)
  rcases List.mem_append.1 hx with hx | hx
  ·exact h.2.2.2.2.2.2 x hx
  ·rw [List.mem_singleton] at hx; subst hx; exact hd
theorem stray_not {s : EndV} {d : DgM} (h : stray s d = false) : d.frm.v = s.to_.v ∧ d.to_.v = s.frm.v ∧ d.ack.v ≤ (s.acked : Int) + (under s : Int) ∧ (d.kind.v = 1 → d.seq.v < (s.came : Int) + 64) := by
 have h2 := of_decide_eq_false h
 refine ⟨by omega, by omega, by omega, fun _ => by omega⟩
theorem endOk_take {s : EndV} {d : DgM} (h : endOk s) : endOk (takeS s d) := by
 unfold takeS
 split
 ·rename_i h0
  obtain ⟨h1, h2⟩ := takeE_0 h0
  have h3 := endOk_ack h (stray_not h2).2.2.1
  have h4 := takeC_ok h (dgE_seq h1).2.1
  split
  ·exact ⟨h3.1, h3.2.1, h3.2.2.1, h4.1, h3.2.2.2.2.1, h3.2.2.2.2.2.1, h4.2⟩
  ·exact h3
 ·exact h
def newS (f t : I64) (n : Nat) : EndV := ⟨f, t, n, [], 0, 0, [], 0, false⟩
theorem endOk_new {f t : I64} {n : Nat} (h : 1 ≤ n) (h2 : n ≤ 64) : endOk (newS f t n) := ⟨Nat.zero_le _, fun i hi => absurd hi (Nat.not_lt_zero i), Nat.zero_le _, Nat.zero_le _, h, h2, fun x hx => by cases hx⟩
theorem ackS_no {s : EndV} {a : Int} (h : ¬ (s.acked : Int) < a) : ackS s a = s := if_neg h
theorem ackS_came (s : EndV) (a : Int) : (ackS s a).came = s.came := by unfold ackS; split <;> rfl
theorem ackS_held (s : EndV) (a : Int) : (ackS s a).held = s.held := by unfold ackS; split <;> rfl
theorem takeC_no {s : EndV} {d : DgM} (h : d.seq.v < (s.came : Int) ∨ ahas s.held d.seq = true) : takeC s d = ([], s.came, s.held) := if_pos h
theorem takeC_yes {s : EndV} {d : DgM} (h : ¬ (d.seq.v < (s.came : Int) ∨ ahas s.held d.seq = true)) : takeC s d = drain (s.held ++ [(d.seq, d.body)]).length s.came (s.held ++ [(d.seq, d.body)]) := by
 unfold takeC
 rw [if_neg h, List.length_append]; rfl
theorem takeS_data {s : EndV} {d : DgM} (h : takeE s d = 0) (h2 : d.kind.v = 1) : takeS s d = { ackS s d.ack.v with owes := true, came := (takeC s d).2.1, held := (takeC s d).2.2 } := by unfold takeS; rw [if_pos h, if_pos h2]
theorem takeS_ack {s : EndV} {d : DgM} (h : takeE s d = 0) (h2 : ¬ d.kind.v = 1) : takeS s d = ackS s d.ack.v := by unfold takeS; rw [if_pos h, if_neg h2]
theorem takeS_no {s : EndV} {d : DgM} (h : ¬ takeE s d = 0) : takeS s d = s := if_neg h
theorem takeT_no {s : EndV} {d : DgM} (h : ¬ (takeE s d = 0 ∧ d.kind.v = 1)) : takeT s d = [] := if_neg h
theorem takeT_yes {s : EndV} {d : DgM} (h : takeE s d = 0) (h2 : d.kind.v = 1) : takeT s d = (takeC s d).1 := if_pos ⟨h, h2⟩
/-- An end while what came is taken. -/
def drS (s : EndV) (c : Nat) (h : List (I64 × List UInt8)) : EndV := { s with owes := true, came := c, held := h }
theorem ackS_pos {s : EndV} {d : DgM} (h : 0 < d.ack.v - (s.acked : Int)) : ackS s d.ack.v = { s with l := s.l.drop (d.ack.v - (s.acked : Int)).toNat, acked := d.ack.v.toNat } := by
 unfold ackS
 rw [if_pos (by omega), show d.ack.v.toNat - s.acked = (d.ack.v - (s.acked : Int)).toNat from by omega]
theorem drop_by {L : List BodD} {n : Nat} : ∀ y ∈ (L.drop n).map BodD.by, y ∈ L.map BodD.by := by
 intro y hy
 obtain ⟨x, hx, rfl⟩ := List.mem_map.1 hy
 exact List.mem_map_of_mem (f := BodD.by) (List.drop_subset _ _ hx)
end Sl
