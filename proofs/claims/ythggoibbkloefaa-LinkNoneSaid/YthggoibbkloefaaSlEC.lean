/- Two ends at a law: rows lent, masks, what is done. No condition. -/
import Derived.Test.YthggoibbkloefaaSlEB
import Derived.Test.YthggoibbkloefaaSlAB
import Derived.Test.YthggoibbkloefaaSlN
namespace Sl
open _root_.Go _root_.Go.RowKit
set_option linter.all false
/-! ## two rows are lent -/
theorem Stars2L {I : Heap} {A B : Atom} {g : Heap} : (star [A, B]).sat I g ↔ ∃ h1 h2, h1.disj h2 ∧ g = h1.union h2 ∧ A.sat I h1 ∧ B.sat I h2 := by
 constructor
 ·rintro ⟨h1, h2, d, e, a, h3, h4, d2, e2, b, e5⟩
  have e5 : h4 = Heap.none := e5
  subst e5
  rw [Heap.union_none] at e2
  subst e2
  exact ⟨h1, h2, d, e, a, b⟩
 ·rintro ⟨h1, h2, d, e, a, b⟩
  exact ⟨h1, h2, d, e, a, h2, Heap.none, Heap.disj_none _, (Heap.union_none _).symm, b, rfl⟩
theorem star_solidL {l : List Atom} (h : ∀ A ∈ l, A.solid) : (star l).solid := by
 intro I J
 induction l with
 | nil => exact fun _ e => e
 | cons A l ih => rintro g ⟨h1, h2, d, e, a, s⟩; exact ⟨h1, h2, d, e, h A (List.mem_cons_self ..) I J h1 a, ih (fun B hB => h B (List.mem_cons_of_mem _ hB)) h2 s⟩
section
variable {W w : World} {A B Q : Atom} {G : List Atom} {i : Nat}
theorem St.lentQL (hAB : ∀ I h, A.sat I h → h.le I → B.sat I Heap.none) (H : St W w (A :: G)) (hq : G[i]? = some Q) (hQ : Q.pers) : ∃ I ha, A.sat I ha ∧ St W w [B, Q, kept ha G] := by
 obtain ⟨I, h, dI, hI, hh, ha, hg, d, e, a, s⟩ := H.mem
 subst e
 have q := Stars.pers_at2 s hq hQ
 have ⟨dI1, dI2⟩ := Heap.disj_union_right.1 dI
 have hle : I.le (I.union ha) := Heap.le_union_left I ha
 have hla : ha.le (I.union ha) := Heap.le_union_right dI1
 refine ⟨I, ha, a, ⟨H.os, H.tape, H.output, I.union ha, hg, Heap.disj_union_left.2 ⟨dI2, d⟩, Heap.union_le hI (Heap.le_trans (Heap.le_union_left ha hg) hh), Heap.le_trans (Heap.le_union_right d) hh, ?_⟩⟩
 refine ⟨Heap.none, hg, Heap.none_disj hg, (Heap.none_union hg).symm, hAB _ _ (A.mono _ _ _ hle a) hla, ?_⟩
 refine ⟨Heap.none, hg, Heap.none_disj hg, (Heap.none_union hg).symm, Q.mono _ _ _ hle q, ?_⟩
 exact ⟨hg, Heap.none, Heap.disj_none hg, (Heap.union_none hg).symm, ⟨hla, I, hle, dI1, s⟩, rfl⟩
theorem lendQL {P : Program} {k : FuncId} {args : Array Value} {p : Value → Prop} (hA : A.solid) (hB : B.pers) (hAB : ∀ I h, A.sat I h → h.le I → B.sat I Heap.none) (H : St W w (A :: G)) (hq : G[i]? = some Q) (hQ : Q.pers)
  (C : ∀ F : List Atom, F[0]? = some B → F[1]? = some Q → St W w F → Calls P k args w (Ret fun v w' => p v ∧ St W w' F)) : Calls P k args w (Ret fun v w' => p v ∧ St W w' (A :: G)) := by
 obtain ⟨I, ha, a, H2⟩ := St.lentQL hAB H hq hQ
 refine (C _ rfl rfl H2).mono fun e w' hh => ?_
 cases e with
 | returned v =>
  obtain ⟨hp, H3⟩ := hh
  have H4 : St W w' [emp, B, kept ha G] := (H3.drop 1 rfl).cons_emp
  exact ⟨hp, (St.unlent (X := emp) emp_solid hA a hB H4).drop 0 rfl⟩
 | _ => exact hh.elim
end
def Im2 (s1 : Nat) (v1 : Value) (n1 : Nat) (x1 : List Value) (s2 : Nat) (v2 : Value) (n2 : Nat) (x2 : List Value) : Atom := ⟨fun I h => h = Heap.none ∧ (Im s1 v1 n1 x1).sat I Heap.none ∧ (Im s2 v2 n2 x2).sat I Heap.none, fun I J h hl ⟨a, b, c⟩ => ⟨a, (Im s1 v1 n1 x1).mono I J _ hl b, (Im s2 v2 n2 x2).mono I J _ hl c⟩⟩
theorem rows_lend {P : Program} {k : FuncId} {args : Array Value} {q : Value → Prop} {W w : World} {F : List Atom} {e1 s1 n1 e2 s2 n2 : Nat} {v1 v2 : Value} {x1 x2 : List Value} {L : List BytesD} {i j a : Nat} (hi : F[i]? = some (Row e1 s1 v1 n1 x1)) (hj : (F.set i emp)[j]? = some (Row e2 s2 v2 n2 x2)) (ha : ((F.set i emp).set j emp)[a]? = some (byA L)) (H : St W w F)
  (C : ∀ G : List Atom, G[0]? = some (Im s1 v1 n1 x1) → G[1]? = some (Im s2 v2 n2 x2) → G[2]? = some (byA L) → St W w G → Calls P k args w (Ret fun v w' => q v ∧ St W w' G)) : Calls P k args w (Ret fun v w' => q v ∧ St W w' F) := by
 have H1 : St W w (star [Row e2 s2 v2 n2 x2, Row e1 s1 v1 n1 x1] :: (F.set i emp).set j emp) := St.shut_star (ls := [_, _]) ((H.front hi).front (i := j + 1) (by exact hj))
 have hp : (Im2 s1 v1 n1 x1 s2 v2 n2 x2).pers := fun _ _ h => h.1
 refine (lendQL (p := q) (B := Im2 s1 v1 n1 x1 s2 v2 n2 x2) (star_solidL fun A hA => by
  simp only [List.mem_cons, List.not_mem_nil, or_false] at hA
  rcases hA with rfl | rfl <;> exact Row_solid _ _ _ _ _) hp (fun I h hs hl => by
   obtain ⟨h1, h2, d, e, r2, r1⟩ := Stars2L.1 hs
   subst e
   exact ⟨rfl, Row_lends I h2 r1 (Heap.le_trans (Heap.le_union_right d) hl), Row_lends I h1 r2 (Heap.le_trans (Heap.le_union_left _ _) hl)⟩) H1 ha (byA_pers L) fun G h0 h1 HG => ?_).mono fun e w' hh => ?_
 ·have G2 : St W w (Im s2 v2 n2 x2 :: byA L :: G) := (HG.derive2 (A' := byA L) fun I h => h 1 _ h1 (byA_pers L)).derive2 fun I h => (h 1 _ (by exact h0) hp).2.2
  have G3 : St W w (Im s1 v1 n1 x1 :: Im s2 v2 n2 x2 :: byA L :: G) := G2.derive2 fun I h => (h 2 _ (by exact h0) hp).2.1
  refine (C _ rfl rfl rfl G3).mono fun e w' hh => ?_
  cases e with
  | returned v => exact ⟨hh.1, (((hh.2.drop 0 rfl).drop 0 rfl).drop 0 rfl)⟩
  | _ => exact hh.elim
 ·cases e with
  | returned v =>
   have H3 := St.open_star hh.2
   exact ⟨hh.1, St.back_same hi (St.back_same (i := j + 1) (by exact hj) H3)⟩
  | _ => exact hh.elim
theorem Row.capOf {W w : World} {l : List Atom} {i : Nat} {e : TypeId} {size : Nat} {p : Option Addr} {c m n : Nat} {xs : List Value} (H : St W w l) (hi : l[i]? = some (Row e size (.slice p n c) m xs)) : n ≤ c := by
 obtain ⟨I, h1, _, hI, hh, hone, hlen, a⟩ := H.get hi
 rcases a with ⟨hv, hn, _⟩ | ⟨g, cap, cur, hv, hc, _⟩
 ·injection hv with q1 q2 q3
  omega
 ·injection hv with q1 q2 q3
  omega
/-! ## what is done -/
structure ActV where
 do_ : I64
 who : I64
 n : I64
 body : List UInt8
structure ActD where
 v : ActV
 p : Option Addr
 c : Nat
instance : Inhabited ActV := ⟨⟨default, default, default, []⟩⟩
instance : Inhabited ActD := ⟨⟨default, none, 0⟩⟩
theorem Row.lenOf {W w : World} {l : List Atom} {i : Nat} {e : TypeId} {size : Nat} {v : Value} {m : Nat} {xs : List Value} (H : St W w l) (hi : l[i]? = some (Row e size v m xs)) : m ≤ 9223372036854775807 := by
 obtain ⟨I, h1, _, hI, hh, hone, hlen, a⟩ := H.get hi
 rcases a with ⟨hv, hn, _⟩ | ⟨g, cap, cur, hv, hc, hm, _⟩
 ·omega
 ·unfold maxLen at hm; omega
theorem take_by {L : List BytesD} {n : Nat} : ∀ y ∈ L.take n, y ∈ L := fun y hy => List.take_subset _ _ hy
theorem by_in {L : List BytesD} {k : Nat} (hk : k < L.length) : L.getD k default ∈ L := getD_mem hk
theorem same_at {D M : List BytesD} (h : D.map BytesD.data = M.map BytesD.data) (j : Nat) : (D.getD j default).data = (M.getD j default).data := by rw [byAt h j, byAt rfl j]
def dgAck1 : DgM := ⟨i64' 1, i64' 0, i64' 2, i64' 0, i64' 1, []⟩
end Sl
