/- Appends to what is full: a row of its own. No condition. -/
import Derived.Test.YtfflafpcpbeciaaSlCL
namespace Sl
open _root_.Go _root_.Go.RowKit _root_.Go.Proofs
set_option linter.all false
set_option linter.unusedSimpArgs false
theorem run_slice_hm {P : Program} (w : World) (t : TypeId) (a : Option Addr) (len cap : Nat) (ht : P.underlying t = some (.slice (P.elem t))) (kh km : IntKind) (h m : Int) (h0 : 0 ≤ h) (h1 : h ≤ m) (h2 : m ≤ cap) :
    (Instr.slice t (.slice a len cap) none (some (.int kh h)) (some (.int km m))).run P w = ((Go.sizeOf (P.elem t)).run P w).andThen fun s w => .ok (sliced a 0 h.toNat m.toNat s) w := by
  have eh : (m.toNat : Int) = m := Int.toNat_of_nonneg (by omega)
  simp [Instr.slice, run_underlying ht, Instr.sliceBounds, run_sliceBound, sliced, *, eh, (by omega : 0 ≤ m)]
theorem Im.full {W w : World} {l : List Atom} {i : Nat} {p : Option Addr} {n c size : Nat} {xs : List Value} (H : St W w l) (hi : l[i]? = some (Im size (.slice p n c) n xs)) : St W w (Im size (.slice p n n) n xs :: l) :=
  (H.dup hi (Im_pers _ _ _ _)).conv (i := 0) (A' := Im size (.slice p n n) n xs) rfl (by
    rintro I h ⟨h1, h2, h3, p', c', h4, h5, h6⟩
    injection h4 with e1 e2 e3
    subst e1; subst e3
    exact ⟨h1, h2, h3, p, n, rfl, ⟨fun hp => ⟨(h5.1 hp).1, (h5.1 hp).1⟩, Nat.le_refl _⟩, h6⟩)
theorem St.append_full {P : Program} {W w : World} {l : List Atom} {t ty e : TypeId} {u : Value} {p : Option Addr} {n m size bytes : Nat} {xs news : List Value} (H : St W w l) (h0 : Rd w size (.slice p n n) n xs) (hr : Rd w size u m news)
    (hA : appInfo P t e size bytes size) (hsz : 0 < size) (hm0 : 0 < m) (h63 : n + m ≤ maxLen) (hb : (n + m) * bytes ≤ 140737488355328) :
    ∃ g c w', (Builtin.append_ #[t, t] ty #[.slice p n n, u]).run P w = .ok (.slice (some ⟨g, 0, none⟩) (n + m) c) w' ∧ St W w' (Row e size (.slice (some ⟨g, 0, none⟩) (n + m) c) (n + m) (xs ++ news) :: l) := by
  obtain ⟨ht, ti, z, hti, hz, rfl, rfl, hzs, _⟩ := hA
  obtain ⟨hl, hone2, hu⟩ := hr
  obtain ⟨hlen, hone, hv⟩ := h0
  have hsmall : n + m ≤ 9223372036854775807 := by simp only [maxLen] at h63; omega
  have honeA : ∀ x ∈ xs ++ news, x.oneCell' = true := fun x hx => (List.mem_append.1 hx).elim (hone x) (hone2 x)
  have hlenA : (xs ++ news).length = (n + m) * ti.size := by rw [List.length_append, hlen, hl, Nat.add_mul]
  have fresh : ∀ (old : Nat), (hrun : (Builtin.append_ #[t, t] ty #[.slice p n n, u]).run P w = .ok (.slice (some ⟨w.heap.size, 0, none⟩) (n + m) (grownCap w (n + m) old e)) (w.drew.alloc (.cells (xs.toArray ++ news.toArray ++ Builtin.zeroCells z.cells (grownCap w (n + m) old e - (n + m))) e))) →
      ∃ g c w', (Builtin.append_ #[t, t] ty #[.slice p n n, u]).run P w = .ok (.slice (some ⟨g, 0, none⟩) (n + m) c) w' ∧ St W w' (Row e ti.size (.slice (some ⟨g, 0, none⟩) (n + m) c) (n + m) (xs ++ news) :: l) := by
    intro old hrun
    refine ⟨_, _, _, hrun, ?_⟩
    have hge := grownCap_ge w (n + m) old e
    have hcm : grownCap w (n + m) old e ≤ maxLen := grownCap_le_maxLen w (n + m) old e h63
    have H2 := (H.drew).alloc (.cells (xs.toArray ++ news.toArray ++ Builtin.zeroCells z.cells (grownCap w (n + m) old e - (n + m))) e)
    exact Row.shut (i := 0) (n := n + m) (cap := grownCap w (n + m) old e) (size := ti.size) (xs := xs ++ news) H2 rfl hge hcm (by
      simp only [Array.size_append, List.size_toArray, size_zeroCells, hzs, hlen, hl, ← Nat.add_mul]
      congr 1
      omega) (by
      simp only [Array.toList_append, List.append_assoc]
      rw [← List.append_assoc, ← hlenA]
      exact List.take_left) honeA
  rcases hu with ⟨rfl, rfl⟩ | ⟨a, c, rfl, hcells⟩
  · omega
  · rcases hv with ⟨h1, h2⟩ | ⟨b, c', h1, holds⟩
    · injection h1 with e1 e2 e3
      subst e1; subst e2
      have hx : xs = [] := List.eq_nil_of_length_eq_zero (by simpa using hlen)
      subst hx
      have hr := run_append_nil (P := P) w t ty e ti z ht hti hz a m c news hl hcells hm0 (by omega) (by rw [Nat.zero_add] at hb; omega)
      refine fresh 0 ?_
      simpa using hr
    · injection h1 with e1 e2 e3
      subst e1
      have hr := run_append_grow (P := P) w t ty e ti z ht hti hz b n n xs hlen holds a m c news hl hcells (by omega) (by omega) (growslice_fits (by omega) hb)
      exact fresh n hr
section
variable {C : Ctx} {ρ : Env} {w : World} {ops : Array Oper} {K' : Env → World → Prop} {d ty : Nat} {pos : String} {af : Array Edge} {W : World} {l : List Atom} {e : TypeId} {x y : Operand}
theorem x_slice_hm {t : TypeId} {L M : IntKind} (p : Option Addr) {n c : Nat} (b m : Int) (size : Nat) (v : Value) {xhi xmx : Operand} (hx : opv C.n ρ x = .slice p n c) (hhi : opv C.n ρ xhi = .int L b) (hmx : opv C.n ρ xmx = .int M m) (hs : elemSize C.P t = some (e, size)) (hb : 0 ≤ b ∧ b ≤ m ∧ m ≤ (c : Int))
    (hv : Value.slice p b.toNat m.toNat = v) (w : World) : (execOp (opv C.n ρ) ⟨some d, .slice t x none (some xhi) (some xmx), ty, pos, af, none⟩).run C.P w = .ok (.value v) w := by
  subst hv
  obtain ⟨ht, rfl, ti, hti, rfl⟩ := elem_of hs
  simp only [execOp, Option.map_some, Option.map_none, hx, hhi, hmx, Instr.sliceAt, Sem.run_bind, run_underlying ht, Result.andThen_ok, run_slice_hm w t p n c ht L M b m hb.1 hb.2.1 hb.2.2, run_sizeOf hti, Sem.run_pure, sliced]
  cases p <;> simp [Addr.add]
theorem s_append_full {t : TypeId} {u : Value} {p : Option Addr} {n m size bytes : Nat} {xs news : List Value} (H : St W w l) (h0 : Rd w size (.slice p n n) n xs) (hx : opv C.n ρ x = .slice p n n) (hy : opv C.n ρ y = u) (hr : Rd w size u m news)
    (hA : appInfo C.P t e size bytes size) (hsz : 0 < size) (hm0 : 0 < m) (h63 : n + m ≤ maxLen) (hb : (n + m) * bytes ≤ 140737488355328) {n' : Nat} {xs' : List Value} (hn' : n + m = n') (hxs' : xs ++ news = xs') (hn : Nat.blt d C.n = true)
    (h : ∀ g c w', St W w' (Row e size (.slice (some ⟨g, 0, none⟩) n' c) n' xs' :: l) → K' (upd ρ d (.slice (some ⟨g, 0, none⟩) n' c)) w') : GOp C ops ⟨some d, .call { callee := .builtin .append, args := #[x, y], argTypes := #[t, t] }, ty, pos, af, none⟩ K' ρ w := by
  subst hn' hxs'
  obtain ⟨g, c, w', hrun, H'⟩ := H.append_full (P := C.P) (t := t) (ty := ty) h0 hr hA hsz hm0 h63 hb
  refine r_val rfl rfl hn ?_ (h g c w' H')
  simp [execOp, resolve, invoke, builtin, hx, hy, hrun]
end
/-! ## lists of lists of trees -/
structure AltD where
  p : Option Addr
  c : Nat
  L : List NodeD
instance : Inhabited AltD := ⟨⟨none, 0, []⟩⟩
def altCell (a : AltD) : List Value := [.slice a.p a.L.length a.c]
theorem altCell_len (a : AltD) : (altCell a).length = 1 := rfl
/-- Lists that are read: each one's cells, and its trees. -/
def AltsA (Ls : List AltD) : Atom := ⟨fun I h => h = Heap.none ∧ ∀ a ∈ Ls, (Im 5 (.slice a.p a.L.length a.c) a.L.length (a.L.flatMap nodeCell)).sat I Heap.none ∧ (NodesA a.L).sat I Heap.none,
  fun I J h hl ⟨h1, h2⟩ => ⟨h1, fun a ha => ⟨(Im _ _ _ _).mono I J _ hl (h2 a ha).1, (NodesA a.L).mono I J _ hl (h2 a ha).2⟩⟩⟩
theorem AltsA_pers (Ls : List AltD) : (AltsA Ls).pers := fun _ _ h => h.1
section
variable {W w : World} {l : List Atom} {Ls : List AltD} {i : Nat}
theorem AltsA.nil (H : St W w l) : St W w (AltsA [] :: l) := H.derive fun I h => ⟨rfl, fun a ha => by cases ha⟩
theorem AltsA.snoc {a : AltD} {j k : Nat} (H : St W w l) (hi : l[i]? = some (AltsA Ls)) (hj : l[j]? = some (Im 5 (.slice a.p a.L.length a.c) a.L.length (a.L.flatMap nodeCell))) (hk : l[k]? = some (NodesA a.L)) : St W w (AltsA (Ls ++ [a]) :: l) :=
  H.derive fun I h => ⟨rfl, fun b hb => by
    rcases List.mem_append.1 hb with hb | hb
    · exact (h _ _ hi (AltsA_pers _)).2 b hb
    · simp only [List.mem_singleton] at hb; subst hb
      exact ⟨h _ _ hj (Im_pers _ _ _ _), h _ _ hk (NodesA_pers _)⟩⟩
theorem AltsA.im (H : St W w l) (hi : l[i]? = some (AltsA Ls)) {j : Nat} (hj : j < Ls.length) : St W w (Im 5 (.slice (Ls.getD j default).p (Ls.getD j default).L.length (Ls.getD j default).c) (Ls.getD j default).L.length ((Ls.getD j default).L.flatMap nodeCell) :: l) :=
  H.derive fun I h => ((h _ _ hi (AltsA_pers _)).2 _ (getD_mem' hj)).1
theorem AltsA.nodes (H : St W w l) (hi : l[i]? = some (AltsA Ls)) {j : Nat} (hj : j < Ls.length) : St W w (NodesA (Ls.getD j default).L :: l) :=
  H.derive fun I h => ((h _ _ hi (AltsA_pers _)).2 _ (getD_mem' hj)).2
theorem AltsA.drop (H : St W w l) (hi : l[i]? = some (AltsA Ls)) (k : Nat) : St W w (AltsA (Ls.drop k) :: l) :=
  H.derive fun I h => ⟨rfl, fun a ha => (h _ _ hi (AltsA_pers _)).2 a (List.mem_of_mem_drop ha)⟩
end
/-! ## ways to choose -/
def altsOf (Ls : List AltD) : List (List NodeD) := Ls.map fun a => a.L.map eraseN
/-- What the ways give, in order. -/
def waysL (n : NodeD) (T : List NodeD) (ls : List (List NodeD)) : List NodeD := (combS ls).map fun ks => withK n (T ++ ks)
theorem waysL_nil (n : NodeD) (T : List NodeD) : waysL n T [] = [withK n T] := by simp [waysL, combS]
theorem waysL_cons (n : NodeD) (T l : List NodeD) (ls : List (List NodeD)) : waysL n T (l :: ls) = l.flatMap fun a => waysL n (T ++ [a]) ls := by
  unfold waysL
  simp only [combS, List.map_flatMap, List.map_map]
  congr 1
  funext a
  apply List.map_congr_left
  intro ks _
  simp
theorem altsOf_drop {Ls : List AltD} (h : 0 < Ls.length) : altsOf Ls = (Ls.getD 0 default).L.map eraseN :: altsOf (Ls.drop 1) := by
  cases Ls with
  | nil => simp at h
  | cons a l => rfl
theorem ways_snoc {n : NodeD} {T L : List NodeD} {ls : List (List NodeD)} {j : Nat} (hj : j < L.length) : (((L.take (j + 1)).map eraseN).flatMap fun a => waysL n (T ++ [a]) ls) = (((L.take j).map eraseN).flatMap fun a => waysL n (T ++ [a]) ls) ++ waysL n (T ++ [eraseN (L.getD j default)]) ls := by
  rw [take_getD hj, List.map_append, List.flatMap_append]; simp
theorem waysL_len (n : NodeD) (T : List NodeD) (ls : List (List NodeD)) : (waysL n T ls).length = (combS ls).length := by simp [waysL]
theorem combS_cons_len (l : List NodeD) (ls : List (List NodeD)) : (combS (l :: ls)).length = l.length * (combS ls).length := by
  simp only [combS, List.length_flatMap, List.length_map]
  induction l with
  | nil => simp
  | cons a l ih => simp only [List.map_cons, List.sum_cons, ih, List.length_cons, Nat.add_mul, Nat.one_mul]; omega
theorem ways_take_len (n : NodeD) (T L : List NodeD) (ls : List (List NodeD)) : ((L.map eraseN).flatMap fun a => waysL n (T ++ [a]) ls).length = L.length * (combS ls).length := by
  rw [List.length_flatMap]
  simp only [waysL_len, List.map_map]
  induction L with
  | nil => simp
  | cons a l ih => simp only [List.map_cons, List.sum_cons, ih, List.length_cons, Nat.add_mul, Nat.one_mul, Function.comp]; omega
def zeroN : NodeD := .mk ⟨0, by decide, by decide⟩ Str.none Str.none none 0 [] none 0 []
theorem set_snoc {α : Type} (O : List α) (a r : α) : (O ++ [a]).set O.length r = O ++ [r] := by simp
abbrev hd0 (Ls : List AltD) : List NodeD := (Ls.getD 0 default).L
/-- What the first j of the first list have given. -/
def waysUp (n : NodeD) (T : List NodeD) (Ls : List AltD) (j : Nat) : List NodeD := (((hd0 Ls).take j).map eraseN).flatMap fun a => waysL n (T.map eraseN ++ [a]) (altsOf (Ls.drop 1))
theorem waysUp_zero (n : NodeD) (T : List NodeD) (Ls : List AltD) : ([] : List NodeD).map eraseN = waysUp n T Ls 0 := by simp [waysUp]
section
variable {n : NodeD} {T O R R2 : List NodeD} {Ls : List AltD} {j B : Nat}
theorem ways_room (hR : R.map eraseN = waysUp n T Ls j) (hj : j < (hd0 Ls).length) (hL : 0 < Ls.length) (ho : O.length + (combS (altsOf Ls)).length ≤ B) : (O ++ R).length + (combS (altsOf (Ls.drop 1))).length ≤ B := by
  have h1 : R.length = j * (combS (altsOf (Ls.drop 1))).length := by
    have := congrArg List.length hR
    rw [List.length_map] at this
    rw [this]; unfold waysUp
    rw [ways_take_len, List.length_take]; congr 1; omega
  rw [altsOf_drop hL, combS_cons_len, List.length_map] at ho
  have h2 := Nat.mul_le_mul_right (combS (altsOf (Ls.drop 1))).length (show j + 1 ≤ (hd0 Ls).length from hj)
  rw [Nat.add_mul, Nat.one_mul] at h2
  change _ ≤ (Ls.getD 0 default).L.length * _ at h2
  rw [List.length_append]; omega
theorem ways_next (hR : R.map eraseN = waysUp n T Ls j) (hj : j < (hd0 Ls).length) (h2 : R2.map eraseN = waysL n ((T ++ [(hd0 Ls).getD j default]).map eraseN) (altsOf (Ls.drop 1))) : (R ++ R2).map eraseN = waysUp n T Ls (j + 1) := by
  unfold waysUp at hR ⊢
  rw [ways_snoc hj, List.map_append, hR, h2]; simp
theorem ways_done (hR : R.map eraseN = waysUp n T Ls j) (hj : (hd0 Ls).length ≤ j) (hL : 0 < Ls.length) : R.map eraseN = waysL n (T.map eraseN) (altsOf Ls) := by
  unfold waysUp at hR
  rw [hR, List.take_of_length_le hj, altsOf_drop hL, waysL_cons]
theorem ways_end {r : NodeD} (h : eraseN r = withK n (T.map eraseN)) : [r].map eraseN = waysL n (T.map eraseN) (altsOf []) := by
  show [eraseN r] = waysL n _ []
  rw [waysL_nil, h]
end
end Sl
