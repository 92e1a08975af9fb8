import Derived.Test.YteogdknlofcpiaaGreatSlD
import Derived.Laws.IdiomStrings
namespace Sl
open _root_.Go _root_.Go.RowKit
set_option linter.all false
set_option linter.unusedSimpArgs false

section
variable {C : Ctx} {k : List Item} {ρ : Env} {w : World} {ops : Array Oper} {K' : Env → World → Prop} {d ty : Nat} {pos : String} {af : Array Edge}
variable {W : World} {l : List Atom} {i : Nat} {x y : Operand} {B off : Nat} {cs cs' : Array Value} {e : TypeId} {fz : Nat × Nat}

theorem setCell_blk {a : Addr} {v : Value} (H : St W w l) (hi : l[i]? = some (blk B (.cells cs e fz))) (hv : cs.setIfInBounds off v = cs') : St W (w.setCell ⟨B, off, none⟩ v) (l.set i (blk B (.cells cs' e fz))) := by
 subst hv
 have hb := H.blk_at hi
 refine H.set_blk hi rfl rfl rfl ?_ ?_
 ·simp [World.setCell, Array.getElem?_modify, hb]
 ·intro j _ hj; exact Below.heap_setCell _ _ _ _ hj
theorem run_store1 {P : Program} {v : Value} (hb : w.heap[B]? = some (.cells cs e fz)) (ho : off < cs.size) (hz : (decide (fz.1 ≤ off) && decide (off < fz.2)) = false) (hv : v.oneCell' = true) : (store ⟨B, off, none⟩ v).run P w = .ok () (w.setCell ⟨B, off, none⟩ v) := by
 have hc : w.cell? ⟨B, off, none⟩ = some cs[off] := cell_of hb (by simp [ho])
 have hf : w.frozen? ⟨B, off, none⟩ = false := by
  obtain ⟨lo, hi⟩ := fz
  simp only [World.frozen?, hb]
  exact hz
 cases v <;> simp_all [store, Sem.run, Value.oneCell']
theorem s_store (H : St W w l) (i : Nat) {t : TypeId} (v : Value) (hi : l[i]? = some (blk B (.cells cs e fz))) (hx : opv C.n ρ x = .pointer (some ⟨B, off, none⟩)) (hy : opv C.n ρ y = v) (hsz : (C.P.info? t).map (·.size) = some 1) (h1 : v.oneCell' = true)
  (ho : off < cs.size) (hz : (decide (fz.1 ≤ off) && decide (off < fz.2)) = false) (hv : cs.setIfInBounds off v = cs')
  (h : ∀ w', St W w' (l.set i (blk B (.cells cs' e fz))) → K' ρ w') : GOp C ops ⟨none, .store t x y, ty, pos, af, none⟩ K' ρ w := by
 refine r_skip0 rfl rfl ?_ (h _ (setCell_blk (a := ⟨B, off, none⟩) H hi hv))
 have hb := H.blk_at hi
 cases hinf : C.P.info? t with
 | none => simp [hinf] at hsz
 | some ti =>
  have hs : ti.size = 1 := by simpa [hinf] using hsz
  have hcells : v.cells = #[v] := by cases v <;> simp_all [Value.cells, Value.oneCell']
  have hr := run_store1 (P := C.P) (v := v) hb ho hz h1
  simp only [execOp, hx, hy, Instr.storeAt, Instr.sureAddr, Sem.run_bind, Sem.run_pure, Result.andThen_ok, storeVar, run_sizeOf hinf, hs, hcells, List.size_toArray, List.length_cons, List.length_nil, Nat.zero_add, ne_eq, not_true_eq_false, if_false, storeCells, addr_add, Nat.add_zero, hr]
def writes (cs : Array Value) (off : Nat) : List Value → Array Value
 | [] => cs
 | v :: vs => writes (cs.setIfInBounds off v) (off + 1) vs
theorem run_storeMany {P : Program} {fz : Nat × Nat} : ∀ (vs : List Value) (j : Nat) (cs : Array Value) (l : List Atom) (w : World), St W w l → l[i]? = some (blk B (.cells cs e fz)) → off + j + vs.length ≤ cs.size → (∀ o, off + j ≤ o → o < off + j + vs.length → (decide (fz.1 ≤ o) && decide (o < fz.2)) = false) → (∀ v ∈ vs, v.oneCell' = true) →
  ∃ w', (storeCells ⟨B, off, none⟩ vs j).run P w = .ok () w' ∧ St W w' (l.set i (blk B (.cells (writes cs (off + j) vs) e fz)))
 | [], j, cs, l, w, H, hi, _, _, _ => by
  refine ⟨w, rfl, ?_⟩
  have hid : l.set i (blk B (.cells cs e fz)) = l := by
   refine List.ext_getElem? fun j => ?_
   by_cases hj : i = j
   ·subst hj
    rw [List.getElem?_set_self (List.getElem?_eq_some_iff.1 hi).1, hi]
   ·rw [List.getElem?_set_ne hj]
  rw [show writes cs (off + j) [] = cs from rfl, hid]
  exact H
 | v :: vs, j, cs, l, w, H, hi, hlen, hz, hone => by
  have hb := H.blk_at hi
  simp only [List.length_cons] at hlen hz
  have hr := run_store1 (P := P) (off := off + j) (v := v) hb (by omega) (hz _ (Nat.le_refl _) (by omega)) (hone v (by simp))
  have H2 := setCell_blk (a := ⟨B, off + j, none⟩) (off := off + j) (v := v) H hi rfl
  have hi2 : (l.set i (blk B (.cells (cs.setIfInBounds (off + j) v) e fz)))[i]? = some (blk B (.cells (cs.setIfInBounds (off + j) v) e fz)) := by
   have := (List.getElem?_eq_some_iff.1 hi).1
   simp [this]
  obtain ⟨w', hrun, H3⟩ := run_storeMany (P := P) vs (j + 1) _ _ _ H2 hi2 (by simp; omega) (fun o h1 h2 => hz o (by omega) (by omega)) (fun v hv => hone v (by simp [hv]))
  refine ⟨w', ?_, ?_⟩
  ·simp only [storeCells, Sem.run_bind, addr_add, hr, Result.andThen_ok, hrun]
  ·rw [List.set_set] at H3
   exact H3
theorem s_storeAgg (H : St W w l) (i : Nat) {t : TypeId} (vs : Array Value) (m : Nat) (hi : l[i]? = some (blk B (.cells cs e fz))) (hx : opv C.n ρ x = .pointer (some ⟨B, off, none⟩)) (hy : opv C.n ρ y = .agg vs) (hsz : (C.P.info? t).map (·.size) = some m) (hm : vs.size = m) (h1 : ∀ v ∈ vs.toList, v.oneCell' = true)
  (ho : off + m ≤ cs.size) (hz : ∀ o, off ≤ o → o < off + m → (decide (fz.1 ≤ o) && decide (o < fz.2)) = false) (hv : writes cs off vs.toList = cs')
  (h : ∀ w', St W w' (l.set i (blk B (.cells cs' e fz))) → K' ρ w') : GOp C ops ⟨none, .store t x y, ty, pos, af, none⟩ K' ρ w := by
 subst hm
 subst hv
 obtain ⟨w', hrun, H'⟩ := run_storeMany (P := C.P) (off := off) vs.toList 0 cs l w H hi (by simpa using ho) (by simpa using hz) h1
 refine r_skip0 rfl rfl ?_ (h w' (by simpa using H'))
 cases hinf : C.P.info? t with
 | none => simp [hinf] at hsz
 | some ti =>
  have hs : ti.size = vs.size := by simpa [hinf] using hsz
  simp only [execOp, hx, hy, Instr.storeAt, Instr.sureAddr, Sem.run_bind, Sem.run_pure, Result.andThen_ok, storeVar, run_sizeOf hinf, hs, Value.cells, ne_eq, not_true_eq_false, if_false, hrun]

theorem s_indexAddr {t : TypeId} {K : IntKind} (p : Nat) {n c : Nat} (j : Int) (size off' : Nat) (hx : opv C.n ρ x = .slice (some ⟨p, off, none⟩) n c) (hy : opv C.n ρ y = .int K j) (hs : elemSize C.P t = some (e, size)) (hj : 0 ≤ j ∧ j < (n : Int)) (ho : off + j.toNat * size = off') (hn : Nat.blt d C.n = true)
  (h : K' (upd ρ d (.pointer (some ⟨p, off', none⟩))) w) : GOp C ops ⟨some d, .indexAddr t x y, ty, pos, af, none⟩ K' ρ w := by
 subst ho
 refine r_val rfl rfl hn ?_ h
 unfold elemSize at hs
 split at hs
 ·rename_i e' hu
  split at hs
  ·rename_i ti hti
   injection hs with hs
   injection hs with h1 h2
   subst h1
   subst h2
   simp only [execOp, hx, hy, Instr.indexAt, asIntOf, Sem.run_bind, Sem.run_pure, Result.andThen_ok, run_underlying hu, hj, and_self, if_true, run_sizeOf hti, addr_add]
  ·cases hs
 ·cases hs
theorem s_index_str {t : TypeId} {K : IntKind} (s : ByteArray) (j : Int) (c : Int) (hx : opv C.n ρ x = .string s) (hy : opv C.n ρ y = .int K j) (ht : isStr C.P t = true) (hj : 0 ≤ j) (hc : (s[j.toNat]?).map (fun b => (b.toNat : Int)) = some c) (hn : Nat.blt d C.n = true)
  (h : K' (upd ρ d (.int .u8 c)) w) : GOp C ops ⟨some d, .index t x y, ty, pos, af, none⟩ K' ρ w := by
 refine r_val rfl rfl hn ?_ h
 have hu : C.P.underlying t = some .string := by unfold isStr at ht; split at ht <;> simp_all
 cases hb : s[j.toNat]? with
 | none => simp [hb] at hc
 | some b =>
  have : (b.toNat : Int) = c := by simpa [hb] using hc
  subst this
  simp only [execOp, hx, hy, Instr.index, asIntOf, Sem.run_bind, Sem.run_pure, Result.andThen_ok, run_underlying hu, hj, if_true, hb]
theorem s_len (n : Nat) {t : TypeId} {x : Operand} {p : Option Addr} {c : Nat} (hx : opv C.n ρ x = .slice p n c) (ht : ∃ e, C.P.underlying t = some (.slice e)) (hn : Nat.blt d C.n = true) (h : K' (upd ρ d (.int .i64 n)) w) : GOp C ops ⟨some d, .call { callee := .builtin .len, args := #[x], argTypes := #[t] }, ty, pos, af, none⟩ K' ρ w := by
 obtain ⟨e, he⟩ := ht
 refine r_val rfl rfl hn ?_ h
 simp [execOp, resolve, invoke, builtin, hx, Builtin.len_, run_underlying he, goInt]
theorem s_len_str (n : Nat) {t : TypeId} {s : ByteArray} {x : Operand} (hx : opv C.n ρ x = .string s) (ht : isStr C.P t = true) (hs : s.size = n) (hn : Nat.blt d C.n = true) (h : K' (upd ρ d (.int .i64 n)) w) : GOp C ops ⟨some d, .call { callee := .builtin .len, args := #[x], argTypes := #[t] }, ty, pos, af, none⟩ K' ρ w := by
 subst hs
 have hu : C.P.underlying t = some .string := by unfold isStr at ht; split at ht <;> simp_all
 refine r_val rfl rfl hn ?_ h
 simp [execOp, resolve, invoke, builtin, hx, Builtin.len_, run_underlying hu, goInt]
theorem s_append {t : TypeId} {v u : Value} {n m size bytes : Nat} {xs news : List Value} (H : St W w l) (i : Nat) (hi : l[i]? = some (Row e size v n xs)) (hx : opv C.n ρ x = v) (hy : opv C.n ρ y = u) (hr : Rd w size u m news)
  (hA : appInfo C.P t e size bytes size) (hsz : 0 < size) (h63 : n + m ≤ maxLen) (hbytes : (n + m) * bytes ≤ 140737488355328) {n' : Nat} {xs' : List Value} (hn' : n + m = n') (hxs' : xs ++ news = xs') (hn : Nat.blt d C.n = true)
  (h : ∀ v' w', St W w' (l.set i (Row e size v' n' xs')) → (v' = .slice none 0 0 ↔ v = .slice none 0 0 ∧ m = 0) → K' (upd ρ d v') w') : GOp C ops ⟨some d, .call { callee := .builtin .append, args := #[x, y], argTypes := #[t, t] }, ty, pos, af, none⟩ K' ρ w := by
 subst hn' hxs'
 obtain ⟨v', w', hrun, H', hnil⟩ := H.append (P := C.P) (t := t) (ty := ty) hi hr hA hsz h63 hbytes
 refine r_val rfl rfl hn ?_ (h v' w' H' hnil)
 simp [execOp, resolve, invoke, builtin, hx, hy, hrun]
theorem appInfo_mk {P : Program} {t e : TypeId} {size bytes : Nat} {z : Value} (ht : P.underlying t = some (.slice e)) (hi : (P.info? e).map (fun i => (i.zero, i.size, i.bytes)) = some (some z, size, bytes)) (hz : z.cells.size = size) : appInfo P t e size bytes size := by
 cases hh : P.info? e with
 | none => simp [hh] at hi
 | some ti =>
  simp only [hh, Option.map_some, Option.some.injEq, Prod.mk.injEq] at hi
  exact ⟨ht, ti, z, hh, hi.1, hi.2.1, hi.2.2, hz, rfl⟩
theorem rd_blk {n c size : Nat} {xs : List Value} (hb : w.heap[B]? = some (.cells cs e fz)) (hx : (cs.toList.drop off).take (n * size) = xs) (hl : off + n * size ≤ cs.size) (h1 : ∀ x ∈ xs, x.oneCell' = true) : Rd w size (.slice (some ⟨B, off, none⟩) n c) n xs := by
 refine ⟨by rw [← hx, List.length_take, List.length_drop, Array.length_toList]; omega, h1, .inr ⟨_, _, rfl, fun j x hj => ?_⟩⟩
 rw [addr_add]
 refine cell_of hb ?_
 rw [← hx, List.getElem?_take] at hj
 split at hj
 ·rw [List.getElem?_drop] at hj
  simpa using hj
 ·cases hj
theorem s_buildSlice (H : St W w l) {t : TypeId} (size len : Nat) {parts : Array (Nat × Operand)} (z : Array Value) (hs : elemSize C.P t = some (e, size)) (hz : zeroOf C.P e = some z) (hpos : 0 < len * size) (hsm : len * size ≤ 16777216)
  (hf : Instr.fill (fun i => some (i * size, size)) ((Array.range (len * size)).map (z[· % z.size]!)) (parts.toList.map fun p => (p.1, opv C.n ρ p.2)) = some cs) (hn : Nat.blt d C.n = true)
  (h : ∀ b w', St W w' (blk b (.cells cs e (0, 0)) :: l) → K' (upd ρ d (.slice (some ⟨b, 0, none⟩) len len)) w') : GOp C ops ⟨some d, .buildSlice t len parts, ty, pos, af, none⟩ K' ρ w := by
 rw [← Array.toList_map] at hf
 refine r_val rfl rfl hn ?_ (h _ _ (H.alloc _))
 unfold elemSize at hs
 split at hs
 ·rename_i e' hu
  split at hs
  ·rename_i ti hti
   injection hs with hs
   injection hs with h1 h2
   subst h1
   subst h2
   unfold zeroOf at hz
   cases hzz : ti.zero with
   | none => simp [hti, hzz] at hz
   | some zv =>
    have hzc : zv.cells = z := by simpa [hti, hzz] using hz
    subst hzc
    have hnb : ¬ (len * ti.size > 2 ^ 24) := by omega
    have h0 : ¬ (len * ti.size = 0) := by omega
    simp only [execOp, Instr.buildSlice, Sem.run_bind, run_underlying hu, Result.andThen_ok, run_sizeOf hti, hnb, if_false, h0, zeroValue, typeInfo, run_program, hti, hzz, Sem.run_pure, hf]
    rfl
  ·cases hs
 ·cases hs
theorem s_build {t : TypeId} {parts : Array (Nat × Operand)} (hf : C.P.built t (parts.toList.map fun p => (p.1, opv C.n ρ p.2)) = some cs) (hn : Nat.blt d C.n = true)
  (h : K' (upd ρ d (.agg cs)) w) : GOp C ops ⟨some d, .build t parts, ty, pos, af, none⟩ K' ρ w :=
 r_val rfl rfl hn (by rw [← Array.toList_map] at hf; simp only [execOp, Sem.run_bind, run_build w t _ cs hf, Result.andThen_ok, Sem.run_pure]) h
theorem elem_of {P : Program} {t e : TypeId} {size : Nat} (hs : elemSize P t = some (e, size)) : P.underlying t = some (.slice (P.elem t)) ∧ P.elem t = e ∧ ∃ ti, P.info? e = some ti ∧ ti.size = size := by
 unfold elemSize at hs
 split at hs
 ·rename_i e' hu
  split at hs
  ·rename_i ti hti
   injection hs with hs
   injection hs with h1 h2
   subst h1
   subst h2
   have : P.elem t = e' := by simp [Program.elem, hu]
   exact ⟨by rw [this]; exact hu, this, ti, hti, rfl⟩
  ·cases hs
 ·cases hs
def cutAt (p : Option Addr) (lo m size : Nat) : Option Addr := if m = lo then p else p.map (·.add (lo * size))
theorem s_slice {t : TypeId} {K L : IntKind} (p : Option Addr) {n c : Nat} (a b : Int) (size : Nat) (v : Value) {xlo xhi : Operand} (hx : opv C.n ρ x = .slice p n c) (hlo : opv C.n ρ xlo = .int K a) (hhi : opv C.n ρ xhi = .int L b) (hs : elemSize C.P t = some (e, size)) (hb : 0 ≤ a ∧ a ≤ b ∧ b ≤ (c : Int))
  (hv : Value.slice (cutAt p a.toNat c size) (b.toNat - a.toNat) (c - a.toNat) = v) (hn : Nat.blt d C.n = true) (h : K' (upd ρ d v) w) : GOp C ops ⟨some d, .slice t x (some xlo) (some xhi) none, ty, pos, af, none⟩ K' ρ w := by
 subst hv
 obtain ⟨ht, rfl, ti, hti, rfl⟩ := elem_of hs
 refine r_val rfl rfl hn ?_ h
 simp only [execOp, Option.map_some, Option.map_none, hx, hlo, hhi, Instr.sliceAt, Sem.run_bind, run_underlying ht, Result.andThen_ok, run_slice_lh w t p n c ht K L a b hb.1 hb.2.1 hb.2.2, run_sizeOf hti, Sem.run_pure]
 rfl
theorem s_slice_l {t : TypeId} {K : IntKind} (p : Option Addr) {n c : Nat} (a : Int) (size : Nat) (v : Value) {xlo : Operand} (hx : opv C.n ρ x = .slice p n c) (hlo : opv C.n ρ xlo = .int K a) (hs : elemSize C.P t = some (e, size)) (hb : 0 ≤ a ∧ a ≤ (n : Int))
  (hv : Value.slice (cutAt p a.toNat c size) (n - a.toNat) (c - a.toNat) = v) (hn : Nat.blt d C.n = true) (h : K' (upd ρ d v) w) : GOp C ops ⟨some d, .slice t x (some xlo) none none, ty, pos, af, none⟩ K' ρ w := by
 subst hv
 obtain ⟨ht, rfl, ti, hti, rfl⟩ := elem_of hs
 refine r_val rfl rfl hn ?_ h
 simp only [execOp, Option.map_some, Option.map_none, hx, hlo, Instr.sliceAt, Sem.run_bind, run_underlying ht, Result.andThen_ok, run_slice_l w t p n c ht K a hb.1 hb.2, run_sizeOf hti, Sem.run_pure]
 rfl
theorem s_make (H : St W w l) {t : TypeId} {K L : IntKind} (a : Int) (size bytes : Nat) {z : Value} {xl xc : Operand} (hl : opv C.n ρ xl = .int K a) (hc : opv C.n ρ xc = .int L a) (ht : C.P.underlying t = some (.slice e)) (hi : (C.P.info? e).map (fun i => (i.zero, i.size, i.bytes)) = some (some z, size, bytes))
  (h0 : 0 ≤ a) (hb : (bytes : Int) * a ≤ 281474976710656) (h63 : a ≤ 9223372036854775807) (hcs : madeCells z.cells (a.toNat * size) = cs) (hn : Nat.blt d C.n = true)
  (h : ∀ b w', St W w' (blk b (.cells cs e (0, 0)) :: l) → K' (upd ρ d (.slice (some ⟨b, 0, none⟩) a.toNat a.toNat)) w') : GOp C ops ⟨some d, .makeSlice t xl xc, ty, pos, af, none⟩ K' ρ w := by
 subst hcs
 cases hh : C.P.info? e with
 | none => simp [hh] at hi
 | some ti =>
  simp only [hh, Option.map_some, Option.some.injEq, Prod.mk.injEq] at hi
  obtain ⟨h1, rfl, rfl⟩ := hi
  refine r_val rfl rfl hn ?_ (h _ _ (H.alloc _))
  simp only [execOp, hl, hc, Sem.run_bind, run_make w t e ti z ht hh h1 K L a a h0 (Int.le_refl _) hb h63, Result.andThen_ok, Sem.run_pure]
def bytesV (l : List UInt8) : List Value := l.map fun b => .int .u8 (b.toNat : Int)
theorem bytesV_len (l : List UInt8) : (bytesV l).length = l.length := by simp [bytesV]
theorem s_str_bytes (H : St W w l) {s t : TypeId} (sv : ByteArray) (hx : opv C.n ρ x = .string sv) (hs : (C.P.underlying s).isSome = true) (ht : C.P.underlying t = some (.slice e)) (he : C.P.underlying e = some (.int .u8)) (hn : Nat.blt d C.n = true)
  (h : ∀ b w' (cap : Nat) (N : Nat) (tail : List Value), N = (bytesV sv.data.toList ++ tail).length → sv.size ≤ cap → (∀ v ∈ tail, v.oneCell' = true) → St W w' (blk b (.cells (bytesV sv.data.toList ++ tail).toArray e (N, N + 1)) :: l) → K' (upd ρ d (.slice (some ⟨b, 0, none⟩) sv.size cap)) w') : GOp C ops ⟨some d, .convert s t x, ty, pos, af, none⟩ K' ρ w := by
 obtain ⟨us, hus⟩ := Option.isSome_iff_exists.1 hs
 have hr := Lib.run_convert_string_bytes (P := C.P) w s t e sv hus ht he
 have hcells : Lib.bytesCells w e sv = (bytesV sv.data.toList ++ List.replicate (grownCap w sv.size 0 e - sv.size) (Value.int .u8 0)).toArray := by
  unfold Lib.bytesCells bytesV
  apply Array.ext'
  simp
 refine r_val (w' := Lib.bytesWorld w e sv) rfl rfl hn (by simp only [execOp, hx, Sem.run_bind, hr, Result.andThen_ok, Sem.run_pure]) (h w.heap.size _ (grownCap w sv.size 0 e) (Lib.bytesCells w e sv).size (List.replicate (grownCap w sv.size 0 e - sv.size) (Value.int .u8 0)) ?_ (grownCap_ge _ _ _ _) ?_ ?_)
 ·rw [hcells]; simp
 ·intro v hv; rw [List.mem_replicate] at hv; rw [hv.2]; rfl
 ·rw [← hcells]
  refine (St.cons_emp H).upd (i := 0) (A := emp) (A' := blk w.heap.size _) rfl rfl rfl rfl ?_
  intro I h1 d hI hh a
  refine ⟨_, rfl, Heap.one_le (Lib.bytesWorld_at_new w e sv), ?_, fun k hk _ => Lib.bytesWorld_at_old w e sv k hk⟩
  intro k hk
  right
  unfold Heap.one at hk
  split at hk
  ·omega
  ·exact absurd rfl hk
theorem s_bytes_str {s t : TypeId} {u : Value} {m : Nat} {xs : List UInt8} (hx : opv C.n ρ x = u) (hr : Rd w 1 u m (bytesV xs)) (hs : C.P.underlying s = some (.slice e)) (he : C.P.underlying e = some (.int .u8)) (ht : C.P.underlying t = some .string) (hn : Nat.blt d C.n = true)
  (h : K' (upd ρ d (.string ⟨xs.toArray⟩)) w) : GOp C ops ⟨some d, .convert s t x, ty, pos, af, none⟩ K' ρ w := by
 obtain ⟨hl, _, hu⟩ := hr
 rw [bytesV_len, Nat.mul_one] at hl
 refine r_val rfl rfl hn ?_ h
 rcases hu with ⟨rfl, rfl⟩ | ⟨a, c, rfl, hc⟩
 ·have hx0 : xs = [] := List.eq_nil_of_length_eq_zero hl
  subst hx0
  simp only [execOp, hx, Sem.run_bind, run_convert_bytes_nil w s e hs he 0 0 t ht, Result.andThen_ok, Sem.run_pure]
  rfl
 ·subst hl
  have e1 := run_convert_bytes_back (P := C.P) w s t e a c xs hs he ht (fun j hj => hc j _ (by simp [bytesV, hj]))
  simp only [execOp, hx, Sem.run_bind, e1, Result.andThen_ok, Sem.run_pure]
def plainFn (P : Program) (f : FuncId) : Bool := match P.funcs[f]? with | some fn => !(fn.name == "runtime.NumGoroutine") && fn.body.isSome | none => false
theorem run_callFunc {P : Program} {f : FuncId} (hf : plainFn P f = true) (args : Array Value) (w : World) : (callFunc f args).run P w = .ok (.enter f args) w := by
 unfold plainFn at hf
 split at hf
 ·rename_i fn hfn
  simp only [Bool.and_eq_true, Bool.not_eq_true'] at hf
  have hb : fn.body.isNone = false := by cases h : fn.body <;> simp_all
  simp only [callFunc, Sem.run_bind, run_program, Result.andThen_ok, hfn, hf.1, hb, Bool.false_eq_true, if_false]
  rfl
 ·cases hf
theorem s_call {f : FuncId} {Q : Value → World → Prop} (args : List Value) {ops' : Array Operand} {tys : Array TypeId} (hf : plainFn C.P f = true) (ha : ops'.toList.map (opv C.n ρ) = args) (hn : Nat.blt d C.n = true) (hc : Calls C.P f args.toArray w (Ret Q))
  (h : ∀ v w', Q v w' → K' (upd ρ d v) w') : GOp C ops ⟨some d, .call { callee := .value (.func f), args := ops', argTypes := tys }, ty, pos, af, none⟩ K' ρ w := by
 subst ha
 refine r_enter rfl rfl hn ?_ hc h
 simp only [execOp, resolve, Deferred.ofValue, opv, Sem.run_bind, Sem.run_pure, Result.andThen_ok, invoke, run_callFunc hf, Array.append_empty, Array.empty_append, map_toList, List.append_toArray, List.nil_append, List.append_nil]
theorem s_callv {f : FuncId} {Q : Value → World → Prop} (caps args : List Value) {x : Operand} {ops' : Array Operand} {tys : Array TypeId} (hx : opv C.n ρ x = .func (.func f) #[] caps.toArray) (hf : plainFn C.P f = true) (ha : ops'.toList.map (opv C.n ρ) ++ caps = args) (hn : Nat.blt d C.n = true) (hc : Calls C.P f args.toArray w (Ret Q))
  (h : ∀ v w', Q v w' → K' (upd ρ d v) w') : GOp C ops ⟨some d, .call { callee := .value x, args := ops', argTypes := tys }, ty, pos, af, none⟩ K' ρ w := by
 subst ha
 refine r_enter rfl rfl hn ?_ hc h
 simp only [execOp, resolve, Deferred.ofValue, hx, Sem.run_bind, Sem.run_pure, Result.andThen_ok, invoke, run_callFunc hf, Array.append_empty, Array.empty_append, map_toList, List.append_toArray, List.nil_append, List.append_nil]
end
end Sl
