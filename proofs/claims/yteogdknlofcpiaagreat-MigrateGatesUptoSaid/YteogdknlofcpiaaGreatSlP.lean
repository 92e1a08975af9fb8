import Derived.Test.YteogdknlofcpiaaGreatSlG
namespace Sl
open _root_.Go _root_.Go.RowKit
set_option linter.all false
section
variable {P : Program} (w : World)
theorem run_append_room0 (t u ty e : TypeId) (k : IntKind) (i : TypeInfo) (z : Value) (ht : P.underlying t = some (.slice e)) (hu : P.underlying u = some (.int k)) (hi : P.info? e = some i) (hz : i.zero = some z)
  (g sLen sCap : Nat) (cur : Array Value) (hg : w.heap[g]? = some (.cells cur e (0, 0))) (m : Nat) (news : List Value) (hnews : (Builtin.zeroCells z.cells m).toList = news) (hl : news.length = m * i.size) (h1 : ∀ u ∈ news, u.oneCell' = true)
  (hm : 0 < m) (hs : 0 < i.size) (hb : m * i.bytes ≤ 140737488355328) (h63 : m ≤ 9223372036854775807) (hroom : sLen + m ≤ sCap) (hfit : sLen * i.size + news.length ≤ cur.size) :
  (Builtin.append_ #[t, u] ty #[.slice (some ⟨g, 0, none⟩) sLen sCap, .int .i64 (m : Int)]).run P w =
   .ok (.slice (some ⟨g, 0, none⟩) (sLen + m) sCap) (w.setRow g (cur.toList.take (sLen * i.size) ++ news ++ cur.toList.drop (sLen * i.size + news.length)).toArray) := by
 have hst := run_storeCells_at P g (sLen * i.size) e news 0 cur w hg (by simpa using hfit) h1
 simp only [Nat.add_zero] at hst
 have hw : IntKind.i64.wrap (m : Int) = m := wi64 (by omega)
 have hneg : ¬ ((m : Int) < 0) := by omega
 have hbig : ¬ (281474976710656 < (m : Int) * (i.bytes : Int)) := by
  have h2 : (m : Int) * (i.bytes : Int) = ((m * i.bytes : Nat) : Int) := (Int.natCast_mul m i.bytes).symm
  rw [h2]
  generalize m * i.bytes = q at *
  omega
 have hms : ¬ (m * i.size = 0) := by have := Nat.mul_pos hm hs; omega
 have hms2 : ¬ (m = 0 ∨ i.size = 0) := by omega
 simp [Builtin.append_, run_underlying ht, run_underlying hu, Go.sizeOf, typeInfo, hi, hz, zeroValue, asInt, asIntOf, hw, hneg, hbig, hms, hms2, hroom, hnews, Addr.add_lit, hst]
theorem run_append_grow0 (t u ty e : TypeId) (k : IntKind) (i : TypeInfo) (z : Value) (ht : P.underlying t = some (.slice e)) (hu : P.underlying u = some (.int k)) (hi : P.info? e = some i) (hz : i.zero = some z)
  (b : Addr) (sLen sCap : Nat) (olds : List Value) (hlo : olds.length = sLen * i.size) (holds : ∀ j v, olds[j]? = some v → w.cell? (b.add j) = some v)
  (m : Nat) (news : List Value) (hnews : (Builtin.zeroCells z.cells m).toList = news)
  (hm : 0 < m) (hs : 0 < i.size) (hb : m * i.bytes ≤ 140737488355328) (hb0 : 0 < i.bytes) (hg : sCap < sLen + m) (h63 : ((sLen + m : Nat) : Int) ≤ 9223372036854775807) (hfit : Builtin.nextslicecap (sLen + m) sCap * i.bytes ≤ 281474976710656) :
  (Builtin.append_ #[t, u] ty #[.slice (some b) sLen sCap, .int .i64 (m : Int)]).run P w =
   .ok (.slice (some ⟨w.heap.size, 0, none⟩) (sLen + m) (grownCap w (sLen + m) sCap e))
    (w.drew.alloc (.cells (olds.toArray ++ news.toArray ++ Builtin.zeroCells z.cells (grownCap w (sLen + m) sCap e - (sLen + m))) e)) := by
 have hn : ¬ (sLen + m ≤ sCap) := by omega
 have h63' : ¬ (9223372036854775807 < ((sLen : Int) + (m : Int))) := by omega
 have h48' : ¬ (281474976710656 < Builtin.nextslicecap (sLen + m) sCap * i.bytes) := by omega
 have hfo := run_firstCells_some (P := P) w.drew i.size sLen b sLen sCap olds hlo (by simpa using holds)
 have hw : IntKind.i64.wrap (m : Int) = m := wi64 (by omega)
 have hneg : ¬ ((m : Int) < 0) := by omega
 have hbig : ¬ (281474976710656 < (m : Int) * (i.bytes : Int)) := by
  have h2 : (m : Int) * (i.bytes : Int) = ((m * i.bytes : Nat) : Int) := (Int.natCast_mul m i.bytes).symm
  rw [h2]
  generalize m * i.bytes = q at *
  omega
 have hms2 : ¬ (m = 0 ∨ i.size = 0) := by omega
 have hms : ¬ (m * i.size = 0) := by have := Nat.mul_pos hm hs; omega
 have hnews2 : Builtin.zeroCells z.cells m = news.toArray := by rw [← hnews]
 simp [Builtin.append_, run_underlying ht, run_underlying hu, Go.sizeOf, typeInfo, zeroValue, asInt, asIntOf, hi, hz, hw, hneg, hbig, hms, hms2, hn, h63', h48', Question.forced, hfo, newRow, grownCap, hnews2]
 congr 2
 apply Array.ext'
 simp [List.append_assoc]
end
section
variable {W w : World} {l : List Atom} {i : Nat} {e : TypeId} {size : Nat} {v : Value} {n : Nat} {xs : List Value}
theorem St.append0 {P : Program} {t u ty : TypeId} {k : IntKind} {z : Value} {m bytes : Nat} {news : List Value} (H : St W w l) (hi : l[i]? = some (Row e size v n xs)) (hn0 : 0 < n) (hm0 : 0 < m)
  (ht : P.underlying t = some (.slice e)) (hu : P.underlying u = some (.int k)) (hI : (P.info? e).map (fun i => (i.zero, i.size, i.bytes)) = some (some z, size, bytes)) (hzs : z.cells.size = size) (hnews : (Builtin.zeroCells z.cells m).toList = news) (honeN : ∀ x ∈ news, x.oneCell' = true)
  (hsz : 0 < size) (hb0 : 0 < bytes) (h63 : n + m ≤ maxLen) (hbytes : (n + m) * bytes ≤ 140737488355328) :
  ∃ v' w', (Builtin.append_ #[t, u] ty #[v, .int .i64 (m : Int)]).run P w = .ok v' w' ∧ St W w' (l.set i (Row e size v' (n + m) (xs ++ news))) := by
 cases hti : P.info? e with
 | none => simp [hti] at hI
 | some ti =>
  simp only [hti, Option.map_some, Option.some.injEq, Prod.mk.injEq] at hI
  obtain ⟨hz, rfl, rfl⟩ := hI
  have hl : news.length = m * ti.size := by rw [← hnews, Array.length_toList, size_zeroCells, hzs]
  have hlen := Row.len H hi
  have hsmall : n + m ≤ 9223372036854775807 := by simp only [maxLen] at h63; omega
  have hmb : m * ti.bytes ≤ 140737488355328 := Nat.le_trans (Nat.mul_le_mul_right _ (by omega)) hbytes
  have hone : ∀ x ∈ xs, x.oneCell' = true := by
   obtain ⟨I, h1, _, _, hh, a, _⟩ := H.get hi
   exact a
  have honeA : ∀ x ∈ xs ++ news, x.oneCell' = true := fun x hx => (List.mem_append.1 hx).elim (hone x) (honeN x)
  have hlenA : (xs ++ news).length = (n + m) * ti.size := by rw [List.length_append, hlen, hl, Nat.add_mul]
  obtain ⟨g, cap, cur, rfl, hc, hcm, hcs, htake, _, H'⟩ := Row.open_ H hi (by omega)
  have hg : w.heap[g]? = some (.cells cur e (0, 0)) := H'.blk_at (i := i) (by
   have := (List.getElem?_eq_some_iff.1 hi).1
   simp [this])
  by_cases hroom : n + m ≤ cap
  ·have hfit : n * ti.size + news.length ≤ cur.size := by rw [hl, hcs, ← Nat.add_mul]; exact Nat.mul_le_mul_right _ hroom
   have hr := run_append_room0 (P := P) w t u ty e k ti z ht hu hti hz g n cap cur hg m news hnews hl honeN hm0 hsz hmb (by omega) hroom hfit
   refine ⟨_, _, hr, ?_⟩
   refine H.upd hi rfl rfl rfl ?_
   rintro I h1 dI hI hh1 ⟨_, _, aa⟩
   rcases aa with ⟨hv, _, _⟩ | ⟨g', cap', cur', hv, _, _, _, _, rfl⟩
   ·cases hv
   ·injection hv with h1 h2 h3
    injection h1 with h1
    injection h1 with h1
    subst h1
    refine ⟨_, ⟨honeA, hlenA, .inr ⟨g, cap, _, rfl, hroom, hcm, ?_, ?_, rfl⟩⟩, Heap.one_le (setRow_heap w g cur (cur.toList.take (n * ti.size) ++ news ++ cur.toList.drop (n * ti.size + news.length)).toArray e _ hg), ?_, ?_⟩
    ·simp only [List.size_toArray, List.length_append, List.length_take, List.length_drop, Array.length_toList]; omega
    ·rw [htake, ← hlenA]; exact List.take_left
    ·intro k hk; left; unfold Heap.one at hk ⊢; split at hk <;> simp_all
    ·intro k hk hk2; exact setRow_other w g k _ (fun e => by subst e; simp [Heap.one] at hk2)
  ·have holds : ∀ j u, xs[j]? = some u → w.cell? ((⟨g, 0, none⟩ : Addr).add j) = some u := by
    intro j x hx
    rw [addr_add, Nat.zero_add]
    refine cell_of hg ?_
    rw [← htake, List.getElem?_take] at hx
    split at hx
    ·simpa using hx
    ·cases hx
   have hr := run_append_grow0 (P := P) w t u ty e k ti z ht hu hti hz ⟨g, 0, none⟩ n cap xs hlen holds m news hnews hm0 hsz hmb hb0 (by omega) (by omega) (growslice_fits (by omega) hbytes)
   refine ⟨_, _, hr, ?_⟩
   have hge := grownCap_ge w (n + m) cap e
   have hcm : grownCap w (n + m) cap e ≤ maxLen := grownCap_le_maxLen w (n + m) cap e h63
   have H2 := (H.drew).alloc (.cells (xs.toArray ++ news.toArray ++ Builtin.zeroCells z.cells (grownCap w (n + m) cap e - (n + m))) e)
   have H3 := Row.shut (i := 0) (n := n + m) (cap := grownCap w (n + m) cap e) (size := ti.size) (xs := xs ++ news) H2 rfl hge hcm (by
    simp only [Array.size_append, List.size_toArray, size_zeroCells, hzs, hlen, hl, ← Nat.add_mul]
    congr 1
    omega) (by
    simp only [Array.toList_append, List.append_assoc]
    rw [← List.append_assoc, ← hlenA]
    exact List.take_left) honeA
   have H4 : St W _ (Row e ti.size (.slice (some ⟨w.heap.size, 0, none⟩) (n + m) (grownCap w (n + m) cap e)) (n + m) (xs ++ news) :: l) := H3
   have e1 : (Row e ti.size (.slice (some ⟨w.heap.size, 0, none⟩) (n + m) (grownCap w (n + m) cap e)) (n + m) (xs ++ news) :: l)[i + 1]? = some (Row e ti.size (.slice (some ⟨g, 0, none⟩) n cap) n xs) := by simpa using hi
   have H6 := (H4.front e1).tail
   have H7 : St W _ (Row e ti.size (.slice (some ⟨w.heap.size, 0, none⟩) (n + m) (grownCap w (n + m) cap e)) (n + m) (xs ++ news) :: l.set i emp) := H6
   exact St.back hi H7
end
section
variable {C : Ctx} {ρ : Env} {w W : World} {l : List Atom} {i : Nat} {ops : Array Oper} {K' : Env → World → Prop} {d ty : Nat} {pos : String} {af : Array Edge} {x y : Operand} {e : TypeId} {size : Nat}
theorem s_append0 {t u : TypeId} {k : IntKind} {z : Value} {v : Value} {n m bytes : Nat} {xs news : List Value} (H : St W w l) (i : Nat) (hi : l[i]? = some (Row e size v n xs)) (hn0 : 0 < n) (hm0 : 0 < m) (hx : opv C.n ρ x = v) (hy : opv C.n ρ y = .int .i64 (m : Int))
  (ht : C.P.underlying t = some (.slice e)) (hu : C.P.underlying u = some (.int k)) (hI : (C.P.info? e).map (fun i => (i.zero, i.size, i.bytes)) = some (some z, size, bytes)) (hzs : z.cells.size = size) (hnews : (Builtin.zeroCells z.cells m).toList = news) (honeN : ∀ x ∈ news, x.oneCell' = true)
  (hsz : 0 < size) (hb0 : 0 < bytes) (h63 : n + m ≤ maxLen) (hbytes : (n + m) * bytes ≤ 140737488355328) {n' : Nat} {xs' : List Value} (hn' : n + m = n') (hxs' : xs ++ news = xs') (hn : Nat.blt d C.n = true)
  (h : ∀ v' w', St W w' (l.set i (Row e size v' n' xs')) → K' (upd ρ d v') w') : GOp C ops ⟨some d, .call { callee := .builtin .append, args := #[x, y], argTypes := #[t, u] }, ty, pos, af, none⟩ K' ρ w := by
 subst hn' hxs'
 obtain ⟨v', w', hrun, H'⟩ := H.append0 (P := C.P) (t := t) (ty := ty) hi hn0 hm0 ht hu hI hzs hnews honeN hsz hb0 h63 hbytes
 refine r_val rfl rfl hn ?_ (h v' w' H')
 simp [execOp, resolve, invoke, builtin, hx, hy, hrun]
end
section
variable {C : Ctx} {ρ : Env} {W w : World} {ops : Array Oper} {K' : Env → World → Prop} {d ty : Nat} {pos : String} {af : Array Edge} {x : Operand} {K : IntKind} {a : Int}
theorem x_neg {t : TypeId} (c : Int) (hx : opv C.n ρ x = .int K a) (hc : K.wrap (-a) = c) (w : World) : (execOp (opv C.n ρ) ⟨some d, .unOp .neg t x, ty, pos, af, none⟩).run C.P w = .ok (.value (.int K c)) w := by
 subst hc
 simp [execOp, hx, Op.unary, Op.intArith]
theorem s_neg {t : TypeId} (c : Int) (hx : opv C.n ρ x = .int K a) (hc : K.wrap (-a) = c) (hn : Nat.blt d C.n = true) (h : K' (upd ρ d (.int K c)) w) : GOp C ops ⟨some d, .unOp .neg t x, ty, pos, af, none⟩ K' ρ w :=
 r_val rfl rfl hn (x_neg c hx hc w) h
end
end Sl
