import Derived.Test.YteogdknlofcpiaaGreatSlC
import Derived.Lib.ConvBytes
import Derived.Laws.BytesArg
namespace Sl
open _root_.Go _root_.Go.RowKit
set_option linter.all false
set_option linter.unusedSimpArgs false

def Row (e : TypeId) (size : Nat) (v : Value) (n : Nat) (xs : List Value) : Atom :=
  ⟨fun _ h => (∀ x ∈ xs, x.oneCell' = true) ∧ xs.length = n * size ∧ ((v = .slice none 0 0 ∧ n = 0 ∧ h = Heap.none) ∨
     ∃ (g cap : Nat) (cur : Array Value), v = .slice (some ⟨g, 0, none⟩) n cap ∧ n ≤ cap ∧ cap ≤ maxLen ∧ cur.size = cap * size ∧ cur.toList.take (n * size) = xs ∧ h = Heap.one g (.cells cur e (0, 0))), fun _ _ _ _ h => h⟩
def Rd (w : World) (size : Nat) (u : Value) (m : Nat) (xs : List Value) : Prop :=
  xs.length = m * size ∧ (∀ x ∈ xs, x.oneCell' = true) ∧ ((u = .slice none 0 0 ∧ m = 0) ∨ ∃ a c, u = .slice (some a) m c ∧ ∀ j x, xs[j]? = some x → w.cell? (a.add j) = some x)

section
variable {W w : World} {l : List Atom} {i : Nat} {e : TypeId} {size : Nat} {v : Value} {n : Nat} {xs : List Value}
theorem Row.nil_intro (H : St W w l) (e : TypeId) (size : Nat) : St W w (Row e size (.slice none 0 0) 0 [] :: l) := by
  have := H.cons_emp.conv (i := 0) (A := emp) (A' := Row e size (.slice none 0 0) 0 []) rfl fun I h1 a => ⟨by simp, by simp, .inl ⟨rfl, rfl, a⟩⟩
  exact this
theorem Row.len (H : St W w l) (hi : l[i]? = some (Row e size v n xs)) : xs.length = n * size := by
  obtain ⟨I, h1, _, _, hh, a⟩ := H.get hi
  exact a.2.1
theorem Row.max (H : St W w l) (hi : l[i]? = some (Row e size v n xs)) : n ≤ maxLen := by
  obtain ⟨I, h1, _, _, hh, _, _, a⟩ := H.get hi
  rcases a with ⟨_, rfl, _⟩ | ⟨g, cap, cur, _, h, h', _⟩
  · exact Nat.zero_le _
  · exact Nat.le_trans h h'
theorem Row.slice (H : St W w l) (hi : l[i]? = some (Row e size v n xs)) : ∃ a c, v = .slice a n c := by
  obtain ⟨I, h1, _, _, hh, _, _, a⟩ := H.get hi
  rcases a with ⟨rfl, rfl, _⟩ | ⟨g, cap, cur, rfl, _⟩
  · exact ⟨_, _, rfl⟩
  · exact ⟨_, _, rfl⟩
theorem Row.rd (H : St W w l) (hi : l[i]? = some (Row e size v n xs)) : Rd w size v n xs := by
  obtain ⟨I, h1, _, _, hh, hone, hlen, a⟩ := H.get hi
  refine ⟨hlen, hone, ?_⟩
  rcases a with ⟨rfl, rfl, _⟩ | ⟨g, cap, cur, rfl, hc, hm, hs, ht, rfl⟩
  · exact .inl ⟨rfl, rfl⟩
  · refine .inr ⟨_, _, rfl, fun j x hx => ?_⟩
    have hb : w.heap[g]? = some (.cells cur e (0, 0)) := Heap.of_one_le hh
    rw [addr_add, Nat.zero_add]
    refine cell_of hb ?_
    rw [← ht, List.getElem?_take] at hx
    split at hx
    · simpa using hx
    · cases hx
theorem Row.open_ (H : St W w l) (hi : l[i]? = some (Row e size v n xs)) (h0 : 0 < n) : ∃ g cap cur, v = .slice (some ⟨g, 0, none⟩) n cap ∧ n ≤ cap ∧ cap ≤ maxLen ∧ cur.size = cap * size ∧ cur.toList.take (n * size) = xs ∧ (∀ x ∈ xs, x.oneCell' = true) ∧ St W w (l.set i (blk g (.cells cur e (0, 0)))) := by
  obtain ⟨⟨g, cap, cur⟩, hp, H'⟩ := H.choose hi (fun x : Nat × Nat × Array Value => blk x.1 (.cells x.2.2 e (0, 0)))
    (fun x => v = .slice (some ⟨x.1, 0, none⟩) n x.2.1 ∧ n ≤ x.2.1 ∧ x.2.1 ≤ maxLen ∧ x.2.2.size = x.2.1 * size ∧ x.2.2.toList.take (n * size) = xs ∧ (∀ x ∈ xs, x.oneCell' = true)) (by
      rintro I h1 ⟨hone, hlen, a⟩
      rcases a with ⟨_, rfl, _⟩ | ⟨g, cap, cur, rfl, hc, hm, hs, ht, rfl⟩
      · omega
      · exact ⟨(g, cap, cur), ⟨rfl, hc, hm, hs, ht, hone⟩, rfl⟩)
  exact ⟨g, cap, cur, hp.1, hp.2.1, hp.2.2.1, hp.2.2.2.1, hp.2.2.2.2.1, hp.2.2.2.2.2, H'⟩
theorem Row.shut {g cap : Nat} {cur : Array Value} (H : St W w l) (hi : l[i]? = some (blk g (.cells cur e (0, 0)))) (hc : n ≤ cap) (hm : cap ≤ maxLen) (hs : cur.size = cap * size) (ht : cur.toList.take (n * size) = xs) (hone : ∀ x ∈ xs, x.oneCell' = true) : St W w (l.set i (Row e size (.slice (some ⟨g, 0, none⟩) n cap) n xs)) :=
  H.conv hi fun I h1 a => ⟨hone, by rw [← ht, List.length_take, Array.length_toList, hs]; exact Nat.min_eq_left (Nat.mul_le_mul_right _ hc), .inr ⟨g, cap, cur, rfl, hc, hm, hs, ht, a⟩⟩

def appInfo (P : Program) (t e : TypeId) (size bytes : Nat) (zs : Nat) : Prop :=
  P.underlying t = some (.slice e) ∧ ∃ i z, P.info? e = some i ∧ i.zero = some z ∧ i.size = size ∧ i.bytes = bytes ∧ z.cells.size = size ∧ zs = size
theorem St.appendW {P : Program} {t ty : TypeId} {u : Value} {m bytes : Nat} {news : List Value} (H : St W w l) (hi : l[i]? = some (Row e size v n xs)) (hr : Rd w size u m news)
    (hA : appInfo P t e size bytes size) (hsz : 0 < size) (h63 : n + m ≤ maxLen) (hbytes : ∀ p c, v = .slice p n c → c < n + m → Builtin.nextslicecap (n + m) c * bytes ≤ 281474976710656) :
    ∃ v' w', (Builtin.append_ #[t, t] ty #[v, u]).run P w = .ok v' w' ∧ St W w' (l.set i (Row e size v' (n + m) (xs ++ news))) ∧ (v' = .slice none 0 0 ↔ v = .slice none 0 0 ∧ m = 0) := by
  obtain ⟨ht, ti, z, hti, hz, rfl, rfl, hzs, _⟩ := hA
  obtain ⟨hl, hone2, hu⟩ := hr
  have hlen := Row.len H hi
  have hmaxn := Row.max H hi
  have hsmall : n + m ≤ 9223372036854775807 := by simp only [maxLen] at h63; omega
  have hone : ∀ x ∈ xs, x.oneCell' = true := by
    obtain ⟨I, h1, _, _, hh, a, _⟩ := H.get hi
    exact a
  have honeA : ∀ x ∈ xs ++ news, x.oneCell' = true := fun x hx => (List.mem_append.1 hx).elim (hone x) (hone2 x)
  have hlenA : (xs ++ news).length = (n + m) * ti.size := by rw [List.length_append, hlen, hl, Nat.add_mul]
  -- nothing appended
  have idle : ∀ (_ : m = 0), (Builtin.append_ #[t, t] ty #[v, u]).run P w = .ok v w → ∃ v' w', (Builtin.append_ #[t, t] ty #[v, u]).run P w = .ok v' w' ∧ St W w' (l.set i (Row e ti.size v' (n + m) (xs ++ news))) ∧ (v' = .slice none 0 0 ↔ v = .slice none 0 0 ∧ m = 0) := by
    intro hm hrun
    subst hm
    have hn : news = [] := List.eq_nil_of_length_eq_zero (by simpa using hl)
    subst hn
    refine ⟨v, w, hrun, ?_, by simp⟩
    have hid : l.set i (Row e ti.size v n xs) = l := by
      refine List.ext_getElem? fun j => ?_
      by_cases hj : i = j
      · subst hj
        rw [List.getElem?_set_self (List.getElem?_eq_some_iff.1 hi).1, hi]
      · rw [List.getElem?_set_ne hj]
    simpa [hid] using H
  -- a new block
  have fresh : ∀ (old : Nat), 0 < m → (hrun : (Builtin.append_ #[t, t] ty #[v, u]).run P w = .ok (.slice (some ⟨w.heap.size, 0, none⟩) (n + m) (grownCap w (n + m) old e)) (w.drew.alloc (.cells (xs.toArray ++ news.toArray ++ Builtin.zeroCells z.cells (grownCap w (n + m) old e - (n + m))) e))) →
      ∃ v' w', (Builtin.append_ #[t, t] ty #[v, u]).run P w = .ok v' w' ∧ St W w' (l.set i (Row e ti.size v' (n + m) (xs ++ news))) ∧ (v' = .slice none 0 0 ↔ v = .slice none 0 0 ∧ m = 0) := by
    intro old hm hrun
    refine ⟨_, _, hrun, ?_, by simp; omega⟩
    have hge := grownCap_ge w (n + m) old e
    have hcm : grownCap w (n + m) old e ≤ maxLen := grownCap_le_maxLen w (n + m) old e h63
    have H2 := (H.drew).alloc (.cells (xs.toArray ++ news.toArray ++ Builtin.zeroCells z.cells (grownCap w (n + m) old e - (n + m))) e)
    have H3 := Row.shut (i := 0) (n := n + m) (cap := grownCap w (n + m) old e) (size := ti.size) (xs := xs ++ news) H2 rfl hge hcm (by
      simp only [Array.size_append, List.size_toArray, size_zeroCells, hzs, hlen, hl, ← Nat.add_mul]
      congr 1
      omega) (by
      simp only [Array.toList_append, List.append_assoc]
      rw [← List.append_assoc, ← hlenA]
      exact List.take_left) honeA
    have H4 : St W _ (Row e ti.size (.slice (some ⟨w.heap.size, 0, none⟩) (n + m) (grownCap w (n + m) old e)) (n + m) (xs ++ news) :: l) := H3
    -- the elder row goes, the new one takes its place
    have H5 := H4.perm (List.Perm.refl _)
    have e1 : (Row e ti.size (.slice (some ⟨w.heap.size, 0, none⟩) (n + m) (grownCap w (n + m) old e)) (n + m) (xs ++ news) :: l)[i + 1]? = some (Row e ti.size v n xs) := by simpa using hi
    have H6 := (H4.front e1).tail
    have H7 : St W _ (Row e ti.size (.slice (some ⟨w.heap.size, 0, none⟩) (n + m) (grownCap w (n + m) old e)) (n + m) (xs ++ news) :: l.set i emp) := H6
    exact St.back hi H7
  rcases hu with ⟨rfl, rfl⟩ | ⟨a, c, rfl, hcells⟩
  · -- a nil source
    obtain ⟨pa, pc, hv⟩ := Row.slice H hi
    refine idle rfl ?_
    subst hv
    have hnc : n ≤ pc := by
      obtain ⟨I, h1, _, _, hh, _, _, aa⟩ := H.get hi
      rcases aa with ⟨hv, rfl, _⟩ | ⟨g, cap, cur, hv, hc, _⟩
      · exact Nat.zero_le _
      · injection hv with _ _ hcc; omega
    cases pa <;> simp [Builtin.append_, run_underlying ht, Go.sizeOf, typeInfo, hti, Builtin.lenOf, Builtin.firstCells, hnc, storeCells]
  · by_cases hm : m = 0
    · obtain ⟨pa, pc, hv⟩ := Row.slice H hi
      refine idle hm ?_
      subst hv
      subst hm
      have hnc : n ≤ pc := by
        obtain ⟨I, h1, _, _, hh, _, _, aa⟩ := H.get hi
        rcases aa with ⟨hv, rfl, _⟩ | ⟨g, cap, cur, hv, hc, _⟩
        · exact Nat.zero_le _
        · injection hv with _ _ hcc; omega
      cases pa <;> simp [Builtin.append_, run_underlying ht, Go.sizeOf, typeInfo, hti, Builtin.lenOf, Builtin.firstCells, hnc, storeCells, loadCells, loadCellsFrom]
    · have hm0 : 0 < m := by omega
      by_cases hn0 : n = 0
      · -- an empty row: nil or not
        obtain ⟨I, h1, _, _, hh, _, _, aa⟩ := H.get hi
        rcases aa with ⟨rfl, _, _⟩ | ⟨g, cap, cur, rfl, hc, hcm, hcs, htake, rfl⟩
        · subst hn0
          have hx : xs = [] := List.eq_nil_of_length_eq_zero (by simpa using hlen)
          subst hx
          have hr := run_append_nil (P := P) w t ty e ti z ht hti hz a m c news hl hcells hm0 (by omega) (by have hb := hbytes none 0 rfl (by omega); rw [Nat.zero_add] at hb; unfold Builtin.nextslicecap at hb; rw [if_pos (by omega)] at hb; omega)
          refine fresh 0 hm0 ?_
          simpa using hr
        · have hg : w.heap[g]? = some (.cells cur e (0, 0)) := Heap.of_one_le hh
          by_cases hroom : n + m ≤ cap
          · have hfit : n * ti.size + news.length ≤ cur.size := by rw [hl, hcs, ← Nat.add_mul]; exact Nat.mul_le_mul_right _ hroom
            have hr := run_append_room (P := P) w t ty e ti ht hti g n cap cur hg a m c news hl hcells hone2 hroom hfit
            refine ⟨_, _, hr, ?_, by simp⟩
            refine H.upd hi rfl rfl rfl ?_
            rintro I h1 dI hI hh1 ⟨_, _, aa⟩
            rcases aa with ⟨hv, _, _⟩ | ⟨g', cap', cur', hv, _, _, _, _, rfl⟩
            · cases hv
            · injection hv with h1 h2 h3
              injection h1 with h1
              injection h1 with h1
              subst h1
              refine ⟨_, ⟨honeA, hlenA, .inr ⟨g, cap, _, rfl, hroom, hcm, ?_, ?_, rfl⟩⟩, Heap.one_le (setRow_heap w g cur (cur.toList.take (n * ti.size) ++ news ++ cur.toList.drop (n * ti.size + news.length)).toArray e _ hg), ?_, ?_⟩
              · simp only [List.size_toArray, List.length_append, List.length_take, List.length_drop, Array.length_toList]; omega
              · rw [htake, ← hlenA]; exact List.take_left
              · intro k hk; left; unfold Heap.one at hk ⊢; split at hk <;> simp_all
              · intro k hk hk2; exact setRow_other w g k _ (fun e => by subst e; simp [Heap.one] at hk2)
          · have holds : ∀ j u, xs[j]? = some u → w.cell? ((⟨g, 0, none⟩ : Addr).add j) = some u := by
              intro j x hx
              rw [addr_add, Nat.zero_add]
              refine cell_of hg ?_
              rw [← htake, List.getElem?_take] at hx
              split at hx
              · simpa using hx
              · cases hx
            have hr := run_append_grow (P := P) w t ty e ti z ht hti hz ⟨g, 0, none⟩ n cap xs hlen holds a m c news hl hcells (by omega) (by omega) (hbytes _ _ rfl (by omega))
            exact fresh cap hm0 hr
      · obtain ⟨g, cap, cur, rfl, hc, hcm, hcs, htake, _, H'⟩ := Row.open_ H hi (by omega)
        have hg : w.heap[g]? = some (.cells cur e (0, 0)) := H'.blk_at (i := i) (by
          have := (List.getElem?_eq_some_iff.1 hi).1
          simp [this])
        by_cases hroom : n + m ≤ cap
        · have hfit : n * ti.size + news.length ≤ cur.size := by rw [hl, hcs, ← Nat.add_mul]; exact Nat.mul_le_mul_right _ hroom
          have hr := run_append_room (P := P) w t ty e ti ht hti g n cap cur hg a m c news hl hcells hone2 hroom hfit
          refine ⟨_, _, hr, ?_, by simp⟩
          refine H.upd hi rfl rfl rfl ?_
          rintro I h1 dI hI hh1 ⟨_, _, aa⟩
          rcases aa with ⟨hv, _, _⟩ | ⟨g', cap', cur', hv, _, _, _, _, rfl⟩
          · cases hv
          · injection hv with h1 h2 h3
            injection h1 with h1
            injection h1 with h1
            subst h1
            refine ⟨_, ⟨honeA, hlenA, .inr ⟨g, cap, _, rfl, hroom, hcm, ?_, ?_, rfl⟩⟩, Heap.one_le (setRow_heap w g cur (cur.toList.take (n * ti.size) ++ news ++ cur.toList.drop (n * ti.size + news.length)).toArray e _ hg), ?_, ?_⟩
            · simp only [List.size_toArray, List.length_append, List.length_take, List.length_drop, Array.length_toList]; omega
            · rw [htake, ← hlenA]; exact List.take_left
            · intro k hk; left; unfold Heap.one at hk ⊢; split at hk <;> simp_all
            · intro k hk hk2; exact setRow_other w g k _ (fun e => by subst e; simp [Heap.one] at hk2)
        · have holds : ∀ j u, xs[j]? = some u → w.cell? ((⟨g, 0, none⟩ : Addr).add j) = some u := by
            intro j x hx
            rw [addr_add, Nat.zero_add]
            refine cell_of hg ?_
            rw [← htake, List.getElem?_take] at hx
            split at hx
            · simpa using hx
            · cases hx
          have hr := run_append_grow (P := P) w t ty e ti z ht hti hz ⟨g, 0, none⟩ n cap xs hlen holds a m c news hl hcells (by omega) (by omega) (hbytes _ _ rfl (by omega))
          exact fresh cap hm0 hr
theorem St.append {P : Program} {t ty : TypeId} {u : Value} {m bytes : Nat} {news : List Value} (H : St W w l) (hi : l[i]? = some (Row e size v n xs)) (hr : Rd w size u m news)
    (hA : appInfo P t e size bytes size) (hsz : 0 < size) (h63 : n + m ≤ maxLen) (hbytes : (n + m) * bytes ≤ 140737488355328) :
    ∃ v' w', (Builtin.append_ #[t, t] ty #[v, u]).run P w = .ok v' w' ∧ St W w' (l.set i (Row e size v' (n + m) (xs ++ news))) ∧ (v' = .slice none 0 0 ↔ v = .slice none 0 0 ∧ m = 0) :=
  H.appendW hi hr hA hsz h63 (fun _ _ _ h => growslice_fits h hbytes)
end
end Sl
