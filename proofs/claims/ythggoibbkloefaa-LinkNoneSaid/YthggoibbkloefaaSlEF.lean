/- Copies of ends, as data. No condition. -/
import Derived.Test.YthggoibbkloefaaSlEE
namespace Sl
open _root_.Go _root_.Go.RowKit
set_option linter.all false
set_option linter.unusedSimpArgs false
theorem perm_moveF {α : Type} : ∀ {rest : List α} {j : Nat} {x : α}, rest[j]? = some x → (x :: rest.eraseIdx j).Perm rest
 | [], _, _, h => by simp at h
 | a :: l, 0, x, h => by
  have h2 : a = x := by simpa using h
  subst h2; exact List.Perm.refl _
 | a :: l, n + 1, x, h => by
  have h2 : l[n]? = some x := by simpa using h
  exact (List.Perm.swap a x _).trans ((perm_moveF h2).cons a)
theorem perm_stepF {α : Type} {rest pre M : List α} {j : Nat} {x : α} (hj : rest[j]? = some x) (h : (pre ++ rest).Perm M) : ((pre ++ [x]) ++ rest.eraseIdx j).Perm M := by
 refine List.Perm.trans ?_ h
 rw [List.append_assoc]
 exact List.Perm.append_left pre (perm_moveF hj)
theorem perm_endF {α : Type} {rest pre M : List α} (h0 : rest = []) (h : (pre ++ rest).Perm M) : pre.Perm M := by subst h0; simpa using h
theorem clone_mem {E pre rest : List (I64 × BytesD)} {j : Nat} {e : I64 × BytesD} (hp : (pre ++ rest).Perm E) (hj : rest[j]? = some e) : e.2 ∈ mby E :=
 List.mem_map_of_mem (f := (·.2)) (hp.mem_iff.1 (List.mem_append_right _ (List.mem_of_getElem? hj)))
theorem ahas_not {L : List (I64 × BytesD)} {k : I64} (h : k ∉ (mapB L).map (·.1)) : ahas L k = false := by
 cases hg : aget L k with
 | none => rw [← aget_has, hg]; rfl
 | some v =>
  refine absurd ?_ h
  rw [show (mapB L).map (·.1) = L.map (·.1) from by unfold mapB; rw [List.map_map]; rfl]
  exact List.mem_map_of_mem (f := (·.1)) (aget_mem hg)
theorem clone_new {E pre rest M : List (I64 × BytesD)} {j : Nat} {e : I64 × BytesD} (nd : ((mapB E).map (·.1)).Nodup) (hp : (pre ++ rest).Perm E) (hM : mapB M = mapB pre) (hj : rest[j]? = some e) : ahas M e.1 = false := by
 refine ahas_not ?_
 rw [hM]
 intro hm
 have h1 : ((mapB (pre ++ rest)).map (·.1)).Nodup := (List.Perm.nodup_iff (((hp.map _).map _))).2 nd
 unfold mapB at h1 hm
 rw [List.map_append, List.map_append, List.nodup_append] at h1
 exact h1.2.2 _ hm _ (List.mem_map_of_mem (f := (·.1)) (List.mem_map_of_mem (f := fun x : I64 × BytesD => (x.1, x.2.data)) (List.mem_of_getElem? hj))) rfl
theorem clone_step {pre M : List (I64 × BytesD)} {e : I64 × BytesD} {x : BytesD} (hM : mapB M = mapB pre) (hn : ahas M e.1 = false) (hx : x.data = e.2.data) : mapB (aset M e.1 x) = mapB (pre ++ [e]) := by
 rw [aset_new hn]
 unfold mapB at *
 rw [List.map_append, List.map_append, hM]
 simp [hx]
theorem clone_end {E pre rest M : List (I64 × BytesD)} {h : List (I64 × List UInt8)} (hE : mapB E = h) (h0 : rest = []) (hp : (pre ++ rest).Perm E) (hM : mapB M = mapB pre) : (mapB M).Perm h := by
 rw [hM, ← hE]
 exact (perm_endF h0 hp).map _
theorem clone_sm {E pre rest : List (I64 × BytesD)} {j : Nat} {e : I64 × BytesD} {s : EndV} (hv : LInv s) (hE : mapB E = s.held) (hp : (pre ++ rest).Perm E) (hj : rest[j]? = some e) : e.2.data.length ≤ 16384 := by
 refine hv.sm (e.1, e.2.data) ?_
 rw [← hE]
 exact List.mem_map_of_mem (f := fun x : I64 × BytesD => (x.1, x.2.data)) (hp.mem_iff.1 (List.mem_append_right _ (List.mem_of_getElem? hj)))
theorem LInv.perm {s : EndV} {h2 : List (I64 × List UInt8)} (hv : LInv s) (hp : h2.Perm s.held) : LInv ({ s with held := h2 } : EndV) :=
 ⟨⟨hv.ok.1, hv.ok.2.1, hv.ok.2.2.1, hv.ok.2.2.2.1, hv.ok.2.2.2.2.1, hv.ok.2.2.2.2.2.1, fun x hx => hv.ok.2.2.2.2.2.2 x (hp.mem_iff.1 hx)⟩, hv.pre, (List.Perm.nodup_iff (hp.map _)).2 hv.nd, fun x hx => hv.hi x (hp.mem_iff.1 hx), fun x hx => hv.sm x (hp.mem_iff.1 hx)⟩
theorem DInv.perm {k : Nat} {s : EndV} {h2 : List (I64 × List UInt8)} (hd : DInv k s) (hp : h2.Perm s.held) : DInv k ({ s with held := h2 } : EndV) := ⟨hd.i.perm hp, hd.clk, by rw [show ({ s with held := h2 } : EndV).held.length = s.held.length from hp.length_eq]; exact hd.held⟩
theorem HR.perm {h h2 H : List (I64 × List UInt8)} (r : HR h H) (hp : h2.Perm h) : HR h2 H := ⟨r.1.trans hp.symm, r.2⟩
def lopOk2 (I : Heap) (a : LOpD) : Prop := lopOk I a ∧ a.v.body.length ≤ 140737488355328 ∧ a.v.dgm.body.length ≤ 140737488355328
end Sl
