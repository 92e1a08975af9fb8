/- What the laws of layer 8 build. No condition. -/
import Derived.Test.YtfflafpcpbeciaaSlCO
namespace Sl
open _root_.Go _root_.Go.RowKit _root_.Go.Proofs
set_option linter.all false
set_option linter.unusedSimpArgs false
def bgT (c : UInt8) : NodeD := .mk ⟨1, by decide, by decide⟩ ⟨⟨#[c]⟩, by show 1 ≤ 140737488355328; decide⟩ ⟨⟨#[84]⟩, by decide⟩ none 0 [] none 0 []
def bgOr (g : Nat) : NodeD := .mk ⟨4, by decide, by decide⟩ Str.none Str.none none 0 [] (some ⟨g, 0, none⟩) 2 [bgT 99, bgT 98]
def bgSeq (g g' : Nat) : NodeD := .mk ⟨2, by decide, by decide⟩ Str.none Str.none none 0 [] (some ⟨g', 0, none⟩) 2 [bgT 97, bgOr g]
def bgQ (c : UInt8) : NodeD := .mk ⟨2, by decide, by decide⟩ Str.none Str.none none 0 [] none 0 [bgT 97, bgT c]
theorem bg_alts (g g' : Nat) : (altsT (bgSeq g g')).map normF = [bgQ 99, bgQ 98] := by kernel_rfl
theorem bg_le : leD (bgQ 98) (bgQ 99) = true := by decide +kernel
theorem bg_ne : ¬ cmpN (bgQ 99) (bgQ 98) = 0 := by decide +kernel
theorem bg_sort : sortL [bgQ 99, bgQ 98] = [bgQ 98, bgQ 99] := by
  have h := sorted_is (K := [bgQ 98, bgQ 99]) (C := [bgQ 99, bgQ 98]) (by simp [bg_le]) (List.Perm.swap _ _ _)
  have e1 : [bgQ 98, bgQ 99].map eraseN = [bgQ 98, bgQ 99] := by kernel_rfl
  have e2 : [bgQ 99, bgQ 98].map eraseN = [bgQ 99, bgQ 98] := by kernel_rfl
  rw [e1, e2] at h
  exact h.symm
theorem bg_uniq (g g' : Nat) : uniqL ((altsT (bgSeq g g')).map normF) = [bgQ 98, bgQ 99] := by
  unfold uniqL
  rw [bg_alts, bg_sort]
  simp [compact, cptL, bg_ne]
theorem bg_tree (g g' : Nat) : treeN (bgSeq g g') = .mk ⟨4, by decide, by decide⟩ Str.none Str.none none 0 [] none 0 [bgQ 98, bgQ 99] := by
  unfold treeN
  change (if (uniqL ((altsT (bgSeq g g')).map normF)).length = 1 then (uniqL ((altsT (bgSeq g g')).map normF)).getD 0 default else NodeD.mk _ _ _ _ _ _ _ _ (uniqL ((altsT (bgSeq g g')).map normF))) = _
  rw [bg_uniq, if_neg (by simp)]
theorem bg_few (g g' : Nat) : ¬ 64 < altsN (bgSeq g g') := by rw [show altsN (bgSeq g g') = 2 from rfl]; omega
theorem bg_small (g g' : Nat) : sizeN (bgSeq g g') ≤ 1048576 := by rw [show sizeN (bgSeq g g') = 5 from rfl]; omega
theorem bg_is {r : NodeD} {g g' : Nat} (h : eraseN r = treeN (bgSeq g g')) : r.kind.v = 4 ∧ r.kids.length = 2 ∧ (r.kids.getD 0 default).kind.v = 2 ∧ (r.kids.getD 0 default).kids.length = 2 ∧ ((r.kids.getD 0 default).kids.getD 1 default).var.v = ⟨#[98]⟩ := by
  rw [bg_tree] at h
  have h1 : r.kids.map eraseN = [bgQ 98, bgQ 99] := by rw [← erase_kids, h]; rfl
  have h2 : r.kids.length = 2 := by simpa using congrArg List.length h1
  have h3 : eraseN (r.kids.getD 0 default) = bgQ 98 := by
    match hk : r.kids, h1 with
    | a :: l, h1 => rw [List.map_cons] at h1; exact (List.cons.inj h1).1
  have h4 : (r.kids.getD 0 default).kids.map eraseN = [bgT 97, bgT 98] := by rw [← erase_kids, h3]; rfl
  have h5 : eraseN ((r.kids.getD 0 default).kids.getD 1 default) = bgT 98 := by
    match hk : (r.kids.getD 0 default).kids, h4 with
    | [a], h4 => simp at h4
    | a :: b :: l, h4 => rw [List.map_cons, List.map_cons] at h4; exact (List.cons.inj (List.cons.inj h4).2).1
  refine ⟨?_, h2, ?_, by simpa using congrArg List.length h4, ?_⟩
  · rw [← erase_kind, h]; rfl
  · rw [← erase_kind, h3]; rfl
  · rw [← erase_var, h5]; rfl
end Sl
