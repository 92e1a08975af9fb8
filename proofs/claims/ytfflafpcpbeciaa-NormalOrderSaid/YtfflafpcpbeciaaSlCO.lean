/- The normal form of a tree: what the walk of Tree needs. No condition. -/
import Derived.Test.YtfflafpcpbeciaaSlCN
namespace Sl
open _root_.Go _root_.Go.RowKit _root_.Go.Proofs
set_option linter.all false
set_option linter.unusedSimpArgs false
theorem flatN_erase (n : NodeD) : flatN (eraseN n) = flatN n := by
  induction n using nodeD_induct with
  | h n ih =>
    rw [flatN_eq, flatN_eq (n := n), erase_kids, erase_kind, erase_var, erase_typ, erase_tests, List.map_map]
    congr 2
    exact List.map_congr_left fun k hk => ih k hk
theorem sortN_erase (n : NodeD) : sortN (eraseN n) = sortN n := by
  induction n using nodeD_induct with
  | h n ih =>
    rw [sortN_eq, sortN_eq (n := n), erase_kids, erase_kind, erase_var, erase_typ, erase_tests, List.map_map]
    congr 2
    exact List.map_congr_left fun k hk => ih k hk
theorem capmul {S a : Nat} (hS : 1 ≤ S) (ha : 1 ≤ a) : min (min (S : Int) 65 * min (a : Int) 65) 65 = min ((S * a : Nat) : Int) 65 := by
  have h1 : S ≤ S * a := Nat.le_mul_of_pos_right _ ha
  have h2 : a ≤ S * a := Nat.le_mul_of_pos_left _ hS
  by_cases c1 : 65 ≤ S
  · rw [show min (S : Int) 65 = 65 by omega]; omega
  · by_cases c2 : 65 ≤ a
    · rw [show min (a : Int) 65 = 65 by omega]; omega
    · rw [show min (S : Int) 65 = (S : Int) by omega, show min (a : Int) 65 = (a : Int) by omega, Int.natCast_mul]
theorem altsN_len (n : NodeD) : altsN n = min ((altsT n).length : Int) 65 := by
  induction n using nodeD_induct with
  | h n ih =>
    rw [altsN_eq, altsT_eq]
    split
    · rfl
    · split
      · have : ∀ (l : List NodeD), (∀ k ∈ l, altsN k = min ((altsT k).length : Int) 65) → ∀ S : Nat, l.foldl (fun s k => min (s + altsN k) 65) (min (S : Int) 65) = min ((S + (l.flatMap altsT).length : Nat) : Int) 65 := by
          intro l
          induction l with
          | nil => intro _ S; simp
          | cons k l ihl =>
            intro hl S
            rw [List.foldl_cons, hl k (List.mem_cons_self ..), show min (min (S : Int) 65 + min ((altsT k).length : Int) 65) 65 = min ((S + (altsT k).length : Nat) : Int) 65 by omega, ihl (fun q hq => hl q (List.mem_cons_of_mem _ hq)), List.flatMap_cons, List.length_append, Nat.add_assoc]
        have h := this n.kids ih 0
        rw [Nat.zero_add] at h
        exact h
      · have : ∀ (l : List NodeD), (∀ k ∈ l, altsN k = min ((altsT k).length : Int) 65) → ∀ S : Nat, 1 ≤ S → l.foldl (fun s k => min (s * altsN k) 65) (min (S : Int) 65) = min ((S * (combS (l.map altsT)).length : Nat) : Int) 65 := by
          intro l
          induction l with
          | nil => intro _ S _; simp [combS]
          | cons k l ihl =>
            intro hl S hS
            rw [List.foldl_cons, hl k (List.mem_cons_self ..), capmul hS (altsT_pos k), ihl (fun q hq => hl q (List.mem_cons_of_mem _ hq)) _ (Nat.mul_pos hS (altsT_pos k)), List.map_cons, combS_cons_len, Nat.mul_assoc]
        have h := this n.kids ih 1 (Nat.le_refl _)
        rw [Nat.one_mul] at h
        rw [List.length_map]
        exact h
theorem alts_few {n : NodeD} (h : ¬ 64 < altsN n) : (altsT n).length ≤ 64 := by have := altsN_len n; omega
theorem comb_size : ∀ {l : List NodeD} {ks : List NodeD}, (∀ k ∈ l, ∀ a ∈ altsT k, sizeN a ≤ sizeN k) → ks ∈ combS (l.map altsT) → sizeL ks ≤ sizeL l
  | [], ks, _, h => by simp [combS] at h; subst h; exact Nat.le_refl _
  | k :: l, ks, hl, h => by
    rw [List.map_cons] at h
    simp only [combS, List.mem_flatMap, List.mem_map] at h
    obtain ⟨a, ha, ks', hk, rfl⟩ := h
    have h1 := hl k (List.mem_cons_self ..) a ha
    have h2 := comb_size (fun q hq => hl q (List.mem_cons_of_mem _ hq)) hk
    simp only [sizeL]; omega
theorem altsT_size (n : NodeD) : ∀ a ∈ altsT n, sizeN a ≤ sizeN n := by
  induction n using nodeD_induct with
  | h n ih =>
    intro a ha
    rw [altsT_eq] at ha
    rw [sizeN_eq (n := n)]
    split at ha
    · simp only [List.mem_singleton] at ha; subst ha
      rw [sizeN_eq]; show 1 + sizeL [] ≤ _; simp [sizeL]
    · split at ha
      · obtain ⟨k, hk, ha⟩ := List.mem_flatMap.1 ha
        have h1 := ih k hk a ha
        have h2 : sizeN k ≤ sizeL n.kids := by
          have := sizeN_mem hk; rw [sizeN_eq (n := n)] at this; omega
        omega
      · obtain ⟨ks, hk, rfl⟩ := List.mem_map.1 ha
        rw [sizeN_eq]
        show 1 + sizeL ks ≤ _
        have := comb_size ih hk
        omega
section
variable {n : NodeD} {R S K C : List NodeD} {j N : Nat}
theorem alt_size (hR : R.map eraseN = altsT n) {x : NodeD} (hx : x ∈ R) : sizeN x ≤ sizeN n := by
  have : eraseN x ∈ altsT n := by rw [← hR]; exact List.mem_map_of_mem hx
  have h := altsT_size n _ this
  rwa [erase_size] at h
def normF (x : NodeD) : NodeD := sortN (flatN x)
theorem norm_two {x r1 r2 : NodeD} (h1 : eraseN r1 = flatN x) (h2 : eraseN r2 = sortN r1) : eraseN r2 = normF x := by
  rw [h2, ← sortN_erase, h1]; rfl
theorem tree_list (hR : R.map eraseN = altsT n) (hS : S.map eraseN = R.map normF) : S.map eraseN = (altsT n).map normF := by
  rw [hS, ← hR, List.map_map]
  exact List.map_congr_left fun x _ => by show normF x = normF (eraseN x); unfold normF; rw [flatN_erase]
theorem tree_uniq (hR : R.map eraseN = altsT n) (hS : S.map eraseN = R.map normF) (hK : K.Perm S ∧ srt K 0 N) (hN : S.length = N) : (compact K).map eraseN = uniqL ((altsT n).map normF) := by
  rw [← compact_erase, srt_is hK.2 hN hK.1, tree_list hR hS]; rfl
theorem tree_one (hC : C.map eraseN = uniqL ((altsT n).map normF)) (h1 : C.length = 1) : eraseN (C.getD 0 default) = treeN n := by
  have hl := congrArg List.length hC
  rw [List.length_map] at hl
  unfold treeN
  change _ = if (uniqL ((altsT n).map normF)).length = 1 then (uniqL ((altsT n).map normF)).getD 0 default else NodeD.mk _ _ _ _ _ _ _ _ (uniqL ((altsT n).map normF))
  rw [if_pos (show (uniqL ((altsT n).map normF)).length = 1 by omega)]
  show _ = (uniqL ((altsT n).map normF)).getD 0 default
  rw [← hC]
  cases C with
  | nil => simp at h1
  | cons a C => rfl
theorem tree_many {kq : Option Addr} {kz : Nat} (hC : C.map eraseN = uniqL ((altsT n).map normF)) (h1 : ¬ C.length = 1) : eraseN (.mk ⟨4, by decide, by decide⟩ Str.none Str.none none 0 [] kq kz C) = treeN n := by
  have hl := congrArg List.length hC
  rw [List.length_map] at hl
  unfold treeN
  change _ = if (uniqL ((altsT n).map normF)).length = 1 then (uniqL ((altsT n).map normF)).getD 0 default else NodeD.mk _ _ _ _ _ _ _ _ (uniqL ((altsT n).map normF))
  rw [if_neg (show ¬ (uniqL ((altsT n).map normF)).length = 1 by omega)]
  show NodeD.mk _ _ _ _ _ _ _ _ (eraseL C) = NodeD.mk _ _ _ _ _ _ _ _ (uniqL ((altsT n).map normF))
  rw [eraseL_map, hC]
end
end Sl
