/- Trees: what is asked of them, as plain functions. No condition. -/
import Derived.Test.YtfflafpcpbeciaaSlCC
namespace Sl
open _root_.Go _root_.Go.RowKit _root_.Go.Proofs
set_option linter.all false
set_option linter.unusedSimpArgs false
def wI (n : Int) : Int := IntKind.i64.wrap n
mutual
def sizeN : NodeD → Nat
  | .mk _ _ _ _ _ _ _ _ kids => 1 + sizeL kids
def sizeL : List NodeD → Nat
  | [] => 0
  | k :: l => sizeN k + sizeL l
end
mutual
def termsN : NodeD → Int
  | .mk _ _ _ _ _ _ _ _ kids => if kids.isEmpty then 1 else termsL kids 0
def termsL : List NodeD → Int → Int
  | [], s => s
  | k :: l, s => termsL l (wI (s + termsN k))
end
mutual
def deepN : NodeD → Int
  | .mk _ _ _ _ _ _ _ _ kids => wI (deepL kids 0 + 1)
def deepL : List NodeD → Int → Int
  | [], s => s
  | k :: l, s => deepL l (max s (deepN k))
end
mutual
def altsN : NodeD → Int
  | .mk kind _ _ _ _ _ _ _ kids => if kids.isEmpty then 1 else if kind.v = 4 then altsS kids 0 else altsP kids 1
def altsS : List NodeD → Int → Int
  | [], s => s
  | k :: l, s => altsS l (min (s + altsN k) 65)
def altsP : List NodeD → Int → Int
  | [], s => s
  | k :: l, s => altsP l (min (s * altsN k) 65)
end
mutual
def walkN : NodeD → List Str → List Str
  | .mk _ var _ _ _ _ _ _ kids, L => walkL kids (if var.v = ByteArray.empty then L else addS L var)
def walkL : List NodeD → List Str → List Str
  | [], L => L
  | k :: l, L => walkL l (walkN k L)
end
mutual
def sureN : NodeD → List Str
  | .mk kind var _ _ _ _ _ _ kids => sortS (if kids.isEmpty then (if var.v = ByteArray.empty then [] else [var]) else (sureU kids []).filter fun v => decide (¬ kind.v = 4) || sureA kids v)
def sureU : List NodeD → List Str → List Str
  | [], A => A
  | k :: l, A => sureU l ((sureN k).foldl addS A)
def sureA : List NodeD → Str → Bool
  | [], _ => true
  | k :: l, v => decide (v ∈ sureN k) && sureA l v
end
def opE (o : OpdV) (vars : List Str) : Bool :=
  if o.attr.v = ByteArray.empty then decide (o.var.v = ByteArray.empty) && decide (valE o.val.kind.v o.val.n.v o.val.s.v = 0)
  else sameVal o.val default && nameB o.attr.v && (if vars.length = 0 then decide (o.var.v = ByteArray.empty) else hasS vars o.var.v)
def condE (c : CondV) (vars : List Str) : Int :=
  if c.rel.v < 1 ∨ 6 < c.rel.v ∨ opE c.left vars = false ∨ opE c.right vars = false ∨ (c.left.attr.v = ByteArray.empty ∧ c.right.attr.v = ByteArray.empty) then 74 else 0
/-- The first that is not 0. -/
def firstE : List Int → Int
  | [] => 0
  | e :: l => if e = 0 then firstE l else e
def condsE (l : List CondV) (vars : List Str) : Int := if 16 < l.length then 74 else firstE (l.map fun c => condE c vars)
def ownE (kind : Int) (var typ : ByteArray) (tests : List CondV) (many : Nat) : Int :=
  if kind = 1 then (if 0 < many ∨ nameB var = false ∨ nameB typ = false then 71 else condsE tests [])
  else if kind = 2 ∨ kind = 3 ∨ kind = 4 then (if many < 2 ∨ ¬ var = ByteArray.empty ∨ ¬ typ = ByteArray.empty ∨ 0 < tests.length then 71 else 0)
  else 71
mutual
def nodeE : NodeD → Int
  | .mk kind var typ _ _ tests _ _ kids => if ownE kind.v var.v typ.v tests kids.length = 0 then nodeEL kids else ownE kind.v var.v typ.v tests kids.length
def nodeEL : List NodeD → Int
  | [] => 0
  | k :: l => if nodeE k = 0 then nodeEL l else nodeE k
end
def shapeE (n : NodeD) : Int := if 8 < deepN n ∨ 12 < termsN n then 72 else if ¬ nodeE n = 0 then nodeE n else if 64 < altsN n then 72 else 0
def varsS (n : NodeD) : List Str := sortS (walkN n [])
mutual
def bindsE : NodeD → Int
  | .mk kind _ _ _ _ _ _ _ kids => bindsL (decide (kind.v = 2 ∨ kind.v = 3)) kids []
def bindsL : Bool → List NodeD → List Str → Int
  | _, [], _ => 0
  | b, k :: l, had => if bindsE k = 0 then (if b = true then (if (varsS k).any (fun v => decide (v ∈ had)) = true then 73 else bindsL b l ((varsS k).foldl addS had)) else bindsL b l had) else bindsE k
end
theorem altsS_fold (l : List NodeD) (s : Int) : altsS l s = l.foldl (fun s k => min (s + altsN k) 65) s := by induction l generalizing s with | nil => rfl | cons k l ih => exact ih _
theorem altsP_fold (l : List NodeD) (s : Int) : altsP l s = l.foldl (fun s k => min (s * altsN k) 65) s := by induction l generalizing s with | nil => rfl | cons k l ih => exact ih _
section
variable {n : NodeD}
theorem sizeN_eq : sizeN n = 1 + sizeL n.kids := by cases n; rfl
theorem altsN_eq : altsN n = if n.kids.isEmpty then 1 else if n.kind.v = 4 then n.kids.foldl (fun s k => min (s + altsN k) 65) 0 else n.kids.foldl (fun s k => min (s * altsN k) 65) 1 := by cases n; rw [← altsS_fold, ← altsP_fold]; rfl
end
theorem sizeL_sum (l : List NodeD) : sizeL l = (l.map sizeN).sum := by induction l with | nil => rfl | cons k l ih => simp only [sizeL, List.map_cons, List.sum_cons, ih]
theorem sizeL_mem {l : List NodeD} {k : NodeD} (h : k ∈ l) : sizeN k ≤ sizeL l := by
  induction l with
  | nil => cases h
  | cons a l ih =>
    rcases List.mem_cons.1 h with rfl | h
    · simp only [sizeL]; omega
    · have := ih h; simp only [sizeL]; omega
theorem sizeN_kid {n : NodeD} {j : Nat} (h : j < n.kids.length) : sizeN (n.kids.getD j default) < sizeN n := by
  rw [sizeN_eq (n := n), List.getD_eq_getElem?_getD, List.getElem?_eq_getElem h]
  have := sizeL_mem (List.getElem_mem h)
  show sizeN n.kids[j] < _
  omega
theorem kid_lt {n : NodeD} {j : Nat} (h : j < n.kids.length) : sizeOf (n.kids.getD j default) < sizeOf n := by
  rw [List.getD_eq_getElem?_getD, List.getElem?_eq_getElem h]
  show sizeOf n.kids[j] < _
  have := List.sizeOf_lt_of_mem (List.getElem_mem h)
  cases n
  simp only [NodeD.kids] at this ⊢
  simp only [NodeD.mk.sizeOf_spec]
  omega
theorem fold_step {σ : Type} (f : σ → NodeD → σ) (s : σ) {l : List NodeD} {j : Nat} (h : j < l.length) : (l.take (j + 1)).foldl f s = f ((l.take j).foldl f s) (l.getD j default) := by
  rw [take_getD h, List.foldl_append]; rfl
theorem fold_all {σ : Type} (f : σ → NodeD → σ) (s : σ) {l : List NodeD} {j : Nat} (h : j = l.length) : (l.take j).foldl f s = l.foldl f s := by rw [h, List.take_length]
theorem nodeD_induct {p : NodeD → Prop} (h : ∀ n, (∀ k ∈ n.kids, p k) → p n) : ∀ n, p n := by
  have key : ∀ N : Nat, ∀ n : NodeD, sizeOf n < N → p n := by
    intro N
    induction N with
    | zero => intro n hn; omega
    | succ N ih =>
      intro n hn
      refine h n fun k hk => ih k ?_
      have := List.sizeOf_lt_of_mem hk
      cases n
      simp only [NodeD.kids] at this
      simp only [NodeD.mk.sizeOf_spec] at hn
      omega
  exact fun n => key _ n (Nat.lt_succ_self _)
theorem altsN_range (n : NodeD) : 0 ≤ altsN n ∧ altsN n ≤ 65 := by
  induction n using nodeD_induct with
  | h n ih =>
    have hs : ∀ (l : List NodeD), (∀ k ∈ l, 0 ≤ altsN k ∧ altsN k ≤ 65) → ∀ s : Int, 0 ≤ s → s ≤ 65 → 0 ≤ l.foldl (fun s k => min (s + altsN k) 65) s ∧ l.foldl (fun s k => min (s + altsN k) 65) s ≤ 65 := by
      intro l
      induction l with
      | nil => intro _ s h1 h2; exact ⟨h1, h2⟩
      | cons k l ihl =>
        intro hl s h1 h2
        have hk := hl k (List.mem_cons_self ..)
        exact ihl (fun k hk => hl k (List.mem_cons_of_mem _ hk)) _ (show 0 ≤ min (s + altsN k) 65 by omega) (show min (s + altsN k) 65 ≤ 65 by omega)
    have hp : ∀ (l : List NodeD), (∀ k ∈ l, 0 ≤ altsN k ∧ altsN k ≤ 65) → ∀ s : Int, 0 ≤ s → s ≤ 65 → 0 ≤ l.foldl (fun s k => min (s * altsN k) 65) s ∧ l.foldl (fun s k => min (s * altsN k) 65) s ≤ 65 := by
      intro l
      induction l with
      | nil => intro _ s h1 h2; exact ⟨h1, h2⟩
      | cons k l ihl =>
        intro hl s h1 h2
        have hk := hl k (List.mem_cons_self ..)
        have := Int.mul_nonneg h1 hk.1
        exact ihl (fun k hk => hl k (List.mem_cons_of_mem _ hk)) _ (show 0 ≤ min (s * altsN k) 65 by omega) (show min (s * altsN k) 65 ≤ 65 by omega)
    rw [altsN_eq]
    split
    · omega
    · split
      · exact hs _ ih 0 (by omega) (by omega)
      · exact hp _ ih 1 (by omega) (by omega)
theorem sum_range (l : List NodeD) : 0 ≤ l.foldl (fun s k => min (s + altsN k) 65) 0 ∧ l.foldl (fun s k => min (s + altsN k) 65) 0 ≤ 65 := by
  have : ∀ (l : List NodeD) (s : Int), 0 ≤ s → s ≤ 65 → 0 ≤ l.foldl (fun s k => min (s + altsN k) 65) s ∧ l.foldl (fun s k => min (s + altsN k) 65) s ≤ 65 := by
    intro l
    induction l with
    | nil => intro s h1 h2; exact ⟨h1, h2⟩
    | cons k l ihl => intro s h1 h2; have hk := altsN_range k; exact ihl _ (show 0 ≤ min (s + altsN k) 65 by omega) (show min (s + altsN k) 65 ≤ 65 by omega)
  exact this l 0 (by omega) (by omega)
theorem prod_range (l : List NodeD) : 0 ≤ l.foldl (fun s k => min (s * altsN k) 65) 1 ∧ l.foldl (fun s k => min (s * altsN k) 65) 1 ≤ 65 := by
  have : ∀ (l : List NodeD) (s : Int), 0 ≤ s → s ≤ 65 → 0 ≤ l.foldl (fun s k => min (s * altsN k) 65) s ∧ l.foldl (fun s k => min (s * altsN k) 65) s ≤ 65 := by
    intro l
    induction l with
    | nil => intro s h1 h2; exact ⟨h1, h2⟩
    | cons k l ihl => intro s h1 h2; have hk := altsN_range k; have := Int.mul_nonneg h1 hk.1; exact ihl _ (show 0 ≤ min (s * altsN k) 65 by omega) (show min (s * altsN k) 65 ≤ 65 by omega)
  exact this l 1 (by omega) (by omega)
theorem mul_65 {a b : Int} (h1 : 0 ≤ a) (h2 : a ≤ 65) (h3 : 0 ≤ b) (h4 : b ≤ 65) : 0 ≤ a * b ∧ a * b ≤ 4225 := by
  have := Int.mul_nonneg h1 h3
  have h5 : a * b ≤ 65 * 65 := Int.mul_le_mul h2 h4 h3 (by omega)
  exact ⟨this, by omega⟩
end Sl
