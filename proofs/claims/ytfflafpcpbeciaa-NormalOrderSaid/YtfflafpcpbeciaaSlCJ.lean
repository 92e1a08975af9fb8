/- The library's stable sort over rows of trees: plain laws of its parts. No condition. -/
import Derived.Test.YtfflafpcpbeciaaSlCI
namespace Sl
open _root_.Go _root_.Go.RowKit _root_.Go.Proofs
set_option linter.all false
set_option linter.unusedSimpArgs false
abbrev gd (L : List NodeD) (i : Nat) : NodeD := L.getD i default
def swapL (L : List NodeD) (p q : Nat) : List NodeD := (L.set p (L.getD q default)).set q (L.getD p default)
theorem swapL_len (L : List NodeD) (p q : Nat) : (swapL L p q).length = L.length := by unfold swapL; rw [List.length_set, List.length_set]
theorem gd_set (L : List NodeD) (p : Nat) (x : NodeD) (i : Nat) (hp : p < L.length) : gd (L.set p x) i = if i = p then x else gd L i := by
  unfold gd
  rw [List.getD_eq_getElem?_getD, List.getD_eq_getElem?_getD, List.getElem?_set]
  by_cases h : p = i
  · subst h; rw [if_pos rfl, if_pos hp, if_pos rfl]; rfl
  · rw [if_neg h, if_neg (fun e => h e.symm)]
theorem gd_swap {L : List NodeD} {p q : Nat} (hp : p < L.length) (hq : q < L.length) (i : Nat) : gd (swapL L p q) i = if i = q then gd L p else if i = p then gd L q else gd L i := by
  unfold swapL
  rw [gd_set _ _ _ _ (by rw [List.length_set]; exact hq), gd_set _ _ _ _ hp]
theorem swapL_perm {L : List NodeD} {p q : Nat} (hp : p < L.length) (hq : q < L.length) : (swapL L p q).Perm L := by
  unfold swapL
  rw [List.getD_eq_getElem?_getD, List.getD_eq_getElem?_getD, List.getElem?_eq_getElem hp, List.getElem?_eq_getElem hq]
  show ((L.set p L[q]).set q L[p]).Perm L
  have := Array.swap_perm (xs := L.toArray) (i := p) (j := q) (by simpa using hp) (by simpa using hq)
  have h2 := this.toList
  simpa [Array.swap] using h2
theorem gd_mem {L : List NodeD} {i : Nat} (h : i < L.length) : gd L i ∈ L := getD_mem' h
/-- A stretch is turned within itself. -/
structure Seg (a b : Nat) (L K : List NodeD) : Prop where
  perm : K.Perm L
  out : ∀ p, p < a ∨ b ≤ p → gd K p = gd L p
  inn : ∀ p, a ≤ p → p < b → ∃ q, a ≤ q ∧ q < b ∧ gd K p = gd L q
theorem Seg.len {a b : Nat} {L K : List NodeD} (h : Seg a b L K) : K.length = L.length := h.perm.length_eq
theorem Seg.refl (a b : Nat) (L : List NodeD) : Seg a b L L := ⟨List.Perm.refl _, fun _ _ => rfl, fun p h1 h2 => ⟨p, h1, h2, rfl⟩⟩
theorem Seg.trans {a b : Nat} {L K M : List NodeD} (h : Seg a b L K) (g : Seg a b K M) : Seg a b L M :=
  ⟨g.perm.trans h.perm, fun p hp => (g.out p hp).trans (h.out p hp), fun p h1 h2 => by
    obtain ⟨q, q1, q2, e⟩ := g.inn p h1 h2
    obtain ⟨r, r1, r2, e2⟩ := h.inn q q1 q2
    exact ⟨r, r1, r2, e.trans e2⟩⟩
theorem Seg.mono {a b a' b' : Nat} {L K : List NodeD} (h : Seg a b L K) (h1 : a' ≤ a) (h2 : b ≤ b') : Seg a' b' L K :=
  ⟨h.perm, fun p hp => h.out p (by omega), fun p p1 p2 => by
    by_cases hp : a ≤ p ∧ p < b
    · obtain ⟨q, q1, q2, e⟩ := h.inn p hp.1 hp.2
      exact ⟨q, by omega, by omega, e⟩
    · exact ⟨p, p1, p2, h.out p (by omega)⟩⟩
theorem Seg.swap {a b p q : Nat} {L : List NodeD} (h1 : a ≤ p) (h2 : p < b) (h3 : a ≤ q) (h4 : q < b) (hb : b ≤ L.length) : Seg a b L (swapL L p q) :=
  ⟨swapL_perm (by omega) (by omega), fun i hi => by rw [gd_swap (by omega) (by omega), if_neg (by omega), if_neg (by omega)], fun i i1 i2 => by
    rw [gd_swap (by omega) (by omega)]
    split
    · exact ⟨p, h1, h2, rfl⟩
    · split
      · exact ⟨q, h3, h4, rfl⟩
      · exact ⟨i, i1, i2, rfl⟩⟩
abbrev leN (x y : NodeD) : Prop := cmpN x y ≤ 0
def srt (K : List NodeD) (a b : Nat) : Prop := ∀ p q, a ≤ p → p < q → q < b → leN (gd K p) (gd K q)
theorem srt.sub {K : List NodeD} {a b a' b' : Nat} (h : srt K a b) (h1 : a ≤ a') (h2 : b' ≤ b) : srt K a' b' := fun p q p1 p2 p3 => h p q (by omega) p2 (by omega)
theorem srt.same {K L : List NodeD} {a b : Nat} (h : srt L a b) (e : ∀ p, a ≤ p → p < b → gd K p = gd L p) : srt K a b := fun p q p1 p2 p3 => by
  rw [e p p1 (by omega), e q (by omega) p3]; exact h p q p1 p2 p3
theorem leN_refl (x : NodeD) : leN x x := by unfold leN; rw [(cmp_zero x x).2 rfl]; omega
theorem leN_trans {x y z : NodeD} (h : leN x y) (g : leN y z) : leN x z := cmp_trans x y z h g
theorem leN_of_not {x y : NodeD} (h : ¬ cmpN x y < 0) : leN y x := by have := cmp_anti x y; unfold leN; omega
theorem leN_of_lt {x y : NodeD} (h : cmpN x y < 0) : leN x y := by unfold leN; omega
/-! ## insertion -/
structure InsAt (K : List NodeD) (a i j : Nat) : Prop where
  rest : ∀ p q, a ≤ p → p < q → q ≤ i → p ≠ j → q ≠ j → leN (gd K p) (gd K q)
  over : ∀ q, j < q → q ≤ i → leN (gd K j) (gd K q)
theorem ins_start {K : List NodeD} {a i : Nat} (h : srt K a i) : InsAt K a i i := ⟨fun p q h1 h2 h3 h4 h5 => h p q h1 h2 (by omega), fun q h1 h2 => by omega⟩
theorem ins_done {K : List NodeD} {a i j : Nat} (h : InsAt K a i j) (hj : a ≤ j) (e : j = a ∨ ¬ cmpN (gd K j) (gd K (j - 1)) < 0) : srt K a (i + 1) := by
  intro p q h1 h2 h3
  by_cases hp : p = j
  · subst hp; exact h.over q h2 (by omega)
  · by_cases hq : q = j
    · subst hq
      have h4 := leN_of_not (e.resolve_left (by omega))
      by_cases h5 : p = q - 1
      · rw [h5]; exact h4
      · exact leN_trans (h.rest p (q - 1) h1 (by omega) (by omega) hp (by omega)) h4
    · exact h.rest p q h1 h2 (by omega) hp hq
theorem ins_step {K : List NodeD} {a i j : Nat} (h : InsAt K a i j) (hj : a < j) (hji : j ≤ i) (hl : i < K.length) (e : cmpN (gd K j) (gd K (j - 1)) < 0) : InsAt (swapL K j (j - 1)) a i (j - 1) := by
  have g : ∀ x, gd (swapL K j (j - 1)) x = if x = j - 1 then gd K j else if x = j then gd K (j - 1) else gd K x := gd_swap (by omega) (by omega)
  refine ⟨fun p q h1 h2 h3 h4 h5 => ?_, fun q h1 h2 => ?_⟩
  · rw [g, g, if_neg h4, if_neg h5]
    by_cases hp : p = j
    · rw [if_pos hp, if_neg (by omega)]; exact h.rest (j - 1) q (by omega) (by omega) h3 (by omega) (by omega)
    · rw [if_neg hp]
      by_cases hq : q = j
      · rw [if_pos hq]; exact h.rest p (j - 1) h1 (by omega) (by omega) hp (by omega)
      · rw [if_neg hq]; exact h.rest p q h1 h2 h3 hp hq
  · rw [g, g, if_pos rfl, if_neg (by omega)]
    by_cases hq : q = j
    · rw [if_pos hq]; exact leN_of_lt e
    · rw [if_neg hq]; exact h.over q (by omega) h2
/-! ## stretches that are swapped, turned round -/
structure SwR (L K : List NodeD) (a b n : Nat) : Prop where
  perm : K.Perm L
  lo : ∀ t, t < n → gd K (a + t) = gd L (b + t)
  hi : ∀ t, t < n → gd K (b + t) = gd L (a + t)
  out : ∀ p, (p < a ∨ a + n ≤ p) → (p < b ∨ b + n ≤ p) → gd K p = gd L p
theorem SwR.zero (L : List NodeD) (a b : Nat) : SwR L L a b 0 := ⟨List.Perm.refl _, fun t h => by omega, fun t h => by omega, fun _ _ _ => rfl⟩
theorem SwR.len {L K : List NodeD} {a b n : Nat} (h : SwR L K a b n) : K.length = L.length := h.perm.length_eq
theorem SwR.step {L K : List NodeD} {a b i n : Nat} (h : SwR L K a b i) (hi : i < n) (hab : a + n ≤ b) (hb : b + n ≤ L.length) : SwR L (swapL K (a + i) (b + i)) a b (i + 1) := by
  have hl := h.len
  have g : ∀ x, gd (swapL K (a + i) (b + i)) x = if x = b + i then gd K (a + i) else if x = a + i then gd K (b + i) else gd K x := gd_swap (by omega) (by omega)
  have e1 : gd K (a + i) = gd L (a + i) := h.out _ (by omega) (by omega)
  have e2 : gd K (b + i) = gd L (b + i) := h.out _ (by omega) (by omega)
  refine ⟨(swapL_perm (by omega) (by omega)).trans h.perm, fun t ht => ?_, fun t ht => ?_, fun p h1 h2 => ?_⟩
  · rw [g, if_neg (by omega)]
    by_cases ht' : t = i
    · rw [if_pos (by omega), e2, ht']
    · rw [if_neg (by omega)]; exact h.lo t (by omega)
  · rw [g]
    by_cases ht' : t = i
    · rw [if_pos (by omega), e1, ht']
    · rw [if_neg (by omega), if_neg (by omega)]; exact h.hi t (by omega)
  · rw [g, if_neg (by omega), if_neg (by omega)]; exact h.out p (by omega) (by omega)
theorem SwR.at {L K : List NodeD} {a b n : Nat} (h : SwR L K a b n) (hab : a + n ≤ b) (p : Nat) : gd K p = gd L (if a ≤ p ∧ p < a + n then p - a + b else if b ≤ p ∧ p < b + n then p - b + a else p) := by
  by_cases h1 : a ≤ p ∧ p < a + n
  · rw [if_pos h1]
    have := h.lo (p - a) (by omega)
    rw [show a + (p - a) = p from by omega] at this
    rw [this]; congr 1; omega
  · rw [if_neg h1]
    by_cases h2 : b ≤ p ∧ p < b + n
    · rw [if_pos h2]
      have := h.hi (p - b) (by omega)
      rw [show b + (p - b) = p from by omega] at this
      rw [this]; congr 1; omega
    · rw [if_neg h2]; exact h.out p (by omega) (by omega)
def rotI (a m b p : Nat) : Nat := if p < a ∨ b ≤ p then p else if p - a < b - m then p + (m - a) else p - (b - m)
theorem rot_hi {L K M : List NodeD} {a m b i j : Nat} (h : ∀ p, gd L (rotI a m b p) = gd K (rotI (m - i) m (m + j) p)) (g : SwR K M (m - i) m j) (h1 : j < i) (h2 : i ≤ m) (h3 : 0 < j) : ∀ p, gd L (rotI a m b p) = gd M (rotI (m - (i - j)) m (m + j) p) := by
  intro p
  rw [h p, g.at (by omega)]
  congr 1
  unfold rotI
  repeat' split
  all_goals omega
theorem rot_lo {L K M : List NodeD} {a m b i j : Nat} (h : ∀ p, gd L (rotI a m b p) = gd K (rotI (m - i) m (m + j) p)) (g : SwR K M (m - i) (m + j - i) i) (h1 : i < j) (h2 : i ≤ m) (h3 : 0 < i) : ∀ p, gd L (rotI a m b p) = gd M (rotI (m - i) m (m + (j - i)) p) := by
  intro p
  rw [h p, g.at (by omega)]
  congr 1
  unfold rotI
  repeat' split
  all_goals omega
theorem rot_end {L K M : List NodeD} {a m b i j : Nat} (h : ∀ p, gd L (rotI a m b p) = gd K (rotI (m - i) m (m + j) p)) (g : SwR K M (m - i) m i) (h1 : i = j) (h2 : i ≤ m) : ∀ p, gd M p = gd L (rotI a m b p) := by
  intro p
  rw [h p, g.at (by omega)]
  congr 1
  unfold rotI
  repeat' split
  all_goals omega
structure Rot (L K : List NodeD) (a m b : Nat) : Prop where
  perm : K.Perm L
  at_ : ∀ p, gd K p = gd L (rotI a m b p)
theorem Rot.seg {L K : List NodeD} {a m b : Nat} (h : Rot L K a m b) (h1 : a ≤ m) (h2 : m ≤ b) : Seg a b L K :=
  ⟨h.perm, fun p hp => by rw [h.at_]; congr 1; unfold rotI; rw [if_pos hp], fun p p1 p2 => ⟨rotI a m b p, by unfold rotI; rw [if_neg (by omega)]; split <;> omega, by unfold rotI; rw [if_neg (by omega)]; split <;> omega, h.at_ p⟩⟩
/-! ## two sorted stretches become one -/
/-- one element ahead of a sorted stretch: it goes behind those that are less -/
structure Mv1 (L K : List NodeD) (a k : Nat) : Prop where
  perm : K.Perm L
  lo : ∀ p, a ≤ p → p < k → gd K p = gd L (p + 1)
  mid : gd K k = gd L a
  out : ∀ p, p < a ∨ k < p → gd K p = gd L p
theorem Mv1.zero (L : List NodeD) (a : Nat) : Mv1 L L a a := ⟨List.Perm.refl _, fun p h1 h2 => by omega, rfl, fun _ _ => rfl⟩
theorem Mv1.step {L K : List NodeD} {a k : Nat} (h : Mv1 L K a k) (hk : a ≤ k) (hl : k + 1 < L.length) : Mv1 L (swapL K k (k + 1)) a (k + 1) := by
  have hlen := h.perm.length_eq
  have g : ∀ x, gd (swapL K k (k + 1)) x = if x = k + 1 then gd K k else if x = k then gd K (k + 1) else gd K x := gd_swap (by omega) (by omega)
  refine ⟨(swapL_perm (by omega) (by omega)).trans h.perm, fun p p1 p2 => ?_, ?_, fun p hp => ?_⟩
  · rw [g, if_neg (by omega)]
    by_cases e : p = k
    · rw [if_pos e, e]; exact h.out (k + 1) (by omega)
    · rw [if_neg e]; exact h.lo p p1 (by omega)
  · rw [g, if_pos rfl]; exact h.mid
  · rw [g, if_neg (by omega), if_neg (by omega)]; exact h.out p (by omega)
theorem Mv1.seg {L K : List NodeD} {a k b : Nat} (h : Mv1 L K a k) (hk : a ≤ k) (hb : k < b) : Seg a b L K :=
  ⟨h.perm, fun p hp => h.out p (by omega), fun p p1 p2 => by
    by_cases h1 : p < k
    · exact ⟨p + 1, by omega, by omega, h.lo p p1 h1⟩
    · by_cases h2 : p = k
      · exact ⟨a, by omega, by omega, by rw [h2]; exact h.mid⟩
      · exact ⟨p, p1, p2, h.out p (by omega)⟩⟩
theorem merge1 {L K : List NodeD} {a m b i : Nat} (h : Mv1 L K a (i - 1)) (hm : m = a + 1) (hi : m ≤ i) (hb : i ≤ b) (hs : srt L m b) (h1 : i = m ∨ cmpN (gd L (i - 1)) (gd L a) < 0) (h2 : i = b ∨ ¬ cmpN (gd L i) (gd L a) < 0) : srt K a b := by
  have lo : ∀ p, m ≤ p → p < i → leN (gd L p) (gd L a) := fun p p1 p2 => by
    have h3 := leN_of_lt (h1.resolve_left (by omega))
    by_cases e : p = i - 1
    · rw [e]; exact h3
    · exact leN_trans (hs p (i - 1) p1 (by omega) (by omega)) h3
  have hi' : ∀ p, i ≤ p → p < b → leN (gd L a) (gd L p) := fun p p1 p2 => by
    have h3 := leN_of_not (h2.resolve_left (by omega))
    by_cases e : p = i
    · rw [e]; exact h3
    · exact leN_trans h3 (hs i p (by omega) (by omega) p2)
  intro p q p1 p2 p3
  by_cases c1 : p < i - 1
  · rw [h.lo p p1 c1]
    by_cases c2 : q < i - 1
    · rw [h.lo q (by omega) c2]; exact hs _ _ (by omega) (by omega) (by omega)
    · by_cases c3 : q = i - 1
      · rw [c3, h.mid]; exact lo _ (by omega) (by omega)
      · rw [h.out q (by omega)]; exact hs _ _ (by omega) (by omega) p3
  · by_cases c4 : p = i - 1
    · rw [c4, h.mid, h.out q (by omega)]; exact hi' q (by omega) p3
    · rw [h.out p (by omega), h.out q (by omega)]; exact hs p q (by omega) p2 p3
/-- one element behind a sorted stretch: it goes ahead of those that are greater -/
structure Mv2 (L K : List NodeD) (k m : Nat) : Prop where
  perm : K.Perm L
  hi : ∀ p, k < p → p ≤ m → gd K p = gd L (p - 1)
  mid : gd K k = gd L m
  out : ∀ p, p < k ∨ m < p → gd K p = gd L p
theorem Mv2.zero (L : List NodeD) (m : Nat) : Mv2 L L m m := ⟨List.Perm.refl _, fun p h1 h2 => by omega, rfl, fun _ _ => rfl⟩
theorem Mv2.step {L K : List NodeD} {k m : Nat} (h : Mv2 L K k m) (hk : 0 < k) (hkm : k ≤ m) (hl : m < L.length) : Mv2 L (swapL K k (k - 1)) (k - 1) m := by
  have hlen := h.perm.length_eq
  have g : ∀ x, gd (swapL K k (k - 1)) x = if x = k - 1 then gd K k else if x = k then gd K (k - 1) else gd K x := gd_swap (by omega) (by omega)
  refine ⟨(swapL_perm (by omega) (by omega)).trans h.perm, fun p p1 p2 => ?_, ?_, fun p hp => ?_⟩
  · rw [g, if_neg (by omega)]
    by_cases e : p = k
    · rw [if_pos e, e]; exact h.out (k - 1) (by omega)
    · rw [if_neg e]; exact h.hi p (by omega) p2
  · rw [g, if_pos rfl]; exact h.mid
  · rw [g, if_neg (by omega), if_neg (by omega)]; exact h.out p (by omega)
theorem Mv2.seg {L K : List NodeD} {a k m b : Nat} (h : Mv2 L K k m) (ha : a ≤ k) (hk : k ≤ m) (hb : m < b) : Seg a b L K :=
  ⟨h.perm, fun p hp => h.out p (by omega), fun p p1 p2 => by
    by_cases h1 : k < p ∧ p ≤ m
    · exact ⟨p - 1, by omega, by omega, h.hi p h1.1 h1.2⟩
    · by_cases h2 : p = k
      · exact ⟨m, by omega, by omega, by rw [h2]; exact h.mid⟩
      · exact ⟨p, p1, p2, h.out p (by omega)⟩⟩
theorem merge2 {L K : List NodeD} {a m b i : Nat} (h : Mv2 L K i m) (hm : b = m + 1) (hi : a ≤ i) (him : i ≤ m) (hs : srt L a m) (h1 : i = a ∨ ¬ cmpN (gd L m) (gd L (i - 1)) < 0) (h2 : i = m ∨ cmpN (gd L m) (gd L i) < 0) : srt K a b := by
  have lo : ∀ p, a ≤ p → p < i → leN (gd L p) (gd L m) := fun p p1 p2 => by
    have h3 := leN_of_not (h1.resolve_left (by omega))
    by_cases e : p = i - 1
    · rw [e]; exact h3
    · exact leN_trans (hs p (i - 1) p1 (by omega) (by omega)) h3
  have hi' : ∀ p, i ≤ p → p < m → leN (gd L m) (gd L p) := fun p p1 p2 => by
    have h3 := leN_of_lt (h2.resolve_left (by omega))
    by_cases e : p = i
    · rw [e]; exact h3
    · exact leN_trans h3 (hs i p (by omega) (by omega) p2)
  intro p q p1 p2 p3
  by_cases c1 : p < i
  · rw [h.out p (by omega)]
    by_cases c2 : q < i
    · rw [h.out q (by omega)]; exact hs p q p1 p2 (by omega)
    · by_cases c3 : q = i
      · rw [c3, h.mid]; exact lo p p1 c1
      · rw [h.hi q (by omega) (by omega)]
        by_cases c4 : p = q - 1
        · omega
        · exact hs p (q - 1) p1 (by omega) (by omega)
  · by_cases c4 : p = i
    · rw [c4, h.mid, h.hi q (by omega) (by omega)]; exact hi' _ (by omega) (by omega)
    · rw [h.hi p (by omega) (by omega), h.hi q (by omega) (by omega)]; exact hs _ _ (by omega) (by omega) (by omega)
/-- The general case: what lies about the middle is turned round; both halves are merged. -/
structure Cut (L : List NodeD) (a m b s : Nat) (mid e : Nat) : Prop where
  hmid : mid = (a + b) / 2
  he : e = mid + m - s
  s1 : a ≤ s
  s2 : s ≤ m
  e1 : m ≤ e
  e2 : e ≤ b
  hs : s ≤ mid
  below : (e < b → a < s → leN (gd L (s - 1)) (gd L e))
  above : (s < m → m < e → leN (gd L (e - 1)) (gd L s))
theorem cut_mid {L : List NodeD} {a m b s mid e : Nat} (c : Cut L a m b s mid e) : (s - a) + (e - m) = mid - a ∧ a ≤ mid ∧ mid ≤ b ∧ mid ≤ e := by
  have := c.hmid; have := c.he; have := c.s1; have := c.s2; have := c.e1; have := c.e2; have := c.hs
  omega
/-- What lies behind the turn, with its stretches sorted and parted. -/
structure Parted (K : List NodeD) (a s mid e b : Nat) : Prop where
  p1 : srt K a s
  p2 : srt K s mid
  p3 : srt K mid e
  p4 : srt K e b
  all : ∀ p q, a ≤ p → p < mid → mid ≤ q → q < b → leN (gd K p) (gd K q)
theorem parted {L K : List NodeD} {a m b s mid e : Nat} (c : Cut L a m b s mid e) (h1 : srt L a m) (h2 : srt L m b) (r : (s < m ∧ m < e ∧ Rot L K s m e) ∨ (¬ (s < m ∧ m < e) ∧ K = L)) : Parted K a s mid e b := by
  obtain ⟨q1, q2, q3, q4⟩ := cut_mid c
  have c1 := c.s1; have c2 := c.s2; have c3 := c.e1; have c4 := c.e2; have c5 := c.hs
  -- where what lies in K comes from
  have from_ : ∀ p, gd K p = gd L (if s ≤ p ∧ p < mid then p + (m - s) else if mid ≤ p ∧ p < e then p - (e - m) else p) := by
    intro p
    rcases r with ⟨g1, g2, g⟩ | ⟨g1, rfl⟩
    · rw [g.at_]
      congr 1
      unfold rotI
      repeat' split
      all_goals omega
    · congr 1
      repeat' split
      all_goals omega
  -- the first part below the last but one stretch
  have X1X2 : ∀ p q, a ≤ p → p < s → s ≤ q → q < m → leN (gd L p) (gd L q) := fun p q g1 g2 g3 g4 => h1 p q g1 (by omega) g4
  have Y1Y2 : ∀ p q, m ≤ p → p < e → e ≤ q → q < b → leN (gd L p) (gd L q) := fun p q g1 g2 g3 g4 => h2 p q g1 (by omega) g4
  have X1Y2 : ∀ p q, a ≤ p → p < s → e ≤ q → q < b → leN (gd L p) (gd L q) := fun p q g1 g2 g3 g4 => by
    have k := c.below (by omega) (by omega)
    have k1 : leN (gd L p) (gd L (s - 1)) := by
      by_cases e' : p = s - 1
      · rw [e']; exact leN_refl _
      · exact h1 p (s - 1) g1 (by omega) (by omega)
    have k2 : leN (gd L e) (gd L q) := by
      by_cases e' : q = e
      · rw [e']; exact leN_refl _
      · exact h2 e q (by omega) (by omega) g4
    exact leN_trans k1 (leN_trans k k2)
  have Y1X2 : ∀ p q, m ≤ p → p < e → s ≤ q → q < m → leN (gd L p) (gd L q) := fun p q g1 g2 g3 g4 => by
    have k := c.above (by omega) (by omega)
    have k1 : leN (gd L p) (gd L (e - 1)) := by
      by_cases e' : p = e - 1
      · rw [e']; exact leN_refl _
      · exact h2 p (e - 1) g1 (by omega) (by omega)
    have k2 : leN (gd L s) (gd L q) := by
      by_cases e' : q = s
      · rw [e']; exact leN_refl _
      · exact h1 s q (by omega) (by omega) g4
    exact leN_trans k1 (leN_trans k k2)
  refine ⟨fun p q g1 g2 g3 => ?_, fun p q g1 g2 g3 => ?_, fun p q g1 g2 g3 => ?_, fun p q g1 g2 g3 => ?_, fun p q g1 g2 g3 g4 => ?_⟩
  · rw [from_ p, from_ q, if_neg (by omega), if_neg (by omega), if_neg (by omega), if_neg (by omega)]; exact h1 p q g1 g2 (by omega)
  · rw [from_ p, from_ q, if_pos (by omega), if_pos (by omega)]; exact h2 _ _ (by omega) (by omega) (by omega)
  · rw [from_ p, from_ q, if_neg (by omega), if_pos (by omega), if_neg (by omega), if_pos (by omega)]; exact h1 _ _ (by omega) (by omega) (by omega)
  · rw [from_ p, from_ q, if_neg (by omega), if_neg (by omega), if_neg (by omega), if_neg (by omega)]; exact h2 p q (by omega) g2 g3
  · rw [from_ p, from_ q]
    by_cases k1 : s ≤ p
    · rw [if_pos (by omega)]
      rw [if_neg (show ¬ (s ≤ q ∧ q < mid) from by omega)]
      by_cases k2 : q < e
      · rw [if_pos (by omega)]; exact Y1X2 _ _ (by omega) (by omega) (by omega) (by omega)
      · rw [if_neg (by omega)]; exact Y1Y2 _ _ (by omega) (by omega) (by omega) g4
    · rw [if_neg (by omega), if_neg (by omega)]
      rw [if_neg (show ¬ (s ≤ q ∧ q < mid) from by omega)]
      by_cases k2 : q < e
      · rw [if_pos (by omega)]; exact X1X2 _ _ g1 (by omega) (by omega) (by omega)
      · rw [if_neg (by omega)]; exact X1Y2 _ _ g1 (by omega) (by omega) g4
theorem parted_lo {K M : List NodeD} {a s mid e b : Nat} (h : Parted K a s mid e b) (g : Seg a mid K M) (hs : srt M a mid) (h1 : a ≤ s) (h2 : s ≤ mid) (h3 : mid ≤ e) (h4 : e ≤ b) : Parted M a s mid e b :=
  ⟨hs.sub (by omega) (by omega), hs.sub h1 (by omega), h.p3.same fun p p1 p2 => g.out p (by omega), h.p4.same fun p p1 p2 => g.out p (by omega), fun p q p1 p2 p3 p4 => by
    obtain ⟨r, r1, r2, er⟩ := g.inn p p1 p2
    rw [er, g.out q (by omega)]; exact h.all r q r1 r2 p3 p4⟩
theorem parted_hi {K M : List NodeD} {a s mid e b : Nat} (h : Parted K a s mid e b) (g : Seg mid b K M) (hs : srt M mid b) (hs0 : srt K a mid) : srt M a b := by
  intro p q p1 p2 p3
  by_cases c1 : q < mid
  · rw [g.out p (by omega), g.out q (by omega)]; exact hs0 p q p1 p2 c1
  · by_cases c2 : mid ≤ p
    · exact hs p q c2 p2 p3
    · obtain ⟨r, r1, r2, er⟩ := g.inn q (by omega) p3
      rw [er, g.out p (by omega)]; exact h.all p r p1 (by omega) r1 r2
/-! ## blocks -/
/-- Each block of so many is sorted, up to n; from a on. -/
def Blks (K : List NodeD) (bs n : Nat) : Prop := ∀ t p q, t * bs ≤ p → p < q → q < (t + 1) * bs → q < n → leN (gd K p) (gd K q)
theorem Blks.next {K M : List NodeD} {bs t n : Nat} (h : Blks K bs (t * bs)) (g : Seg (t * bs) n K M) (hs : srt M (t * bs) n) (hn : n ≤ (t + 1) * bs) : Blks M bs n := by
  intro u p q h1 h2 h3 h4
  rw [Nat.add_mul, Nat.one_mul] at h3 hn
  by_cases hu : u < t
  · have h5 : (u + 1) * bs ≤ t * bs := Nat.mul_le_mul_right _ hu
    rw [Nat.add_mul, Nat.one_mul] at h5
    rw [g.out p (by omega), g.out q (by omega)]
    exact h u p q h1 h2 (by rw [Nat.add_mul, Nat.one_mul]; exact h3) (by omega)
  · have h5 : t * bs ≤ u * bs := Nat.mul_le_mul_right _ (by omega)
    exact hs p q (by omega) h2 h4
theorem Blks.zero (K : List NodeD) (bs : Nat) : Blks K bs (0 * bs) := fun t p q _ _ _ h => by omega
/-- Blocks from a on are sorted (each of bs). -/
def Later (K : List NodeD) (bs a n : Nat) : Prop := ∀ t p q, a ≤ t * bs → t * bs ≤ p → p < q → q < (t + 1) * bs → q < n → leN (gd K p) (gd K q)
theorem Blks.later {K : List NodeD} {bs n : Nat} (h : Blks K bs n) (a : Nat) : Later K bs a n := fun t p q _ h1 h2 h3 h4 => h t p q h1 h2 h3 h4
theorem Later.two {K : List NodeD} {bs t n : Nat} (h : Later K bs (t * (2 * bs)) n) : srt K (t * (2 * bs)) (min (t * (2 * bs) + bs) n) ∧ srt K (t * (2 * bs) + bs) (min (t * (2 * bs) + 2 * bs) n) := by
  have e1 : (2 * t) * bs = t * (2 * bs) := by rw [Nat.mul_comm 2 t, Nat.mul_assoc]
  have e2 : (2 * t + 1) * bs = t * (2 * bs) + bs := by rw [Nat.add_mul, Nat.one_mul, e1]
  have e3 : (2 * t + 1 + 1) * bs = t * (2 * bs) + 2 * bs := by rw [Nat.add_mul, Nat.one_mul, e2]; omega
  exact ⟨fun p q h1 h2 h3 => h (2 * t) p q (by omega) (by omega) h2 (by omega) (by omega), fun p q h1 h2 h3 => h (2 * t + 1) p q (by omega) (by omega) h2 (by omega) (by omega)⟩
theorem Later.next {K M : List NodeD} {bs t n b : Nat} (h : Later K bs (t * (2 * bs)) n) (g : Seg (t * (2 * bs)) b K M) (hb : b ≤ (t + 1) * (2 * bs)) : Later M bs ((t + 1) * (2 * bs)) n := by
  intro u p q h1 h2 h3 h4 h5
  rw [g.out p (by omega), g.out q (by omega)]
  exact h u p q (by rw [Nat.add_mul] at h1; omega) h2 h3 h4 h5
theorem blks_all {K : List NodeD} {bs n : Nat} (h : Blks K bs n) (hn : n ≤ bs) : srt K 0 n := fun p q h1 h2 h3 => h 0 p q (by omega) h2 (by omega) h3
section
variable {K M : List NodeD} {bs t n a b : Nat}
theorem Blks.next' (ha : a = t * bs) (h : Blks K bs a) (g : Seg a n K M) (hs : srt M a n) (hn : n ≤ a + bs) : Blks M bs n := by
  subst ha; exact h.next g hs (by rw [Nat.add_mul, Nat.one_mul]; exact hn)
theorem Later.two' (ha : a = t * (2 * bs)) (h : Later K bs a n) : srt K a (min (a + bs) n) ∧ srt K (a + bs) (min (a + 2 * bs) n) := by subst ha; exact h.two
theorem Later.next' (ha : a = t * (2 * bs)) (h : Later K bs a n) (g : Seg a b K M) (hb : b = a + 2 * bs) : Later M bs b n := by
  subst ha; subst hb
  have := h.next g (by rw [Nat.add_mul, Nat.one_mul]; exact Nat.le_refl _)
  rwa [Nat.add_mul, Nat.one_mul] at this
theorem Blks.zero' (K : List NodeD) (bs : Nat) : Blks K bs 0 := fun t p q _ _ _ h => by omega
theorem mul_next (ha : a = t * bs) : a + bs = (t + 1) * bs := by rw [ha, Nat.add_mul, Nat.one_mul]
end
/-! ## a row of trees that is sorted -/
def DataA (nt : TypeId) (p : Option Addr) (N c : Nat) (L : List NodeD) : Atom := star [pure' (L.length = N), Row nt 5 (.slice p N c) N (L.flatMap nodeCell), NodesA L]
section
variable {W w : World} {l : List Atom} {nt : TypeId} {p : Option Addr} {N c : Nat} {L K : List NodeD}
theorem DataA.open (H : St W w (DataA nt p N c L :: l)) : L.length = N ∧ St W w (Row nt 5 (.slice p N c) N (L.flatMap nodeCell) :: NodesA L :: l) := St.open_pure (St.open_star (ls := [pure' _, _, _]) H)
theorem DataA.make (h : L.length = N) (H : St W w (Row nt 5 (.slice p N c) N (L.flatMap nodeCell) :: NodesA L :: l)) : St W w (DataA nt p N c L :: l) := St.shut_star (ls := [pure' _, _, _]) (H.shut_pure h)
theorem NodesA.sub {i : Nat} (H : St W w l) (hi : l[i]? = some (NodesA L)) (h : ∀ x ∈ K, x ∈ L) : St W w (NodesA K :: l) := H.derive fun I g => ⟨rfl, fun k hk => (g _ _ hi (NodesA_pers _)).2 k (h k hk)⟩
end
theorem swapL_mem {L : List NodeD} {p q : Nat} (hp : p < L.length) (hq : q < L.length) : ∀ x ∈ swapL L p q, x ∈ L := fun x hx => (swapL_perm hp hq).mem_iff.1 hx
theorem swapL_comm {L : List NodeD} {p q : Nat} (h : ¬ p = q) : (L.set q (L.getD p default)).set p (L.getD q default) = swapL L p q := by unfold swapL; exact List.set_comm _ _ (fun e => h e.symm)
end Sl
