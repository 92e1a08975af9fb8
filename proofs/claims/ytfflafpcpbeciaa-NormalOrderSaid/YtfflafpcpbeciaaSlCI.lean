/- How trees stand: an order. No condition. -/
import Derived.Test.YtfflafpcpbeciaaSlCH
namespace Sl
open _root_.Go _root_.Go.RowKit _root_.Go.Proofs
set_option linter.all false
set_option linter.unusedSimpArgs false
def iC (n : Int) : List Value := [.int .i64 n]
theorem iC_len (n : Int) : (iC n).length = 1 := rfl
/-! ## what the functions tell -/
def opdC (a b : OpdV) : Int := firstE [cmpSt a.var.v b.var.v, cmpSt a.attr.v b.attr.v, cmpI a.val.kind.v b.val.kind.v, cmpI a.val.n.v b.val.n.v, cmpSt a.val.s.v b.val.s.v]
def condC (a b : CondV) : Int := firstE [opdC a.left b.left, cmpI a.rel.v b.rel.v, opdC a.right b.right]
def lexC {α : Type} (f : α → α → Int) : List α → List α → Int
  | [], [] => 0
  | [], _ :: _ => -1
  | _ :: _, [] => 1
  | a :: l, b :: m => if f a b = 0 then lexC f l m else f a b
mutual
def cmpN : NodeD → NodeD → Int
  | .mk kind var typ _ _ tests _ _ kids, m => firstE [cmpI kind.v m.kind.v, cmpSt typ.v m.typ.v, cmpSt var.v m.var.v, lexC condC tests m.tests, cmpL kids m.kids]
def cmpL : List NodeD → List NodeD → Int
  | [], [] => 0
  | [], _ :: _ => -1
  | _ :: _, [] => 1
  | a :: l, b :: m => if cmpN a b = 0 then cmpL l m else cmpN a b
end
theorem cmpL_lex : ∀ (l m : List NodeD), cmpL l m = lexC cmpN l m
  | [], [] => rfl
  | [], _ :: _ => rfl
  | _ :: _, [] => rfl
  | a :: l, b :: m => by simp only [cmpL, lexC, cmpL_lex l m]
theorem cmpN_eq {n m : NodeD} : cmpN n m = firstE [cmpI n.kind.v m.kind.v, cmpSt n.typ.v m.typ.v, cmpSt n.var.v m.var.v, lexC condC n.tests m.tests, lexC cmpN n.kids m.kids] := by cases n; rw [← cmpL_lex]; rfl
theorem cmpI_def (a b : Int) : (a < b ∧ cmpI a b = -1) ∨ (a = b ∧ cmpI a b = 0) ∨ (b < a ∧ cmpI a b = 1) := by
  unfold cmpI
  by_cases h : a < b
  · rw [if_pos h]; exact .inl ⟨h, rfl⟩
  · rw [if_neg h]
    by_cases g : b < a
    · rw [if_pos g]; exact .inr (.inr ⟨g, rfl⟩)
    · rw [if_neg g]; exact .inr (.inl ⟨by omega, rfl⟩)
/-! ## loops that compare lists -/
section
variable {α : Type} [Inhabited α] {f : α → α → Int}
theorem lexC_at : ∀ {l m : List α} {j : Nat}, (∀ q, q < j → f (l.getD q default) (m.getD q default) = 0) → j < l.length → j < m.length → ¬ f (l.getD j default) (m.getD j default) = 0 → f (l.getD j default) (m.getD j default) = lexC f l m
  | [], _, _, _, h, _, _ => absurd h (Nat.not_lt_zero _)
  | _ :: _, [], _, _, _, h, _ => absurd h (Nat.not_lt_zero _)
  | a :: l, b :: m, 0, _, _, _, h => by
    have h : ¬ f a b = 0 := h
    show f a b = lexC f (a :: l) (b :: m)
    unfold lexC; rw [if_neg h]
  | a :: l, b :: m, j + 1, hz, h1, h2, h => by
    have h0 : f a b = 0 := hz 0 (by omega)
    have ih := lexC_at (l := l) (m := m) (j := j) (fun q hq => hz (q + 1) (by omega)) (by simpa using h1) (by simpa using h2) h
    show f (l.getD j default) (m.getD j default) = lexC f (a :: l) (b :: m)
    rw [ih]
    show lexC f l m = if f a b = 0 then lexC f l m else f a b
    rw [if_pos h0]
theorem lexC_end : ∀ {l m : List α} {j : Nat}, (∀ q, q < j → f (l.getD q default) (m.getD q default) = 0) → (j = l.length ∨ j = m.length) → j ≤ l.length → j ≤ m.length → cmpI (l.length : Int) (m.length : Int) = lexC f l m
  | [], [], j, _, _, _, _ => by show cmpI 0 0 = 0; decide
  | [], b :: m, j, _, _, _, _ => by
    show cmpI (0 : Int) ((m.length + 1 : Nat) : Int) = -1
    unfold cmpI; rw [if_pos (by omega)]
  | a :: l, [], j, _, _, _, _ => by
    show cmpI ((l.length + 1 : Nat) : Int) 0 = 1
    unfold cmpI; rw [if_neg (by omega), if_pos (by omega)]
  | a :: l, b :: m, 0, _, h, _, _ => by simp at h
  | a :: l, b :: m, j + 1, hz, h, h1, h2 => by
    have h0 : f a b = 0 := hz 0 (by omega)
    have ih := lexC_end (l := l) (m := m) (j := j) (fun q hq => hz (q + 1) (by omega)) (by simpa using h) (by simpa using h1) (by simpa using h2)
    show cmpI ((l.length + 1 : Nat) : Int) ((m.length + 1 : Nat) : Int) = if f a b = 0 then lexC f l m else f a b
    rw [if_pos h0, ← ih]
    rcases cmpI_def ((l.length + 1 : Nat) : Int) ((m.length + 1 : Nat) : Int) with h | h | h <;> rcases cmpI_def (l.length : Int) (m.length : Int) with g | g | g <;> omega
end
/-! ## orders -/
/-- Three-way comparisons that are an order; what stands alike is told by e. -/
structure Ord3 {α : Type} (f : α → α → Int) (e : α → α → Prop) : Prop where
  rng : ∀ a b, f a b = -1 ∨ f a b = 0 ∨ f a b = 1
  anti : ∀ a b, f b a = - f a b
  trans : ∀ a b c, f a b ≤ 0 → f b c ≤ 0 → f a c ≤ 0
  zero : ∀ a b, f a b = 0 ↔ e a b
theorem ord_I : Ord3 cmpI (fun a b => a = b) where
  rng a b := by rcases cmpI_def a b with h | h | h <;> omega
  anti a b := by rcases cmpI_def a b with h | h | h <;> rcases cmpI_def b a with g | g | g <;> omega
  trans a b c h1 h2 := by rcases cmpI_def a b with h | h | h <;> rcases cmpI_def b c with g | g | g <;> rcases cmpI_def a c with k | k | k <;> omega
  zero a b := by rcases cmpI_def a b with h | h | h <;> constructor <;> intro g <;> omega
theorem cmpSt_def (a b : ByteArray) : (sLt a b = true ∧ cmpSt a b = -1) ∨ (a = b ∧ cmpSt a b = 0) ∨ (sLt b a = true ∧ cmpSt a b = 1) := by
  unfold cmpSt
  cases h : sLt a b with
  | true => exact .inl ⟨rfl, rfl⟩
  | false =>
    by_cases e : a = b
    · exact .inr (.inl ⟨e, by rw [if_neg (by simp), if_pos e]⟩)
    · refine .inr (.inr ⟨?_, by rw [if_neg (by simp), if_neg e]⟩)
      cases g : sLt b a with
      | true => rfl
      | false => exact absurd (sLt_total h g) e
theorem ord_S : Ord3 cmpSt (fun a b => a = b) where
  rng a b := by rcases cmpSt_def a b with h | h | h <;> omega
  anti a b := by
    rcases cmpSt_def a b with ⟨h1, h2⟩ | ⟨h1, h2⟩ | ⟨h1, h2⟩ <;> rcases cmpSt_def b a with ⟨g1, g2⟩ | ⟨g1, g2⟩ | ⟨g1, g2⟩ <;> (try omega)
    · rw [sLt_asymm h1] at g1; cases g1
    · subst g1; rw [sLt_irrefl] at h1; cases h1
    · subst h1; rw [sLt_irrefl] at g1; cases g1
    · subst h1; rw [sLt_irrefl] at g1; cases g1
    · subst g1; rw [sLt_irrefl] at h1; cases h1
    · rw [sLt_asymm h1] at g1; cases g1
  trans a b c h1 h2 := by
    rcases cmpSt_def a b with ⟨h, e⟩ | ⟨h, e⟩ | ⟨h, e⟩
    · rcases cmpSt_def b c with ⟨g, e2⟩ | ⟨g, e2⟩ | ⟨g, e2⟩
      · rcases cmpSt_def a c with ⟨k, e3⟩ | ⟨k, e3⟩ | ⟨k, e3⟩
        · omega
        · omega
        · have := sLt_trans h g; rw [sLt_asymm k] at this; cases this
      · subst g; omega
      · omega
    · subst h; exact h2
    · omega
  zero a b := by
    rcases cmpSt_def a b with ⟨h, e⟩ | ⟨h, e⟩ | ⟨h, e⟩
    · constructor
      · intro g; omega
      · intro g; subst g; rw [sLt_irrefl] at h; cases h
    · exact ⟨fun _ => h, fun _ => e⟩
    · constructor
      · intro g; omega
      · intro g; subst g; rw [sLt_irrefl] at h; cases h
theorem Ord3.pull {α β : Type} {f : α → α → Int} {e : α → α → Prop} (h : Ord3 f e) (p : β → α) : Ord3 (fun a b => f (p a) (p b)) (fun a b => e (p a) (p b)) :=
  ⟨fun a b => h.rng _ _, fun a b => h.anti _ _, fun a b c => h.trans _ _ _, fun a b => h.zero _ _⟩
/-- First one, then the other. -/
theorem Ord3.both {α : Type} {f g : α → α → Int} {e k : α → α → Prop} (h : Ord3 f e) (q : Ord3 g k) : Ord3 (fun a b => if f a b = 0 then g a b else f a b) (fun a b => e a b ∧ k a b) where
  rng a b := by
    have := h.rng a b; have := q.rng a b
    show (if f a b = 0 then g a b else f a b) = -1 ∨ (if f a b = 0 then g a b else f a b) = 0 ∨ (if f a b = 0 then g a b else f a b) = 1
    split <;> omega
  anti a b := by
    have h1 := h.anti a b; have h2 := q.anti a b
    show (if f b a = 0 then g b a else f b a) = - (if f a b = 0 then g a b else f a b)
    by_cases c : f a b = 0
    · rw [if_pos c, if_pos (by omega), h2]
    · rw [if_neg c, if_neg (by omega), h1]
  trans a b c h1 h2 := by
    have h1 : (if f a b = 0 then g a b else f a b) ≤ 0 := h1
    have h2 : (if f b c = 0 then g b c else f b c) ≤ 0 := h2
    show (if f a c = 0 then g a c else f a c) ≤ 0
    have ab : f a b ≤ 0 := by split at h1 <;> omega
    have bc : f b c ≤ 0 := by split at h2 <;> omega
    have ac := h.trans a b c ab bc
    by_cases z : f a c = 0
    · rw [if_pos z]
      have ca : f c a ≤ 0 := by rw [h.anti a c]; omega
      have h3 := h.trans c a b ca ab
      have h4 := h.trans b c a bc ca
      rw [h.anti b c] at h3
      rw [h.anti a b] at h4
      rw [if_pos (by omega)] at h1
      rw [if_pos (by omega)] at h2
      exact q.trans a b c h1 h2
    · rw [if_neg z]; exact ac
  zero a b := by
    show (if f a b = 0 then g a b else f a b) = 0 ↔ e a b ∧ k a b
    by_cases z : f a b = 0
    · rw [if_pos z, q.zero]; exact ⟨fun x => ⟨(h.zero a b).1 z, x⟩, fun x => x.2⟩
    · rw [if_neg z]; exact ⟨fun x => absurd x z, fun x => absurd ((h.zero a b).2 x.1) z⟩
theorem firstE_cons (a : Int) (l : List Int) : firstE (a :: l) = if a = 0 then firstE l else a := rfl
theorem firstE_one (a : Int) : firstE [a] = a := by show (if a = 0 then 0 else a) = a; split <;> omega
theorem opd_ord : Ord3 opdC (fun a b => a = b) := by
  have h := ((ord_S.pull (fun a : OpdV => a.var.v)).both ((ord_S.pull (fun a : OpdV => a.attr.v)).both ((ord_I.pull (fun a : OpdV => a.val.kind.v)).both ((ord_I.pull (fun a : OpdV => a.val.n.v)).both (ord_S.pull (fun a : OpdV => a.val.s.v))))))
  have e : ∀ a b, opdC a b = if cmpSt a.var.v b.var.v = 0 then (if cmpSt a.attr.v b.attr.v = 0 then (if cmpI a.val.kind.v b.val.kind.v = 0 then (if cmpI a.val.n.v b.val.n.v = 0 then cmpSt a.val.s.v b.val.s.v else cmpI a.val.n.v b.val.n.v) else cmpI a.val.kind.v b.val.kind.v) else cmpSt a.attr.v b.attr.v) else cmpSt a.var.v b.var.v := by
    intro a b; unfold opdC; simp only [firstE_cons, firstE_one]
    have : ∀ x : Int, (if x = 0 then firstE [] else x) = x := fun x => firstE_one x
    simp only [this]
  refine ⟨fun a b => by rw [e]; exact h.rng a b, fun a b => by rw [e, e]; exact h.anti a b, fun a b c => by rw [e, e, e]; exact h.trans a b c, fun a b => ?_⟩
  rw [e]
  refine (h.zero a b).trans ⟨fun ⟨h1, h2, h3, h4, h5⟩ => ?_, fun x => by subst x; exact ⟨rfl, rfl, rfl, rfl, rfl⟩⟩
  obtain ⟨v, t, ⟨k, n, s⟩⟩ := a
  obtain ⟨v', t', ⟨k', n', s'⟩⟩ := b
  simp only at h1 h2 h3 h4 h5
  have e1 := Str.eq_of h1
  have e2 := Str.eq_of h2
  have e3 := I64.eq_of h3
  have e4 := I64.eq_of h4
  have e5 := Str.eq_of h5
  subst e1 e2 e3 e4 e5; rfl
theorem cond_ord : Ord3 condC (fun a b => a = b) := by
  have h := ((opd_ord.pull (fun a : CondV => a.left)).both ((ord_I.pull (fun a : CondV => a.rel.v)).both (opd_ord.pull (fun a : CondV => a.right))))
  have e : ∀ a b, condC a b = if opdC a.left b.left = 0 then (if cmpI a.rel.v b.rel.v = 0 then opdC a.right b.right else cmpI a.rel.v b.rel.v) else opdC a.left b.left := by
    intro a b; unfold condC; simp only [firstE_cons]
    have : ∀ x : Int, (if x = 0 then firstE [] else x) = x := fun x => firstE_one x
    simp only [this]
  refine ⟨fun a b => by rw [e]; exact h.rng a b, fun a b => by rw [e, e]; exact h.anti a b, fun a b c => by rw [e, e, e]; exact h.trans a b c, fun a b => ?_⟩
  rw [e]
  refine (h.zero a b).trans ⟨fun ⟨h1, h2, h3⟩ => ?_, fun x => by subst x; exact ⟨rfl, rfl, rfl⟩⟩
  cases a; cases b
  simp only at h1 h2 h3
  rw [h1, I64.eq_of h2, h3]
/-- Lists: for elements of the first list alone. -/
theorem lex_rng {α : Type} {f : α → α → Int} : ∀ (l m : List α), (∀ a ∈ l, ∀ b, f a b = -1 ∨ f a b = 0 ∨ f a b = 1) → lexC f l m = -1 ∨ lexC f l m = 0 ∨ lexC f l m = 1
  | [], [], _ => by simp [lexC]
  | [], _ :: _, _ => by simp [lexC]
  | _ :: _, [], _ => by simp [lexC]
  | a :: l, b :: m, h => by
    have h1 := h a (List.mem_cons_self ..) b
    have h2 := lex_rng l m (fun x hx => h x (List.mem_cons_of_mem _ hx))
    show (if f a b = 0 then lexC f l m else f a b) = -1 ∨ (if f a b = 0 then lexC f l m else f a b) = 0 ∨ (if f a b = 0 then lexC f l m else f a b) = 1
    split <;> omega
theorem lex_anti {α : Type} {f : α → α → Int} : ∀ (l m : List α), (∀ a ∈ l, ∀ b, f b a = - f a b) → lexC f m l = - lexC f l m
  | [], [], _ => rfl
  | [], _ :: _, _ => rfl
  | _ :: _, [], _ => rfl
  | a :: l, b :: m, h => by
    have h1 := h a (List.mem_cons_self ..) b
    have h2 := lex_anti l m (fun x hx => h x (List.mem_cons_of_mem _ hx))
    show (if f b a = 0 then lexC f m l else f b a) = - (if f a b = 0 then lexC f l m else f a b)
    by_cases c : f a b = 0
    · rw [if_pos c, if_pos (by omega), h2]
    · rw [if_neg c, if_neg (by omega), h1]
theorem lex_zero {α : Type} {f : α → α → Int} {e : α → α → Prop} : ∀ (l m : List α), (∀ a ∈ l, ∀ b, f a b = 0 ↔ e a b) → (lexC f l m = 0 ↔ l.length = m.length ∧ ∀ (i : Nat) a b, l[i]? = some a → m[i]? = some b → e a b)
  | [], [], _ => by simp [lexC]
  | [], _ :: _, _ => by simp [lexC]
  | _ :: _, [], _ => by simp [lexC]
  | a :: l, b :: m, h => by
    have h1 := h a (List.mem_cons_self ..) b
    have h2 := lex_zero l m (fun x hx => h x (List.mem_cons_of_mem _ hx))
    show (if f a b = 0 then lexC f l m else f a b) = 0 ↔ _
    constructor
    · intro hz
      by_cases c : f a b = 0
      · rw [if_pos c] at hz
        obtain ⟨h3, h4⟩ := h2.1 hz
        refine ⟨by simp [h3], fun i x y hx hy => ?_⟩
        cases i with
        | zero => simp at hx hy; subst hx hy; exact h1.1 c
        | succ i => exact h4 i x y (by simpa using hx) (by simpa using hy)
      · rw [if_neg c] at hz; exact absurd hz c
    · rintro ⟨h3, h4⟩
      rw [if_pos (h1.2 (h4 0 a b rfl rfl))]
      exact h2.2 ⟨by simpa using h3, fun i x y hx hy => h4 (i + 1) x y (by simpa using hx) (by simpa using hy)⟩
theorem lex_trans {α : Type} {f : α → α → Int} : ∀ (l m k : List α), (∀ a b, f b a = - f a b) → (∀ a ∈ l, ∀ b c, f a b ≤ 0 → f b c ≤ 0 → f a c ≤ 0) → (∀ a b c, f a b = 0 → f b c = f a c) → (∀ a b c, f b c = 0 → f a b = f a c) → lexC f l m ≤ 0 → lexC f m k ≤ 0 → lexC f l k ≤ 0
  | [], _, [], _, _, _, _, _, _ => by simp [lexC]
  | [], _, _ :: _, _, _, _, _, _, _ => by simp [lexC]
  | _ :: _, [], _, _, _, _, _, h, _ => by simp [lexC] at h
  | _ :: _, _ :: _, [], _, _, _, _, _, h => by simp [lexC] at h
  | a :: l, b :: m, c :: k, h1, h2, h3, h4, h5, h6 => by
    have h5 : (if f a b = 0 then lexC f l m else f a b) ≤ 0 := h5
    have h6 : (if f b c = 0 then lexC f m k else f b c) ≤ 0 := h6
    show (if f a c = 0 then lexC f l k else f a c) ≤ 0
    have ma := List.mem_cons_self (a := a) (l := l)
    have e3 := h3 a b c
    have e4 := h4 a b c
    have e2 := h2 a ma b c
    by_cases z1 : f a b = 0
    · rw [if_pos z1] at h5
      rw [← e3 z1]
      by_cases z2 : f b c = 0
      · rw [if_pos z2] at h6 ⊢
        exact lex_trans l m k h1 (fun x hx => h2 x (List.mem_cons_of_mem _ hx)) h3 h4 h5 h6
      · rw [if_neg z2] at h6 ⊢; exact h6
    · rw [if_neg z1] at h5
      by_cases z2 : f b c = 0
      · rw [← e4 z2, if_neg z1]; exact h5
      · rw [if_neg z2] at h6
        have h7 := e2 h5 h6
        by_cases z : f a c = 0
        · exfalso
          have h11 := h3 a c b z
          have h12 := h1 b c
          omega
        · rw [if_neg z]; exact h7
theorem node_cmp (n m : NodeD) : cmpN n m = if cmpI n.kind.v m.kind.v = 0 then (if cmpSt n.typ.v m.typ.v = 0 then (if cmpSt n.var.v m.var.v = 0 then (if lexC condC n.tests m.tests = 0 then lexC cmpN n.kids m.kids else lexC condC n.tests m.tests) else cmpSt n.var.v m.var.v) else cmpSt n.typ.v m.typ.v) else cmpI n.kind.v m.kind.v := by
  rw [cmpN_eq]; simp only [firstE_cons]
  have : ∀ x : Int, (if x = 0 then firstE [] else x) = x := fun x => firstE_one x
  simp only [this]
theorem lex_map {α : Type} {f : α → α → Int} {g : α → α} : ∀ (l m : List α), (∀ a ∈ l, ∀ b, f (g a) b = f a b) → lexC f (l.map g) m = lexC f l m
  | [], [], _ => rfl
  | [], _ :: _, _ => rfl
  | _ :: _, [], _ => rfl
  | a :: l, b :: m, h => by
    simp only [List.map_cons, lexC]
    rw [h a (List.mem_cons_self ..), lex_map l m (fun x hx => h x (List.mem_cons_of_mem _ hx))]
theorem cmp_eraseL (n : NodeD) : ∀ m, cmpN (eraseN n) m = cmpN n m := by
  induction n using nodeD_induct with
  | h n ih => intro m; rw [cmpN_eq, cmpN_eq, erase_kind, erase_typ, erase_var, erase_tests, erase_kids, lex_map _ _ ih]
theorem cmp_rng (n : NodeD) : ∀ m, cmpN n m = -1 ∨ cmpN n m = 0 ∨ cmpN n m = 1 := by
  induction n using nodeD_induct with
  | h n ih =>
    intro m
    rw [node_cmp]
    have h1 := ord_I.rng n.kind.v m.kind.v
    have h2 := ord_S.rng n.typ.v m.typ.v
    have h3 := ord_S.rng n.var.v m.var.v
    have h4 := lex_rng n.tests m.tests (fun a _ b => cond_ord.rng a b)
    have h5 := lex_rng n.kids m.kids ih
    repeat' split
    all_goals omega
theorem cmp_anti (n : NodeD) : ∀ m, cmpN m n = - cmpN n m := by
  induction n using nodeD_induct with
  | h n ih =>
    intro m
    rw [node_cmp, node_cmp]
    have h1 := ord_I.anti n.kind.v m.kind.v
    have h2 := ord_S.anti n.typ.v m.typ.v
    have h3 := ord_S.anti n.var.v m.var.v
    have h4 := lex_anti n.tests m.tests (fun a _ b => cond_ord.anti a b)
    have h5 := lex_anti n.kids m.kids ih
    rw [h1, h2, h3, h4, h5]
    by_cases c1 : cmpI n.kind.v m.kind.v = 0
    · rw [if_pos (by omega), if_pos c1]
      by_cases c2 : cmpSt n.typ.v m.typ.v = 0
      · rw [if_pos (by omega), if_pos c2]
        by_cases c3 : cmpSt n.var.v m.var.v = 0
        · rw [if_pos (by omega), if_pos c3]
          by_cases c4 : lexC condC n.tests m.tests = 0
          · rw [if_pos (by omega), if_pos c4]
          · rw [if_neg (by omega), if_neg c4]
        · rw [if_neg (by omega), if_neg c3]
      · rw [if_neg (by omega), if_neg c2]
    · rw [if_neg (by omega), if_neg c1]
theorem cmp_eraseR (n m : NodeD) : cmpN n (eraseN m) = cmpN n m := by
  have h1 := cmp_anti n (eraseN m)
  have h2 := cmp_anti n m
  rw [cmp_eraseL] at h1
  omega
theorem ext_map {l m : List NodeD} (hl : l.length = m.length) (h : ∀ (i : Nat) a b, l[i]? = some a → m[i]? = some b → eraseN a = eraseN b) : l.map eraseN = m.map eraseN := by
  refine List.ext_getElem? fun i => ?_
  rw [List.getElem?_map, List.getElem?_map]
  by_cases hi : i < l.length
  · rw [List.getElem?_eq_getElem hi, List.getElem?_eq_getElem (by omega)]
    exact congrArg some (h i _ _ (List.getElem?_eq_getElem hi) (List.getElem?_eq_getElem (by omega)))
  · rw [List.getElem?_eq_none (by omega), List.getElem?_eq_none (by omega)]
theorem cmp_zero (n : NodeD) : ∀ m, cmpN n m = 0 ↔ eraseN n = eraseN m := by
  induction n using nodeD_induct with
  | h n ih =>
    intro m
    constructor
    · intro h
      rw [node_cmp] at h
      by_cases c1 : cmpI n.kind.v m.kind.v = 0
      · rw [if_pos c1] at h
        by_cases c2 : cmpSt n.typ.v m.typ.v = 0
        · rw [if_pos c2] at h
          by_cases c3 : cmpSt n.var.v m.var.v = 0
          · rw [if_pos c3] at h
            by_cases c4 : lexC condC n.tests m.tests = 0
            · rw [if_pos c4] at h
              obtain ⟨h4, h5⟩ := (lex_zero n.tests m.tests (fun a _ b => cond_ord.zero a b)).1 c4
              obtain ⟨h6, h7⟩ := (lex_zero (e := fun a b => eraseN a = eraseN b) n.kids m.kids ih).1 h
              refine erase_eq (I64.eq_of ((ord_I.zero _ _).1 c1)) (Str.eq_of ((ord_S.zero _ _).1 c3)) (Str.eq_of ((ord_S.zero _ _).1 c2)) ?_ (ext_map h6 h7)
              refine List.ext_getElem? fun i => ?_
              by_cases hi : i < n.tests.length
              · rw [List.getElem?_eq_getElem hi, List.getElem?_eq_getElem (by omega)]
                exact congrArg some (h5 i _ _ (List.getElem?_eq_getElem hi) (List.getElem?_eq_getElem (by omega)))
              · rw [List.getElem?_eq_none (by omega), List.getElem?_eq_none (by omega)]
            · rw [if_neg c4] at h; exact absurd h c4
          · rw [if_neg c3] at h; exact absurd h c3
        · rw [if_neg c2] at h; exact absurd h c2
      · rw [if_neg c1] at h; exact absurd h c1
    · intro h
      rw [← cmp_eraseR, ← h, cmp_eraseR]
      rw [node_cmp]
      have h1 := (ord_I.zero n.kind.v n.kind.v).2 rfl
      have h2 := (ord_S.zero n.typ.v n.typ.v).2 rfl
      have h3 := (ord_S.zero n.var.v n.var.v).2 rfl
      have h4 : lexC condC n.tests n.tests = 0 := (lex_zero n.tests n.tests (fun a _ b => cond_ord.zero a b)).2 ⟨rfl, fun i a b ha hb => by rw [ha] at hb; injection hb⟩
      have h5 : lexC cmpN n.kids n.kids = 0 := (lex_zero (e := fun a b => eraseN a = eraseN b) n.kids n.kids ih).2 ⟨rfl, fun i a b ha hb => by rw [ha] at hb; injection hb with hb; rw [hb]⟩
      rw [if_pos h1, if_pos h2, if_pos h3, if_pos h4, h5]
theorem cmp_congL {a b : NodeD} (h : cmpN a b = 0) (c : NodeD) : cmpN b c = cmpN a c := by
  rw [← cmp_eraseL b, ← (cmp_zero a b).1 h, cmp_eraseL]
theorem cmp_congR {b c : NodeD} (h : cmpN b c = 0) (a : NodeD) : cmpN a b = cmpN a c := by
  rw [← cmp_eraseR a b, (cmp_zero b c).1 h, cmp_eraseR]
theorem cmp_trans (n : NodeD) : ∀ m k, cmpN n m ≤ 0 → cmpN m k ≤ 0 → cmpN n k ≤ 0 := by
  induction n using nodeD_induct with
  | h n ih =>
    intro m k h1 h2
    rw [node_cmp] at h1 h2 ⊢
    -- in order: the kind, the type, the variable, the tests, the kids
    have key : ∀ {x y z x' y' z' : Int}, (x ≤ 0 → y ≤ 0 → z ≤ 0) → (x = 0 → y = z) → (y = 0 → x = z) → (z = 0 → x ≤ 0 → y ≤ 0 → x = 0 ∧ y = 0) → (x' ≤ 0 → y' ≤ 0 → z' ≤ 0) → (if x = 0 then x' else x) ≤ 0 → (if y = 0 then y' else y) ≤ 0 → (if z = 0 then z' else z) ≤ 0 := by
      intro x y z x' y' z' t1 t2 t3 t4 t5 g1 g2
      have a1 : x ≤ 0 := by split at g1 <;> omega
      have a2 : y ≤ 0 := by split at g2 <;> omega
      by_cases hz : z = 0
      · obtain ⟨e1, e2⟩ := t4 hz a1 a2
        rw [if_pos hz]
        rw [if_pos e1] at g1
        rw [if_pos e2] at g2
        exact t5 g1 g2
      · rw [if_neg hz]; exact t1 a1 a2
    have ordk : ∀ {α : Type} {f : α → α → Int} {e : α → α → Prop}, Ord3 f e → ∀ a b c, f a c = 0 → f a b ≤ 0 → f b c ≤ 0 → f a b = 0 ∧ f b c = 0 := by
      intro α f e o a b c h0 h1 h2
      have ca : f c a ≤ 0 := by rw [o.anti a c]; omega
      have h3 := o.trans c a b ca h1
      have h4 := o.trans b c a h2 ca
      rw [o.anti b c] at h3
      rw [o.anti a b] at h4
      exact ⟨by omega, by omega⟩
    have ordc : ∀ {α : Type} {f : α → α → Int} {e : α → α → Prop}, Ord3 f e → (∀ a b, e a b → a = b) → ∀ a b c, (f a b = 0 → f b c = f a c) ∧ (f b c = 0 → f a b = f a c) := by
      intro α f e o he a b c
      exact ⟨fun h => by rw [he _ _ ((o.zero a b).1 h)], fun h => by rw [he _ _ ((o.zero b c).1 h)]⟩
    have lx : Ord3 (lexC condC) (fun l m => l.length = m.length ∧ ∀ (i : Nat) a b, l[i]? = some a → m[i]? = some b → a = b) :=
      ⟨fun l m => lex_rng l m (fun a _ b => cond_ord.rng a b), fun l m => lex_anti l m (fun a _ b => cond_ord.anti a b), fun l m k => lex_trans l m k cond_ord.anti (fun a _ b c => cond_ord.trans a b c) (fun a b c => (ordc cond_ord (fun _ _ h => h) a b c).1) (fun a b c => (ordc cond_ord (fun _ _ h => h) a b c).2), fun l m => lex_zero l m (fun a _ b => cond_ord.zero a b)⟩
    have lxe : ∀ l m : List CondV, (l.length = m.length ∧ ∀ (i : Nat) a b, l[i]? = some a → m[i]? = some b → a = b) → l = m := by
      rintro l m ⟨h1, h2⟩
      refine List.ext_getElem? fun i => ?_
      by_cases hi : i < l.length
      · rw [List.getElem?_eq_getElem hi, List.getElem?_eq_getElem (by omega)]
        exact congrArg some (h2 i _ _ (List.getElem?_eq_getElem hi) (List.getElem?_eq_getElem (by omega)))
      · rw [List.getElem?_eq_none (by omega), List.getElem?_eq_none (by omega)]
    refine key (ord_I.trans _ _ _) (ordc ord_I (fun _ _ h => h) _ _ _).1 (ordc ord_I (fun _ _ h => h) _ _ _).2 (ordk ord_I _ _ _) ?_ h1 h2
    refine key (ord_S.trans _ _ _) (ordc ord_S (fun _ _ h => h) _ _ _).1 (ordc ord_S (fun _ _ h => h) _ _ _).2 (ordk ord_S _ _ _) ?_
    refine key (ord_S.trans _ _ _) (ordc ord_S (fun _ _ h => h) _ _ _).1 (ordc ord_S (fun _ _ h => h) _ _ _).2 (ordk ord_S _ _ _) ?_
    refine key (lx.trans _ _ _) (ordc lx lxe _ _ _).1 (ordc lx lxe _ _ _).2 (ordk lx _ _ _) ?_
    exact lex_trans n.kids m.kids k.kids (fun a b => cmp_anti a b) ih (fun a b c h => cmp_congL h c) (fun a b c h => cmp_congR h a)
theorem ord_N : Ord3 cmpN (fun a b => eraseN a = eraseN b) := ⟨cmp_rng, cmp_anti, cmp_trans, cmp_zero⟩
theorem first_at {L : List Int} {j : Nat} (hz : ∀ q, q < j → L.getD q default = 0) (hj : j < L.length) (h : ¬ L.getD j default = 0) : L.getD j default = firstE L := by
  have := firstE_at (f := fun x : Int => x) hz hj h
  rwa [List.map_id'] at this
theorem first_end {L : List Int} {j : Nat} (hz : ∀ q, q < j → L.getD q default = 0) (hj : j = L.length) : 0 = firstE L := by
  have := firstE_end (f := fun x : Int => x) hz hj
  rwa [List.map_id'] at this
theorem firstE_snoc (l : List Int) (a : Int) : firstE (l ++ [a]) = if firstE l = 0 then a else firstE l := by
  induction l with
  | nil => rw [List.nil_append, firstE_one]; rfl
  | cons x l ih =>
    show (if x = 0 then firstE (l ++ [a]) else x) = if (if x = 0 then firstE l else x) = 0 then a else (if x = 0 then firstE l else x)
    by_cases h : x = 0
    · rw [if_pos h, if_pos h, ih]
    · rw [if_neg h, if_neg h, if_neg h]
theorem cmp_head {n m : NodeD} (h : ¬ firstE [cmpI n.kind.v m.kind.v, cmpSt n.typ.v m.typ.v, cmpSt n.var.v m.var.v, lexC condC n.tests m.tests] = 0) : firstE [cmpI n.kind.v m.kind.v, cmpSt n.typ.v m.typ.v, cmpSt n.var.v m.var.v, lexC condC n.tests m.tests] = cmpN n m := by
  rw [cmpN_eq]
  have := firstE_snoc [cmpI n.kind.v m.kind.v, cmpSt n.typ.v m.typ.v, cmpSt n.var.v m.var.v, lexC condC n.tests m.tests] (lexC cmpN n.kids m.kids)
  rw [if_neg h] at this
  exact this.symm
theorem cmp_rest {n m : NodeD} (h : firstE [cmpI n.kind.v m.kind.v, cmpSt n.typ.v m.typ.v, cmpSt n.var.v m.var.v, lexC condC n.tests m.tests] = 0) : lexC cmpN n.kids m.kids = cmpN n m := by
  rw [cmpN_eq]
  have := firstE_snoc [cmpI n.kind.v m.kind.v, cmpSt n.typ.v m.typ.v, cmpSt n.var.v m.var.v, lexC condC n.tests m.tests] (lexC cmpN n.kids m.kids)
  rw [if_pos h] at this
  exact this.symm
theorem cmpSt_is1 {a b : ByteArray} (h : (!(sLt a b || decide (a = b))) = true) : cmpSt a b = 1 := by
  simp only [Bool.not_eq_true', Bool.or_eq_false_iff, decide_eq_false_iff_not] at h
  exact cmpSt_gt h.1 h.2
theorem cmpSt_is0 {a b : ByteArray} (h : sLt a b = false) (h2 : (!(sLt a b || decide (a = b))) = false) : cmpSt a b = 0 := by
  simp only [Bool.not_eq_false', Bool.or_eq_true, decide_eq_true_iff, h] at h2
  exact cmpSt_eq h (h2.resolve_left (by simp))
end Sl
