import Derived.Laws.AppendOwn
import Derived.Below
namespace Sl
open Go Go.RowKit
set_option linter.all false

abbrev Heap := Nat → Option Obj
def Heap.none : Heap := fun _ => Option.none
def Heap.le (I J : Heap) : Prop := ∀ k o, I k = some o → J k = some o
def Heap.disj (a b : Heap) : Prop := ∀ k, a k = Option.none ∨ b k = Option.none
def Heap.union (a b : Heap) : Heap := fun k => match a k with | some o => some o | Option.none => b k
def Heap.one (b : Nat) (o : Obj) : Heap := fun k => if k = b then some o else Option.none
def heapOf (w : World) : Heap := fun k => w.heap[k]?

theorem Heap.le_refl (a : Heap) : a.le a := fun _ _ h => h
theorem Heap.le_trans {a b c : Heap} (h : a.le b) (k : b.le c) : a.le c := fun _ _ e => k _ _ (h _ _ e)
theorem Heap.le_union_left (a b : Heap) : a.le (a.union b) := fun k o h => by simp [Heap.union, h]
theorem Heap.le_union_right {a b : Heap} (hd : a.disj b) : b.le (a.union b) := fun k o h => by
  rcases hd k with h0 | h0
  · simp [Heap.union, h0, h]
  · rw [h0] at h; cases h
theorem Heap.none_union (a : Heap) : Heap.none.union a = a := by funext k; rfl
theorem Heap.disj_comm {a b : Heap} (h : a.disj b) : b.disj a := fun k => (h k).symm
theorem Heap.none_disj (a : Heap) : Heap.none.disj a := fun _ => .inl rfl
theorem Heap.union_comm {a b : Heap} (h : a.disj b) : a.union b = b.union a := by
  funext k
  rcases h k with h | h <;> unfold Heap.union <;> rw [h] <;> cases hh : (a k) <;> simp_all <;> cases hb : b k <;> rfl
theorem Heap.union_assoc (a b c : Heap) : (a.union b).union c = a.union (b.union c) := by
  funext k
  unfold Heap.union
  cases a k <;> rfl
theorem Heap.disj_union_right {a b c : Heap} : a.disj (b.union c) ↔ a.disj b ∧ a.disj c := by
  constructor
  · intro h
    constructor
    · intro k
      rcases h k with h | h
      · exact .inl h
      · right; unfold Heap.union at h; cases hb : b k <;> rw [hb] at h <;> simp_all
    · intro k
      rcases h k with h | h
      · exact .inl h
      · right; unfold Heap.union at h; cases hb : b k <;> rw [hb] at h <;> simp_all
  · rintro ⟨h1, h2⟩ k
    rcases h1 k with h | h
    · exact .inl h
    · rcases h2 k with h' | h'
      · exact .inl h'
      · right; unfold Heap.union; rw [h]; exact h'
theorem Heap.disj_union_left {a b c : Heap} : (a.union b).disj c ↔ a.disj c ∧ b.disj c :=
  ⟨fun h => by have := Heap.disj_union_right.1 (Heap.disj_comm h); exact ⟨Heap.disj_comm this.1, Heap.disj_comm this.2⟩,
   fun h => Heap.disj_comm (Heap.disj_union_right.2 ⟨Heap.disj_comm h.1, Heap.disj_comm h.2⟩)⟩
theorem Heap.union_le {a b c : Heap} (h : a.le c) (k : b.le c) : (a.union b).le c := fun i o e => by
  unfold Heap.union at e
  cases ha : a i with
  | some o' => rw [ha] at e; exact e ▸ h i o' ha
  | none => rw [ha] at e; exact k i o e

structure Atom where
  sat : Heap → Heap → Prop
  mono : ∀ I J h, I.le J → sat I h → sat J h

def emp : Atom := ⟨fun _ h => h = Heap.none, fun _ _ _ _ h => h⟩
def blk (b : Nat) (o : Obj) : Atom := ⟨fun _ h => h = Heap.one b o, fun _ _ _ _ h => h⟩
def imm (b : Nat) (o : Obj) : Atom := ⟨fun I h => h = Heap.none ∧ I b = some o, fun I J h hl e => ⟨e.1, hl _ _ e.2⟩⟩
def pure' (p : Prop) : Atom := ⟨fun _ h => h = Heap.none ∧ p, fun _ _ _ _ h => h⟩
def ex {α : Type} (A : α → Atom) : Atom := ⟨fun I h => ∃ x, (A x).sat I h, fun I J h hl ⟨x, e⟩ => ⟨x, (A x).mono I J h hl e⟩⟩

def Stars (I : Heap) : List Atom → Heap → Prop
  | [], h => h = Heap.none
  | A :: l, h => ∃ h1 h2, h1.disj h2 ∧ h = h1.union h2 ∧ A.sat I h1 ∧ Stars I l h2
theorem Stars.mono {I J : Heap} (hl : I.le J) : ∀ (l : List Atom) (h : Heap), Stars I l h → Stars J l h
  | [], _, e => e
  | A :: l, h, ⟨h1, h2, d, e, a, s⟩ => ⟨h1, h2, d, e, A.mono I J h1 hl a, Stars.mono hl l h2 s⟩
def star (l : List Atom) : Atom := ⟨fun I h => Stars I l h, fun I J h hl e => Stars.mono hl l h e⟩
def shared (A : Atom) : Atom := ⟨fun I h => h = Heap.none ∧ ∃ h1, h1.le I ∧ A.sat I h1, fun I J h hl ⟨e, h1, hh, s⟩ => ⟨e, h1, Heap.le_trans hh hl, A.mono I J h1 hl s⟩⟩

theorem Stars.focus {I : Heap} : ∀ {l : List Atom} {h : Heap} {i : Nat} {A : Atom}, Stars I l h → l[i]? = some A →
    ∃ h1 h2, h1.disj h2 ∧ h = h1.union h2 ∧ A.sat I h1 ∧ ∀ (J : Heap) (A' : Atom) (h1' : Heap), I.le J → h1'.disj h2 → A'.sat J h1' → Stars J (l.set i A') (h1'.union h2) := by
  intro l
  induction l with
  | nil => intro h i A _ hi; simp at hi
  | cons B l ih =>
    intro h i A hs hi
    obtain ⟨g1, g2, d, e, b, s⟩ := hs
    cases i with
    | zero =>
      simp at hi
      subst hi
      exact ⟨g1, g2, d, e, b, fun J A' h1' hJ d' a' => ⟨h1', g2, d', rfl, a', Stars.mono hJ _ _ s⟩⟩
    | succ i =>
      simp at hi
      obtain ⟨h1, h2, d2, e2, a, f⟩ := ih s hi
      subst e2
      have ⟨dg1, dg2⟩ := Heap.disj_union_right.1 d
      refine ⟨h1, g1.union h2, Heap.disj_union_right.2 ⟨Heap.disj_comm dg1, d2⟩, ?_, a, ?_⟩
      · rw [e, ← Heap.union_assoc, ← Heap.union_assoc, Heap.union_comm dg1]
      · intro J A' h1' hJ d' a'
        have ⟨d1', d2'⟩ := Heap.disj_union_right.1 d'
        refine ⟨g1, h1'.union h2, Heap.disj_union_right.2 ⟨Heap.disj_comm d1', dg2⟩, ?_, B.mono I J g1 hJ b, f J A' h1' hJ d2' a'⟩
        rw [← Heap.union_assoc, ← Heap.union_assoc, Heap.union_comm d1']

structure St (W w : World) (l : List Atom) : Prop where
  os : w.os = W.os
  tape : w.tape = W.tape
  output : w.output = W.output
  mem : ∃ I h : Heap, I.disj h ∧ I.le (heapOf w) ∧ h.le (heapOf w) ∧ Stars I l h

theorem Heap.one_le {b : Nat} {o : Obj} {h : Heap} (hb : h b = some o) : (Heap.one b o).le h := fun k o' e => by
  unfold Heap.one at e
  split at e
  · rename_i hk; subst hk; rw [hb]; exact e
  · cases e
theorem Heap.one_self (b : Nat) (o : Obj) : Heap.one b o b = some o := by simp [Heap.one]
theorem Heap.of_one_le {b : Nat} {o : Obj} {h : Heap} (hl : (Heap.one b o).le h) : h b = some o := hl _ _ (Heap.one_self b o)

section
variable {W w w' : World} {l : List Atom} {i : Nat} {A A' : Atom}
theorem St.upd (H : St W w l) (hi : l[i]? = some A) (hos : w'.os = w.os) (htape : w'.tape = w.tape) (hout : w'.output = w.output)
    (step : ∀ I h1 : Heap, I.disj h1 → I.le (heapOf w) → h1.le (heapOf w) → A.sat I h1 →
      ∃ h1' : Heap, A'.sat I h1' ∧ h1'.le (heapOf w') ∧ (∀ k, h1' k ≠ Option.none → h1 k ≠ Option.none ∨ w.heap.size ≤ k) ∧
        (∀ k, k < w.heap.size → h1 k = Option.none → w'.heap[k]? = w.heap[k]?)) : St W w' (l.set i A') := by
  obtain ⟨I, h, dI, hI, hh, s⟩ := H.mem
  obtain ⟨h1, h2, d, e, a, f⟩ := Stars.focus s hi
  subst e
  have ⟨dI1, dI2⟩ := Heap.disj_union_right.1 dI
  have hh1 : h1.le (heapOf w) := Heap.le_trans (Heap.le_union_left h1 h2) hh
  have hh2 : h2.le (heapOf w) := Heap.le_trans (Heap.le_union_right d) hh
  obtain ⟨h1', a', l', n', k'⟩ := step I h1 dI1 hI hh1 a
  have lt_of : ∀ {g : Heap} {k}, g.le (heapOf w) → g k ≠ Option.none → k < w.heap.size := by
    intro g k hg hk
    cases e : g k with
    | none => exact absurd e hk
    | some o =>
      have := hg k o e
      exact (Array.getElem?_eq_some_iff.1 this).1
  have keep : ∀ {g : Heap}, g.le (heapOf w) → h1.disj g → g.le (heapOf w') := by
    intro g hg hd k o e
    have hlt := lt_of hg (k := k) (by rw [e]; simp)
    have h1n : h1 k = Option.none := (hd k).resolve_right (by rw [e]; simp)
    show w'.heap[k]? = some o
    rw [k' k hlt h1n]
    exact hg k o e
  have nd : ∀ {g : Heap}, g.le (heapOf w) → h1.disj g → h1'.disj g := by
    intro g hg hd k
    by_cases hk : h1' k = Option.none
    · exact .inl hk
    · right
      rcases n' k hk with h | h
      · exact (hd k).resolve_left h
      · by_cases hg' : g k = Option.none
        · exact hg'
        · have := lt_of hg hg'; omega
  refine ⟨hos.trans H.os, htape.trans H.tape, hout.trans H.output, I, h1'.union h2, ?_, keep hI (Heap.disj_comm dI1), Heap.union_le l' (keep hh2 d), f I A' h1' (Heap.le_refl I) (nd hh2 d) a'⟩
  exact Heap.disj_union_right.2 ⟨Heap.disj_comm (nd hI (Heap.disj_comm dI1)), dI2⟩

theorem St.get (H : St W w l) (hi : l[i]? = some A) : ∃ I h1 : Heap, I.disj h1 ∧ I.le (heapOf w) ∧ h1.le (heapOf w) ∧ A.sat I h1 := by
  obtain ⟨I, h, dI, hI, hh, s⟩ := H.mem
  obtain ⟨h1, h2, d, e, a, f⟩ := Stars.focus s hi
  subst e
  exact ⟨I, h1, (Heap.disj_union_right.1 dI).1, hI, Heap.le_trans (Heap.le_union_left h1 h2) hh, a⟩

theorem St.conv (H : St W w l) (hi : l[i]? = some A) (h : ∀ I h1, A.sat I h1 → A'.sat I h1) : St W w (l.set i A') :=
  H.upd hi rfl rfl rfl fun I h1 d hI hh a => ⟨h1, h I h1 a, hh, fun k hk => .inl hk, fun k _ _ => rfl⟩

theorem St.cons_emp (H : St W w l) : St W w (emp :: l) := by
  obtain ⟨I, h, dI, hI, hh, s⟩ := H.mem
  exact ⟨H.os, H.tape, H.output, I, h, dI, hI, hh, Heap.none, h, Heap.none_disj h, (Heap.none_union h).symm, rfl, s⟩
theorem St.tail (H : St W w (A :: l)) : St W w l := by
  obtain ⟨I, h, dI, hI, hh, h1, h2, d, e, a, s⟩ := H.mem
  subst e
  exact ⟨H.os, H.tape, H.output, I, h2, (Heap.disj_union_right.1 dI).2, hI, Heap.le_trans (Heap.le_union_right d) hh, s⟩

theorem Stars.swap {I : Heap} {A B : Atom} {l : List Atom} {h : Heap} (s : Stars I (A :: B :: l) h) : Stars I (B :: A :: l) h := by
  obtain ⟨h1, h2, d, e, a, g1, g2, d2, e2, b, s⟩ := s
  subst e2
  have ⟨d11, d12⟩ := Heap.disj_union_right.1 d
  exact ⟨g1, h1.union g2, Heap.disj_union_right.2 ⟨Heap.disj_comm d11, d2⟩, by rw [e, ← Heap.union_assoc, ← Heap.union_assoc, Heap.union_comm d11], b, h1, g2, d12, rfl, a, s⟩
theorem Stars.perm {I : Heap} {l l' : List Atom} (p : l.Perm l') : ∀ {h : Heap}, Stars I l h → Stars I l' h := by
  induction p with
  | nil => exact fun s => s
  | cons A _ ih => rintro h ⟨h1, h2, d, e, a, s⟩; exact ⟨h1, h2, d, e, a, ih s⟩
  | swap A B l => exact fun s => Stars.swap s
  | trans _ _ i1 i2 => exact fun s => i2 (i1 s)
theorem St.perm {l' : List Atom} (H : St W w l) (p : l.Perm l') : St W w l' := by
  obtain ⟨I, h, dI, hI, hh, s⟩ := H.mem
  exact ⟨H.os, H.tape, H.output, I, h, dI, hI, hh, Stars.perm p s⟩
theorem Stars.app {I : Heap} : ∀ {l l' : List Atom} {h : Heap}, Stars I (l ++ l') h ↔ ∃ h1 h2, h1.disj h2 ∧ h = h1.union h2 ∧ Stars I l h1 ∧ Stars I l' h2
  | [], l', h => ⟨fun s => ⟨Heap.none, h, Heap.none_disj h, (Heap.none_union h).symm, rfl, s⟩, fun ⟨h1, h2, d, e, s1, s2⟩ => by
      have s1 : h1 = Heap.none := s1
      subst s1
      rw [Heap.none_union] at e
      exact e ▸ s2⟩
  | A :: l, l', h => by
    constructor
    · rintro ⟨h1, h2, d, e, a, s⟩
      obtain ⟨g1, g2, d2, e2, s1, s2⟩ := Stars.app.1 s
      subst e2
      have ⟨d11, d12⟩ := Heap.disj_union_right.1 d
      exact ⟨h1.union g1, g2, Heap.disj_union_left.2 ⟨d12, d2⟩, by rw [e, Heap.union_assoc], ⟨h1, g1, d11, rfl, a, s1⟩, s2⟩
    · rintro ⟨h1, h2, d, e, ⟨g1, g2, d2, e2, a, s1⟩, s2⟩
      subst e2
      have ⟨d11, d12⟩ := Heap.disj_union_left.1 d
      exact ⟨g1, g2.union h2, Heap.disj_union_right.2 ⟨d2, d11⟩, by rw [e, Heap.union_assoc], a, Stars.app.2 ⟨g2, h2, d12, rfl, s1, s2⟩⟩

theorem St.front (H : St W w l) (hi : l[i]? = some A) : St W w (A :: l.set i emp) := by
  obtain ⟨I, h, dI, hI, hh, s⟩ := H.mem
  obtain ⟨h1, h2, d, e, a, f⟩ := Stars.focus s hi
  subst e
  have := f I emp Heap.none (Heap.le_refl I) (Heap.none_disj h2) rfl
  rw [Heap.none_union] at this
  exact ⟨H.os, H.tape, H.output, I, _, dI, hI, hh, h1, h2, d, rfl, a, this⟩
theorem St.put (H : St W w (A :: l)) (hi : l[i]? = some emp) : St W w (l.set i A) := by
  obtain ⟨I, h, dI, hI, hh, h1, h2, d, e, a, s⟩ := H.mem
  obtain ⟨g1, g2, d2, e2, b, f⟩ := Stars.focus s hi
  have b : g1 = Heap.none := b
  subst b
  rw [Heap.none_union] at e2
  subst e2
  subst e
  exact ⟨H.os, H.tape, H.output, I, _, dI, hI, hh, f I A h1 (Heap.le_refl I) d a⟩
theorem St.back (hi : l[i]? = some A) (H : St W w (A' :: l.set i emp)) : St W w (l.set i A') := by
  have h : (l.set i emp)[i]? = some emp := by
    have := (List.getElem?_eq_some_iff.1 hi).1
    simp [this]
  have := H.put h
  rwa [List.set_set] at this
theorem St.open_star {ls : List Atom} (H : St W w (star ls :: l)) : St W w (ls ++ l) := by
  obtain ⟨I, h, dI, hI, hh, h1, h2, d, e, a, s⟩ := H.mem
  exact ⟨H.os, H.tape, H.output, I, h, dI, hI, hh, Stars.app.2 ⟨h1, h2, d, e, a, s⟩⟩
theorem St.shut_star {ls : List Atom} (H : St W w (ls ++ l)) : St W w (star ls :: l) := by
  obtain ⟨I, h, dI, hI, hh, s⟩ := H.mem
  obtain ⟨h1, h2, d, e, a, s⟩ := Stars.app.1 s
  exact ⟨H.os, H.tape, H.output, I, h, dI, hI, hh, h1, h2, d, e, a, s⟩
theorem St.open_ex {α : Type} {B : α → Atom} (H : St W w (ex B :: l)) : ∃ x, St W w (B x :: l) := by
  obtain ⟨I, h, dI, hI, hh, h1, h2, d, e, ⟨x, a⟩, s⟩ := H.mem
  exact ⟨x, H.os, H.tape, H.output, I, h, dI, hI, hh, h1, h2, d, e, a, s⟩
theorem St.shut_ex {α : Type} {B : α → Atom} (x : α) (H : St W w (B x :: l)) : St W w (ex B :: l) := by
  obtain ⟨I, h, dI, hI, hh, h1, h2, d, e, a, s⟩ := H.mem
  exact ⟨H.os, H.tape, H.output, I, h, dI, hI, hh, h1, h2, d, e, ⟨x, a⟩, s⟩
theorem St.open_pure {p : Prop} (H : St W w (pure' p :: l)) : p ∧ St W w l := by
  have ⟨I, h, dI, hI, hh, h1, h2, d, e, ⟨_, hp⟩, s⟩ := H.mem
  exact ⟨hp, H.tail⟩
theorem St.shut_pure {p : Prop} (hp : p) (H : St W w l) : St W w (pure' p :: l) := by
  obtain ⟨I, h, dI, hI, hh, s⟩ := H.mem
  exact ⟨H.os, H.tape, H.output, I, h, dI, hI, hh, Heap.none, h, Heap.none_disj h, (Heap.none_union h).symm, ⟨rfl, hp⟩, s⟩
theorem St.share (H : St W w l) (hi : l[i]? = some A) : St W w (l.set i (shared A)) := by
  obtain ⟨I, h, dI, hI, hh, s⟩ := H.mem
  obtain ⟨h1, h2, d, e, a, f⟩ := Stars.focus s hi
  subst e
  have ⟨dI1, dI2⟩ := Heap.disj_union_right.1 dI
  have hle : I.le (I.union h1) := Heap.le_union_left I h1
  have := f (I.union h1) (shared A) Heap.none hle (Heap.none_disj h2) ⟨rfl, h1, Heap.le_union_right dI1, A.mono _ _ _ hle a⟩
  rw [Heap.none_union] at this
  exact ⟨H.os, H.tape, H.output, I.union h1, h2, Heap.disj_union_left.2 ⟨dI2, d⟩, Heap.union_le hI (Heap.le_trans (Heap.le_union_left h1 h2) hh), Heap.le_trans (Heap.le_union_right d) hh, this⟩
def Atom.pers (A : Atom) : Prop := ∀ I h, A.sat I h → h = Heap.none
theorem imm_pers (b : Nat) (o : Obj) : (imm b o).pers := fun _ _ h => h.1
theorem St.dup (H : St W w l) (hi : l[i]? = some A) (hp : A.pers) : St W w (A :: l) := by
  obtain ⟨I, h, dI, hI, hh, s⟩ := H.mem
  obtain ⟨h1, h2, d, e, a, f⟩ := Stars.focus s hi
  have h1e := hp I h1 a
  subst h1e
  exact ⟨H.os, H.tape, H.output, I, h, dI, hI, hh, Heap.none, h, Heap.none_disj h, (Heap.none_union h).symm, a, s⟩

theorem St.choose {α : Type} (H : St W w l) (hi : l[i]? = some A) (B : α → Atom) (p : α → Prop) (h : ∀ I h1, A.sat I h1 → ∃ x, p x ∧ (B x).sat I h1) : ∃ x, p x ∧ St W w (l.set i (B x)) := by
  obtain ⟨I, h0, dI, hI, hh, s⟩ := H.mem
  obtain ⟨h1, h2, d, e, a, f⟩ := Stars.focus s hi
  subst e
  obtain ⟨x, px, bx⟩ := h I h1 a
  exact ⟨x, px, H.os, H.tape, H.output, I, _, dI, hI, hh, f I (B x) h1 (Heap.le_refl I) d bx⟩
theorem St.back_same (hi : l[i]? = some A) (H : St W w (A :: l.set i emp)) : St W w l := by
  have h := St.back hi H
  have hid : l.set i A = l := by
    refine List.ext_getElem? fun j => ?_
    by_cases hj : i = j
    · subst hj
      rw [List.getElem?_set_self (List.getElem?_eq_some_iff.1 hi).1, hi]
    · rw [List.getElem?_set_ne hj]
  rwa [hid] at h
theorem perm_move : ∀ (l : List Atom) (i : Nat) (A : Atom), l[i]? = some A → l.Perm (A :: l.eraseIdx i)
  | [], i, A, h => by simp at h
  | B :: l, 0, A, h => by simp at h; subst h; exact List.Perm.refl _
  | B :: l, i + 1, A, h => by
    simp at h
    exact (List.Perm.cons B (perm_move l i A h)).trans (List.Perm.swap A B _)
theorem St.move (H : St W w l) (i : Nat) (hi : l[i]? = some A) : St W w (A :: l.eraseIdx i) := H.perm (perm_move l i A hi)
theorem St.drop (H : St W w l) (i : Nat) (hi : l[i]? = some A) : St W w (l.eraseIdx i) := (H.move i hi).tail
theorem St.blk_at {b : Nat} {o : Obj} (H : St W w l) (hi : l[i]? = some (blk b o)) : w.heap[b]? = some o := by
  obtain ⟨I, h1, _, _, hh, a⟩ := H.get hi
  have a : h1 = Heap.one b o := a
  subst a
  exact Heap.of_one_le hh
theorem St.imm_at {b : Nat} {o : Obj} (H : St W w l) (hi : l[i]? = some (imm b o)) : w.heap[b]? = some o := by
  obtain ⟨I, h1, _, hI, hh, a⟩ := H.get hi
  exact hI _ _ a.2
theorem St.alloc (H : St W w l) (o : Obj) : St W (w.alloc o) (blk w.heap.size o :: l) := by
  refine H.cons_emp.upd (i := 0) (A := emp) (A' := blk w.heap.size o) rfl rfl rfl rfl ?_
  intro I h1 d hI hh a
  have a : h1 = Heap.none := a
  subst a
  refine ⟨Heap.one w.heap.size o, rfl, ?_, ?_, ?_⟩
  · refine Heap.one_le ?_
    show (w.heap.push o)[w.heap.size]? = some o
    simp
  · intro k hk
    right
    unfold Heap.one at hk
    split at hk
    · omega
    · exact absurd rfl hk
  · intro k hk _
    exact Below.heap_alloc w o k hk
theorem St.drew (H : St W w l) : St W w.drew l := by
  obtain ⟨I, h, dI, hI, hh, s⟩ := H.mem
  exact ⟨H.os, H.tape, H.output, I, h, dI, hI, hh, s⟩
theorem St.set_blk {b : Nat} {o o' : Obj} (H : St W w l) (hi : l[i]? = some (blk b o)) (hos : w'.os = w.os) (htape : w'.tape = w.tape) (hout : w'.output = w.output)
    (hb : w'.heap[b]? = some o') (hk : ∀ k, k < w.heap.size → k ≠ b → w'.heap[k]? = w.heap[k]?) : St W w' (l.set i (blk b o')) := by
  refine H.upd hi hos htape hout ?_
  intro I h1 d hI hh a
  have a : h1 = Heap.one b o := a
  subst a
  refine ⟨Heap.one b o', rfl, Heap.one_le hb, ?_, ?_⟩
  · intro k hk
    left
    unfold Heap.one at hk ⊢
    split at hk
    · rename_i h; rw [if_pos h]; simp
    · exact absurd rfl hk
  · intro k hk' h
    refine hk k hk' ?_
    intro e
    subst e
    rw [Heap.one_self] at h
    cases h
end
end Sl
