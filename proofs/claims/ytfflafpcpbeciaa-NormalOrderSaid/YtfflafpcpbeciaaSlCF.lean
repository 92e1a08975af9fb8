/- Trees that are built; trees that the laws of patterns build; what is surely bound is bound. No condition. -/
import Derived.Test.YtfflafpcpbeciaaSlCE
import Derived.KernelRfl
namespace Sl
open _root_.Go _root_.Go.RowKit _root_.Go.Proofs
set_option linter.all false
set_option linter.unusedSimpArgs false
theorem Stars.pers_at {I : Heap} {l : List Atom} {h : Heap} {i : Nat} {A : Atom} (s : Stars I l h) (hi : l[i]? = some A) (hp : A.pers) : A.sat I Heap.none := by
  obtain ⟨h1, h2, _, _, a, _⟩ := Stars.focus s hi
  have := hp _ _ a
  subst this; exact a
/-- What follows from parts that are turned no more. -/
theorem St.derive {W w : World} {l : List Atom} {A' : Atom} (H : St W w l) (h : ∀ I : Heap, (∀ (i : Nat) (A : Atom), l[i]? = some A → A.pers → A.sat I Heap.none) → A'.sat I Heap.none) : St W w (A' :: l) := by
  obtain ⟨I, h', dI, hI, hh, s⟩ := H.mem
  exact ⟨H.os, H.tape, H.output, I, h', dI, hI, hh, Heap.none, h', Heap.none_disj h', (Heap.none_union h').symm, h I (fun i A hi hp => Stars.pers_at s hi hp), s⟩
section
variable {W w : World} {l : List Atom} {n : NodeD} {a b c : Nat}
theorem NodeA.make (n : NodeD) (H : St W w l) (ht : l[a]? = some (Im 11 n.tv n.tests.length (n.tests.flatMap condCell))) (hk : l[b]? = some (Im 5 n.kv n.kids.length (n.kids.flatMap nodeCell))) (hn : l[c]? = some (NodesA n.kids)) (hb : n.tests.length * 136 ≤ 140737488355328 ∧ n.kids.length * 88 ≤ 140737488355328) : St W w (NodeA n :: l) :=
  H.derive fun I h => ⟨rfl, .mk (h _ _ ht (Im_pers _ _ _ _)) (h _ _ hk (Im_pers _ _ _ _)) hb (h _ _ hn (NodesA_pers _)).2⟩
theorem NodesA.nil (H : St W w l) : St W w (NodesA [] :: l) := H.derive fun I h => ⟨rfl, fun k hk => by cases hk⟩
theorem NodesA.cons {L : List NodeD} (H : St W w l) (hn : l[a]? = some (NodeA n)) (hL : l[b]? = some (NodesA L)) : St W w (NodesA (n :: L) :: l) :=
  H.derive fun I h => ⟨rfl, fun k hk => by
    rcases List.mem_cons.1 hk with rfl | hk
    · exact (h _ _ hn (NodeA_pers _)).2
    · exact (h _ _ hL (NodesA_pers _)).2 k hk⟩
end
/-! ## what the laws build -/
def lvS : Str := ⟨⟨#[97]⟩, by decide⟩
def lvA : NodeD := .mk ⟨1, by decide, by decide⟩ lvS ⟨⟨#[65]⟩, by decide⟩ none 0 [] none 0 []
def lvR2 (g : Nat) : NodeD := .mk ⟨2, by decide, by decide⟩ Str.none Str.none none 0 [] (some ⟨g, 0, none⟩) 2 [lvA, lvA]
def lvR4 (g : Nat) : NodeD := .mk ⟨4, by decide, by decide⟩ Str.none Str.none none 0 [] (some ⟨g, 0, none⟩) 2 [lvA, lvA]
def lvP (r : NodeD) : PatD := ⟨⟨⟨#[112]⟩, by decide⟩, ⟨5, by decide, by decide⟩, r, none, 0, []⟩
mutual
def orN : NodeD → Bool
  | .mk kind _ _ _ _ _ _ _ kids => decide (kind.v = 4) || orL kids
def orL : List NodeD → Bool
  | [] => false
  | k :: l => orN k || orL l
end
def withinB (L M : List Str) : Bool := L.all fun x => hasS M x.v
theorem kid_mem_lt {n x : NodeD} (h : x ∈ n.kids) : sizeOf x < sizeOf n := by
  have := List.sizeOf_lt_of_mem h
  cases n
  simp only [NodeD.kids] at this
  simp only [NodeD.mk.sizeOf_spec]
  omega
theorem getD_mem' {α : Type} [Inhabited α] {L : List α} {j : Nat} (h : j < L.length) : L.getD j default ∈ L := by rw [List.getD_eq_getElem?_getD, List.getElem?_eq_getElem h]; exact List.getElem_mem h
def fitB (n : NodeD) : Bool := decide (termsN n ≤ 200 ∧ deepN n ≤ 50)
end Sl
