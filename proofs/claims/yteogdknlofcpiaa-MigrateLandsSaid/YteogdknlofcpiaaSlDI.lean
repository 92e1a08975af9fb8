/- New places: pieces by their numbers. No condition. -/
import Derived.Test.YteogdknlofcpiaaSlDH
import Derived.Test.YteogdknlofcpiaaSlCB
namespace Sl
open _root_.Go _root_.Go.RowKit
set_option linter.all false
set_option linter.unusedSimpArgs false
structure BytesD where
  data : List UInt8
  p : Option Addr
  c : Nat
instance : Inhabited BytesD := ⟨⟨[], none, 0⟩⟩
def evD (x : BytesD) : Value := .slice x.p x.data.length x.c
/-- What a map from numbers to bytes holds. -/
def bdA (E : List (I64 × BytesD)) : Atom := ⟨fun I h => h = Heap.none ∧ ∀ x ∈ E, (DtA x.2.p x.2.c x.2.data).sat I Heap.none, fun I J h hl ⟨a, b⟩ => ⟨a, fun x hx => (DtA x.2.p x.2.c x.2.data).mono I J _ hl (b x hx)⟩⟩
theorem bdA_pers (E : List (I64 × BytesD)) : (bdA E).pers := fun _ _ h => h.1
section
variable {W w : World} {F : List Atom} {i : Nat} {E : List (I64 × BytesD)}
theorem bdA_nil (H : St W w F) : St W w (bdA [] :: F) := H.derive2 fun I _ => ⟨rfl, fun x hx => by cases hx⟩
theorem bdA_snoc {k : I64} {x : BytesD} (H : St W w (DtA x.p x.c x.data :: bdA E :: F)) : St W w (bdA (E ++ [(k, x)]) :: F) := by
  have H2 : St W w (bdA (E ++ [(k, x)]) :: DtA x.p x.c x.data :: bdA E :: F) := H.derive2 fun I h => ⟨rfl, fun y hy => by
    rcases List.mem_append.1 hy with hy | hy
    · exact (h 1 _ rfl (bdA_pers E)).2 y hy
    · rw [List.mem_singleton] at hy
      subst hy
      exact h 0 _ rfl (DtA_pers _ _ _)⟩
  exact (H2.drop 1 rfl).drop 1 rfl
theorem aget_mem {κ ν : Type} [DecidableEq κ] {L : List (κ × ν)} {k : κ} {v : ν} (h : aget L k = some v) : (k, v) ∈ L := by
  unfold aget at h
  obtain ⟨x, hx, e⟩ := Option.map_eq_some_iff.1 h
  obtain ⟨hlt, hx2⟩ := List.getElem?_eq_some_iff.1 hx
  have hk := kidx_at hlt
  rw [hx2] at hk
  have : x = (k, v) := by cases x; simp at hk e; subst hk e; rfl
  rw [← this, ← hx2]; exact List.getElem_mem hlt
theorem bdA_at {k : I64} {x : BytesD} (H : St W w F) (hi : F[i]? = some (bdA E)) (hx : aget E k = some x) : St W w (DtA x.p x.c x.data :: F) :=
  H.derive2 fun I h => (h i _ hi (bdA_pers E)).2 _ (aget_mem hx)
end
theorem aset_new {κ ν : Type} [DecidableEq κ] {L : List (κ × ν)} {k : κ} {v : ν} (h : ahas L k = false) : aset L k v = L ++ [(k, v)] := by
  unfold aset
  rw [kidx_has] at h
  rw [if_neg (of_decide_eq_false h)]
def keyed (E : List (I64 × BytesD)) : List (I64 × List UInt8) := E.map fun e => (e.1, e.2.data)
def told (V : List PieceV) : List (I64 × List UInt8) := V.map fun x => (x.index, x.data)
theorem keyed_len {E : List (I64 × BytesD)} {V : List PieceV} (h : keyed E = told V) : E.length = V.length := by
  have := congrArg List.length h
  simpa [keyed, told] using this
theorem ahas_iff {E : List (I64 × BytesD)} {k : I64} : ahas E k = true ↔ k ∈ (keyed E).map (·.1) := by
  unfold ahas keyed
  rw [List.any_eq_true, List.map_map]
  simp only [List.mem_map, decide_eq_true_eq, Function.comp]
theorem aget_of_mem {E : List (I64 × BytesD)} {k : I64} {D : List UInt8} (hn : ((keyed E).map (·.1)).Nodup) (h : (k, D) ∈ keyed E) : ∃ x, aget E k = some x ∧ x.data = D := by
  have hk : ahas E k = true := ahas_iff.2 (List.mem_map.2 ⟨_, h, rfl⟩)
  have h2 := aget_has E k
  rw [hk] at h2
  obtain ⟨x, hx⟩ := Option.isSome_iff_exists.1 h2
  refine ⟨x, hx, ?_⟩
  have hm := aget_mem hx
  have hm2 : (k, x.data) ∈ keyed E := List.mem_map.2 ⟨_, hm, rfl⟩
  obtain ⟨a, ha, ea⟩ := List.getElem_of_mem hm2
  obtain ⟨b, hb, eb⟩ := List.getElem_of_mem h
  rcases Nat.lt_trichotomy a b with hlt | heq | hgt
  · have := List.pairwise_iff_getElem.1 hn a b (by rw [List.length_map]; omega) (by rw [List.length_map]; omega) hlt
    rw [List.getElem_map, List.getElem_map, ea, eb] at this
    exact absurd rfl this
  · subst heq; rw [ea] at eb; exact (Prod.mk.injEq .. ▸ eb).2
  · have := List.pairwise_iff_getElem.1 hn b a (by rw [List.length_map]; omega) (by rw [List.length_map]; omega) hgt
    rw [List.getElem_map, List.getElem_map, ea, eb] at this
    exact absurd rfl this
theorem getD_v {L : List PieceD} {i : Nat} (hi : i < L.length) : (L.map PieceD.v).getD i default = (L.getD i default).v := by
  simp [List.getD_eq_getElem?_getD, List.getElem?_map, List.getElem?_eq_getElem hi]
section
variable {op : I64} {s : List UInt8} {L : List PieceD} {E : List (I64 × BytesD)} {i : Nat}
end
end Sl
