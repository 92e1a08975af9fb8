/- Sets (maps to bool), maps with plain keys; going through them with plain entries. No condition. -/
import Derived.Test.YthggoibbkloefaaSlCA
import Derived.Test.YthggoibbkloefaaSlBF
namespace Sl
open _root_.Go _root_.Go.RowKit
set_option linter.all false
set_option linter.unusedSimpArgs false
theorem Str.eq_of {a b : Str} (h : a.v = b.v) : a = b := by cases a; cases b; cases h; rfl
theorem I64.eq_of {a b : I64} (h : a.v = b.v) : a = b := by cases a; cases b; cases h; rfl
instance : DecidableEq Str := fun a b => if h : a.v = b.v then isTrue (Str.eq_of h) else isFalse (fun e => h (e ▸ rfl))
instance : DecidableEq I64 := fun a b => if h : a.v = b.v then isTrue (I64.eq_of h) else isFalse (fun e => h (e ▸ rfl))
theorem str_dec (a b : Str) : decide (a = b) = decide (a.v = b.v) := decide_eq_decide.2 ⟨fun e => e ▸ rfl, Str.eq_of⟩
theorem i64_dec (a b : I64) : decide (a = b) = decide (a.v = b.v) := decide_eq_decide.2 ⟨fun e => e ▸ rfl, I64.eq_of⟩
def kS (s : Str) : Value := .string s.v
def kI (K : IntKind) (n : I64) : Value := .int K n.v
theorem KeyLaw.S {P : Program} {kt : TypeId} (hd : P.underlying kt = some .string) : KeyLaw P kt kS :=
 KeyLaw.now hd (fun k => by simp [MapKept.IsKey, kS]) (fun a b => by unfold kS; simp only [Instr.sameNow]; rw [bytes_beq', str_dec]) (fun k => sameBits_str _ _)
theorem KeyLaw.I {P : Program} {kt : TypeId} {K : IntKind} (hd : P.underlying kt = some (.int K)) : KeyLaw P kt (kI K) :=
 KeyLaw.now hd (fun k => by simp [MapKept.IsKey, kI]) (fun a b => by
  unfold kI; simp only [Instr.sameNow, if_true]; rw [i64_dec, Bool.eq_iff_iff.2 (by simp : (a.v == b.v) = true ↔ decide (a.v = b.v) = true)]) (fun k => sameBits_int _ _ _)
section
variable {κ : Type} [DecidableEq κ]
end
section
variable {C : Ctx} {ρ : Env} {w W : World} {l : List Atom} {ops : Array Oper} {K' : Env → World → Prop} {d ty : Nat} {pos : String} {af : Array Edge} {x y : Operand}
variable {κ ν : Type} [DecidableEq κ] {ek : κ → Value} {ev : ν → Value} {i r t kt et : Nat}
theorem s_nextT {it : Nat} {M : List (Value × Value)} {rest : List (κ × ν)} {last : Option (Value × Value)} (H : St W w l) (i : Nat) (hi : l[i]? = some (MapIt it r M (ents ek ev rest) last)) (hx : opv C.n ρ x = .pointer (some ⟨it, 0, none⟩)) (hn : Nat.blt d C.n = true)
  (h0 : rest = [] → K' (upd ρ d (.tuple #[.bool false])) w) (h : ∀ j e w', rest[j]? = some e → St W w' (l.set i (MapIt it r M (ents ek ev (rest.eraseIdx j)) (some (ek e.1, ev e.2)))) → K' (upd ρ d (.tuple #[.bool true, ek e.1, ev e.2])) w') : GOp C ops ⟨some d, .next x false, ty, pos, af, none⟩ K' ρ w := by
 refine s_next H i hi hx hn (fun hr => h0 (List.map_eq_nil_iff.1 hr)) fun j e w' he H' => ?_
 unfold ents at he
 rw [List.getElem?_map] at he
 cases hq : rest[j]? with
 | none => rw [hq] at he; cases he
 | some q =>
  rw [hq] at he
  simp only [Option.map_some, Option.some.injEq] at he
  subst he
  refine h j q w' hq ?_
  have e1 : ents ek ev (rest.eraseIdx j) = (ents ek ev rest).eraseIdx j := map_eraseIdx _ _ _
  rw [e1]; exact H'
end
theorem perm_moveG {α : Type} : ∀ (l : List α) (i : Nat) (A : α), l[i]? = some A → l.Perm (A :: l.eraseIdx i)
 | [], i, A, h => by simp at h
 | B :: l, 0, A, h => by simp at h; subst h; exact List.Perm.refl _
 | B :: l, i + 1, A, h => by
  simp at h
  exact (List.Perm.cons B (perm_moveG l i A h)).trans (List.Perm.swap A B _)
theorem perm_step {κ ν : Type} {rest : List (κ × ν)} {j : Nat} {x : κ × ν} {pre M : List κ} (hj : rest[j]? = some x) (h : (pre ++ rest.map (·.1)).Perm M) : ((pre ++ [x.1]) ++ (rest.eraseIdx j).map (·.1)).Perm M := by
 refine List.Perm.trans ?_ h
 rw [List.append_assoc]
 refine List.Perm.append_left pre ?_
 rw [map_eraseIdx]
 have h2 : (rest.map (·.1))[j]? = some x.1 := by rw [List.getElem?_map, hj]; rfl
 exact (perm_moveG _ j _ h2).symm
theorem rest_len {α : Type} {rest : List α} {j : Nat} {x : α} (hj : rest[j]? = some x) : (rest.eraseIdx j).length < rest.length := by
 have hlt : j < rest.length := (List.getElem?_eq_some_iff.1 hj).1
 rw [List.length_eraseIdx_of_lt hlt]; omega
end Sl
