import Derived.Test.YteogdknlofcpiaaGreatSlBF
import Derived.Test.YteogdknlofcpiaaGreatSlCB
import Derived.Test.YteogdknlofcpiaaGreatSlQ
import Derived.Test.YteogdknlofcpiaaGreatSlDB
import Derived.WideKeyRuns
namespace Sl
open _root_.Go _root_.Go.RowKit
set_option linter.all false
set_option linter.unusedSimpArgs false
structure IdK where
 a : I64
 b : I64
theorem IdK.eq_of {x y : IdK} (h : x.a.v = y.a.v) (h2 : x.b.v = y.b.v) : x = y := by cases x; cases y; cases I64.eq_of h; cases I64.eq_of h2; rfl
instance : DecidableEq IdK := fun x y => if h : x.a.v = y.a.v ∧ x.b.v = y.b.v then isTrue (IdK.eq_of h.1 h.2) else isFalse (fun e => h (e ▸ ⟨rfl, rfl⟩))
def kID (k : IdK) : Value := .agg #[.int .i64 k.a.v, .int .i64 k.b.v]
theorem findAsking_of {P : Program} {kt : TypeId} {κ : Type} [DecidableEq κ] {ek : κ → Value} (hs : ∀ (a b : κ) (w : World), (Op.equal kt (ek a) (ek b)).run P w = .ok (decide (a = b)) w) (k : κ) (w : World) :
  ∀ (es : List MapEntry) (ks : List κ) (i : Nat), es.map (·.key) = ks.map ek → (Instr.findAsking kt (ek k) es i).run P w = .ok (if h : (ks.findIdx fun x => decide (x = k)) < es.length then some (i + (ks.findIdx fun x => decide (x = k)), es[ks.findIdx fun x => decide (x = k)].val) else none) w
 | [], ks, i, h => by simp [Instr.findAsking]
 | e :: es, [], i, h => by simp at h
 | e :: es, x :: ks, i, h => by
  simp only [List.map_cons, List.cons.injEq] at h
  unfold Instr.findAsking
  rw [h.1]
  by_cases hx : k = x
  ·subst hx
   simp [List.findIdx_cons, hs]
  ·have hx' : ¬ x = k := fun e => hx e.symm
   have ih := findAsking_of hs k w es ks (i + 1) h.2
   have hl : es.length = ks.length := by simpa using congrArg List.length h.2
   simp only [List.findIdx_cons, decide_eq_false hx', cond_false, List.length_cons, Nat.add_lt_add_iff_right, List.getElem_cons_succ]
   simp [hs, decide_eq_false hx, ih]
   split <;> simp <;> omega
theorem KeyLaw.wide {P : Program} {kt : TypeId} {κ : Type} [DecidableEq κ] {ek : κ → Value} (hc : ∀ (em : Bool) (k : κ) (w : World), (Instr.checkKey em 10000 kt (ek k)).run P w = .ok () w) (hw : (match P.underlying kt with | some (.array _ _) | some (.struct _) => true | _ => false) = true)
  (hs : ∀ (a b : κ) (w : World), (Op.equal kt (ek a) (ek b)).run P w = .ok (decide (a = b)) w) (hb : ∀ k, Instr.sameBits 10000 (ek k) (ek k) = true) : KeyLaw P kt ek where
 chk := hc
 fnd k es ks h w := by
  rw [run_findKey_eq w hw, findAsking_of hs k w es ks 0 h]
  unfold hit
  simp
 bits := hb
theorem kID_bits (k : IdK) : Instr.sameBits 10000 (kID k) (kID k) = true := by
 unfold kID
 simp [Instr.sameBits, sameBits_int]
theorem idk_dec (x y : IdK) : decide (x = y) = (decide (x.a.v = y.a.v) && (decide (x.b.v = y.b.v) && true)) := by
 rw [Bool.and_true, Bool.eq_iff_iff]
 simp only [decide_eq_true_eq, Bool.and_eq_true]
 exact ⟨fun e => e ▸ ⟨rfl, rfl⟩, fun h => IdK.eq_of h.1 h.2⟩
def idOf (x : BoundD) : IdK := ⟨x.ev.ev.src, x.ev.ev.seq⟩
def named (L : List BoundD) (i : Nat) : Prop := nameB (L.getD i default).var.v = true ∨ ((L.getD i default).var.v = ByteArray.empty ∧ L.length = 1)
abbrev leS (a b : ByteArray) : Bool := (sLt a b || decide (a = b))
open Classical in
noncomputable def ptAt (L : List BoundD) (i : Nat) : Int :=
 if ¬ named L i then 100 else if 0 < i ∧ leS (L.getD i default).var.v (L.getD (i - 1) default).var.v = true then 100 else if idOf (L.getD i default) ∈ (L.take i).map idOf then 100 else evE (L.getD i default).ev.ev
open Classical in
noncomputable def ptE (L : List BoundD) : Int := if 12 < L.length then 100 else firstNZ (ptAt L) L.length
section
variable {L : List BoundD} {i : Nat}
theorem ptAt_1 (h : ¬ named L i) : ptAt L i = 100 := by unfold ptAt; rw [if_pos h]
theorem ptAt_2 (h0 : 0 < i) (h : leS (L.getD i default).var.v (L.getD (i - 1) default).var.v = true) : ptAt L i = 100 := by
 unfold ptAt
 by_cases hn : named L i
 ·rw [if_neg (by simpa using hn), if_pos ⟨h0, h⟩]
 ·rw [if_pos hn]
theorem ptAt_3 (h : idOf (L.getD i default) ∈ (L.take i).map idOf) : ptAt L i = 100 := by
 unfold ptAt
 by_cases hn : named L i
 ·rw [if_neg (by simpa using hn)]
  split
  ·rfl
  ·rfl
 ·rw [if_pos hn]
theorem ptAt_4 (h : named L i) (h2 : i = 0 ∨ leS (L.getD i default).var.v (L.getD (i - 1) default).var.v = false) (h3 : ¬ idOf (L.getD i default) ∈ (L.take i).map idOf) : ptAt L i = evE (L.getD i default).ev.ev := by
 unfold ptAt
 rw [if_neg (by simpa using h), if_neg (by rintro ⟨a, b⟩; exact h2.elim (fun h => by omega) fun h => by rw [b] at h; cases h), if_neg h3]
theorem ptE_long (h : 12 < L.length) : ptE L = 100 := by unfold ptE; rw [if_pos h]
theorem ptE_all (h : ¬ 12 < L.length) (hz : ∀ j, j < L.length → ptAt L j = 0) : ptE L = 0 := by unfold ptE; rw [if_neg h]; exact firstNZ_zero hz
theorem ptE_at {e : Int} (h : ¬ 12 < L.length) (hz : ∀ j, j < i → ptAt L j = 0) (hi : i < L.length) (he : ptAt L i = e) (hn : e ≠ 0) : ptE L = e := by unfold ptE; rw [if_neg h]; exact firstNZ_at hz he hn hi
theorem take_ids (hi : i < L.length) : (L.take (i + 1)).map idOf = (L.take i).map idOf ++ [idOf (L.getD i default)] := by rw [take_getD hi, List.map_append]; rfl
theorem ids_no {k : Nat} (hk : i ≤ k) (hi : i ≤ L.length) (h : ∀ q, q < k → ¬ idOf (L.getD q default) = idOf (L.getD i default)) : ¬ idOf (L.getD i default) ∈ (L.take i).map idOf := by
 intro hm
 obtain ⟨x, hx, e⟩ := List.mem_map.1 hm
 obtain ⟨q, hq, e2⟩ := List.getElem_of_mem hx
 rw [List.length_take] at hq
 rw [List.getElem_take] at e2
 refine h q (by omega) ?_
 rw [List.getD_eq_getElem?_getD, List.getElem?_eq_getElem (by omega)]
 show idOf L[q] = _
 rw [e2, e]
theorem ids_yes {q : Nat} (hq : q < i) (hi : i ≤ L.length) (h : idOf (L.getD q default) = idOf (L.getD i default)) : idOf (L.getD i default) ∈ (L.take i).map idOf := by
 refine List.mem_map.2 ⟨L.getD q default, ?_, h⟩
 rw [List.mem_take_iff_getElem]
 exact ⟨q, by omega, by rw [List.getD_eq_getElem?_getD, List.getElem?_eq_getElem (by omega)]; rfl⟩
end
theorem idOf_eq {x y : BoundD} : (idOf x = idOf y) ↔ (x.ev.ev.src.v = y.ev.ev.src.v ∧ x.ev.ev.seq.v = y.ev.ev.seq.v) := by
 exact ⟨fun h => ⟨congrArg (fun k : IdK => k.a.v) h, congrArg (fun k : IdK => k.b.v) h⟩, fun h => IdK.eq_of h.1 h.2⟩
theorem addS_new {κ : Type} [DecidableEq κ] {L : List κ} {k : κ} (h : ¬ k ∈ L) : addS L k = L ++ [k] := by unfold addS; rw [if_neg h]
theorem ids_step {L : List BoundD} {i : Nat} (hi : i < L.length) (h : ¬ idOf (L.getD i default) ∈ (L.take i).map idOf) : addS ((L.take i).map idOf) (idOf (L.getD i default)) = (L.take (i + 1)).map idOf := by rw [addS_new h, take_ids hi]
theorem bndsA_nil {W w : World} {F : List Atom} (H : St W w F) : St W w (bndsA [] :: F) := evA_nil H
theorem bndsA_snoc {W w : World} {F : List Atom} {L : List BoundD} {x : BoundD} (H : St W w (Attrs x.ev.av x.ev.ev.attrs :: bndsA L :: F)) : St W w (bndsA (L ++ [x]) :: F) := by
 have := evA_snoc (L := L.map BoundD.ev) (e := x.ev) H
 unfold bndsA
 rw [List.map_append]; exact this
structure BoundV where
 var : Str
 ev : EvM
def BoundD.v (x : BoundD) : BoundV := ⟨x.var, x.ev.ev⟩
theorem getD_bv {L M : List BoundD} (h : L.map BoundD.v = M.map BoundD.v) (i : Nat) : (L.getD i default).v = (M.getD i default).v := by
 have e : ∀ K : List BoundD, (K.getD i default).v = ((K.map BoundD.v).getD i (default : BoundD).v) := fun K => by
  rw [List.getD_eq_getElem?_getD, List.getD_eq_getElem?_getD, List.getElem?_map]
  cases K[i]? <;> rfl
 rw [e, e, h]
theorem bv_len {L M : List BoundD} (h : L.map BoundD.v = M.map BoundD.v) : L.length = M.length := by simpa using congrArg List.length h
theorem bv_var {x y : BoundD} (h : x.v = y.v) : x.var = y.var := congrArg BoundV.var h
theorem bv_ev {x y : BoundD} (h : x.v = y.v) : x.ev.ev = y.ev.ev := congrArg BoundV.ev h
theorem ids_map {L : List BoundD} : L.map idOf = (L.map BoundD.v).map fun x => (⟨x.ev.src, x.ev.seq⟩ : IdK) := by rw [List.map_map]; rfl
theorem ptE_same {L M : List BoundD} (h : L.map BoundD.v = M.map BoundD.v) : ptE L = ptE M := by
 have hl := bv_len h
 unfold ptE
 rw [hl]
 congr 1
 have : ptAt L = ptAt M := funext fun i => by
  unfold ptAt named
  have h1 := getD_bv h i
  have h2 := getD_bv h (i - 1)
  rw [bv_var h1, bv_var h2, bv_ev h1, hl]
  have h3 : (L.take i).map idOf = (M.take i).map idOf := by rw [ids_map, ids_map, List.map_take, h, ← List.map_take]
  have h4 : idOf (L.getD i default) = idOf (M.getD i default) := by unfold idOf; rw [bv_ev h1]
  rw [h3, h4]
 rw [this]
theorem sameEv_self (e : EvM) : sameEv e e = true := sameEv_iff.2 rfl
open Classical in
noncomputable def sameBs (L M : List BoundD) : Bool := decide (L.map BoundD.v = M.map BoundD.v)
theorem bv_mk {x y : BoundD} (h : x.var.v = y.var.v) (h2 : sameEv x.ev.ev y.ev.ev = true) : x.v = y.v := by
 unfold BoundD.v
 rw [Str.eq_of h, sameEv_iff.1 h2]
section
open Classical
variable {L M : List BoundD} {j : Nat}
theorem sameBs_is : sameBs L M = true ↔ L.map BoundD.v = M.map BoundD.v := by unfold sameBs; exact decide_eq_true_iff
theorem sameBs_no (h : ¬ L.map BoundD.v = M.map BoundD.v) : sameBs L M = false := by unfold sameBs; exact decide_eq_false h
theorem sameBs_len (h : ¬ L.length = M.length) : sameBs L M = false := sameBs_no fun e => h (bv_len e)
theorem sameBs_var (h : ¬ (L.getD j default).var.v = (M.getD j default).var.v) : sameBs L M = false := sameBs_no fun e => h (congrArg Str.v (bv_var (getD_bv e j)))
theorem sameBs_ev (h : sameEv (L.getD j default).ev.ev (M.getD j default).ev.ev = false) : sameBs L M = false := sameBs_no fun e => by rw [bv_ev (getD_bv e j), sameEv_self] at h; cases h
theorem sameBs_yes (hl : L.length = M.length) (h : ∀ q, q < L.length → (L.getD q default).v = (M.getD q default).v) : sameBs L M = true := by
 rw [sameBs_is]
 refine List.ext_getElem (by simpa using hl) fun q h1 h2 => ?_
 rw [List.getElem_map, List.getElem_map]
 have := h q (by simpa using h1)
 rw [List.getD_eq_getElem?_getD, List.getD_eq_getElem?_getD, List.getElem?_eq_getElem (by simpa using h1), List.getElem?_eq_getElem (by simpa using h2)] at this
 exact this
end
end Sl
