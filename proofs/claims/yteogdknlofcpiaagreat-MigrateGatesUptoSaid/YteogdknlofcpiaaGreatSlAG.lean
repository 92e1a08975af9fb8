import Derived.Test.YteogdknlofcpiaaGreatSlAF
import Derived.Test.YteogdknlofcpiaaGreatSlAC
namespace Sl
open _root_.Go _root_.Go.RowKit
set_option linter.all false
theorem stB_pre {u k : Nat} {n : Int} (hn : n = k) (hk : k ≤ 64) (hu : u < 2 ^ k) (T : List Bool) : stB n ⟨0, lowB u k ++ T⟩ = (u, ⟨0, T⟩) := by
 subst hn
 obtain ⟨a, b, c⟩ := low_read (u := u) (n := (k : Int)) (fits_small rfl hk hu) T
 rw [Int.toNat_natCast] at a b c
 rw [stB_yes rfl]
 dsimp only
 rw [a, b, c, drop_part (by rw [lowB_len])]
theorem stN_pre {u : Nat} (hu : u < 18446744073709551616) (T : List Bool) : stN ⟨0, natB u ++ T⟩ = (u, ⟨0, T⟩) := by
 obtain ⟨a, b, c⟩ := natB_read hu T
 rw [stN_yes rfl]
 dsimp only
 rw [a, b, c, drop_part rfl]
theorem stT_pre {s : ByteArray} (hs : s.size ≤ 1099511627776) (T : List Bool) : stT ⟨0, textB s ++ T⟩ = (s, ⟨0, T⟩) := by
 obtain ⟨a, b, c⟩ := text_read hs T
 rw [stT_yes rfl]
 dsimp only
 rw [a, b, c, drop_part rfl]
theorem i64'_id {n : Int} {x : I64} (h : n = x.v) : i64' n = x := I64.eq (by rw [i64'_v (by rw [h]; exact ⟨x.lo, x.hi⟩), h])
theorem str'_id {s : ByteArray} {x : Str} (h : s = x.v) : str' s = x := Str.eq (by rw [str'_v (by rw [h]; exact x.ok), h])
theorem ev_ext {a b : EvM} (h1 : a.src = b.src) (h2 : a.seq = b.seq) (h3 : a.time = b.time) (h4 : a.typ = b.typ) (h5 : a.attrs = b.attrs) : a = b := by cases a; cases b; simp only [EvM.mk.injEq]; exact ⟨h1, h2, h3, h4, h5⟩
theorem valE_is {k n : Int} {s : ByteArray} (h : valE k n s = 0) : (k = 1 ∧ s = ByteArray.empty) ∨ (k = 2 ∧ n = 0 ∧ s.size ≤ 64) := Decidable.byContradiction fun hn => absurd ((valE_30 hn).symm.trans h) (by decide)
theorem stA_pre {a : AttrV} (hn : a.name.v.size ≤ 32) (hv : valE a.kind.v a.n.v a.s.v = 0) (T : List Bool) : stA ⟨0, attrB a ++ T⟩ = (a, ⟨0, T⟩) := by
 have hT : stT ⟨0, attrB a ++ T⟩ = (a.name.v, ⟨0, lowB a.kind.v.toNat 2 ++ ((if a.kind.v = 1 then natB (zigN a.n.v) else textB a.s.v) ++ T)⟩) := by
  unfold attrB
  rw [List.append_assoc, List.append_assoc]
  exact stT_pre (by omega) _
 have key : ∀ (k n : Int) (s : ByteArray), stV ⟨0, lowB a.kind.v.toNat 2 ++ ((if a.kind.v = 1 then natB (zigN a.n.v) else textB a.s.v) ++ T)⟩ = ((k, n, s), ⟨0, T⟩) → k = a.kind.v → n = a.n.v → s = a.s.v → stA ⟨0, attrB a ++ T⟩ = (a, ⟨0, T⟩) := by
  intro k n s hV h1 h2 h3
  unfold stA
  rw [hT]
  dsimp only
  rw [hV]
  dsimp only
  rw [str'_id (x := a.name) rfl, i64'_id h1, i64'_id h2, str'_id h3]
 rcases valE_is hv with ⟨hk, hs⟩ | ⟨hk, hn0, hs⟩
 ·refine key 1 a.n.v ByteArray.empty ?_ hk.symm rfl hs.symm
  rw [if_pos hk, hk]
  have hb : stB 2 ⟨0, lowB (1 : Int).toNat 2 ++ (natB (zigN a.n.v) ++ T)⟩ = (1, ⟨0, natB (zigN a.n.v) ++ T⟩) := stB_pre (k := 2) rfl (by decide) (by decide) _
  have hz := zigN_lt a.n.lo a.n.hi
  rw [stV_1 (by rw [hb]), hb]
  dsimp only
  rw [stN_pre hz]
  dsimp only
  rw [zag_zig a.n.lo a.n.hi]
 ·refine key 2 0 a.s.v ?_ hk.symm hn0.symm rfl
  rw [if_neg (by omega), hk]
  have hb : stB 2 ⟨0, lowB (2 : Int).toNat 2 ++ (textB a.s.v ++ T)⟩ = (2, ⟨0, textB a.s.v ++ T⟩) := stB_pre (k := 2) rfl (by decide) (by decide) _
  rw [stV_2 (by rw [hb]), hb]
  dsimp only
  rw [stT_pre (by omega)]
theorem ats_pre {l : List AttrV} (hl : attrsE l = 0) (T : List Bool) : ∀ j, j ≤ l.length → ats j ⟨0, l.flatMap attrB ++ T⟩ = (l.take j, ⟨0, (l.drop j).flatMap attrB ++ T⟩)
 | 0, _ => rfl
 | j + 1, hj => by
  have ih := ats_pre hl T j (by omega)
  obtain ⟨a1, _, _, a4⟩ := attr_ok hl (j := j) (by omega)
  have hd : l.drop j = l.getD j default :: l.drop (j + 1) := by
   rw [List.drop_eq_getElem_cons (by omega)]
   congr 1
   rw [List.getD_eq_getElem?_getD, List.getElem?_eq_getElem (by omega)]
   rfl
  rw [ats_yes (by rw [ih]), ih]
  dsimp only
  rw [hd, List.flatMap_cons, List.append_assoc, stA_pre a1 a4]
  dsimp only
  congr 1
  rw [List.take_succ, List.getD_eq_getElem?_getD, List.getElem?_eq_getElem (by omega)]
  rfl
theorem ev_pre {e : EvM} (h : evE e = 0) (P : List Bool) : v7 ⟨0, formB e ++ P⟩ = ⟨0, P⟩ ∧ evS tmN ⟨0, formB e ++ P⟩ = e := by
 obtain ⟨h1, h2, h3, h4, h5, h6⟩ := evE_range h
 have t1 := timeB_range h3
 have t2 := timeB_range h4
 have h8 := attrsE_len h6
 have hn := nameB_len h5
 have hR : formB e ++ P = lowB e.src.v.toNat 4 ++ (natB e.seq.v.toNat ++ (natB e.time.v.toNat ++ (textB e.typ.v ++ (lowB e.attrs.length 4 ++ (e.attrs.flatMap attrB ++ P))))) := by
  unfold formB headB
  simp only [List.append_assoc]
 rw [hR]
 generalize hA : e.attrs.flatMap attrB ++ P = T5
 generalize hX : (⟨0, lowB e.src.v.toNat 4 ++ (natB e.seq.v.toNat ++ (natB e.time.v.toNat ++ (textB e.typ.v ++ (lowB e.attrs.length 4 ++ T5))))⟩ : RX) = X
 have s1 : stB 4 X = (e.src.v.toNat, ⟨0, natB e.seq.v.toNat ++ (natB e.time.v.toNat ++ (textB e.typ.v ++ (lowB e.attrs.length 4 ++ T5)))⟩) := by rw [← hX]; exact stB_pre (k := 4) rfl (by decide) (by show _ < 16; omega) _
 have e1 : v1 X = ⟨0, natB e.seq.v.toNat ++ (natB e.time.v.toNat ++ (textB e.typ.v ++ (lowB e.attrs.length 4 ++ T5)))⟩ := by unfold v1; rw [s1]
 have s2 : stN (v1 X) = (e.seq.v.toNat, ⟨0, natB e.time.v.toNat ++ (textB e.typ.v ++ (lowB e.attrs.length 4 ++ T5))⟩) := by rw [e1]; exact stN_pre (by omega) _
 have e2 : v2 X = ⟨0, natB e.time.v.toNat ++ (textB e.typ.v ++ (lowB e.attrs.length 4 ++ T5))⟩ := by unfold v2; rw [s2]
 have s3 : stN (v2 X) = (e.time.v.toNat, ⟨0, textB e.typ.v ++ (lowB e.attrs.length 4 ++ T5)⟩) := by rw [e2]; exact stN_pre (by omega) _
 have e3 : v3 X = ⟨0, textB e.typ.v ++ (lowB e.attrs.length 4 ++ T5)⟩ := by unfold v3; rw [s3]
 have s4 : stT (v3 X) = (e.typ.v, ⟨0, lowB e.attrs.length 4 ++ T5⟩) := by rw [e3]; exact stT_pre (by omega) _
 have e4 : v4 X = ⟨0, lowB e.attrs.length 4 ++ T5⟩ := by unfold v4; rw [s4]
 have s5 : stB 4 (v4 X) = (e.attrs.length, ⟨0, T5⟩) := by rw [e4]; exact stB_pre (k := 4) rfl (by decide) (by show _ < 16; omega) _
 have e5 : v5 X = ⟨0, T5⟩ := by unfold v5; rw [s5]
 have en : vn X = e.attrs.length := by unfold vn; rw [s5]
 have e6 : v6 X = ⟨0, T5⟩ := by unfold v6; rw [if_neg (by rw [en]; omega), e5]
 have s7 : ats (vn X) (v6 X) = (e.attrs, ⟨0, P⟩) := by
  rw [en, e6, ← hA, ats_pre h6 P _ (Nat.le_refl _), List.take_length, List.drop_length]
  rfl
 refine ⟨by unfold v7; rw [s7], ev_ext ?_ ?_ ?_ ?_ ?_⟩
 ·show i64' ((stB 4 X).1 : Int) = _; rw [s1]; exact i64'_id (by dsimp only; omega)
 ·show i64' (tmN (stN (v1 X)).1) = _; rw [s2]; exact i64'_id (by dsimp only; unfold tmN; rw [if_neg (by omega)]; omega)
 ·show i64' (tmN (stN (v2 X)).1) = _; rw [s3]; exact i64'_id (by dsimp only; unfold tmN; rw [if_neg (by omega)]; omega)
 ·show str' (stT (v3 X)).1 = _; rw [s4]; exact str'_id rfl
 ·show (ats (vn X) (v6 X)).1 = _; rw [s7]
section
variable {X : RX}
end
theorem evE_attrs_len {e : EvM} (h : evE e = 0) : e.attrs.length ≤ 8 := attrsE_len (evE_range h).2.2.2.2.2
end Sl
