import Derived.Test.YteogdknlofcpiaaGreatSlAF
import Derived.Test.YteogdknlofcpiaaGreatSlAC
namespace Sl
open _root_.Go _root_.Go.RowKit
set_option linter.all false
theorem stB_pre {u k : Nat} {n : Int} (hn : n = k) (hk : k ≤ 64) (hu : u < 2 ^ k) (T : List Bool) : stB n ⟨0, lowB u k ++ T⟩ = (u, ⟨0, T⟩) := by
 subst hn
 obtain ⟨a, b, c⟩ := low_read (u := u) (n := (k : Int)) (fits_small rfl hk hu) T
 rw [Int.toNat_natCast] at a b c
 rw [stB_yes rfl]
 dsimp only
 rw [a, b, c, drop_part (by rw [lowB_len])]
theorem stN_pre {u : Nat} (hu : u < 18446744073709551616) (T : List Bool) : stN ⟨0, natB u ++ T⟩ = (u, ⟨0, T⟩) := by
 obtain ⟨a, b, c⟩ := natB_read hu T
 rw [stN_yes rfl]
 dsimp only
 rw [a, b, c, drop_part rfl]
theorem stT_pre {s : ByteArray} (hs : s.size ≤ 1099511627776) (T : List Bool) : stT ⟨0, textB s ++ T⟩ = (s, ⟨0, T⟩) := by
 obtain ⟨a, b, c⟩ := text_read hs T
 rw [stT_yes rfl]
 dsimp only
 rw [a, b, c, drop_part rfl]
theorem i64'_id {n : Int} {x : I64} (h : n = x.v) : i64' n = x := I64.eq (by rw [i64'_v (by rw [h]; exact ⟨x.lo, x.hi⟩), h])
theorem str'_id {s : ByteArray} {x : Str} (h : s = x.v) : str' s = x := Str.eq (by rw [str'_v (by rw [h]; exact x.ok), h])
theorem ev_ext {a b : EvM} (h1 : a.src = b.src) (h2 : a.seq = b.seq) (h3 : a.time = b.time) (h4 : a.typ = b.typ) (h5 : a.attrs = b.attrs) : a = b := by cases a; cases b; simp only [EvM.mk.injEq]; exact ⟨h1, h2, h3, h4, h5⟩
theorem valE_is {k n : Int} {s : ByteArray} (h : valE k n s = 0) : (k = 1 ∧ s = ByteArray.empty) ∨ (k = 2 ∧ n = 0 ∧ s.size ≤ 64) := Decidable.byContradiction fun hn => absurd ((valE_30 hn).symm.trans h) (by decide)
theorem stA_pre {a : AttrV} (hn : a.name.v.size ≤ 32) (hv : valE a.kind.v a.n.v a.s.v = 0) (T : List Bool) : stA ⟨0, attrB a ++ T⟩ = (a, ⟨0, T⟩) := by
 have hT : stT ⟨0, attrB a ++ T⟩ = (a.name.v, ⟨0, lowB a.kind.v.toNat 2 ++ ((if a.kind.v = 1 then natB (zigN a.n.v) else textB a.s.v) ++ T)⟩) := by
  unfold attrB
  rw [List.append_assoc, List.append_assoc]
  exact stT_pre (by omega) _
 have key : ∀ (k n : Int) (s : ByteArray), stV ⟨0, lowB a.kind.v.toNat 2 ++ ((if a.kind.v = 1 then natB (zigN a.n.v) else textB a.s.v) ++ T)⟩ = ((k, n, s), ⟨0, T⟩) → k = a.kind.v → n = a.n.v → s = a.s.v → stA ⟨0, attrB a ++ T⟩ = (a, ⟨0, T⟩) := by
  intro k n s hV h1 h2 h3
  unfold stA
  rw [hT]
  dsimp only
  rw [hV]
  dsimp only
  rw [str'_id (x := a.name) rfl, i64'_id h1, i64'_id h2, str'_id h3]
 rcases valE_is hv with ⟨hk, hs⟩ | ⟨hk, hn0, hs⟩
 ·refine key 1 a.n.v ByteArray.empty ?_ hk.symm rfl hs.symm
  rw [if_pos hk, hk]
  have hb : stB 2 ⟨0, lowB (1 : Int).toNat 2 ++ (natB (zigN a.n.v) ++ T)⟩ = (1, ⟨0, natB (zigN a.n.v) ++ T⟩) := stB_pre (k := 2) rfl (by decide) (by decide) _
  have hz := zigN_lt a.n.lo a.n.hi
  rw [stV_1 (by rw [hb]), hb]
  dsimp only
  rw [stN_pre hz]
  dsimp only
  rw [zag_zig a.n.lo a.n.hi]
 ·refine key 2 0 a.s.v ?_ hk.symm hn0.symm rfl
  rw [if_neg (by omega), hk]
  have hb : stB 2 ⟨0, lowB (2 : Int).toNat 2 ++ (textB a.s.v ++ T)⟩ = (2, ⟨0, textB a.s.v ++ T⟩) := stB_pre (k := 2) rfl (by decide) (by decide) _
  rw [stV_2 (by rw [hb]), hb]
  dsimp only
  rw [stT_pre (by omega)]
theorem ats_pre {l : List AttrV} (hl : attrsE l = 0) (T : List Bool) : ∀ j, j ≤ l.length → ats j ⟨0, l.flatMap attrB ++ T⟩ = (l.take j, ⟨0, (l.drop j).flatMap attrB ++ T⟩)
 | 0, _ => rfl
 | j + 1, hj => by
  have ih := ats_pre hl T j (by omega)
  obtain ⟨a1, _, _, a4⟩ := attr_ok hl (j := j) (by omega)
  have hd : l.drop j = l.getD j default :: l.drop (j + 1) := by
   rw [List.drop_eq_getElem_cons (by omega)]
   congr 1
   rw [List.getD_eq_getElem?_getD, List.getElem?_eq_getElem (by omega)]
   rfl
  rw [ats_yes (by rw [ih]), ih]
  dsimp only
  rw [hd, List.flatMap_cons, List.append_assoc, stA_pre a1 a4]
  dsimp only
  congr 1
  rw [List.take_succ, List.getD_eq_getElem?_getD, List.getElem?_eq_getElem (by omega)]
  rfl
theorem ev_pre {e : EvM} (h : evE e = 0) (P : List Bool) : v7 ⟨0, formB e ++ P⟩ = ⟨0, P⟩ ∧ evS tmN ⟨0, formB e ++ P⟩ = e := by
 obtain ⟨h1, h2, h3, h4, h5, h6⟩ := evE_range h
 have t1 := timeB_range h3
 have t2 := timeB_range h4
 have h8 := attrsE_len h6
 have hn := nameB_len h5
 have hR : formB e ++ P = lowB e.src.v.toNat 4 ++ (natB e.seq.v.toNat ++ (natB e.time.v.toNat ++ (textB e.typ.v ++ (lowB e.attrs.length 4 ++ (e.attrs.flatMap attrB ++ P))))) := by
  unfold formB headB
  simp only [List.append_assoc]
 rw [hR]
 generalize hA : e.attrs.flatMap attrB ++ P = T5
 generalize hX : (⟨0, lowB e.src.v.toNat 4 ++ (natB e.seq.v.toNat ++ (natB e.time.v.toNat ++ (textB e.typ.v ++ (lowB e.attrs.length 4 ++ T5))))⟩ : RX) = X
 have s1 : stB 4 X = (e.src.v.toNat, ⟨0, natB e.seq.v.toNat ++ (natB e.time.v.toNat ++ (textB e.typ.v ++ (lowB e.attrs.length 4 ++ T5)))⟩) := by rw [← hX]; exact stB_pre (k := 4) rfl (by decide) (by show _ < 16; omega) _
 have e1 : v1 X = ⟨0, natB e.seq.v.toNat ++ (natB e.time.v.toNat ++ (textB e.typ.v ++ (lowB e.attrs.length 4 ++ T5)))⟩ := by unfold v1; rw [s1]
 have s2 : stN (v1 X) = (e.seq.v.toNat, ⟨0, natB e.time.v.toNat ++ (textB e.typ.v ++ (lowB e.attrs.length 4 ++ T5))⟩) := by rw [e1]; exact stN_pre (by omega) _
 have e2 : v2 X = ⟨0, natB e.time.v.toNat ++ (textB e.typ.v ++ (lowB e.attrs.length 4 ++ T5))⟩ := by unfold v2; rw [s2]
 have s3 : stN (v2 X) = (e.time.v.toNat, ⟨0, textB e.typ.v ++ (lowB e.attrs.length 4 ++ T5)⟩) := by rw [e2]; exact stN_pre (by omega) _
 have e3 : v3 X = ⟨0, textB e.typ.v ++ (lowB e.attrs.length 4 ++ T5)⟩ := by unfold v3; rw [s3]
 have s4 : stT (v3 X) = (e.typ.v, ⟨0, lowB e.attrs.length 4 ++ T5⟩) := by rw [e3]; exact stT_pre (by omega) _
 have e4 : v4 X = ⟨0, lowB e.attrs.length 4 ++ T5⟩ := by unfold v4; rw [s4]
 have s5 : stB 4 (v4 X) = (e.attrs.length, ⟨0, T5⟩) := by rw [e4]; exact stB_pre (k := 4) rfl (by decide) (by show _ < 16; omega) _
 have e5 : v5 X = ⟨0, T5⟩ := by unfold v5; rw [s5]
 have en : vn X = e.attrs.length := by unfold vn; rw [s5]
 have e6 : v6 X = ⟨0, T5⟩ := by unfold v6; rw [if_neg (by rw [en]; omega), e5]
 have s7 : ats (vn X) (v6 X) = (e.attrs, ⟨0, P⟩) := by
  rw [en, e6, ← hA, ats_pre h6 P _ (Nat.le_refl _), List.take_length, List.drop_length]
  rfl
 refine ⟨by unfold v7; rw [s7], ev_ext ?_ ?_ ?_ ?_ ?_⟩
 ·show i64' ((stB 4 X).1 : Int) = _; rw [s1]; exact i64'_id (by dsimp only; omega)
 ·show i64' (tmN (stN (v1 X)).1) = _; rw [s2]; exact i64'_id (by dsimp only; unfold tmN; rw [if_neg (by omega)]; omega)
 ·show i64' (tmN (stN (v2 X)).1) = _; rw [s3]; exact i64'_id (by dsimp only; unfold tmN; rw [if_neg (by omega)]; omega)
 ·show str' (stT (v3 X)).1 = _; rw [s4]; exact str'_id rfl
 ·show (ats (vn X) (v6 X)).1 = _; rw [s7]
section
variable {X : RX}
theorem stB_back {n : Int} {k : Nat} (hn : n = k) (hX : X.e = 0) (h : (stB n X).2.e = 0) : lowB (stB n X).1 k ++ (stB n X).2.R = X.R := by
 rw [stB_yes hX] at h ⊢
 obtain ⟨a, b, c⟩ := src_back hn h
 dsimp only
 rw [a, c, List.take_append_drop]
theorem stN_back (hX : X.e = 0) (h : (stN X).2.e = 0) : natB (stN X).1 ++ (stN X).2.R = X.R := by
 rw [stN_yes hX] at h ⊢
 dsimp only
 rw [(nat_back h).1, List.take_append_drop]
theorem stT_back (hX : X.e = 0) (h : (stT X).2.e = 0) : textB (stT X).1 ++ (stT X).2.R = X.R := by
 rw [stT_yes hX] at h ⊢
 dsimp only
 rw [text_back_s h, List.take_append_drop]
theorem zig_zag (u : Nat) : zigN (zagN u) = u := by
 unfold zigN zagN
 split
 ·split <;> omega
 ·split <;> omega
theorem stA_back (hl : X.R.length ≤ 1125899906842624) (hX : X.e = 0) (h : (stA X).2.e = 0) : attrB (stA X).1 ++ (stA X).2.R = X.R := by
 obtain ⟨c1, c2, c3, c4⟩ := stA_cells hl
 have hT : (stT X).2.e = 0 := Decidable.byContradiction fun hn => hn ((stA_stop hn).symm.trans h)
 have hb0 := stT_back hX hT
 have hV : (stV (stT X).2).2.e = 0 := h
 generalize hY : (stT X).2 = Y at *
 have hB : (stB 2 Y).2.e = 0 := by
  refine Decidable.byContradiction fun hn => ?_
  have h1 : srcE Y.R 2 = (stB 2 Y).2.e := by rw [stB_yes hT]
  exact hn (h1.symm.trans ((stV_b hT (by rw [h1]; exact hn)).symm.trans hV))
 have hb1 : lowB (stB 2 Y).1 2 ++ (stB 2 Y).2.R = Y.R := stB_back (k := 2) rfl hT hB
 have e2 : (stA X).2 = (stV Y).2 := by show (stV (stT X).2).2 = _; rw [hY]
 unfold attrB
 rw [c1, c2, c3, c4, e2]
 by_cases k1 : (stB 2 Y).1 = 1
 ·rw [stV_1 k1] at hV ⊢
  dsimp only at hV ⊢
  have hb2 := stN_back hB hV
  rw [if_pos rfl, zig_zag, List.append_assoc, List.append_assoc, hb2]
  rw [k1] at hb1
  rw [show (1 : Int).toNat = 1 from rfl, hb1, hb0]
 ·by_cases k2 : (stB 2 Y).1 = 2
  ·rw [stV_2 k2] at hV ⊢
   dsimp only at hV ⊢
   have hb2 := stT_back hB hV
   rw [if_neg (by decide), List.append_assoc, List.append_assoc, hb2]
   rw [k2] at hb1
   rw [show (2 : Int).toNat = 2 from rfl, hb1, hb0]
  ·exfalso
   rw [stV_3 k1 k2, stK_yes hB] at hV
   exact absurd (show (40 : Int) = 0 from hV) (by decide)
theorem ats_back (hl : X.R.length ≤ 1125899906842624) : ∀ n, (ats n X).2.e = 0 → (ats n X).1.flatMap attrB ++ (ats n X).2.R = X.R
 | 0, _ => rfl
 | n + 1, h => by
  have h0 : (ats n X).2.e = 0 := (ats_len h).2 n (by omega)
  have ih := ats_back hl n h0
  rw [ats_yes h0] at h ⊢
  dsimp only at h ⊢
  have hb := stA_back (Nat.le_trans (ats_len2 n) hl) h0 h
  rw [List.flatMap_append, List.append_assoc, show ([(stA (ats n X).2).1] : List AttrV).flatMap attrB = attrB (stA (ats n X).2).1 by simp, hb, ih]
theorem ev_back (hl : X.R.length ≤ 1125899906842624) (hX : X.e = 0) (h7 : (v7 X).e = 0) (hE : evE (evS tmN X) = 0) : formB (evS tmN X) ++ (v7 X).R = X.R := by
 have z6 : (v6 X).e = 0 := Decidable.byContradiction fun hn => hn ((v7_6 hn).symm.trans h7)
 have z5 : (v5 X).e = 0 := Decidable.byContradiction fun hn => hn ((v7_5 hn).symm.trans h7)
 have z4 : (v4 X).e = 0 := Decidable.byContradiction fun hn => hn ((v7_4 hn).symm.trans h7)
 have z3 : (v3 X).e = 0 := Decidable.byContradiction fun hn => hn ((v7_3 hn).symm.trans h7)
 have z2 : (v2 X).e = 0 := Decidable.byContradiction fun hn => hn ((v7_2 hn).symm.trans h7)
 have z1 : (v1 X).e = 0 := Decidable.byContradiction fun hn => hn ((v7_1 hn).symm.trans h7)
 have h6 : v6 X = v5 X := by
  unfold v6
  split
  ·rename_i h8
   unfold v6 at z6
   rw [if_pos h8, stK_yes z5] at z6
   exact absurd (show (40 : Int) = 0 from z6) (by decide)
  ·rfl
 obtain ⟨r1, r2, r3, r4, r5, r6⟩ := evE_range hE
 have t3 := timeB_range r3
 have t4 := timeB_range r4
 rw [evS_seq tm_ok] at t3
 rw [evS_time tm_ok] at t4
 have b1 : lowB (stB 4 X).1 4 ++ (v1 X).R = X.R := stB_back (k := 4) rfl hX z1
 have b2 : natB (stN (v1 X)).1 ++ (v2 X).R = (v1 X).R := stN_back z1 z2
 have b3 : natB (stN (v2 X)).1 ++ (v3 X).R = (v2 X).R := stN_back z2 z3
 have b4 : textB (stT (v3 X)).1 ++ (v4 X).R = (v3 X).R := stT_back z3 z4
 have b5 : lowB (stB 4 (v4 X)).1 4 ++ (v5 X).R = (v4 X).R := stB_back (k := 4) rfl z4 z5
 have b6 : (ats (vn X) (v6 X)).1.flatMap attrB ++ (v7 X).R = (v6 X).R := ats_back (Nat.le_trans v6_len hl) _ h7
 have hn : (ats (vn X) (v6 X)).1.length = vn X := (ats_len h7).1
 have u1 : ∀ u, 0 ≤ tmN u → (tmN u).toNat = u := fun u hu => by
  unfold tmN at hu ⊢
  split at hu
  ·omega
  ·rename_i hh; rw [if_neg hh]; rfl
 unfold formB headB
 rw [evS_src, evS_seq tm_ok, evS_time tm_ok, evS_typ hl, u1 _ t3.1, u1 _ t4.1, Int.toNat_natCast]
 have ha : (evS tmN X).attrs = (ats (vn X) (v6 X)).1 := rfl
 rw [ha, hn]
 simp only [List.append_assoc]
 rw [b6, h6]
 show lowB (stB 4 X).1 4 ++ (natB (stN (v1 X)).1 ++ (natB (stN (v2 X)).1 ++ (textB (stT (v3 X)).1 ++ (lowB (stB 4 (v4 X)).1 4 ++ (v5 X).R)))) = X.R
 rw [b5, b4, b3, b2, b1]
end
end Sl
