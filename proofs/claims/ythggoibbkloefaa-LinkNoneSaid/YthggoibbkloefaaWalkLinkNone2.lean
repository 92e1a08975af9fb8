/- Walks of the program's functions. Printed by a program of this claim's author. No condition. -/
import Derived.Test.YthggoibbkloefaaSlBF
import Derived.Test.YthggoibbkloefaaSlQ
import Derived.Test.YthggoibbkloefaaSlG
import Derived.Test.YthggoibbkloefaaSlBB
import Derived.Test.YthggoibbkloefaaSlAB
import Derived.Test.YthggoibbkloefaaSlDC
import Derived.Test.YthggoibbkloefaaSlDJ
import Derived.Test.YthggoibbkloefaaSlEC
import Derived.Test.YthggoibbkloefaaSlBA
import Derived.Test.YthggoibbkloefaaSlEE
import Derived.Test.YthggoibbkloefaaSlEF
import Derived.Test.YthggoibbkloefaaProg
import Derived.Test.YthggoibbkloefaaWalkLinkNone1
namespace Sl
open _root_.Go _root_.Go.RowKit _root_.Go.Proofs
set_option linter.all false
set_option maxHeartbeats 4000000 in
set_option maxRecDepth 100000 in
theorem Rf_Send {W w : World} {F : List Atom} (g : Nat) (s : EndV) (hv : LInv s) (bs : List UInt8) (v0 : Value) {i : Nat} (hi : F[i]? = some (RfA g s)) {A : Atom} (hA : RdA A 1 v0 bs.length (bs.flatMap u8c)) {j : Nat} (hj : (F.set i emp)[j]? = some A) (H : St W w F) : Calls Try.prog 37 #[.pointer (some ⟨g, 0, none⟩), v0] w (Ret fun v w' => v = .int .i64 (sendE s bs) ∧ St W w' (F.set i (RfA g (sendS s bs)))) := by
 have H0 := H.front hi
 have hml := (hA _ _ _ (j + 1) H0 (by exact hj)).2
 obtain ⟨pp1, cc2, rfl, hn3⟩ := Rd.shape (hA _ _ _ (j + 1) H0 (by exact hj)).1
 obtain ⟨o1, o2, o3, o4, o5, o6, o8⟩ := id hv.ok; have o7 := i64N_0 (Nat.le_trans o4 (by decide))
 refine calls_of_go (n := 33) Try.func37 rfl Try.ntmps37 rfl ?_
 refine g_seq ?_
 refine g_region ?_
 refine r_cons (s_assign (.int .i64 0) rfl rfl ?_)
 refine r_nil ?_
 refine g_seq ?_
 refine g_seq ?_
 refine g_region ?_
 refine r_cons (s_move (.slice pp1 bs.length cc2) rfl rfl ?_)
 refine r_cons (s_len bs.length rfl ⟨_, un_26⟩ rfl ?_)
 by_cases hc4 : (16384 : Int) < (bs.length : Int)
 ·skip
  refine r_cons (s_gtr true rfl rfl (dtrue hc4) rfl ?_)
  refine r_cons (s_move (.bool true) rfl rfl ?_)
  refine r_cons (r_pass rfl rfl rfl rfl rfl ?_)
  refine r_cons (r_pass rfl rfl rfl rfl rfl ?_)
  refine r_cons (r_pass rfl rfl rfl rfl rfl ?_)
  refine r_cons (r_pass rfl rfl rfl rfl rfl ?_)
  refine r_cons (r_pass rfl rfl rfl rfl rfl ?_)
  refine r_cons (r_pass rfl rfl rfl rfl rfl ?_)
  refine r_cons (s_pick_t (.bool true) rfl rfl rfl ?_)
  refine r_nil ?_
  refine g_true rfl ?_
  refine g_seq ?_
  refine g_region ?_
  refine r_cons (s_assign (.int .i64 3) rfl rfl ?_)
  refine r_nil ?_
  refine g_ret' [.int .i64 3] Try.func37 Try.results37 ⟨rfl, trivial⟩ ?_
  have H5 : St W w (RfA g s :: (F.set i emp)) := H0
  have hE : sendE s bs = 3 := by first | exact sendE_3 (.inl (by omega)) | exact sendE_3 (.inr (by omega)) | exact sendE_6 (by omega) (by omega)
  exact ⟨by rw [hE]; rfl, by rw [sendS_no (by rw [hE]; decide)]; exact St.back hi H5⟩
 ·skip
  refine r_cons (s_gtr false rfl rfl (dfalse hc4) rfl ?_)
  refine r_cons (s_move (.bool false) rfl rfl ?_)
  refine r_cons (r_take rfl rfl ?_)
  refine s_move (.pointer (some ⟨g, 0, none⟩)) rfl rfl ?_
  refine r_cons (r_take rfl rfl ?_)
  refine s_nilCheck (.pointer (some ⟨g, 0, none⟩)) rfl ⟨_, rfl⟩ rfl ?_
  refine r_cons (r_take rfl rfl ?_)
  refine s_fieldAddr 86 2 3 3 83 rfl fi_86_2 rfl rfl ?_
  refine r_cons (r_take rfl rfl ?_)
  have H6 := H0.move 0 rfl
  obtain ⟨⟨⟨pp7, cc8, L9, pp10, cc11, E12, A13⟩, hL14, hA15, hH16⟩, H17⟩ := St.open_ex H6
  have H18 := St.open_star H17
  change L9.map BodD.v = A13 ++ s.l at hL14; change A13.length = s.acked at hA15; change HR s.held (mapB E12) at hH16
  have hl19 := refLen hL14 hA15; have hh20 : E12.length = s.held.length := by have h9 := hH16.len; rw [mapB_len rfl] at h9; exact h9
  have H21 : St W w (blk g (rfC s (.slice pp7 L9.length cc8) (.slice pp10 E12.length cc11)) :: Row 101 3 (.slice pp7 L9.length cc8) L9.length (L9.flatMap bodCell) :: byA (L9.map BodD.by) :: Row 105 2 (.slice pp10 E12.length cc11) E12.length (E12.flatMap hlCell) :: byA (mby E12) :: (F.set i emp)) := H18
  refine s_load (.slice pp7 L9.length cc8) ag_83 rfl (H21.blk_at (i := 0) rfl) rfl rfl ?_
  refine r_cons (r_take rfl rfl ?_)
  refine s_len L9.length rfl ⟨_, un_83⟩ rfl ?_
  refine r_cons (r_take rfl rfl ?_)
  by_cases hc22 : (1099511627776 : Int) ≤ (L9.length : Int)
  ·skip
   refine s_geq true rfl rfl (dtrue hc22) rfl ?_
   refine r_cons (s_pick_f (.bool true) rfl rfl rfl ?_)
   refine r_nil ?_
   refine g_true rfl ?_
   refine g_seq ?_
   refine g_region ?_
   refine r_cons (s_assign (.int .i64 3) rfl rfl ?_)
   refine r_nil ?_
   refine g_ret' [.int .i64 3] Try.func37 Try.results37 ⟨rfl, trivial⟩ ?_
   have H23 : St W w (RfA g s :: (F.set i emp)) := St.shut_ex ⟨⟨pp7, cc8, L9, pp10, cc11, E12, A13⟩, hL14, hA15, hH16⟩ (St.shut_star (ls := [_, _, _, _, _]) H21)
   have H24 : St W w (RfA g s :: (F.set i emp)) := H23
   have hE : sendE s bs = 3 := by first | exact sendE_3 (.inl (by omega)) | exact sendE_3 (.inr (by omega)) | exact sendE_6 (by omega) (by omega)
   exact ⟨by rw [hE]; rfl, by rw [sendS_no (by rw [hE]; decide)]; exact St.back hi H24⟩
  ·skip
   refine s_geq false rfl rfl (dfalse hc22) rfl ?_
   refine r_cons (s_pick_f (.bool false) rfl rfl rfl ?_)
   refine r_nil ?_
   refine g_false rfl ?_
   refine g_skip ?_
   refine g_seq ?_
   refine g_seq ?_
   refine g_region ?_
   refine r_cons (s_move (.pointer (some ⟨g, 0, none⟩)) rfl rfl ?_)
   have H25 : St W w (RfA g s :: (F.set i emp)) := St.shut_ex ⟨⟨pp7, cc8, L9, pp10, cc11, E12, A13⟩, hL14, hA15, hH16⟩ (St.shut_star (ls := [_, _, _, _, _]) H21)
   refine r_cons (s_call [.pointer (some ⟨g, 0, none⟩)] pl_42 rfl rfl (Rf_Waiting g s hv.ok (i := 0) rfl H25) ?_)
   rintro _ w26 ⟨rfl, H27⟩
   by_cases hc28 : (4096 : Int) ≤ (s.l.length : Int)
   ·skip
    refine r_cons (s_geq true rfl rfl (dtrue hc28) rfl ?_)
    refine r_nil ?_
    refine g_true rfl ?_
    refine g_seq ?_
    refine g_region ?_
    refine r_cons (s_assign (.int .i64 6) rfl rfl ?_)
    refine r_nil ?_
    refine g_ret' [.int .i64 6] Try.func37 Try.results37 ⟨rfl, trivial⟩ ?_
    have H29 : St W w26 (RfA g s :: (F.set i emp)) := H27
    have hE : sendE s bs = 6 := by first | exact sendE_3 (.inl (by omega)) | exact sendE_3 (.inr (by omega)) | exact sendE_6 (by omega) (by omega)
    exact ⟨by rw [hE]; rfl, by rw [sendS_no (by rw [hE]; decide)]; exact St.back hi H29⟩
   ·skip
    refine r_cons (s_geq false rfl rfl (dfalse hc28) rfl ?_)
    refine r_nil ?_
    refine g_false rfl ?_
    refine g_skip ?_
    refine g_seq ?_
    refine g_region ?_
    refine r_cons (s_assign (.slice none 0 0) rfl rfl ?_)
    refine r_nil ?_
    refine g_seq ?_
    have H30 := H27.move 0 rfl
    obtain ⟨⟨⟨pp31, cc32, L33, pp34, cc35, E36, A37⟩, hL38, hA39, hH40⟩, H41⟩ := St.open_ex H30
    have H42 := St.open_star H41
    change L33.map BodD.v = A37 ++ s.l at hL38; change A37.length = s.acked at hA39; change HR s.held (mapB E36) at hH40
    have hl43 := refLen hL38 hA39; have hh44 : E36.length = s.held.length := by have h9 := hH40.len; rw [mapB_len rfl] at h9; exact h9
    have H45 : St W w26 (blk g (rfC s (.slice pp31 L33.length cc32) (.slice pp34 E36.length cc35)) :: Row 101 3 (.slice pp31 L33.length cc32) L33.length (L33.flatMap bodCell) :: byA (L33.map BodD.by) :: Row 105 2 (.slice pp34 E36.length cc35) E36.length (E36.flatMap hlCell) :: byA (mby E36) :: (F.set i emp)) := H42
    refine g_cut (fun (x : Nat × Option Addr × Nat × Option Addr × Nat) => match x with | (bk53, pp51, cc52, pp60, cc61) => [(4, .int .i64 0)]) (fun (x : Nat × Option Addr × Nat × Option Addr × Nat) w => match x with | (bk53, pp51, cc52, pp60, cc61) => St W w (blk bk53 (.cells #[.slice pp51 bs.length cc52, .bool false, .int .i64 0] 101 (0, 0)) :: Row 5 1 (.slice pp51 bs.length cc52) bs.length (bs.flatMap u8c) :: blk g (rfC s (.slice pp60 (L33.length + 1) cc61) (.slice pp34 E36.length cc35)) :: Row 101 3 (.slice pp60 (L33.length + 1) cc61) (L33.length + 1) (L33.flatMap bodCell ++ ([.slice pp51 bs.length cc52, .bool false, .int .i64 0] : List Value)) :: byA (L33.map BodD.by) :: Row 105 2 (.slice pp34 E36.length cc35) E36.length (E36.flatMap hlCell) :: byA (mby E36) :: (F.set i emp))) ?_ ?_
    ·rintro ⟨bk53, pp51, cc52, pp60, cc61⟩ ρ49 w47 H48
     change Ends _ _ (upds ρ49 [(4, .int .i64 0)]) w47
     refine g_seq ?_
     refine g_region ?_
     refine r_cons (s_assign (.int .i64 0) rfl rfl ?_)
     refine r_nil ?_
     refine g_ret' [.int .i64 0] Try.func37 Try.results37 ⟨rfl, trivial⟩ ?_
     have hE : sendE s bs = 0 := sendE_0 (by omega) (by omega)
     have H50 : St W w47 (blk bk53 (.cells #[.slice pp51 bs.length cc52, .bool false, .int .i64 0] 101 (0, 0)) :: Im 1 (.slice pp51 bs.length cc52) bs.length (bs.flatMap u8c) :: blk g (rfC s (.slice pp60 (L33.length + 1) cc61) (.slice pp34 E36.length cc35)) :: Row 101 3 (.slice pp60 (L33.length + 1) cc61) (L33.length + 1) (L33.flatMap bodCell ++ ([.slice pp51 bs.length cc52, .bool false, .int .i64 0] : List Value)) :: byA (L33.map BodD.by) :: Row 105 2 (.slice pp34 E36.length cc35) E36.length (E36.flatMap hlCell) :: byA (mby E36) :: (F.set i emp)) := Row.im H48 (i := 1) rfl
     have H51 := byA_add (x := (⟨⟨bs, false, 0⟩, pp51, cc52⟩ : BodD).by) H50 (i := 4) (j := 1) rfl rfl snoc_by
     have H52 : St W w47 (byA ((L33 ++ [(⟨⟨bs, false, 0⟩, pp51, cc52⟩ : BodD)]).map BodD.by) :: blk bk53 (.cells #[.slice pp51 bs.length cc52, .bool false, .int .i64 0] 101 (0, 0)) :: Im 1 (.slice pp51 bs.length cc52) bs.length (bs.flatMap u8c) :: blk g (rfC s (.slice pp60 ((L33 ++ [(⟨⟨bs, false, 0⟩, pp51, cc52⟩ : BodD)]).length) cc61) (.slice pp34 E36.length cc35)) :: Row 101 3 (.slice pp60 ((L33 ++ [(⟨⟨bs, false, 0⟩, pp51, cc52⟩ : BodD)]).length) cc61) ((L33 ++ [(⟨⟨bs, false, 0⟩, pp51, cc52⟩ : BodD)]).length) ((L33 ++ [(⟨⟨bs, false, 0⟩, pp51, cc52⟩ : BodD)]).flatMap bodCell) :: byA (L33.map BodD.by) :: Row 105 2 (.slice pp34 E36.length cc35) E36.length (E36.flatMap hlCell) :: byA (mby E36) :: (F.set i emp)) := by rw [flat_app, flat_one, List.length_append]; exact H51
     have H53 : St W w47 (blk g (rfC s (.slice pp60 ((L33 ++ [(⟨⟨bs, false, 0⟩, pp51, cc52⟩ : BodD)]).length) cc61) (.slice pp34 E36.length cc35)) :: Row 101 3 (.slice pp60 ((L33 ++ [(⟨⟨bs, false, 0⟩, pp51, cc52⟩ : BodD)]).length) cc61) ((L33 ++ [(⟨⟨bs, false, 0⟩, pp51, cc52⟩ : BodD)]).length) ((L33 ++ [(⟨⟨bs, false, 0⟩, pp51, cc52⟩ : BodD)]).flatMap bodCell) :: byA ((L33 ++ [(⟨⟨bs, false, 0⟩, pp51, cc52⟩ : BodD)]).map BodD.by) :: Row 105 2 (.slice pp34 E36.length cc35) E36.length (E36.flatMap hlCell) :: byA (mby E36) :: blk bk53 (.cells #[.slice pp51 bs.length cc52, .bool false, .int .i64 0] 101 (0, 0)) :: Im 1 (.slice pp51 bs.length cc52) bs.length (bs.flatMap u8c) :: byA (L33.map BodD.by) :: (F.set i emp)) := (((((H52.move 7 rfl).move 7 rfl).move 2 rfl).move 6 rfl).move 6 rfl)
     have H54 : St W w47 (RfA g ({ s with l := s.l ++ [⟨bs, false, 0⟩] } : EndV) :: blk bk53 (.cells #[.slice pp51 bs.length cc52, .bool false, .int .i64 0] 101 (0, 0)) :: Im 1 (.slice pp51 bs.length cc52) bs.length (bs.flatMap u8c) :: byA (L33.map BodD.by) :: (F.set i emp)) := St.shut_ex ⟨⟨pp60, cc61, (L33 ++ [(⟨⟨bs, false, 0⟩, pp51, cc52⟩ : BodD)]), pp34, cc35, E36, A37⟩, (show (L33 ++ [(⟨⟨bs, false, 0⟩, pp51, cc52⟩ : BodD)]).map BodD.v = A37 ++ (s.l ++ [⟨bs, false, 0⟩]) from by rw [← List.append_assoc]; exact app_map (M := [(⟨⟨bs, false, 0⟩, pp51, cc52⟩ : BodD)]) hL38 rfl), hA39, hH40⟩ (St.shut_star (ls := [_, _, _, _, _]) H53)
     have H55 : St W w47 (RfA g ({ s with l := s.l ++ [⟨bs, false, 0⟩] } : EndV) :: (F.set i emp)) := (((H54.drop 1 rfl).drop 1 rfl).drop 1 rfl)
     exact ⟨by rw [hE]; rfl, by rw [sendS_yes hE]; exact St.back hi H55⟩
    ·intro join46
     refine g_any mixed 14 rfl ?_
     intro w56 hw57
     have H58 := H45.drew
     rw [← hw57] at H58
     clear hw57
     refine a_take 0 (listed' := #[true, false, false, false, false, false, false, false, false, false, false, false, false, false]) rfl (by kernel_rfl) (by kernel_rfl) (by kernel_rfl) rfl rfl rfl rfl (fun w => x_move (.pointer (some ⟨g, 0, none⟩)) rfl w) ?_
     refine a_take 1 (listed' := #[true, true, false, false, false, false, false, false, false, false, false, false, false, false]) rfl (by kernel_rfl) (by kernel_rfl) (by kernel_rfl) rfl rfl rfl rfl (fun w => x_move (.pointer (some ⟨g, 0, none⟩)) rfl w) ?_
     refine a_take 2 (listed' := #[true, true, true, false, false, false, false, false, false, false, false, false, false, false]) rfl (by kernel_rfl) (by kernel_rfl) (by kernel_rfl) rfl rfl rfl rfl (fun w => x_nilCheck (.pointer (some ⟨g, 0, none⟩)) rfl ⟨_, rfl⟩ w) ?_
     refine a_take 3 (listed' := #[true, true, true, true, false, false, false, false, false, false, false, false, false, false]) rfl (by kernel_rfl) (by kernel_rfl) (by kernel_rfl) rfl rfl rfl rfl (fun w => x_fieldAddr 86 2 3 3 83 rfl fi_86_2 rfl w) ?_
     refine a_take 5 (listed' := #[true, true, true, true, false, true, false, false, false, false, false, false, false, false]) rfl (by kernel_rfl) (by kernel_rfl) (by kernel_rfl) rfl rfl rfl rfl (fun w => x_move (.slice none 0 0) rfl w) ?_
     refine a_take 6 (listed' := #[true, true, true, true, false, true, true, false, false, false, false, false, false, false]) rfl (by kernel_rfl) (by kernel_rfl) (by kernel_rfl) rfl rfl rfl rfl (fun w => x_move (.slice pp1 bs.length cc2) rfl w) ?_
     refine a_all (rs := [4, 7]) (by kernel_rfl) (by simp) ?_
     refine a_cons ⟨_, rfl, ?_⟩ (a_cons ⟨_, rfl, ?_⟩ (fun x hx => absurd hx (by simp)))
     ·skip
      refine s_load (.slice pp31 L33.length cc32) ag_83 rfl (H58.blk_at (i := 0) rfl) rfl rfl ?_
      change AnyG _ _ _ _ #[true, true, true, true, true, true, true, false, false, false, false, false, false, false] _ _
      refine a_all (rs := [7]) (by kernel_rfl) (by simp) ?_
      refine a_cons ⟨_, rfl, ?_⟩ (fun x hx => absurd hx (by simp))
      have H59 := Row.nil_intro H58 5 1
      refine s_append H59 0 rfl rfl rfl (hA _ _ _ (j + 6) H59 (by exact hj)).1 ap_26 (by decide) (by unfold maxLen; omega) (by omega) (n' := bs.length) (xs' := bs.flatMap u8c) (by omega) (by first | rfl | simp) rfl ?_; intro vv60 w61 H62 hn63
      obtain ⟨pp64, cc65, rfl⟩ := Row.slice H62 (i := 0) rfl
      change AnyG _ _ _ _ #[true, true, true, true, true, true, true, true, false, false, false, false, false, false] _ _
      refine a_take 8 (listed' := #[true, true, true, true, true, true, true, true, true, false, false, false, false, false]) rfl (by kernel_rfl) (by kernel_rfl) (by kernel_rfl) rfl rfl rfl rfl (fun w => x_build (cs := #[.slice pp64 bs.length cc65, .bool false, .int .i64 0]) (by kernel_rfl) w) ?_
      refine a_all (rs := [9]) (by kernel_rfl) (by simp) ?_
      refine a_cons ⟨_, rfl, ?_⟩ (fun x hx => absurd hx (by simp))
      refine s_buildSlice H62 3 1 (cs := #[.slice pp64 bs.length cc65, .bool false, .int .i64 0]) #[.slice none 0 0, .bool false, .int .i64 0] el_83 ze_101 (by decide) (by decide) (by kernel_rfl) rfl ?_; intro bk66 w67 H68
      change AnyG _ _ _ _ #[true, true, true, true, true, true, true, true, true, true, false, false, false, false] _ _
      refine a_all (rs := [10]) (by kernel_rfl) (by simp) ?_
      refine a_cons ⟨_, rfl, ?_⟩ (fun x hx => absurd hx (by simp))
      refine s_append H68 3 rfl rfl rfl (rd_blk (H68.blk_at (i := 0) rfl) rfl (nbl rfl) (by simp [Value.oneCell'])) ap_83 (by decide) (by unfold maxLen; omega) (by omega) (n' := L33.length + 1) (xs' := L33.flatMap bodCell ++ ([.slice pp64 bs.length cc65, .bool false, .int .i64 0] : List Value)) (by omega) (by first | rfl | simp) rfl ?_; intro vv69 w70 H71 hn72
      obtain ⟨pp73, cc74, rfl⟩ := Row.slice H71 (i := 3) rfl
      change AnyG _ _ _ _ #[true, true, true, true, true, true, true, true, true, true, true, false, false, false] _ _
      refine a_take 11 (listed' := #[true, true, true, true, true, true, true, true, true, true, true, true, false, false]) rfl (by kernel_rfl) (by kernel_rfl) (by kernel_rfl) rfl rfl rfl rfl (fun w => x_nilCheck (.pointer (some ⟨g, 0, none⟩)) rfl ⟨_, rfl⟩ w) ?_
      refine a_take 12 (listed' := #[true, true, true, true, true, true, true, true, true, true, true, true, true, false]) rfl (by kernel_rfl) (by kernel_rfl) (by kernel_rfl) rfl rfl rfl rfl (fun w => x_fieldAddr 86 2 3 3 83 rfl fi_86_2 rfl w) ?_
      refine a_all (rs := [13]) (by kernel_rfl) (by simp) ?_
      refine a_cons ⟨_, rfl, ?_⟩ (fun x hx => absurd hx (by simp))
      refine s_store H71 2 (.slice pp73 (L33.length + 1) cc74) rfl rfl rfl sz_83 rfl (nbl rfl) rfl (cs' := #[.int .i64 s.frm.v, .int .i64 s.to_.v, .int .i64 (s.slide : Int), .slice pp73 (L33.length + 1) cc74, .int .i64 (s.acked : Int), .int .i64 ((i64N s.came).v), .slice pp34 E36.length cc35, .int .i64 (s.clock : Int), .bool s.owes]) rfl ?_; intro w75 H76
      change AnyG _ _ _ _ #[true, true, true, true, true, true, true, true, true, true, true, true, true, true] _ _
      refine a_done (by kernel_rfl) ?_
      exact join46 (bk66, pp64, cc65, pp73, cc74) _ _ H76 ⟨rfl, trivial⟩
     ·skip
      have H77 := Row.nil_intro H58 5 1
      refine s_append H77 0 rfl rfl rfl (hA _ _ _ (j + 6) H77 (by exact hj)).1 ap_26 (by decide) (by unfold maxLen; omega) (by omega) (n' := bs.length) (xs' := bs.flatMap u8c) (by omega) (by first | rfl | simp) rfl ?_; intro vv78 w79 H80 hn81
      obtain ⟨pp82, cc83, rfl⟩ := Row.slice H80 (i := 0) rfl
      change AnyG _ _ _ _ #[true, true, true, true, false, true, true, true, false, false, false, false, false, false] _ _
      refine a_take 8 (listed' := #[true, true, true, true, false, true, true, true, true, false, false, false, false, false]) rfl (by kernel_rfl) (by kernel_rfl) (by kernel_rfl) rfl rfl rfl rfl (fun w => x_build (cs := #[.slice pp82 bs.length cc83, .bool false, .int .i64 0]) (by kernel_rfl) w) ?_
      refine a_all (rs := [4, 9]) (by kernel_rfl) (by simp) ?_
      refine a_cons ⟨_, rfl, ?_⟩ (a_cons ⟨_, rfl, ?_⟩ (fun x hx => absurd hx (by simp)))
      ·skip
       refine s_load (.slice pp31 L33.length cc32) ag_83 rfl (H80.blk_at (i := 1) rfl) rfl rfl ?_
       change AnyG _ _ _ _ #[true, true, true, true, true, true, true, true, true, false, false, false, false, false] _ _
       refine a_all (rs := [9]) (by kernel_rfl) (by simp) ?_
       refine a_cons ⟨_, rfl, ?_⟩ (fun x hx => absurd hx (by simp))
       refine s_buildSlice H80 3 1 (cs := #[.slice pp82 bs.length cc83, .bool false, .int .i64 0]) #[.slice none 0 0, .bool false, .int .i64 0] el_83 ze_101 (by decide) (by decide) (by kernel_rfl) rfl ?_; intro bk84 w85 H86
       change AnyG _ _ _ _ #[true, true, true, true, true, true, true, true, true, true, false, false, false, false] _ _
       refine a_all (rs := [10]) (by kernel_rfl) (by simp) ?_
       refine a_cons ⟨_, rfl, ?_⟩ (fun x hx => absurd hx (by simp))
       refine s_append H86 3 rfl rfl rfl (rd_blk (H86.blk_at (i := 0) rfl) rfl (nbl rfl) (by simp [Value.oneCell'])) ap_83 (by decide) (by unfold maxLen; omega) (by omega) (n' := L33.length + 1) (xs' := L33.flatMap bodCell ++ ([.slice pp82 bs.length cc83, .bool false, .int .i64 0] : List Value)) (by omega) (by first | rfl | simp) rfl ?_; intro vv87 w88 H89 hn90
       obtain ⟨pp91, cc92, rfl⟩ := Row.slice H89 (i := 3) rfl
       change AnyG _ _ _ _ #[true, true, true, true, true, true, true, true, true, true, true, false, false, false] _ _
       refine a_take 11 (listed' := #[true, true, true, true, true, true, true, true, true, true, true, true, false, false]) rfl (by kernel_rfl) (by kernel_rfl) (by kernel_rfl) rfl rfl rfl rfl (fun w => x_nilCheck (.pointer (some ⟨g, 0, none⟩)) rfl ⟨_, rfl⟩ w) ?_
       refine a_take 12 (listed' := #[true, true, true, true, true, true, true, true, true, true, true, true, true, false]) rfl (by kernel_rfl) (by kernel_rfl) (by kernel_rfl) rfl rfl rfl rfl (fun w => x_fieldAddr 86 2 3 3 83 rfl fi_86_2 rfl w) ?_
       refine a_all (rs := [13]) (by kernel_rfl) (by simp) ?_
       refine a_cons ⟨_, rfl, ?_⟩ (fun x hx => absurd hx (by simp))
       refine s_store H89 2 (.slice pp91 (L33.length + 1) cc92) rfl rfl rfl sz_83 rfl (nbl rfl) rfl (cs' := #[.int .i64 s.frm.v, .int .i64 s.to_.v, .int .i64 (s.slide : Int), .slice pp91 (L33.length + 1) cc92, .int .i64 (s.acked : Int), .int .i64 ((i64N s.came).v), .slice pp34 E36.length cc35, .int .i64 (s.clock : Int), .bool s.owes]) rfl ?_; intro w93 H94
       change AnyG _ _ _ _ #[true, true, true, true, true, true, true, true, true, true, true, true, true, true] _ _
       refine a_done (by kernel_rfl) ?_
       exact join46 (bk84, pp82, cc83, pp91, cc92) _ _ H94 ⟨rfl, trivial⟩
      ·skip
       refine s_buildSlice H80 3 1 (cs := #[.slice pp82 bs.length cc83, .bool false, .int .i64 0]) #[.slice none 0 0, .bool false, .int .i64 0] el_83 ze_101 (by decide) (by decide) (by kernel_rfl) rfl ?_; intro bk95 w96 H97
       change AnyG _ _ _ _ #[true, true, true, true, false, true, true, true, true, true, false, false, false, false] _ _
       refine a_all (rs := [4]) (by kernel_rfl) (by simp) ?_
       refine a_cons ⟨_, rfl, ?_⟩ (fun x hx => absurd hx (by simp))
       refine s_load (.slice pp31 L33.length cc32) ag_83 rfl (H97.blk_at (i := 2) rfl) rfl rfl ?_
       change AnyG _ _ _ _ #[true, true, true, true, true, true, true, true, true, true, false, false, false, false] _ _
       refine a_all (rs := [10]) (by kernel_rfl) (by simp) ?_
       refine a_cons ⟨_, rfl, ?_⟩ (fun x hx => absurd hx (by simp))
       refine s_append H97 3 rfl rfl rfl (rd_blk (H97.blk_at (i := 0) rfl) rfl (nbl rfl) (by simp [Value.oneCell'])) ap_83 (by decide) (by unfold maxLen; omega) (by omega) (n' := L33.length + 1) (xs' := L33.flatMap bodCell ++ ([.slice pp82 bs.length cc83, .bool false, .int .i64 0] : List Value)) (by omega) (by first | rfl | simp) rfl ?_; intro vv98 w99 H100 hn101
       obtain ⟨pp102, cc103, rfl⟩ := Row.slice H100 (i := 3) rfl
       change AnyG _ _ _ _ #[true, true, true, true, true, true, true, true, true, true, true, false, false, false] _ _
       refine a_take 11 (listed' := #[true, true, true, true, true, true, true, true, true, true, true, true, false, false]) rfl (by kernel_rfl) (by kernel_rfl) (by kernel_rfl) rfl rfl rfl rfl (fun w => x_nilCheck (.pointer (some ⟨g, 0, none⟩)) rfl ⟨_, rfl⟩ w) ?_
       refine a_take 12 (listed' := #[true, true, true, true, true, true, true, true, true, true, true, true, true, false]) rfl (by kernel_rfl) (by kernel_rfl) (by kernel_rfl) rfl rfl rfl rfl (fun w => x_fieldAddr 86 2 3 3 83 rfl fi_86_2 rfl w) ?_
       refine a_all (rs := [13]) (by kernel_rfl) (by simp) ?_
       refine a_cons ⟨_, rfl, ?_⟩ (fun x hx => absurd hx (by simp))
       refine s_store H100 2 (.slice pp102 (L33.length + 1) cc103) rfl rfl rfl sz_83 rfl (nbl rfl) rfl (cs' := #[.int .i64 s.frm.v, .int .i64 s.to_.v, .int .i64 (s.slide : Int), .slice pp102 (L33.length + 1) cc103, .int .i64 (s.acked : Int), .int .i64 ((i64N s.came).v), .slice pp34 E36.length cc35, .int .i64 (s.clock : Int), .bool s.owes]) rfl ?_; intro w104 H105
       change AnyG _ _ _ _ #[true, true, true, true, true, true, true, true, true, true, true, true, true, true] _ _
       refine a_done (by kernel_rfl) ?_
       exact join46 (bk95, pp82, cc83, pp102, cc103) _ _ H105 ⟨rfl, trivial⟩
set_option maxHeartbeats 4000000 in
set_option maxRecDepth 100000 in
theorem Rf_data {W w : World} {F : List Atom} (g : Nat) (s : EndV) (hok : endOk s) (k : Nat) (hk : k < s.l.length) {i : Nat} (hi : F[i]? = some (RfA g s)) (H : St W w F) : Calls Try.prog 56 #[.pointer (some ⟨g, 0, none⟩), .int .i64 ((s.acked + k : Nat) : Int)] w (Ret fun v w' => ∃ p c, v = .agg #[.int .i64 ((dgOf s k (s.l.getD k default).b).frm.v), .int .i64 ((dgOf s k (s.l.getD k default).b).to_.v), .int .i64 ((dgOf s k (s.l.getD k default).b).kind.v), .int .i64 ((dgOf s k (s.l.getD k default).b).seq.v), .int .i64 ((dgOf s k (s.l.getD k default).b).ack.v), .slice p ((dgOf s k (s.l.getD k default).b).body.length) c] ∧ St W w' (Im 1 (.slice p ((dgOf s k (s.l.getD k default).b).body.length) c) (((dgOf s k (s.l.getD k default).b).body).length) (((dgOf s k (s.l.getD k default).b).body).flatMap u8c) :: F.set i (RfA g (dtR s k)))) := by
 have H0 := H.front hi
 obtain ⟨o1, o2, o3, o4, o5, o6, o8⟩ := id hok; have o7 := i64N_0 (Nat.le_trans o4 (by decide))
 refine calls_of_go (n := 47) Try.func56 rfl Try.ntmps56 rfl ?_
 refine g_seq ?_
 refine g_region ?_
 refine r_cons (s_alloc H0 41 ze_41 rfl ?_); intro bk1 w2 H3
 refine r_nil ?_
 refine g_seq ?_
 have H4 := H3.move 1 rfl
 obtain ⟨⟨⟨pp5, cc6, L7, pp8, cc9, E10, A11⟩, hL12, hA13, hH14⟩, H15⟩ := St.open_ex H4
 have H16 := St.open_star H15
 change L7.map BodD.v = A11 ++ s.l at hL12; change A11.length = s.acked at hA13; change HR s.held (mapB E10) at hH14
 have hl17 := refLen hL12 hA13; have hh18 : E10.length = s.held.length := by have h9 := hH14.len; rw [mapB_len rfl] at h9; exact h9
 have H19 : St W w2 (blk g (rfC s (.slice pp5 L7.length cc6) (.slice pp8 E10.length cc9)) :: Row 101 3 (.slice pp5 L7.length cc6) L7.length (L7.flatMap bodCell) :: byA (L7.map BodD.by) :: Row 105 2 (.slice pp8 E10.length cc9) E10.length (E10.flatMap hlCell) :: byA (mby E10) :: blk bk1 (.cells #[.int .i64 0, .int .i64 0, .int .i64 0, .int .i64 0, .int .i64 0, .slice none 0 0] 41 (0, 0)) :: (F.set i emp)) := H16
 have hk3 : s.acked + k < L7.length := by rw [hl17]; omega
 obtain ⟨bk20, cur21, hp22, h23, h24, h25, h26, h27, H28⟩ := Row.open2 H19 (i := 1) rfl (by omega)
 have H29 : St W w2 (blk g (rfC s (.slice pp5 L7.length cc6) (.slice pp8 E10.length cc9)) :: byA (L7.map BodD.by) :: Row 105 2 (.slice pp8 E10.length cc9) E10.length (E10.flatMap hlCell) :: byA (mby E10) :: blk bk1 (.cells #[.int .i64 0, .int .i64 0, .int .i64 0, .int .i64 0, .int .i64 0, .slice none 0 0] 41 (0, 0)) :: blk bk20 (.cells cur21 101 (0, 0)) :: (F.set i emp)) := ((((((H28.move 1 rfl).move 5 rfl).move 5 rfl).move 5 rfl).move 5 rfl).move 5 rfl)
 refine g_mix (fun t_ w => St W w (blk g (rfC s (.slice pp5 L7.length cc6) (.slice pp8 E10.length cc9)) :: byA (L7.map BodD.by) :: Row 105 2 (.slice pp8 E10.length cc9) E10.length (E10.flatMap hlCell) :: byA (mby E10) :: blk bk1 (.cells #[.int .i64 0, .int .i64 0, .int .i64 0, .int .i64 0, .int .i64 0, .slice none 0 0] 41 (0, 0)) :: t_)) (blk bk20 (.cells cur21 101 (0, 0)) :: (F.set i emp)) mixed 20 rfl H29.drew ?_
 refine f_first 0 (listed' := #[true, false, false, false, false, false, false, false, false, false, false, false, false, false, false, false, false, false, false, false]) rfl (by kernel_rfl) (by kernel_rfl) (by kernel_rfl) rfl ?_
 refine f_val rfl rfl rfl (by intro _ w _; exact x_move (.pointer (some ⟨g, 0, none⟩)) rfl w) ?_
 refine f_first 1 (listed' := #[true, true, false, false, false, false, false, false, false, false, false, false, false, false, false, false, false, false, false, false]) rfl (by kernel_rfl) (by kernel_rfl) (by kernel_rfl) rfl ?_
 refine f_val rfl rfl rfl (by intro t_ w hw; exact x_nilCheck (.pointer (some ⟨g, 0, none⟩)) rfl ⟨_, rfl⟩ w) ?_
 refine f_first 2 (listed' := #[true, true, true, false, false, false, false, false, false, false, false, false, false, false, false, false, false, false, false, false]) rfl (by kernel_rfl) (by kernel_rfl) (by kernel_rfl) rfl ?_
 refine f_val rfl rfl rfl (by intro t_ w hw; exact x_fieldAddr 86 2 3 3 83 rfl fi_86_2 rfl w) ?_
 refine f_first 3 (listed' := #[true, true, true, true, false, false, false, false, false, false, false, false, false, false, false, false, false, false, false, false]) rfl (by kernel_rfl) (by kernel_rfl) (by kernel_rfl) rfl ?_
 refine f_val rfl rfl rfl (by intro t_ w hw; exact x_load (.slice pp5 L7.length cc6) ag_83 rfl (hw.blk_at (i := 0) rfl) rfl) ?_
 refine f_first 4 (listed' := #[true, true, true, true, true, false, false, false, false, false, false, false, false, false, false, false, false, false, false, false]) rfl (by kernel_rfl) (by kernel_rfl) (by kernel_rfl) rfl ?_
 refine f_val rfl rfl rfl (by intro _ w _; exact x_move (.int .i64 ((s.acked + k : Nat) : Int)) rfl w) ?_
 refine f_first 5 (listed' := #[true, true, true, true, true, true, false, false, false, false, false, false, false, false, false, false, false, false, false, false]) rfl (by kernel_rfl) (by kernel_rfl) (by kernel_rfl) rfl ?_
 refine f_val rfl rfl rfl (by intro _ w _; exact x_move (.pointer (some ⟨g, 0, none⟩)) rfl w) ?_
 refine f_first 6 (listed' := #[true, true, true, true, true, true, true, false, false, false, false, false, false, false, false, false, false, false, false, false]) rfl (by kernel_rfl) (by kernel_rfl) (by kernel_rfl) rfl ?_
 refine f_val rfl rfl rfl (by intro t_ w hw; exact x_nilCheck (.pointer (some ⟨g, 0, none⟩)) rfl ⟨_, rfl⟩ w) ?_
 refine f_first 7 (listed' := #[true, true, true, true, true, true, true, true, false, false, false, false, false, false, false, false, false, false, false, false]) rfl (by kernel_rfl) (by kernel_rfl) (by kernel_rfl) rfl ?_
 refine f_val rfl rfl rfl (by intro t_ w hw; exact x_fieldAddr 86 2 3 3 83 rfl fi_86_2 rfl w) ?_
 refine f_first 8 (listed' := #[true, true, true, true, true, true, true, true, true, false, false, false, false, false, false, false, false, false, false, false]) rfl (by kernel_rfl) (by kernel_rfl) (by kernel_rfl) rfl ?_
 refine f_val rfl rfl rfl (by intro t_ w hw; exact x_load (.slice pp5 L7.length cc6) ag_83 rfl (hw.blk_at (i := 0) rfl) rfl) ?_
 refine f_first 9 (listed' := #[true, true, true, true, true, true, true, true, true, true, false, false, false, false, false, false, false, false, false, false]) rfl (by kernel_rfl) (by kernel_rfl) (by kernel_rfl) rfl ?_
 refine f_val rfl rfl rfl (by intro _ w _; exact x_move (.int .i64 ((s.acked + k : Nat) : Int)) rfl w) ?_
 refine f_first 10 (listed' := #[true, true, true, true, true, true, true, true, true, true, true, false, false, false, false, false, false, false, false, false]) rfl (by kernel_rfl) (by kernel_rfl) (by kernel_rfl) rfl ?_
 refine f_val rfl rfl rfl (by intro _ w _; exact x_move (.pointer (some ⟨g, 0, none⟩)) rfl w) ?_
 refine f_first 11 (listed' := #[true, true, true, true, true, true, true, true, true, true, true, true, false, false, false, false, false, false, false, false]) rfl (by kernel_rfl) (by kernel_rfl) (by kernel_rfl) rfl ?_
 refine f_val rfl rfl rfl (by intro t_ w hw; exact x_nilCheck (.pointer (some ⟨g, 0, none⟩)) rfl ⟨_, rfl⟩ w) ?_
 refine f_first 12 (listed' := #[true, true, true, true, true, true, true, true, true, true, true, true, true, false, false, false, false, false, false, false]) rfl (by kernel_rfl) (by kernel_rfl) (by kernel_rfl) rfl ?_
 refine f_val rfl rfl rfl (by intro t_ w hw; exact x_fieldAddr 86 6 7 7 2 rfl fi_86_6 rfl w) ?_
 refine f_first 13 (listed' := #[true, true, true, true, true, true, true, true, true, true, true, true, true, true, false, false, false, false, false, false]) rfl (by kernel_rfl) (by kernel_rfl) (by kernel_rfl) rfl ?_
 refine f_val rfl rfl rfl (by intro t_ w hw; exact x_load (.int .i64 (s.clock : Int)) ag_2 rfl (hw.blk_at (i := 0) rfl) rfl) ?_
 refine f_first 14 (listed' := #[true, true, true, true, true, true, true, true, true, true, true, true, true, true, true, false, false, false, false, false]) rfl (by kernel_rfl) (by kernel_rfl) (by kernel_rfl) rfl ?_
 refine f_val rfl rfl rfl (by intro t_ w hw; exact x_indexAddr bk20 (off := 0) ((s.acked + k : Nat) : Int) 3 (0 + (s.acked + k) * 3) (by exact congrArg (fun z_ => Value.slice z_ L7.length cc6) ((fun (_ : 0 < 1) => hp22) (by omega))) rfl el_83 (by omega) rfl w) ?_
 refine f_first 15 (listed' := #[true, true, true, true, true, true, true, true, true, true, true, true, true, true, true, true, false, false, false, false]) rfl (by kernel_rfl) (by kernel_rfl) (by kernel_rfl) rfl ?_
 refine f_val rfl rfl rfl (by intro t_ w hw; exact x_fieldAddr 101 1 1 (0 + (s.acked + k) * 3 + 1) 4 rfl fi_101_1 rfl w) ?_
 refine f_all (rs := [16]) (by kernel_rfl) (by simp) ?_
 refine a_cons ⟨_, rfl, ?_⟩ (fun x hx => absurd hx (by simp))
 intro w30 H31
 try dsimp only at H31
 have hx34 := row_set (f := bodCell) (s := 3) (L := L7) (cur := cur21) bodCell_len (by rw [(rfl : L7.length = L7.length)]; exact h26) (show L7.length * 3 ≤ cur21.size by rw [(rfl : L7.length = L7.length), h25]; exact Nat.mul_le_mul_right 3 h23) (j := s.acked + k) (by have hh := (rfl : L7.length = L7.length); omega) default 1 (by decide) (.bool true) (⟨⟨(L7.getD (s.acked + k) default).v.b, true, (L7.getD (s.acked + k) default).v.tm⟩, (L7.getD (s.acked + k) default).p, (L7.getD (s.acked + k) default).c⟩ : BodD) rfl
 refine s_store H31 5 (.bool true) rfl rfl rfl sz_4 rfl (by have hh := (rfl : L7.length = L7.length); have hk := (show L7.length * 3 ≤ cur21.size by rw [(rfl : L7.length = L7.length), h25]; exact Nat.mul_le_mul_right 3 h23); omega) (by simp) (cs' := (cur21.setIfInBounds (0 + (s.acked + k) * 3 + 1) (.bool true))) rfl ?_; intro w32 H33
 refine ⟨blk bk20 (.cells (cur21.setIfInBounds (0 + (s.acked + k) * 3 + 1) (.bool true)) 101 (0, 0)) :: (F.set i emp), ?_, H33⟩
 change FReg _ _ _ _ _ #[true, true, true, true, true, true, true, true, true, true, true, true, true, true, true, true, true, false, false, false] _ _
 refine f_first 17 (listed' := #[true, true, true, true, true, true, true, true, true, true, true, true, true, true, true, true, true, true, false, false]) rfl (by kernel_rfl) (by kernel_rfl) (by kernel_rfl) rfl ?_
 refine f_val rfl rfl rfl (by intro t_ w hw; exact x_indexAddr bk20 (off := 0) ((s.acked + k : Nat) : Int) 3 (0 + (s.acked + k) * 3) (by exact congrArg (fun z_ => Value.slice z_ L7.length cc6) ((fun (_ : 0 < 1) => hp22) (by omega))) rfl el_83 (by omega) rfl w) ?_
 refine f_first 18 (listed' := #[true, true, true, true, true, true, true, true, true, true, true, true, true, true, true, true, true, true, true, false]) rfl (by kernel_rfl) (by kernel_rfl) (by kernel_rfl) rfl ?_
 refine f_val rfl rfl rfl (by intro t_ w hw; exact x_fieldAddr 101 2 2 (0 + (s.acked + k) * 3 + 2) 2 rfl fi_101_2 rfl w) ?_
 refine f_all (rs := [19]) (by kernel_rfl) (by simp) ?_
 refine a_cons ⟨_, rfl, ?_⟩ (fun x hx => absurd hx (by simp))
 intro w35 H36
 try dsimp only at H36
 have hx39 := row_set (f := bodCell) (s := 3) (L := (L7.set (s.acked + k) (⟨⟨(L7.getD (s.acked + k) default).v.b, true, (L7.getD (s.acked + k) default).v.tm⟩, (L7.getD (s.acked + k) default).p, (L7.getD (s.acked + k) default).c⟩ : BodD))) (cur := (cur21.setIfInBounds (0 + (s.acked + k) * 3 + 1) (.bool true))) bodCell_len hx34 (show (L7.set (s.acked + k) (⟨⟨(L7.getD (s.acked + k) default).v.b, true, (L7.getD (s.acked + k) default).v.tm⟩, (L7.getD (s.acked + k) default).p, (L7.getD (s.acked + k) default).c⟩ : BodD)).length * 3 ≤ (cur21.setIfInBounds (0 + (s.acked + k) * 3 + 1) (.bool true)).size by rw [(show ((L7.set (s.acked + k) (⟨⟨(L7.getD (s.acked + k) default).v.b, true, (L7.getD (s.acked + k) default).v.tm⟩, (L7.getD (s.acked + k) default).p, (L7.getD (s.acked + k) default).c⟩ : BodD))).length = L7.length from by first | (rw [List.length_set]; exact (rfl : L7.length = L7.length)) | rw [List.length_set]), (show (cur21.setIfInBounds (0 + (s.acked + k) * 3 + 1) (.bool true)).size = cc6 * 3 from by rw [Array.size_setIfInBounds]; exact h25)]; exact Nat.mul_le_mul_right 3 h23) (j := s.acked + k) (by have hh := (show ((L7.set (s.acked + k) (⟨⟨(L7.getD (s.acked + k) default).v.b, true, (L7.getD (s.acked + k) default).v.tm⟩, (L7.getD (s.acked + k) default).p, (L7.getD (s.acked + k) default).c⟩ : BodD))).length = L7.length from by first | (rw [List.length_set]; exact (rfl : L7.length = L7.length)) | rw [List.length_set]); omega) default 2 (by decide) (.int .i64 (s.clock : Int)) (⟨⟨((L7.set (s.acked + k) (⟨⟨(L7.getD (s.acked + k) default).v.b, true, (L7.getD (s.acked + k) default).v.tm⟩, (L7.getD (s.acked + k) default).p, (L7.getD (s.acked + k) default).c⟩ : BodD)).getD (s.acked + k) default).v.b, ((L7.set (s.acked + k) (⟨⟨(L7.getD (s.acked + k) default).v.b, true, (L7.getD (s.acked + k) default).v.tm⟩, (L7.getD (s.acked + k) default).p, (L7.getD (s.acked + k) default).c⟩ : BodD)).getD (s.acked + k) default).v.sent, s.clock⟩, ((L7.set (s.acked + k) (⟨⟨(L7.getD (s.acked + k) default).v.b, true, (L7.getD (s.acked + k) default).v.tm⟩, (L7.getD (s.acked + k) default).p, (L7.getD (s.acked + k) default).c⟩ : BodD)).getD (s.acked + k) default).p, ((L7.set (s.acked + k) (⟨⟨(L7.getD (s.acked + k) default).v.b, true, (L7.getD (s.acked + k) default).v.tm⟩, (L7.getD (s.acked + k) default).p, (L7.getD (s.acked + k) default).c⟩ : BodD)).getD (s.acked + k) default).c⟩ : BodD) rfl
 refine s_store H36 5 (.int .i64 (s.clock : Int)) rfl rfl rfl sz_2 rfl (by have hh := (show ((L7.set (s.acked + k) (⟨⟨(L7.getD (s.acked + k) default).v.b, true, (L7.getD (s.acked + k) default).v.tm⟩, (L7.getD (s.acked + k) default).p, (L7.getD (s.acked + k) default).c⟩ : BodD))).length = L7.length from by first | (rw [List.length_set]; exact (rfl : L7.length = L7.length)) | rw [List.length_set]); have hk := (show (L7.set (s.acked + k) (⟨⟨(L7.getD (s.acked + k) default).v.b, true, (L7.getD (s.acked + k) default).v.tm⟩, (L7.getD (s.acked + k) default).p, (L7.getD (s.acked + k) default).c⟩ : BodD)).length * 3 ≤ (cur21.setIfInBounds (0 + (s.acked + k) * 3 + 1) (.bool true)).size by rw [(show ((L7.set (s.acked + k) (⟨⟨(L7.getD (s.acked + k) default).v.b, true, (L7.getD (s.acked + k) default).v.tm⟩, (L7.getD (s.acked + k) default).p, (L7.getD (s.acked + k) default).c⟩ : BodD))).length = L7.length from by first | (rw [List.length_set]; exact (rfl : L7.length = L7.length)) | rw [List.length_set]), (show (cur21.setIfInBounds (0 + (s.acked + k) * 3 + 1) (.bool true)).size = cc6 * 3 from by rw [Array.size_setIfInBounds]; exact h25)]; exact Nat.mul_le_mul_right 3 h23); omega) (by simp) (cs' := ((cur21.setIfInBounds (0 + (s.acked + k) * 3 + 1) (.bool true)).setIfInBounds (0 + (s.acked + k) * 3 + 2) (.int .i64 (s.clock : Int)))) rfl ?_; intro w37 H38
 refine ⟨blk bk20 (.cells ((cur21.setIfInBounds (0 + (s.acked + k) * 3 + 1) (.bool true)).setIfInBounds (0 + (s.acked + k) * 3 + 2) (.int .i64 (s.clock : Int))) 101 (0, 0)) :: (F.set i emp), ?_, H38⟩
 change FReg _ _ _ _ _ #[true, true, true, true, true, true, true, true, true, true, true, true, true, true, true, true, true, true, true, true] _ _
 refine f_done (by kernel_rfl) ?_
 intro w40 H41
 refine g_seq ?_
 have H42 := Row.shut2 (p := pp5) (n := L7.length) (c := cc6) (size := 3) (xs := (bset L7 (s.acked + k) s.clock).flatMap bodCell) H41 (i := 5) rfl hp22 h23 h24 (show ((cur21.setIfInBounds (0 + (s.acked + k) * 3 + 1) (.bool true)).setIfInBounds (0 + (s.acked + k) * 3 + 2) (.int .i64 (s.clock : Int))).size = cc6 * 3 from by rw [Array.size_setIfInBounds]; exact (show (cur21.setIfInBounds (0 + (s.acked + k) * 3 + 1) (.bool true)).size = cc6 * 3 from by rw [Array.size_setIfInBounds]; exact h25)) (by have hh : (((cur21.setIfInBounds (0 + (s.acked + k) * 3 + 1) (.bool true)).setIfInBounds (0 + (s.acked + k) * 3 + 2) (.int .i64 (s.clock : Int))).toList.drop 0).take (((L7.set (s.acked + k) (⟨⟨(L7.getD (s.acked + k) default).v.b, true, (L7.getD (s.acked + k) default).v.tm⟩, (L7.getD (s.acked + k) default).p, (L7.getD (s.acked + k) default).c⟩ : BodD)).set (s.acked + k) (⟨⟨((L7.set (s.acked + k) (⟨⟨(L7.getD (s.acked + k) default).v.b, true, (L7.getD (s.acked + k) default).v.tm⟩, (L7.getD (s.acked + k) default).p, (L7.getD (s.acked + k) default).c⟩ : BodD)).getD (s.acked + k) default).v.b, ((L7.set (s.acked + k) (⟨⟨(L7.getD (s.acked + k) default).v.b, true, (L7.getD (s.acked + k) default).v.tm⟩, (L7.getD (s.acked + k) default).p, (L7.getD (s.acked + k) default).c⟩ : BodD)).getD (s.acked + k) default).v.sent, s.clock⟩, ((L7.set (s.acked + k) (⟨⟨(L7.getD (s.acked + k) default).v.b, true, (L7.getD (s.acked + k) default).v.tm⟩, (L7.getD (s.acked + k) default).p, (L7.getD (s.acked + k) default).c⟩ : BodD)).getD (s.acked + k) default).p, ((L7.set (s.acked + k) (⟨⟨(L7.getD (s.acked + k) default).v.b, true, (L7.getD (s.acked + k) default).v.tm⟩, (L7.getD (s.acked + k) default).p, (L7.getD (s.acked + k) default).c⟩ : BodD)).getD (s.acked + k) default).c⟩ : BodD)).length * 3) = ((L7.set (s.acked + k) (⟨⟨(L7.getD (s.acked + k) default).v.b, true, (L7.getD (s.acked + k) default).v.tm⟩, (L7.getD (s.acked + k) default).p, (L7.getD (s.acked + k) default).c⟩ : BodD)).set (s.acked + k) (⟨⟨((L7.set (s.acked + k) (⟨⟨(L7.getD (s.acked + k) default).v.b, true, (L7.getD (s.acked + k) default).v.tm⟩, (L7.getD (s.acked + k) default).p, (L7.getD (s.acked + k) default).c⟩ : BodD)).getD (s.acked + k) default).v.b, ((L7.set (s.acked + k) (⟨⟨(L7.getD (s.acked + k) default).v.b, true, (L7.getD (s.acked + k) default).v.tm⟩, (L7.getD (s.acked + k) default).p, (L7.getD (s.acked + k) default).c⟩ : BodD)).getD (s.acked + k) default).v.sent, s.clock⟩, ((L7.set (s.acked + k) (⟨⟨(L7.getD (s.acked + k) default).v.b, true, (L7.getD (s.acked + k) default).v.tm⟩, (L7.getD (s.acked + k) default).p, (L7.getD (s.acked + k) default).c⟩ : BodD)).getD (s.acked + k) default).p, ((L7.set (s.acked + k) (⟨⟨(L7.getD (s.acked + k) default).v.b, true, (L7.getD (s.acked + k) default).v.tm⟩, (L7.getD (s.acked + k) default).p, (L7.getD (s.acked + k) default).c⟩ : BodD)).getD (s.acked + k) default).c⟩ : BodD)).flatMap bodCell := hx39; have hk : ((L7.set (s.acked + k) (⟨⟨(L7.getD (s.acked + k) default).v.b, true, (L7.getD (s.acked + k) default).v.tm⟩, (L7.getD (s.acked + k) default).p, (L7.getD (s.acked + k) default).c⟩ : BodD)).set (s.acked + k) (⟨⟨((L7.set (s.acked + k) (⟨⟨(L7.getD (s.acked + k) default).v.b, true, (L7.getD (s.acked + k) default).v.tm⟩, (L7.getD (s.acked + k) default).p, (L7.getD (s.acked + k) default).c⟩ : BodD)).getD (s.acked + k) default).v.b, ((L7.set (s.acked + k) (⟨⟨(L7.getD (s.acked + k) default).v.b, true, (L7.getD (s.acked + k) default).v.tm⟩, (L7.getD (s.acked + k) default).p, (L7.getD (s.acked + k) default).c⟩ : BodD)).getD (s.acked + k) default).v.sent, s.clock⟩, ((L7.set (s.acked + k) (⟨⟨(L7.getD (s.acked + k) default).v.b, true, (L7.getD (s.acked + k) default).v.tm⟩, (L7.getD (s.acked + k) default).p, (L7.getD (s.acked + k) default).c⟩ : BodD)).getD (s.acked + k) default).p, ((L7.set (s.acked + k) (⟨⟨(L7.getD (s.acked + k) default).v.b, true, (L7.getD (s.acked + k) default).v.tm⟩, (L7.getD (s.acked + k) default).p, (L7.getD (s.acked + k) default).c⟩ : BodD)).getD (s.acked + k) default).c⟩ : BodD)).length = L7.length := (show (((L7.set (s.acked + k) (⟨⟨(L7.getD (s.acked + k) default).v.b, true, (L7.getD (s.acked + k) default).v.tm⟩, (L7.getD (s.acked + k) default).p, (L7.getD (s.acked + k) default).c⟩ : BodD)).set (s.acked + k) (⟨⟨((L7.set (s.acked + k) (⟨⟨(L7.getD (s.acked + k) default).v.b, true, (L7.getD (s.acked + k) default).v.tm⟩, (L7.getD (s.acked + k) default).p, (L7.getD (s.acked + k) default).c⟩ : BodD)).getD (s.acked + k) default).v.b, ((L7.set (s.acked + k) (⟨⟨(L7.getD (s.acked + k) default).v.b, true, (L7.getD (s.acked + k) default).v.tm⟩, (L7.getD (s.acked + k) default).p, (L7.getD (s.acked + k) default).c⟩ : BodD)).getD (s.acked + k) default).v.sent, s.clock⟩, ((L7.set (s.acked + k) (⟨⟨(L7.getD (s.acked + k) default).v.b, true, (L7.getD (s.acked + k) default).v.tm⟩, (L7.getD (s.acked + k) default).p, (L7.getD (s.acked + k) default).c⟩ : BodD)).getD (s.acked + k) default).p, ((L7.set (s.acked + k) (⟨⟨(L7.getD (s.acked + k) default).v.b, true, (L7.getD (s.acked + k) default).v.tm⟩, (L7.getD (s.acked + k) default).p, (L7.getD (s.acked + k) default).c⟩ : BodD)).getD (s.acked + k) default).c⟩ : BodD))).length = L7.length from by first | (rw [List.length_set]; exact (show ((L7.set (s.acked + k) (⟨⟨(L7.getD (s.acked + k) default).v.b, true, (L7.getD (s.acked + k) default).v.tm⟩, (L7.getD (s.acked + k) default).p, (L7.getD (s.acked + k) default).c⟩ : BodD))).length = L7.length from by first | (rw [List.length_set]; exact (rfl : L7.length = L7.length)) | rw [List.length_set])) | rw [List.length_set]); rw [hk] at hh; rw [(show ((L7.set (s.acked + k) (⟨⟨(L7.getD (s.acked + k) default).v.b, true, (L7.getD (s.acked + k) default).v.tm⟩, (L7.getD (s.acked + k) default).p, (L7.getD (s.acked + k) default).c⟩ : BodD)).set (s.acked + k) (⟨⟨((L7.set (s.acked + k) (⟨⟨(L7.getD (s.acked + k) default).v.b, true, (L7.getD (s.acked + k) default).v.tm⟩, (L7.getD (s.acked + k) default).p, (L7.getD (s.acked + k) default).c⟩ : BodD)).getD (s.acked + k) default).v.b, ((L7.set (s.acked + k) (⟨⟨(L7.getD (s.acked + k) default).v.b, true, (L7.getD (s.acked + k) default).v.tm⟩, (L7.getD (s.acked + k) default).p, (L7.getD (s.acked + k) default).c⟩ : BodD)).getD (s.acked + k) default).v.sent, s.clock⟩, ((L7.set (s.acked + k) (⟨⟨(L7.getD (s.acked + k) default).v.b, true, (L7.getD (s.acked + k) default).v.tm⟩, (L7.getD (s.acked + k) default).p, (L7.getD (s.acked + k) default).c⟩ : BodD)).getD (s.acked + k) default).p, ((L7.set (s.acked + k) (⟨⟨(L7.getD (s.acked + k) default).v.b, true, (L7.getD (s.acked + k) default).v.tm⟩, (L7.getD (s.acked + k) default).p, (L7.getD (s.acked + k) default).c⟩ : BodD)).getD (s.acked + k) default).c⟩ : BodD)) = (bset L7 (s.acked + k) s.clock) from by unfold bset; rw [List.set_set, getD_set_self (by omega)]; rfl)] at hh; exact hh) (fun x_ hx_ => by obtain ⟨a_, _, ha_⟩ := List.mem_flatMap.1 hx_; exact one_bod a_ x_ ha_)
 have H43 := byA_sub H42 (i := 1) rfl (bset_by (k := s.acked + k) (t := s.clock) (by omega))
 have H44 : St W w40 (byA ((bset L7 (s.acked + k) s.clock).map BodD.by) :: blk g (rfC s (.slice pp5 ((bset L7 (s.acked + k) s.clock).length) cc6) (.slice pp8 E10.length cc9)) :: byA (L7.map BodD.by) :: Row 105 2 (.slice pp8 E10.length cc9) E10.length (E10.flatMap hlCell) :: byA (mby E10) :: blk bk1 (.cells #[.int .i64 0, .int .i64 0, .int .i64 0, .int .i64 0, .int .i64 0, .slice none 0 0] 41 (0, 0)) :: Row 101 3 (.slice pp5 ((bset L7 (s.acked + k) s.clock).length) cc6) ((bset L7 (s.acked + k) s.clock).length) ((bset L7 (s.acked + k) s.clock).flatMap bodCell) :: (F.set i emp)) := by rw [bset_len]; exact H43
 have H45 : St W w40 (blk g (rfC s (.slice pp5 ((bset L7 (s.acked + k) s.clock).length) cc6) (.slice pp8 E10.length cc9)) :: Row 101 3 (.slice pp5 ((bset L7 (s.acked + k) s.clock).length) cc6) ((bset L7 (s.acked + k) s.clock).length) ((bset L7 (s.acked + k) s.clock).flatMap bodCell) :: byA ((bset L7 (s.acked + k) s.clock).map BodD.by) :: Row 105 2 (.slice pp8 E10.length cc9) E10.length (E10.flatMap hlCell) :: byA (mby E10) :: byA (L7.map BodD.by) :: blk bk1 (.cells #[.int .i64 0, .int .i64 0, .int .i64 0, .int .i64 0, .int .i64 0, .slice none 0 0] 41 (0, 0)) :: (F.set i emp)) := (((((H44.move 4 rfl).move 4 rfl).move 2 rfl).move 6 rfl).move 4 rfl)
 have H46 : St W w40 (RfA g (dtR s k) :: byA (L7.map BodD.by) :: blk bk1 (.cells #[.int .i64 0, .int .i64 0, .int .i64 0, .int .i64 0, .int .i64 0, .slice none 0 0] 41 (0, 0)) :: (F.set i emp)) := St.shut_ex ⟨⟨pp5, cc6, (bset L7 (s.acked + k) s.clock), pp8, cc9, E10, A11⟩, (refSet hL12 hA13 k s.clock), hA13, hH14⟩ (St.shut_star (ls := [_, _, _, _, _]) H45)
 have H47 := H46.move 0 rfl
 obtain ⟨⟨⟨pp48, cc49, L50, pp51, cc52, E53, A54⟩, hL55, hA56, hH57⟩, H58⟩ := St.open_ex H47
 have H59 := St.open_star H58
 change L50.map BodD.v = A54 ++ (dtR s k).l at hL55; change A54.length = (dtR s k).acked at hA56; change HR (dtR s k).held (mapB E53) at hH57
 have hl60 := refLen hL55 hA56; have hh61 : E53.length = (dtR s k).held.length := by have h9 := hH57.len; rw [mapB_len rfl] at h9; exact h9
 have H62 : St W w40 (blk g (rfC (dtR s k) (.slice pp48 L50.length cc49) (.slice pp51 E53.length cc52)) :: Row 101 3 (.slice pp48 L50.length cc49) L50.length (L50.flatMap bodCell) :: byA (L50.map BodD.by) :: Row 105 2 (.slice pp51 E53.length cc52) E53.length (E53.flatMap hlCell) :: byA (mby E53) :: byA (L7.map BodD.by) :: blk bk1 (.cells #[.int .i64 0, .int .i64 0, .int .i64 0, .int .i64 0, .int .i64 0, .slice none 0 0] 41 (0, 0)) :: (F.set i emp)) := H59
 have hk3 : s.acked + k < L50.length := by rw [hl60]; show s.acked + k < s.acked + (s.l.set k _).length; rw [List.length_set]; omega
 obtain ⟨bk63, cur64, hp65, h66, h67, h68, h69, h70, H71⟩ := Row.open2 H62 (i := 1) rfl (by omega)
 have hd9 : (dtR s k).acked = s.acked := rfl
 have hb3 : (L50.getD (s.acked + k) default).v.b = (s.l.getD k default).b := by rw [refAt (a := s.acked) hL55 hA56 k]; show ((s.l.set k _).getD k default).b = _; rw [getD_set_self hk]; rfl
 have H72 : St W w40 (Im 1 (.slice ((L50.getD (s.acked + k) default).p) ((L50.getD (s.acked + k) default).v.b.length) ((L50.getD (s.acked + k) default).c)) (((L50.getD (s.acked + k) default).v.b).length) (((L50.getD (s.acked + k) default).v.b).flatMap u8c) :: blk g (rfC (dtR s k) (.slice pp48 L50.length cc49) (.slice pp51 E53.length cc52)) :: blk bk63 (.cells cur64 101 (0, 0)) :: byA (L50.map BodD.by) :: Row 105 2 (.slice pp51 E53.length cc52) E53.length (E53.flatMap hlCell) :: byA (mby E53) :: byA (L7.map BodD.by) :: blk bk1 (.cells #[.int .i64 0, .int .i64 0, .int .i64 0, .int .i64 0, .int .i64 0, .slice none 0 0] 41 (0, 0)) :: (F.set i emp)) := byA_at H71 (i := 2) rfl (by_at (k := s.acked + k) hk3)
 refine g_mix (fun t_ w => St W w (Im 1 (.slice ((L50.getD (s.acked + k) default).p) ((L50.getD (s.acked + k) default).v.b.length) ((L50.getD (s.acked + k) default).c)) (((L50.getD (s.acked + k) default).v.b).length) (((L50.getD (s.acked + k) default).v.b).flatMap u8c) :: blk g (rfC (dtR s k) (.slice pp48 L50.length cc49) (.slice pp51 E53.length cc52)) :: blk bk63 (.cells cur64 101 (0, 0)) :: byA (L50.map BodD.by) :: Row 105 2 (.slice pp51 E53.length cc52) E53.length (E53.flatMap hlCell) :: byA (mby E53) :: byA (L7.map BodD.by) :: t_)) (blk bk1 (.cells #[.int .i64 0, .int .i64 0, .int .i64 0, .int .i64 0, .int .i64 0, .slice none 0 0] 41 (0, 0)) :: (F.set i emp)) mixed 25 rfl H72.drew ?_
 refine f_first 0 (listed' := #[true, false, false, false, false, false, false, false, false, false, false, false, false, false, false, false, false, false, false, false, false, false, false, false, false]) rfl (by kernel_rfl) (by kernel_rfl) (by kernel_rfl) rfl ?_
 refine f_val rfl rfl rfl (by intro _ w _; exact x_move (.pointer (some ⟨g, 0, none⟩)) rfl w) ?_
 refine f_first 1 (listed' := #[true, true, false, false, false, false, false, false, false, false, false, false, false, false, false, false, false, false, false, false, false, false, false, false, false]) rfl (by kernel_rfl) (by kernel_rfl) (by kernel_rfl) rfl ?_
 refine f_val rfl rfl rfl (by intro t_ w hw; exact x_nilCheck (.pointer (some ⟨g, 0, none⟩)) rfl ⟨_, rfl⟩ w) ?_
 refine f_first 2 (listed' := #[true, true, true, false, false, false, false, false, false, false, false, false, false, false, false, false, false, false, false, false, false, false, false, false, false]) rfl (by kernel_rfl) (by kernel_rfl) (by kernel_rfl) rfl ?_
 refine f_val rfl rfl rfl (by intro t_ w hw; exact x_fieldAddr 86 0 0 0 46 rfl fi_86_0 rfl w) ?_
 refine f_first 3 (listed' := #[true, true, true, true, false, false, false, false, false, false, false, false, false, false, false, false, false, false, false, false, false, false, false, false, false]) rfl (by kernel_rfl) (by kernel_rfl) (by kernel_rfl) rfl ?_
 refine f_val rfl rfl rfl (by intro t_ w hw; exact x_fieldAddr 46 0 0 0 3 rfl fi_46_0 rfl w) ?_
 refine f_first 4 (listed' := #[true, true, true, true, true, false, false, false, false, false, false, false, false, false, false, false, false, false, false, false, false, false, false, false, false]) rfl (by kernel_rfl) (by kernel_rfl) (by kernel_rfl) rfl ?_
 refine f_val rfl rfl rfl (by intro t_ w hw; exact x_load (.int .i64 ((dtR s k).frm.v)) ag_3 rfl (hw.blk_at (i := 1) rfl) rfl) ?_
 refine f_first 5 (listed' := #[true, true, true, true, true, true, false, false, false, false, false, false, false, false, false, false, false, false, false, false, false, false, false, false, false]) rfl (by kernel_rfl) (by kernel_rfl) (by kernel_rfl) rfl ?_
 refine f_val rfl rfl rfl (by intro _ w _; exact x_move (.pointer (some ⟨g, 0, none⟩)) rfl w) ?_
 refine f_first 6 (listed' := #[true, true, true, true, true, true, true, false, false, false, false, false, false, false, false, false, false, false, false, false, false, false, false, false, false]) rfl (by kernel_rfl) (by kernel_rfl) (by kernel_rfl) rfl ?_
 refine f_val rfl rfl rfl (by intro t_ w hw; exact x_nilCheck (.pointer (some ⟨g, 0, none⟩)) rfl ⟨_, rfl⟩ w) ?_
 refine f_first 7 (listed' := #[true, true, true, true, true, true, true, true, false, false, false, false, false, false, false, false, false, false, false, false, false, false, false, false, false]) rfl (by kernel_rfl) (by kernel_rfl) (by kernel_rfl) rfl ?_
 refine f_val rfl rfl rfl (by intro t_ w hw; exact x_fieldAddr 86 0 0 0 46 rfl fi_86_0 rfl w) ?_
 refine f_first 8 (listed' := #[true, true, true, true, true, true, true, true, true, false, false, false, false, false, false, false, false, false, false, false, false, false, false, false, false]) rfl (by kernel_rfl) (by kernel_rfl) (by kernel_rfl) rfl ?_
 refine f_val rfl rfl rfl (by intro t_ w hw; exact x_fieldAddr 46 1 1 1 3 rfl fi_46_1 rfl w) ?_
 refine f_first 9 (listed' := #[true, true, true, true, true, true, true, true, true, true, false, false, false, false, false, false, false, false, false, false, false, false, false, false, false]) rfl (by kernel_rfl) (by kernel_rfl) (by kernel_rfl) rfl ?_
 refine f_val rfl rfl rfl (by intro t_ w hw; exact x_load (.int .i64 ((dtR s k).to_.v)) ag_3 rfl (hw.blk_at (i := 1) rfl) rfl) ?_
 refine f_first 10 (listed' := #[true, true, true, true, true, true, true, true, true, true, true, false, false, false, false, false, false, false, false, false, false, false, false, false, false]) rfl (by kernel_rfl) (by kernel_rfl) (by kernel_rfl) rfl ?_
 refine f_val rfl rfl rfl (by intro _ w _; exact x_move (.int .i64 ((s.acked + k : Nat) : Int)) rfl w) ?_
 refine f_first 11 (listed' := #[true, true, true, true, true, true, true, true, true, true, true, true, false, false, false, false, false, false, false, false, false, false, false, false, false]) rfl (by kernel_rfl) (by kernel_rfl) (by kernel_rfl) rfl ?_
 refine f_val rfl rfl rfl (by intro _ w _; exact x_move (.pointer (some ⟨g, 0, none⟩)) rfl w) ?_
 refine f_first 12 (listed' := #[true, true, true, true, true, true, true, true, true, true, true, true, true, false, false, false, false, false, false, false, false, false, false, false, false]) rfl (by kernel_rfl) (by kernel_rfl) (by kernel_rfl) rfl ?_
 refine f_val rfl rfl rfl (by intro t_ w hw; exact x_nilCheck (.pointer (some ⟨g, 0, none⟩)) rfl ⟨_, rfl⟩ w) ?_
 refine f_first 13 (listed' := #[true, true, true, true, true, true, true, true, true, true, true, true, true, true, false, false, false, false, false, false, false, false, false, false, false]) rfl (by kernel_rfl) (by kernel_rfl) (by kernel_rfl) rfl ?_
 refine f_val rfl rfl rfl (by intro t_ w hw; exact x_fieldAddr 86 4 5 5 2 rfl fi_86_4 rfl w) ?_
 refine f_first 14 (listed' := #[true, true, true, true, true, true, true, true, true, true, true, true, true, true, true, false, false, false, false, false, false, false, false, false, false]) rfl (by kernel_rfl) (by kernel_rfl) (by kernel_rfl) rfl ?_
 refine f_val rfl rfl rfl (by intro t_ w hw; exact x_load (.int .i64 ((i64N (dtR s k).came).v)) ag_2 rfl (hw.blk_at (i := 1) rfl) rfl) ?_
 refine f_first 15 (listed' := #[true, true, true, true, true, true, true, true, true, true, true, true, true, true, true, true, false, false, false, false, false, false, false, false, false]) rfl (by kernel_rfl) (by kernel_rfl) (by kernel_rfl) rfl ?_
 refine f_val rfl rfl rfl (by intro _ w _; exact x_move (.pointer (some ⟨g, 0, none⟩)) rfl w) ?_
 refine f_first 16 (listed' := #[true, true, true, true, true, true, true, true, true, true, true, true, true, true, true, true, true, false, false, false, false, false, false, false, false]) rfl (by kernel_rfl) (by kernel_rfl) (by kernel_rfl) rfl ?_
 refine f_val rfl rfl rfl (by intro t_ w hw; exact x_nilCheck (.pointer (some ⟨g, 0, none⟩)) rfl ⟨_, rfl⟩ w) ?_
 refine f_first 17 (listed' := #[true, true, true, true, true, true, true, true, true, true, true, true, true, true, true, true, true, true, false, false, false, false, false, false, false]) rfl (by kernel_rfl) (by kernel_rfl) (by kernel_rfl) rfl ?_
 refine f_val rfl rfl rfl (by intro t_ w hw; exact x_fieldAddr 86 2 3 3 83 rfl fi_86_2 rfl w) ?_
 refine f_first 18 (listed' := #[true, true, true, true, true, true, true, true, true, true, true, true, true, true, true, true, true, true, true, false, false, false, false, false, false]) rfl (by kernel_rfl) (by kernel_rfl) (by kernel_rfl) rfl ?_
 refine f_val rfl rfl rfl (by intro t_ w hw; exact x_load (.slice pp48 L50.length cc49) ag_83 rfl (hw.blk_at (i := 1) rfl) rfl) ?_
 refine f_first 19 (listed' := #[true, true, true, true, true, true, true, true, true, true, true, true, true, true, true, true, true, true, true, true, false, false, false, false, false]) rfl (by kernel_rfl) (by kernel_rfl) (by kernel_rfl) rfl ?_
 refine f_val rfl rfl rfl (by intro _ w _; exact x_move (.int .i64 ((s.acked + k : Nat) : Int)) rfl w) ?_
 refine f_first 20 (listed' := #[true, true, true, true, true, true, true, true, true, true, true, true, true, true, true, true, true, true, true, true, true, false, false, false, false]) rfl (by kernel_rfl) (by kernel_rfl) (by kernel_rfl) rfl ?_
 refine f_val rfl rfl rfl (by intro t_ w hw; exact x_indexAddr bk63 (off := 0) ((s.acked + k : Nat) : Int) 3 (0 + (s.acked + k) * 3) (by exact congrArg (fun z_ => Value.slice z_ L50.length cc49) ((fun (_ : 0 < 1) => hp65) (by omega))) rfl el_83 (by omega) rfl w) ?_
 refine f_first 21 (listed' := #[true, true, true, true, true, true, true, true, true, true, true, true, true, true, true, true, true, true, true, true, true, true, false, false, false]) rfl (by kernel_rfl) (by kernel_rfl) (by kernel_rfl) rfl ?_
 refine f_val rfl rfl rfl (by intro t_ w hw; exact x_fieldAddr 101 0 0 (0 + (s.acked + k) * 3) 26 rfl fi_101_0 rfl w) ?_
 refine f_first 22 (listed' := #[true, true, true, true, true, true, true, true, true, true, true, true, true, true, true, true, true, true, true, true, true, true, true, false, false]) rfl (by kernel_rfl) (by kernel_rfl) (by kernel_rfl) rfl ?_
 refine f_val rfl rfl rfl (by intro t_ w hw; exact x_load (.slice ((L50.getD (s.acked + k) default).p) ((L50.getD (s.acked + k) default).v.b.length) ((L50.getD (s.acked + k) default).c)) ag_26 rfl (hw.blk_at (i := 2) rfl) (elem_cell (L := L50) (i := s.acked + k) bodCell_len (by rw [(rfl : L50.length = L50.length)]; exact h69) (by have hh : L50.length = L50.length := (rfl : L50.length = L50.length); omega) default 0 (by decide) _ rfl)) ?_
 refine f_first 23 (listed' := #[true, true, true, true, true, true, true, true, true, true, true, true, true, true, true, true, true, true, true, true, true, true, true, true, false]) rfl (by kernel_rfl) (by kernel_rfl) (by kernel_rfl) rfl ?_
 refine f_val rfl rfl rfl (by intro t_ w hw; exact x_build (cs := #[.int .i64 ((dtR s k).frm.v), .int .i64 ((dtR s k).to_.v), .int .i64 1, .int .i64 ((s.acked + k : Nat) : Int), .int .i64 ((i64N (dtR s k).came).v), .slice ((L50.getD (s.acked + k) default).p) ((L50.getD (s.acked + k) default).v.b.length) ((L50.getD (s.acked + k) default).c)]) (by kernel_rfl) w) ?_
 refine f_all (rs := [24]) (by kernel_rfl) (by simp) ?_
 refine a_cons ⟨_, rfl, ?_⟩ (fun x hx => absurd hx (by simp))
 intro w73 H74
 try dsimp only at H74
 refine s_storeAgg H74 7 #[.int .i64 ((dtR s k).frm.v), .int .i64 ((dtR s k).to_.v), .int .i64 1, .int .i64 ((s.acked + k : Nat) : Int), .int .i64 ((i64N (dtR s k).came).v), .slice ((L50.getD (s.acked + k) default).p) ((L50.getD (s.acked + k) default).v.b.length) ((L50.getD (s.acked + k) default).c)] 6 rfl rfl rfl sz_41 rfl (by simp [Value.oneCell']) (nbl rfl) (fun o h1 h2 => by first | (simp; done) | (simp; omega)) (cs' := #[.int .i64 ((dtR s k).frm.v), .int .i64 ((dtR s k).to_.v), .int .i64 1, .int .i64 ((s.acked + k : Nat) : Int), .int .i64 ((i64N (dtR s k).came).v), .slice ((L50.getD (s.acked + k) default).p) ((L50.getD (s.acked + k) default).v.b.length) ((L50.getD (s.acked + k) default).c)]) rfl ?_; intro w75 H76
 refine ⟨blk bk1 (.cells #[.int .i64 ((dtR s k).frm.v), .int .i64 ((dtR s k).to_.v), .int .i64 1, .int .i64 ((s.acked + k : Nat) : Int), .int .i64 ((i64N (dtR s k).came).v), .slice ((L50.getD (s.acked + k) default).p) ((L50.getD (s.acked + k) default).v.b.length) ((L50.getD (s.acked + k) default).c)] 41 (0, 0)) :: (F.set i emp), ?_, H76⟩
 change FReg _ _ _ _ _ #[true, true, true, true, true, true, true, true, true, true, true, true, true, true, true, true, true, true, true, true, true, true, true, true, true] _ _
 refine f_done (by kernel_rfl) ?_
 intro w77 H78
 refine g_ret' [.agg #[.int .i64 ((dtR s k).frm.v), .int .i64 ((dtR s k).to_.v), .int .i64 1, .int .i64 ((s.acked + k : Nat) : Int), .int .i64 ((i64N (dtR s k).came).v), .slice ((L50.getD (s.acked + k) default).p) ((L50.getD (s.acked + k) default).v.b.length) ((L50.getD (s.acked + k) default).c)]] Try.func56 Try.results56 ⟨(res_cellN rfl ag_41 (H78.blk_at (i := 7) rfl) (nbl rfl) rfl), trivial⟩ ?_
 have H79 : St W w77 (Im 1 (.slice ((L50.getD (s.acked + k) default).p) ((dgOf s k (s.l.getD k default).b).body.length) ((L50.getD (s.acked + k) default).c)) (((dgOf s k (s.l.getD k default).b).body).length) (((dgOf s k (s.l.getD k default).b).body).flatMap u8c) :: blk g (rfC (dtR s k) (.slice pp48 L50.length cc49) (.slice pp51 E53.length cc52)) :: blk bk63 (.cells cur64 101 (0, 0)) :: byA (L50.map BodD.by) :: Row 105 2 (.slice pp51 E53.length cc52) E53.length (E53.flatMap hlCell) :: byA (mby E53) :: byA (L7.map BodD.by) :: blk bk1 (.cells #[.int .i64 ((dtR s k).frm.v), .int .i64 ((dtR s k).to_.v), .int .i64 1, .int .i64 ((s.acked + k : Nat) : Int), .int .i64 ((i64N (dtR s k).came).v), .slice ((L50.getD (s.acked + k) default).p) ((L50.getD (s.acked + k) default).v.b.length) ((L50.getD (s.acked + k) default).c)] 41 (0, 0)) :: (F.set i emp)) := by rw [show (dgOf s k (s.l.getD k default).b).body = (L50.getD (s.acked + k) default).v.b from hb3.symm]; exact H78
 have H80 := Row.shut2 (p := pp48) (n := L50.length) (c := cc49) (size := 3) (xs := L50.flatMap bodCell) H79 (i := 2) rfl hp65 h66 h67 h68 (by have hh : (cur64.toList.drop 0).take (L50.length * 3) = L50.flatMap bodCell := (by rw [(rfl : L50.length = L50.length)]; exact h69); have hk : L50.length = L50.length := (rfl : L50.length = L50.length); rw [hk] at hh; exact hh) (fun x_ hx_ => by obtain ⟨a_, _, ha_⟩ := List.mem_flatMap.1 hx_; exact one_bod a_ x_ ha_)
 have H81 : St W w77 (blk g (rfC (dtR s k) (.slice pp48 L50.length cc49) (.slice pp51 E53.length cc52)) :: Row 101 3 (.slice pp48 L50.length cc49) L50.length (L50.flatMap bodCell) :: byA (L50.map BodD.by) :: Row 105 2 (.slice pp51 E53.length cc52) E53.length (E53.flatMap hlCell) :: byA (mby E53) :: Im 1 (.slice ((L50.getD (s.acked + k) default).p) ((dgOf s k (s.l.getD k default).b).body.length) ((L50.getD (s.acked + k) default).c)) (((dgOf s k (s.l.getD k default).b).body).length) (((dgOf s k (s.l.getD k default).b).body).flatMap u8c) :: byA (L7.map BodD.by) :: blk bk1 (.cells #[.int .i64 ((dtR s k).frm.v), .int .i64 ((dtR s k).to_.v), .int .i64 1, .int .i64 ((s.acked + k : Nat) : Int), .int .i64 ((i64N (dtR s k).came).v), .slice ((L50.getD (s.acked + k) default).p) ((L50.getD (s.acked + k) default).v.b.length) ((L50.getD (s.acked + k) default).c)] 41 (0, 0)) :: (F.set i emp)) := (((((H80.move 5 rfl).move 5 rfl).move 5 rfl).move 5 rfl).move 5 rfl)
 have H82 : St W w77 (RfA g (dtR s k) :: Im 1 (.slice ((L50.getD (s.acked + k) default).p) ((dgOf s k (s.l.getD k default).b).body.length) ((L50.getD (s.acked + k) default).c)) (((dgOf s k (s.l.getD k default).b).body).length) (((dgOf s k (s.l.getD k default).b).body).flatMap u8c) :: byA (L7.map BodD.by) :: blk bk1 (.cells #[.int .i64 ((dtR s k).frm.v), .int .i64 ((dtR s k).to_.v), .int .i64 1, .int .i64 ((s.acked + k : Nat) : Int), .int .i64 ((i64N (dtR s k).came).v), .slice ((L50.getD (s.acked + k) default).p) ((L50.getD (s.acked + k) default).v.b.length) ((L50.getD (s.acked + k) default).c)] 41 (0, 0)) :: (F.set i emp)) := St.shut_ex ⟨⟨pp48, cc49, L50, pp51, cc52, E53, A54⟩, hL55, hA56, hH57⟩ (St.shut_star (ls := [_, _, _, _, _]) H81)
 have H83 : St W w77 (Im 1 (.slice ((L50.getD (s.acked + k) default).p) ((dgOf s k (s.l.getD k default).b).body.length) ((L50.getD (s.acked + k) default).c)) (((dgOf s k (s.l.getD k default).b).body).length) (((dgOf s k (s.l.getD k default).b).body).flatMap u8c) :: RfA g (dtR s k) :: (F.set i emp)) := (((H82.move 1 rfl).drop 2 rfl).drop 2 rfl)
 have H84 : St W w77 (RfA g (dtR s k) :: (Im 1 (.slice ((L50.getD (s.acked + k) default).p) ((dgOf s k (s.l.getD k default).b).body.length) ((L50.getD (s.acked + k) default).c)) (((dgOf s k (s.l.getD k default).b).body).length) (((dgOf s k (s.l.getD k default).b).body).flatMap u8c) :: F).set (i + 1) emp) := (H83.move 1 rfl)
 have hq3 := i64N_v (n := s.acked + k) (by omega)
 exact ⟨(L50.getD (s.acked + k) default).p, (L50.getD (s.acked + k) default).c, by show Value.agg #[.int .i64 s.frm.v, .int .i64 s.to_.v, .int .i64 1, .int .i64 ((s.acked + k : Nat) : Int), .int .i64 (i64N s.came).v, .slice (L50.getD (s.acked + k) default).p (L50.getD (s.acked + k) default).v.b.length (L50.getD (s.acked + k) default).c] = .agg #[.int .i64 s.frm.v, .int .i64 s.to_.v, .int .i64 1, .int .i64 (i64N (s.acked + k)).v, .int .i64 (i64N s.came).v, .slice (L50.getD (s.acked + k) default).p (s.l.getD k default).b.length (L50.getD (s.acked + k) default).c]; rw [hq3, hb3], St.back (i := i + 1) (by exact hi) H84⟩
set_option maxHeartbeats 4000000 in
set_option maxRecDepth 100000 in
theorem Rf_Out {W w : World} {F : List Atom} (g : Nat) (s : EndV) (hv : LInv s)  {i : Nat} (hi : F[i]? = some (RfA g s)) (H : St W w F) : Calls Try.prog 39 #[.pointer (some ⟨g, 0, none⟩)] w (Ret fun v w' => ∃ p c, v = .slice p ((outT s).length) c ∧ St W w' (DgsA p c (outT s) :: F.set i (RfA g (outS s)))) := by
 have H0 := H.front hi
 obtain ⟨o1, o2, o3, o4, o5, o6, o8⟩ := id hv.ok; have o7 := i64N_0 (Nat.le_trans o4 (by decide))
 refine calls_of_go (n := 64) Try.func39 rfl Try.ntmps39 rfl ?_
 refine g_seq ?_
 refine g_region ?_
 refine r_cons (s_assign (.slice none 0 0) rfl rfl ?_)
 refine r_nil ?_
 refine g_seq ?_
 refine g_region ?_
 refine r_cons (s_assign (.slice none 0 0) rfl rfl ?_)
 refine r_nil ?_
 refine g_seq ?_
 refine g_seq ?_
 refine g_region ?_
 refine r_cons (s_move (.pointer (some ⟨g, 0, none⟩)) rfl rfl ?_)
 refine r_cons (s_nilCheck (.pointer (some ⟨g, 0, none⟩)) rfl ⟨_, rfl⟩ rfl ?_)
 refine r_cons (s_fieldAddr 86 3 4 4 2 rfl fi_86_3 rfl rfl ?_)
 have H1 := H0.move 0 rfl
 obtain ⟨⟨⟨pp2, cc3, L4, pp5, cc6, E7, A8⟩, hL9, hA10, hH11⟩, H12⟩ := St.open_ex H1
 have H13 := St.open_star H12
 change L4.map BodD.v = A8 ++ s.l at hL9; change A8.length = s.acked at hA10; change HR s.held (mapB E7) at hH11
 have hl14 := refLen hL9 hA10; have hh15 : E7.length = s.held.length := by have h9 := hH11.len; rw [mapB_len rfl] at h9; exact h9
 have H16 : St W w (blk g (rfC s (.slice pp2 L4.length cc3) (.slice pp5 E7.length cc6)) :: Row 101 3 (.slice pp2 L4.length cc3) L4.length (L4.flatMap bodCell) :: byA (L4.map BodD.by) :: Row 105 2 (.slice pp5 E7.length cc6) E7.length (E7.flatMap hlCell) :: byA (mby E7) :: (F.set i emp)) := H13
 refine r_cons (s_load (.int .i64 (s.acked : Int)) ag_2 rfl (H16.blk_at (i := 0) rfl) rfl rfl ?_)
 refine r_cons (s_assign (.int .i64 (s.acked : Int)) rfl rfl ?_)
 refine r_nil ?_
 refine g_block ?_
 have H17 : St W w (RfA g s :: (F.set i emp)) := St.shut_ex ⟨⟨pp2, cc3, L4, pp5, cc6, E7, A8⟩, hL9, hA10, hH11⟩ (St.shut_star (ls := [_, _, _, _, _]) H16)
 have H18 := Row.nil_intro H17 41 6
 have H19 := byA_nil H18
 have H20 : St W w (Row 41 6 (.slice none 0 0) 0 [] :: byA (([] : List DgD).map DgD.by) :: RfA g s :: (F.set i emp)) := (((H19.move 2 rfl).move 1 rfl).move 2 rfl)
 have H21 : St W w (Row 41 6 (.slice none 0 0) 0 [] :: byA (([] : List DgD).map DgD.by) :: RfA g (thR ns s 0) :: (F.set i emp)) := H20
 refine g_loop_inv (fun (x_ : Nat × (List DgD) × (Option Addr) × Nat) => match x_ with | (k, D, p, c) => [(0, .pointer (some ⟨g, 0, none⟩)), (2, .slice none 0 0), (3, .slice p D.length c), (4, .int .i64 ((s.acked + k : Nat) : Int))]) (fun (x_ : Nat × (List DgD) × (Option Addr) × Nat) w => match x_ with | (k, D, p, c) => (k ≤ winN s) ∧ (D.map DgD.d = goT ns s k) ∧ St W w (Row 41 6 (.slice p D.length c) D.length (D.flatMap dgdCell) :: byA (D.map DgD.by) :: RfA g (thR ns s k) :: (F.set i emp))) (fun (x_ : Nat × (List DgD) × (Option Addr) × Nat) => match x_ with | (k, D, p, c) => winN s - k) (0, [], none, 0) ?_ ?_ ?_
 ·exact ⟨by first | rfl | exact vint (by omega), by first | rfl | exact vint (by omega), by first | rfl | exact vint (by omega), by first | rfl | exact vint (by omega), trivial⟩
 ·exact ⟨(by omega), rfl, H21⟩
 ·rintro ⟨k, D, p, c⟩ ρ22 w23 ⟨hkn, hD, H24⟩ nx25
  change Ends _ _ (upds ρ22 [(0, .pointer (some ⟨g, 0, none⟩)), (2, .slice none 0 0), (3, .slice p D.length c), (4, .int .i64 ((s.acked + k : Nat) : Int))]) w23
  have hDl := lenOf hD; have hDl2 := goT_len ns s k; have hw1 : winN s ≤ s.l.length := Nat.min_le_right _ _; have hw2 : winN s ≤ 64 := Nat.le_trans (Nat.min_le_left _ _) o6; have hak : (thR ns s k).acked = s.acked := rfl; have hwk := winN_R ns s k; have hlk : (thR ns s k).l.length = s.l.length := thR_len ns s k
  refine g_seq ?_
  refine g_seq ?_
  refine g_region ?_
  refine r_cons (s_move (.int .i64 ((s.acked + k : Nat) : Int)) rfl rfl ?_)
  refine r_cons (s_move (.pointer (some ⟨g, 0, none⟩)) rfl rfl ?_)
  refine r_cons (s_call [.pointer (some ⟨g, 0, none⟩)] pl_55 rfl rfl (Rf_may g (thR ns s k) (endOk_thR hv.ok k) (i := 2) rfl H24) ?_)
  rintro _ w26 ⟨rfl, H27⟩
  by_cases hc28 : ((s.acked + k : Nat) : Int) < (((thR ns s k).acked + winN (thR ns s k) : Nat) : Int)
  ·skip
   refine r_cons (s_lss true rfl rfl (dtrue hc28) rfl ?_)
   refine r_nil ?_
   refine g_true rfl ?_
   refine g_skip ?_
   refine g_seq ?_
   refine g_block ?_
   refine g_seq ?_
   refine g_region ?_
   have H29 := H27.move 2 rfl
   obtain ⟨⟨⟨pp30, cc31, L32, pp33, cc34, E35, A36⟩, hL37, hA38, hH39⟩, H40⟩ := St.open_ex H29
   have H41 := St.open_star H40
   change L32.map BodD.v = A36 ++ (thR ns s k).l at hL37; change A36.length = (thR ns s k).acked at hA38; change HR (thR ns s k).held (mapB E35) at hH39
   have hl42 := refLen hL37 hA38; have hh43 : E35.length = (thR ns s k).held.length := by have h9 := hH39.len; rw [mapB_len rfl] at h9; exact h9
   have H44 : St W w26 (blk g (rfC (thR ns s k) (.slice pp30 L32.length cc31) (.slice pp33 E35.length cc34)) :: Row 101 3 (.slice pp30 L32.length cc31) L32.length (L32.flatMap bodCell) :: byA (L32.map BodD.by) :: Row 105 2 (.slice pp33 E35.length cc34) E35.length (E35.flatMap hlCell) :: byA (mby E35) :: Row 41 6 (.slice p D.length c) D.length (D.flatMap dgdCell) :: byA (D.map DgD.by) :: (F.set i emp)) := H41
   have hk9 : s.acked + k < L32.length := by rw [hl42]; omega
   obtain ⟨bk45, cur46, hp47, h48, h49, h50, h51, h52, H53⟩ := Row.open2 H44 (i := 1) rfl (by omega)
   refine r_cons (s_move (.pointer (some ⟨g, 0, none⟩)) rfl rfl ?_)
   refine r_cons (s_nilCheck (.pointer (some ⟨g, 0, none⟩)) rfl ⟨_, rfl⟩ rfl ?_)
   refine r_cons (s_fieldAddr 86 2 3 3 83 rfl fi_86_2 rfl rfl ?_)
   refine r_cons (s_load (.slice pp30 L32.length cc31) ag_83 rfl (H53.blk_at (i := 0) rfl) rfl rfl ?_)
   refine r_cons (s_move (.int .i64 ((s.acked + k : Nat) : Int)) rfl rfl ?_)
   refine r_cons (s_indexAddr bk45 (off := 0) ((s.acked + k : Nat) : Int) 3 (0 + (s.acked + k) * 3) (by exact congrArg (fun z_ => Value.slice z_ L32.length cc31) ((fun (_ : 0 < 1) => hp47) (by omega))) rfl el_83 (by omega) rfl rfl ?_)
   refine r_cons (s_fieldAddr 101 1 1 (0 + (s.acked + k) * 3 + 1) 4 rfl fi_101_1 rfl rfl ?_)
   refine r_cons (s_load (.bool ((L32.getD (s.acked + k) default).v.sent)) ag_4 rfl (H53.blk_at (i := 1) rfl) (elem_cell (L := L32) (i := s.acked + k) bodCell_len (by rw [(rfl : L32.length = L32.length)]; exact h51) (by have hh : L32.length = L32.length := (rfl : L32.length = L32.length); omega) default 1 (by decide) _ rfl) rfl ?_)
   refine r_cons (s_not ((L32.getD (s.acked + k) default).v.sent) rfl (!((L32.getD (s.acked + k) default).v.sent)) rfl rfl ?_)
   refine r_nil ?_
   by_cases hb54 : (!((L32.getD (s.acked + k) default).v.sent)) = true
   ·skip
    refine g_true (congrArg Value.bool hb54) ?_
    refine g_region ?_
    refine r_cons (s_move (.slice p D.length c) rfl rfl ?_)
    refine r_cons (s_move (.pointer (some ⟨g, 0, none⟩)) rfl rfl ?_)
    refine r_cons (s_move (.int .i64 ((s.acked + k : Nat) : Int)) rfl rfl ?_)
    have H55 := Row.shut2 (p := pp30) (n := L32.length) (c := cc31) (size := 3) (xs := L32.flatMap bodCell) H53 (i := 1) rfl hp47 h48 h49 h50 (by have hh : (cur46.toList.drop 0).take (L32.length * 3) = L32.flatMap bodCell := (by rw [(rfl : L32.length = L32.length)]; exact h51); have hk : L32.length = L32.length := (rfl : L32.length = L32.length); rw [hk] at hh; exact hh) (fun x_ hx_ => by obtain ⟨a_, _, ha_⟩ := List.mem_flatMap.1 hx_; exact one_bod a_ x_ ha_)
    have H56 : St W w26 (RfA g (thR ns s k) :: Row 41 6 (.slice p D.length c) D.length (D.flatMap dgdCell) :: byA (D.map DgD.by) :: (F.set i emp)) := St.shut_ex ⟨⟨pp30, cc31, L32, pp33, cc34, E35, A36⟩, hL37, hA38, hH39⟩ (St.shut_star (ls := [_, _, _, _, _]) H55)
    refine r_cons (s_call [.pointer (some ⟨g, 0, none⟩), .int .i64 ((s.acked + k : Nat) : Int)] pl_56 rfl rfl (Rf_data g (thR ns s k) (endOk_thR hv.ok k) k (by omega) (i := 0) rfl H56) ?_)
    rintro _ w59 ⟨pp57, cc58, rfl, H60⟩
    refine r_cons (s_buildSlice H60 6 1 (cs := #[.int .i64 ((dgOf (thR ns s k) k ((thR ns s k).l.getD k default).b).frm.v), .int .i64 ((dgOf (thR ns s k) k ((thR ns s k).l.getD k default).b).to_.v), .int .i64 ((dgOf (thR ns s k) k ((thR ns s k).l.getD k default).b).kind.v), .int .i64 ((dgOf (thR ns s k) k ((thR ns s k).l.getD k default).b).seq.v), .int .i64 ((dgOf (thR ns s k) k ((thR ns s k).l.getD k default).b).ack.v), .slice pp57 ((dgOf (thR ns s k) k ((thR ns s k).l.getD k default).b).body.length) cc58]) #[.int .i64 0, .int .i64 0, .int .i64 0, .int .i64 0, .int .i64 0, .slice none 0 0] el_34 ze_41 (by decide) (by decide) (by kernel_rfl) rfl ?_); intro bk61 w62 H63
    refine r_cons (s_append H63 3 rfl rfl rfl (rd_blk (H63.blk_at (i := 0) rfl) rfl (nbl rfl) (by simp [Value.oneCell'])) ap_34 (by decide) (by unfold maxLen; omega) (by omega) (n' := D.length + 1) (xs' := D.flatMap dgdCell ++ ([.int .i64 ((dgOf (thR ns s k) k ((thR ns s k).l.getD k default).b).frm.v), .int .i64 ((dgOf (thR ns s k) k ((thR ns s k).l.getD k default).b).to_.v), .int .i64 ((dgOf (thR ns s k) k ((thR ns s k).l.getD k default).b).kind.v), .int .i64 ((dgOf (thR ns s k) k ((thR ns s k).l.getD k default).b).seq.v), .int .i64 ((dgOf (thR ns s k) k ((thR ns s k).l.getD k default).b).ack.v), .slice pp57 ((dgOf (thR ns s k) k ((thR ns s k).l.getD k default).b).body.length) cc58] : List Value)) (by omega) (by first | rfl | simp) rfl ?_); intro vv64 w65 H66 hn67
    obtain ⟨pp68, cc69, rfl⟩ := Row.slice H66 (i := 3) rfl
    refine r_cons (s_assign (.slice pp68 (D.length + 1) cc69) rfl rfl ?_)
    refine r_nil ?_
    refine g_inBlock ?_
    refine g_region ?_
    refine r_cons (s_move (.int .i64 ((s.acked + k : Nat) : Int)) rfl rfl ?_)
    refine r_cons (s_add (((s.acked + k : Nat) : Int) + 1) rfl rfl (wi64 (by omega)) rfl ?_)
    refine r_cons (s_assign (.int .i64 (((s.acked + k : Nat) : Int) + 1)) rfl rfl ?_)
    refine r_nil ?_
    have hq70 : ns (s.l.getD k default) = true := by rw [← thR_at ns s k, ← refAt (a := s.acked) hL37 hA38 k]; unfold ns; simpa using hb54
    have H71 : St W w65 (blk bk61 (.cells #[.int .i64 ((dgOf (thR ns s k) k ((thR ns s k).l.getD k default).b).frm.v), .int .i64 ((dgOf (thR ns s k) k ((thR ns s k).l.getD k default).b).to_.v), .int .i64 ((dgOf (thR ns s k) k ((thR ns s k).l.getD k default).b).kind.v), .int .i64 ((dgOf (thR ns s k) k ((thR ns s k).l.getD k default).b).seq.v), .int .i64 ((dgOf (thR ns s k) k ((thR ns s k).l.getD k default).b).ack.v), .slice pp57 ((dgOf (thR ns s k) k ((thR ns s k).l.getD k default).b).body.length) cc58] 41 (0, 0)) :: Im 1 (.slice pp57 ((dgOf (thR ns s k) k ((thR ns s k).l.getD k default).b).body.length) cc58) (((dgOf (thR ns s k) k ((thR ns s k).l.getD k default).b).body).length) (((dgOf (thR ns s k) k ((thR ns s k).l.getD k default).b).body).flatMap u8c) :: RfA g (thR ns s (k + 1)) :: Row 41 6 (.slice pp68 (D.length + 1) cc69) (D.length + 1) (D.flatMap dgdCell ++ ([.int .i64 ((dgOf (thR ns s k) k ((thR ns s k).l.getD k default).b).frm.v), .int .i64 ((dgOf (thR ns s k) k ((thR ns s k).l.getD k default).b).to_.v), .int .i64 ((dgOf (thR ns s k) k ((thR ns s k).l.getD k default).b).kind.v), .int .i64 ((dgOf (thR ns s k) k ((thR ns s k).l.getD k default).b).seq.v), .int .i64 ((dgOf (thR ns s k) k ((thR ns s k).l.getD k default).b).ack.v), .slice pp57 ((dgOf (thR ns s k) k ((thR ns s k).l.getD k default).b).body.length) cc58] : List Value)) :: byA (D.map DgD.by) :: (F.set i emp)) := by rw [← thR_yes hq70]; exact H66
    have H72 : St W w65 (blk bk61 (.cells #[.int .i64 ((dgOf (thR ns s k) k ((thR ns s k).l.getD k default).b).frm.v), .int .i64 ((dgOf (thR ns s k) k ((thR ns s k).l.getD k default).b).to_.v), .int .i64 ((dgOf (thR ns s k) k ((thR ns s k).l.getD k default).b).kind.v), .int .i64 ((dgOf (thR ns s k) k ((thR ns s k).l.getD k default).b).seq.v), .int .i64 ((dgOf (thR ns s k) k ((thR ns s k).l.getD k default).b).ack.v), .slice pp57 ((dgOf (thR ns s k) k ((thR ns s k).l.getD k default).b).body.length) cc58] 41 (0, 0)) :: Im 1 (.slice pp57 ((dgOf (thR ns s k) k ((thR ns s k).l.getD k default).b).body.length) cc58) (((dgOf (thR ns s k) k ((thR ns s k).l.getD k default).b).body).length) (((dgOf (thR ns s k) k ((thR ns s k).l.getD k default).b).body).flatMap u8c) :: RfA g (thR ns s (k + 1)) :: Row 41 6 (.slice pp68 ((D ++ [(⟨(dgOf (thR ns s k) k ((thR ns s k).l.getD k default).b), pp57, cc58⟩ : DgD)]).length) cc69) ((D ++ [(⟨(dgOf (thR ns s k) k ((thR ns s k).l.getD k default).b), pp57, cc58⟩ : DgD)]).length) ((D ++ [(⟨(dgOf (thR ns s k) k ((thR ns s k).l.getD k default).b), pp57, cc58⟩ : DgD)]).flatMap dgdCell) :: byA (D.map DgD.by) :: (F.set i emp)) := by rw [flat_app, flat_one, List.length_append]; exact H71
    have H73 := byA_add (x := (⟨(dgOf (thR ns s k) k ((thR ns s k).l.getD k default).b), pp57, cc58⟩ : DgD).by) H72 (i := 4) (j := 1) rfl rfl snoc_dg
    have H74 : St W w65 (Row 41 6 (.slice pp68 ((D ++ [(⟨(dgOf (thR ns s k) k ((thR ns s k).l.getD k default).b), pp57, cc58⟩ : DgD)]).length) cc69) ((D ++ [(⟨(dgOf (thR ns s k) k ((thR ns s k).l.getD k default).b), pp57, cc58⟩ : DgD)]).length) ((D ++ [(⟨(dgOf (thR ns s k) k ((thR ns s k).l.getD k default).b), pp57, cc58⟩ : DgD)]).flatMap dgdCell) :: byA ((D ++ [(⟨(dgOf (thR ns s k) k ((thR ns s k).l.getD k default).b), pp57, cc58⟩ : DgD)]).map DgD.by) :: RfA g (thR ns s (k + 1)) :: (F.set i emp)) := ((((((H73.move 3 rfl).move 1 rfl).move 4 rfl).drop 3 rfl).drop 3 rfl).drop 3 rfl)
    exact nx25 (k + 1, (D ++ [(⟨(dgOf (thR ns s k) k ((thR ns s k).l.getD k default).b), pp57, cc58⟩ : DgD)]), pp68, cc69) _ _ ⟨(by omega), (by rw [List.map_append, hD, goT_yes hq70]; show _ ++ [dgOf (thR ns s k) k ((thR ns s k).l.getD k default).b] = _; rw [thR_at]; rfl), H74⟩ (by first | (dsimp only; omega) | omega) ⟨by first | rfl | exact vint (by omega), by first | rfl | exact vint (by omega), by first | rfl | (show Value.slice _ _ _ = _; rw [List.length_append]; rfl), by first | rfl | exact vint (by omega), trivial⟩
   ·have hb54 := eq_false_of_ne_true hb54
    refine g_false (congrArg Value.bool hb54) ?_
    refine g_skip ?_
    refine g_inBlock ?_
    refine g_region ?_
    refine r_cons (s_move (.int .i64 ((s.acked + k : Nat) : Int)) rfl rfl ?_)
    refine r_cons (s_add (((s.acked + k : Nat) : Int) + 1) rfl rfl (wi64 (by omega)) rfl ?_)
    refine r_cons (s_assign (.int .i64 (((s.acked + k : Nat) : Int) + 1)) rfl rfl ?_)
    refine r_nil ?_
    have H75 := Row.shut2 (p := pp30) (n := L32.length) (c := cc31) (size := 3) (xs := L32.flatMap bodCell) H53 (i := 1) rfl hp47 h48 h49 h50 (by have hh : (cur46.toList.drop 0).take (L32.length * 3) = L32.flatMap bodCell := (by rw [(rfl : L32.length = L32.length)]; exact h51); have hk : L32.length = L32.length := (rfl : L32.length = L32.length); rw [hk] at hh; exact hh) (fun x_ hx_ => by obtain ⟨a_, _, ha_⟩ := List.mem_flatMap.1 hx_; exact one_bod a_ x_ ha_)
    have H76 : St W w26 (RfA g (thR ns s k) :: Row 41 6 (.slice p D.length c) D.length (D.flatMap dgdCell) :: byA (D.map DgD.by) :: (F.set i emp)) := St.shut_ex ⟨⟨pp30, cc31, L32, pp33, cc34, E35, A36⟩, hL37, hA38, hH39⟩ (St.shut_star (ls := [_, _, _, _, _]) H75)
    have hq77 : ns (s.l.getD k default) = false := by rw [← thR_at ns s k, ← refAt (a := s.acked) hL37 hA38 k]; unfold ns; simpa using hb54
    have H78 : St W w26 (RfA g (thR ns s (k + 1)) :: Row 41 6 (.slice p D.length c) D.length (D.flatMap dgdCell) :: byA (D.map DgD.by) :: (F.set i emp)) := by rw [← thR_no hq77]; exact H76
    have H79 : St W w26 (Row 41 6 (.slice p D.length c) D.length (D.flatMap dgdCell) :: byA (D.map DgD.by) :: RfA g (thR ns s (k + 1)) :: (F.set i emp)) := ((H78.move 2 rfl).move 2 rfl)
    exact nx25 (k + 1, D, p, c) _ _ ⟨(by omega), (by rw [goT_no hq77]; exact hD), H79⟩ (by first | (dsimp only; omega) | omega) ⟨by first | rfl | exact vint (by omega), by first | rfl | exact vint (by omega), by first | rfl | exact vint (by omega), by first | rfl | exact vint (by omega), trivial⟩
  ·skip
   refine r_cons (s_lss false rfl rfl (dfalse hc28) rfl ?_)
   refine r_nil ?_
   refine g_false rfl ?_
   refine g_exit (by rfl) ?_
   refine g_seq ?_
   refine g_seq ?_
   refine g_region ?_
   have hk0 : k = winN s := by omega
   have hD0 : D.map DgD.d = thT ns s := by rw [hD, hk0]; rfl
   have hD1 := lenOf hD0
   refine r_cons (s_move (.slice p D.length c) rfl rfl ?_)
   refine r_cons (s_len D.length rfl ⟨_, un_34⟩ rfl ?_)
   by_cases hc80 : (D.length : Int) = 0
   ·skip
    refine r_cons (s_eql true rfl rfl (dtrue hc80) rfl ?_)
    refine r_cons (s_move (.bool true) rfl rfl ?_)
    refine r_cons (r_take rfl rfl ?_)
    refine s_move (.pointer (some ⟨g, 0, none⟩)) rfl rfl ?_
    refine r_cons (r_take rfl rfl ?_)
    refine s_nilCheck (.pointer (some ⟨g, 0, none⟩)) rfl ⟨_, rfl⟩ rfl ?_
    refine r_cons (r_take rfl rfl ?_)
    refine s_fieldAddr 86 7 8 8 4 rfl fi_86_7 rfl rfl ?_
    refine r_cons (r_take rfl rfl ?_)
    have H81 := H27.move 2 rfl
    obtain ⟨⟨⟨pp82, cc83, L84, pp85, cc86, E87, A88⟩, hL89, hA90, hH91⟩, H92⟩ := St.open_ex H81
    have H93 := St.open_star H92
    change L84.map BodD.v = A88 ++ (thR ns s k).l at hL89; change A88.length = (thR ns s k).acked at hA90; change HR (thR ns s k).held (mapB E87) at hH91
    have hl94 := refLen hL89 hA90; have hh95 : E87.length = (thR ns s k).held.length := by have h9 := hH91.len; rw [mapB_len rfl] at h9; exact h9
    have H96 : St W w26 (blk g (rfC (thR ns s k) (.slice pp82 L84.length cc83) (.slice pp85 E87.length cc86)) :: Row 101 3 (.slice pp82 L84.length cc83) L84.length (L84.flatMap bodCell) :: byA (L84.map BodD.by) :: Row 105 2 (.slice pp85 E87.length cc86) E87.length (E87.flatMap hlCell) :: byA (mby E87) :: Row 41 6 (.slice p D.length c) D.length (D.flatMap dgdCell) :: byA (D.map DgD.by) :: (F.set i emp)) := H93
    refine s_load (.bool ((thR ns s k).owes)) ag_4 rfl (H96.blk_at (i := 0) rfl) rfl rfl ?_
    refine r_cons (s_pick_t (.bool ((thR ns s k).owes)) rfl rfl rfl ?_)
    refine r_nil ?_
    by_cases hb97 : ((thR ns s k).owes) = true
    ·skip
     refine g_true (congrArg Value.bool hb97) ?_
     have H98 : St W w26 (blk g (rfC (thR ns s k) (.slice pp82 L84.length cc83) (.slice pp85 E87.length cc86)) :: Row 101 3 (.slice pp82 L84.length cc83) L84.length (L84.flatMap bodCell) :: byA (L84.map BodD.by) :: Row 105 2 (.slice pp85 E87.length cc86) E87.length (E87.flatMap hlCell) :: byA (mby E87) :: byA (D.map DgD.by) :: Row 41 6 (.slice p D.length c) D.length (D.flatMap dgdCell) :: (F.set i emp)) := (((((((H96.move 5 rfl).move 6 rfl).move 6 rfl).move 6 rfl).move 6 rfl).move 6 rfl).move 6 rfl)
     refine g_mix (fun t_ w => St W w (blk g (rfC (thR ns s k) (.slice pp82 L84.length cc83) (.slice pp85 E87.length cc86)) :: Row 101 3 (.slice pp82 L84.length cc83) L84.length (L84.flatMap bodCell) :: byA (L84.map BodD.by) :: Row 105 2 (.slice pp85 E87.length cc86) E87.length (E87.flatMap hlCell) :: byA (mby E87) :: byA (D.map DgD.by) :: t_)) (Row 41 6 (.slice p D.length c) D.length (D.flatMap dgdCell) :: (F.set i emp)) mixed 19 rfl H98.drew ?_
     refine f_first 0 (listed' := #[true, false, false, false, false, false, false, false, false, false, false, false, false, false, false, false, false, false, false]) rfl (by kernel_rfl) (by kernel_rfl) (by kernel_rfl) rfl ?_
     refine f_val rfl rfl rfl (by intro _ w _; exact x_move (.slice p D.length c) rfl w) ?_
     refine f_first 1 (listed' := #[true, true, false, false, false, false, false, false, false, false, false, false, false, false, false, false, false, false, false]) rfl (by kernel_rfl) (by kernel_rfl) (by kernel_rfl) rfl ?_
     refine f_val rfl rfl rfl (by intro _ w _; exact x_move (.pointer (some ⟨g, 0, none⟩)) rfl w) ?_
     refine f_first 2 (listed' := #[true, true, true, false, false, false, false, false, false, false, false, false, false, false, false, false, false, false, false]) rfl (by kernel_rfl) (by kernel_rfl) (by kernel_rfl) rfl ?_
     refine f_val rfl rfl rfl (by intro t_ w hw; exact x_nilCheck (.pointer (some ⟨g, 0, none⟩)) rfl ⟨_, rfl⟩ w) ?_
     refine f_first 3 (listed' := #[true, true, true, true, false, false, false, false, false, false, false, false, false, false, false, false, false, false, false]) rfl (by kernel_rfl) (by kernel_rfl) (by kernel_rfl) rfl ?_
     refine f_val rfl rfl rfl (by intro t_ w hw; exact x_fieldAddr 86 0 0 0 46 rfl fi_86_0 rfl w) ?_
     refine f_first 4 (listed' := #[true, true, true, true, true, false, false, false, false, false, false, false, false, false, false, false, false, false, false]) rfl (by kernel_rfl) (by kernel_rfl) (by kernel_rfl) rfl ?_
     refine f_val rfl rfl rfl (by intro t_ w hw; exact x_fieldAddr 46 0 0 0 3 rfl fi_46_0 rfl w) ?_
     refine f_first 5 (listed' := #[true, true, true, true, true, true, false, false, false, false, false, false, false, false, false, false, false, false, false]) rfl (by kernel_rfl) (by kernel_rfl) (by kernel_rfl) rfl ?_
     refine f_val rfl rfl rfl (by intro t_ w hw; exact x_load (.int .i64 ((thR ns s k).frm.v)) ag_3 rfl (hw.blk_at (i := 0) rfl) rfl) ?_
     refine f_first 6 (listed' := #[true, true, true, true, true, true, true, false, false, false, false, false, false, false, false, false, false, false, false]) rfl (by kernel_rfl) (by kernel_rfl) (by kernel_rfl) rfl ?_
     refine f_val rfl rfl rfl (by intro _ w _; exact x_move (.pointer (some ⟨g, 0, none⟩)) rfl w) ?_
     refine f_first 7 (listed' := #[true, true, true, true, true, true, true, true, false, false, false, false, false, false, false, false, false, false, false]) rfl (by kernel_rfl) (by kernel_rfl) (by kernel_rfl) rfl ?_
     refine f_val rfl rfl rfl (by intro t_ w hw; exact x_nilCheck (.pointer (some ⟨g, 0, none⟩)) rfl ⟨_, rfl⟩ w) ?_
     refine f_first 8 (listed' := #[true, true, true, true, true, true, true, true, true, false, false, false, false, false, false, false, false, false, false]) rfl (by kernel_rfl) (by kernel_rfl) (by kernel_rfl) rfl ?_
     refine f_val rfl rfl rfl (by intro t_ w hw; exact x_fieldAddr 86 0 0 0 46 rfl fi_86_0 rfl w) ?_
     refine f_first 9 (listed' := #[true, true, true, true, true, true, true, true, true, true, false, false, false, false, false, false, false, false, false]) rfl (by kernel_rfl) (by kernel_rfl) (by kernel_rfl) rfl ?_
     refine f_val rfl rfl rfl (by intro t_ w hw; exact x_fieldAddr 46 1 1 1 3 rfl fi_46_1 rfl w) ?_
     refine f_first 10 (listed' := #[true, true, true, true, true, true, true, true, true, true, true, false, false, false, false, false, false, false, false]) rfl (by kernel_rfl) (by kernel_rfl) (by kernel_rfl) rfl ?_
     refine f_val rfl rfl rfl (by intro t_ w hw; exact x_load (.int .i64 ((thR ns s k).to_.v)) ag_3 rfl (hw.blk_at (i := 0) rfl) rfl) ?_
     refine f_first 11 (listed' := #[true, true, true, true, true, true, true, true, true, true, true, true, false, false, false, false, false, false, false]) rfl (by kernel_rfl) (by kernel_rfl) (by kernel_rfl) rfl ?_
     refine f_val rfl rfl rfl (by intro _ w _; exact x_move (.pointer (some ⟨g, 0, none⟩)) rfl w) ?_
     refine f_first 12 (listed' := #[true, true, true, true, true, true, true, true, true, true, true, true, true, false, false, false, false, false, false]) rfl (by kernel_rfl) (by kernel_rfl) (by kernel_rfl) rfl ?_
     refine f_val rfl rfl rfl (by intro t_ w hw; exact x_nilCheck (.pointer (some ⟨g, 0, none⟩)) rfl ⟨_, rfl⟩ w) ?_
     refine f_first 13 (listed' := #[true, true, true, true, true, true, true, true, true, true, true, true, true, true, false, false, false, false, false]) rfl (by kernel_rfl) (by kernel_rfl) (by kernel_rfl) rfl ?_
     refine f_val rfl rfl rfl (by intro t_ w hw; exact x_fieldAddr 86 4 5 5 2 rfl fi_86_4 rfl w) ?_
     refine f_first 14 (listed' := #[true, true, true, true, true, true, true, true, true, true, true, true, true, true, true, false, false, false, false]) rfl (by kernel_rfl) (by kernel_rfl) (by kernel_rfl) rfl ?_
     refine f_val rfl rfl rfl (by intro t_ w hw; exact x_load (.int .i64 ((i64N (thR ns s k).came).v)) ag_2 rfl (hw.blk_at (i := 0) rfl) rfl) ?_
     refine f_first 15 (listed' := #[true, true, true, true, true, true, true, true, true, true, true, true, true, true, true, true, false, false, false]) rfl (by kernel_rfl) (by kernel_rfl) (by kernel_rfl) rfl ?_
     refine f_val rfl rfl rfl (by intro t_ w hw; exact x_build (cs := #[.int .i64 ((thR ns s k).frm.v), .int .i64 ((thR ns s k).to_.v), .int .i64 2, .int .i64 0, .int .i64 ((i64N (thR ns s k).came).v), .slice none 0 0]) (by kernel_rfl) w) ?_
     refine f_all (rs := [16]) (by kernel_rfl) (by simp) ?_
     refine a_cons ⟨_, rfl, ?_⟩ (fun x hx => absurd hx (by simp))
     intro w99 H100
     try dsimp only at H100
     refine s_buildSlice H100 6 1 (cs := #[.int .i64 ((thR ns s k).frm.v), .int .i64 ((thR ns s k).to_.v), .int .i64 2, .int .i64 0, .int .i64 ((i64N (thR ns s k).came).v), .slice none 0 0]) #[.int .i64 0, .int .i64 0, .int .i64 0, .int .i64 0, .int .i64 0, .slice none 0 0] el_34 ze_41 (by decide) (by decide) (by kernel_rfl) rfl ?_; intro bk101 w102 H103
     have H104 : St W w102 (blk g (rfC (thR ns s k) (.slice pp82 L84.length cc83) (.slice pp85 E87.length cc86)) :: Row 101 3 (.slice pp82 L84.length cc83) L84.length (L84.flatMap bodCell) :: byA (L84.map BodD.by) :: Row 105 2 (.slice pp85 E87.length cc86) E87.length (E87.flatMap hlCell) :: byA (mby E87) :: byA (D.map DgD.by) :: blk bk101 (.cells #[.int .i64 ((thR ns s k).frm.v), .int .i64 ((thR ns s k).to_.v), .int .i64 2, .int .i64 0, .int .i64 ((i64N (thR ns s k).came).v), .slice none 0 0] 41 (0, 0)) :: Row 41 6 (.slice p D.length c) D.length (D.flatMap dgdCell) :: (F.set i emp)) := ((((((((H103.move 7 rfl).move 1 rfl).move 7 rfl).move 7 rfl).move 7 rfl).move 7 rfl).move 7 rfl).move 7 rfl)
     refine ⟨blk bk101 (.cells #[.int .i64 ((thR ns s k).frm.v), .int .i64 ((thR ns s k).to_.v), .int .i64 2, .int .i64 0, .int .i64 ((i64N (thR ns s k).came).v), .slice none 0 0] 41 (0, 0)) :: Row 41 6 (.slice p D.length c) D.length (D.flatMap dgdCell) :: (F.set i emp), ?_, H104⟩
     change FReg _ _ _ _ _ #[true, true, true, true, true, true, true, true, true, true, true, true, true, true, true, true, true, false, false] _ _
     refine f_all (rs := [17]) (by kernel_rfl) (by simp) ?_
     refine a_cons ⟨_, rfl, ?_⟩ (fun x hx => absurd hx (by simp))
     intro w105 H106
     try dsimp only at H106
     refine s_append H106 7 rfl rfl rfl (rd_blk (H106.blk_at (i := 6) rfl) rfl (nbl rfl) (by simp [Value.oneCell'])) ap_34 (by decide) (by unfold maxLen; omega) (by omega) (n' := D.length + 1) (xs' := D.flatMap dgdCell ++ ([.int .i64 ((thR ns s k).frm.v), .int .i64 ((thR ns s k).to_.v), .int .i64 2, .int .i64 0, .int .i64 ((i64N (thR ns s k).came).v), .slice none 0 0] : List Value)) (by omega) (by first | rfl | simp) rfl ?_; intro vv107 w108 H109 hn110
     obtain ⟨pp111, cc112, rfl⟩ := Row.slice H109 (i := 7) rfl
     refine ⟨blk bk101 (.cells #[.int .i64 ((thR ns s k).frm.v), .int .i64 ((thR ns s k).to_.v), .int .i64 2, .int .i64 0, .int .i64 ((i64N (thR ns s k).came).v), .slice none 0 0] 41 (0, 0)) :: Row 41 6 (.slice pp111 (D.length + 1) cc112) (D.length + 1) (D.flatMap dgdCell ++ ([.int .i64 ((thR ns s k).frm.v), .int .i64 ((thR ns s k).to_.v), .int .i64 2, .int .i64 0, .int .i64 ((i64N (thR ns s k).came).v), .slice none 0 0] : List Value)) :: (F.set i emp), ?_, H109⟩
     change FReg _ _ _ _ _ #[true, true, true, true, true, true, true, true, true, true, true, true, true, true, true, true, true, true, false] _ _
     refine f_first 18 (listed' := #[true, true, true, true, true, true, true, true, true, true, true, true, true, true, true, true, true, true, true]) rfl (by kernel_rfl) (by kernel_rfl) (by kernel_rfl) rfl ?_
     refine f_val rfl rfl rfl (by intro t_ w hw; exact x_assign (.slice pp111 (D.length + 1) cc112) rfl w) ?_
     refine f_done (by kernel_rfl) ?_
     intro w113 H114
     refine g_seq ?_
     refine g_seq ?_
     refine g_region ?_
     refine r_cons (s_move (.slice pp111 (D.length + 1) cc112) rfl rfl ?_)
     refine r_cons (s_len (D.length + 1) rfl ⟨_, un_34⟩ rfl ?_)
     by_cases hc115 : (0 : Int) < (D.length + 1 : Int)
     ·skip
      refine r_cons (s_gtr true rfl rfl (dtrue hc115) rfl ?_)
      refine r_nil ?_
      refine g_true rfl ?_
      refine g_region ?_
      refine r_cons (s_move (.pointer (some ⟨g, 0, none⟩)) rfl rfl ?_)
      refine r_cons (s_nilCheck (.pointer (some ⟨g, 0, none⟩)) rfl ⟨_, rfl⟩ rfl ?_)
      refine r_cons (s_fieldAddr 86 7 8 8 4 rfl fi_86_7 rfl rfl ?_)
      refine r_cons (s_store H114 0 (.bool false) rfl rfl rfl sz_4 rfl (nbl rfl) rfl (cs' := #[.int .i64 ((thR ns s k).frm.v), .int .i64 ((thR ns s k).to_.v), .int .i64 ((thR ns s k).slide : Int), .slice pp82 L84.length cc83, .int .i64 ((thR ns s k).acked : Int), .int .i64 ((i64N (thR ns s k).came).v), .slice pp85 E87.length cc86, .int .i64 ((thR ns s k).clock : Int), .bool false]) rfl ?_); intro w116 H117
      refine r_nil ?_
      refine g_seq ?_
      refine g_region ?_
      refine r_cons (s_move (.slice pp111 (D.length + 1) cc112) rfl rfl ?_)
      refine r_cons (s_assign (.slice pp111 (D.length + 1) cc112) rfl rfl ?_)
      refine r_nil ?_
      refine g_ret' [.slice pp111 (D.length + 1) cc112] Try.func39 Try.results39 ⟨rfl, trivial⟩ ?_
      have hs0 : (thT ns s).length = 0 := by omega
      have hT1 := outT_ack hs0 (show (thR ns s k).owes = true from by assumption)
      have H118 := Row.im (Row.nil_intro H117 5 1) (i := 0) rfl
      have H119 : St W w116 (Im 1 (.slice none 0 0) (([] : List UInt8).length) (([] : List UInt8).flatMap u8c) :: blk g (.cells #[.int .i64 ((thR ns s k).frm.v), .int .i64 ((thR ns s k).to_.v), .int .i64 ((thR ns s k).slide : Int), .slice pp82 L84.length cc83, .int .i64 ((thR ns s k).acked : Int), .int .i64 ((i64N (thR ns s k).came).v), .slice pp85 E87.length cc86, .int .i64 ((thR ns s k).clock : Int), .bool false] 86 (0, 0)) :: Row 101 3 (.slice pp82 L84.length cc83) L84.length (L84.flatMap bodCell) :: byA (L84.map BodD.by) :: Row 105 2 (.slice pp85 E87.length cc86) E87.length (E87.flatMap hlCell) :: byA (mby E87) :: byA (D.map DgD.by) :: blk bk101 (.cells #[.int .i64 ((thR ns s k).frm.v), .int .i64 ((thR ns s k).to_.v), .int .i64 2, .int .i64 0, .int .i64 ((i64N (thR ns s k).came).v), .slice none 0 0] 41 (0, 0)) :: Row 41 6 (.slice pp111 (D.length + 1) cc112) (D.length + 1) (D.flatMap dgdCell ++ ([.int .i64 ((thR ns s k).frm.v), .int .i64 ((thR ns s k).to_.v), .int .i64 2, .int .i64 0, .int .i64 ((i64N (thR ns s k).came).v), .slice none 0 0] : List Value)) :: (F.set i emp)) := H118
      have H120 := byA_add (x := (⟨ackOf s, none, 0⟩ : DgD).by) H119 (i := 6) (j := 0) rfl rfl snoc_dg
      have H121 : St W w116 (Row 41 6 (.slice pp111 (D.length + 1) cc112) (D.length + 1) (D.flatMap dgdCell ++ ([.int .i64 ((thR ns s k).frm.v), .int .i64 ((thR ns s k).to_.v), .int .i64 2, .int .i64 0, .int .i64 ((i64N (thR ns s k).came).v), .slice none 0 0] : List Value)) :: byA ((D ++ [(⟨ackOf s, none, 0⟩ : DgD)]).map DgD.by) :: Im 1 (.slice none 0 0) (([] : List UInt8).length) (([] : List UInt8).flatMap u8c) :: blk g (.cells #[.int .i64 ((thR ns s k).frm.v), .int .i64 ((thR ns s k).to_.v), .int .i64 ((thR ns s k).slide : Int), .slice pp82 L84.length cc83, .int .i64 ((thR ns s k).acked : Int), .int .i64 ((i64N (thR ns s k).came).v), .slice pp85 E87.length cc86, .int .i64 ((thR ns s k).clock : Int), .bool false] 86 (0, 0)) :: Row 101 3 (.slice pp82 L84.length cc83) L84.length (L84.flatMap bodCell) :: byA (L84.map BodD.by) :: Row 105 2 (.slice pp85 E87.length cc86) E87.length (E87.flatMap hlCell) :: byA (mby E87) :: byA (D.map DgD.by) :: blk bk101 (.cells #[.int .i64 ((thR ns s k).frm.v), .int .i64 ((thR ns s k).to_.v), .int .i64 2, .int .i64 0, .int .i64 ((i64N (thR ns s k).came).v), .slice none 0 0] 41 (0, 0)) :: (F.set i emp)) := (H120.move 9 rfl)
      have hn122 : (outT s).length = D.length + 1 := (by rw [hT1, hD1, hs0]; rfl)
      have H123 : St W w116 (Row 41 6 (.slice pp111 ((outT s).length) cc112) ((outT s).length) ((D ++ [(⟨ackOf s, none, 0⟩ : DgD)]).flatMap dgdCell) :: byA ((D ++ [(⟨ackOf s, none, 0⟩ : DgD)]).map DgD.by) :: Im 1 (.slice none 0 0) (([] : List UInt8).length) (([] : List UInt8).flatMap u8c) :: blk g (.cells #[.int .i64 ((thR ns s k).frm.v), .int .i64 ((thR ns s k).to_.v), .int .i64 ((thR ns s k).slide : Int), .slice pp82 L84.length cc83, .int .i64 ((thR ns s k).acked : Int), .int .i64 ((i64N (thR ns s k).came).v), .slice pp85 E87.length cc86, .int .i64 ((thR ns s k).clock : Int), .bool false] 86 (0, 0)) :: Row 101 3 (.slice pp82 L84.length cc83) L84.length (L84.flatMap bodCell) :: byA (L84.map BodD.by) :: Row 105 2 (.slice pp85 E87.length cc86) E87.length (E87.flatMap hlCell) :: byA (mby E87) :: byA (D.map DgD.by) :: blk bk101 (.cells #[.int .i64 ((thR ns s k).frm.v), .int .i64 ((thR ns s k).to_.v), .int .i64 2, .int .i64 0, .int .i64 ((i64N (thR ns s k).came).v), .slice none 0 0] 41 (0, 0)) :: (F.set i emp)) := by rw [hn122]; rw [flat_app]; exact H121
      have H124 : St W w116 (DgsA pp111 cc112 (outT s) :: Im 1 (.slice none 0 0) (([] : List UInt8).length) (([] : List UInt8).flatMap u8c) :: blk g (.cells #[.int .i64 ((thR ns s k).frm.v), .int .i64 ((thR ns s k).to_.v), .int .i64 ((thR ns s k).slide : Int), .slice pp82 L84.length cc83, .int .i64 ((thR ns s k).acked : Int), .int .i64 ((i64N (thR ns s k).came).v), .slice pp85 E87.length cc86, .int .i64 ((thR ns s k).clock : Int), .bool false] 86 (0, 0)) :: Row 101 3 (.slice pp82 L84.length cc83) L84.length (L84.flatMap bodCell) :: byA (L84.map BodD.by) :: Row 105 2 (.slice pp85 E87.length cc86) E87.length (E87.flatMap hlCell) :: byA (mby E87) :: byA (D.map DgD.by) :: blk bk101 (.cells #[.int .i64 ((thR ns s k).frm.v), .int .i64 ((thR ns s k).to_.v), .int .i64 2, .int .i64 0, .int .i64 ((i64N (thR ns s k).came).v), .slice none 0 0] 41 (0, 0)) :: (F.set i emp)) := St.shut_ex ⟨(D ++ [(⟨ackOf s, none, 0⟩ : DgD)]), (show (D ++ [(⟨ackOf s, none, 0⟩ : DgD)]).map DgD.d = outT s from by rw [hT1, List.map_append, hD0, List.length_eq_zero_iff.1 hs0]; rfl)⟩ (St.shut_star (ls := [_, _]) H123)
      have H125 : St W w116 (blk g (.cells #[.int .i64 ((thR ns s k).frm.v), .int .i64 ((thR ns s k).to_.v), .int .i64 ((thR ns s k).slide : Int), .slice pp82 L84.length cc83, .int .i64 ((thR ns s k).acked : Int), .int .i64 ((i64N (thR ns s k).came).v), .slice pp85 E87.length cc86, .int .i64 ((thR ns s k).clock : Int), .bool false] 86 (0, 0)) :: Row 101 3 (.slice pp82 L84.length cc83) L84.length (L84.flatMap bodCell) :: byA (L84.map BodD.by) :: Row 105 2 (.slice pp85 E87.length cc86) E87.length (E87.flatMap hlCell) :: byA (mby E87) :: DgsA pp111 cc112 (outT s) :: Im 1 (.slice none 0 0) (([] : List UInt8).length) (([] : List UInt8).flatMap u8c) :: byA (D.map DgD.by) :: blk bk101 (.cells #[.int .i64 ((thR ns s k).frm.v), .int .i64 ((thR ns s k).to_.v), .int .i64 2, .int .i64 0, .int .i64 ((i64N (thR ns s k).came).v), .slice none 0 0] 41 (0, 0)) :: (F.set i emp)) := (((((H124.move 6 rfl).move 6 rfl).move 6 rfl).move 6 rfl).move 6 rfl)
      have H126 : St W w116 (RfA g ({ thR ns s k with owes := false } : EndV) :: DgsA pp111 cc112 (outT s) :: Im 1 (.slice none 0 0) (([] : List UInt8).length) (([] : List UInt8).flatMap u8c) :: byA (D.map DgD.by) :: blk bk101 (.cells #[.int .i64 ((thR ns s k).frm.v), .int .i64 ((thR ns s k).to_.v), .int .i64 2, .int .i64 0, .int .i64 ((i64N (thR ns s k).came).v), .slice none 0 0] 41 (0, 0)) :: (F.set i emp)) := St.shut_ex ⟨⟨pp82, cc83, L84, pp85, cc86, E87, A88⟩, hL89, hA90, hH91⟩ (St.shut_star (ls := [_, _, _, _, _]) H125)
      have H127 : St W w116 (RfA g (outS s) :: DgsA pp111 cc112 (outT s) :: Im 1 (.slice none 0 0) (([] : List UInt8).length) (([] : List UInt8).flatMap u8c) :: byA (D.map DgD.by) :: blk bk101 (.cells #[.int .i64 ((thR ns s k).frm.v), .int .i64 ((thR ns s k).to_.v), .int .i64 2, .int .i64 0, .int .i64 ((i64N (thR ns s k).came).v), .slice none 0 0] 41 (0, 0)) :: (F.set i emp)) := by rw [show outS s = { thR ns s k with owes := false } from by rw [hk0]; rfl]; exact H126
      have H128 : St W w116 (DgsA pp111 cc112 (outT s) :: RfA g (outS s) :: (F.set i emp)) := ((((H127.move 1 rfl).drop 2 rfl).drop 2 rfl).drop 2 rfl)
      have H129 : St W w116 (RfA g (outS s) :: (DgsA pp111 cc112 (outT s) :: F).set (i + 1) emp) := (H128.move 1 rfl)
      exact ⟨_, _, by rw [hn122]; rfl, St.back (i := i + 1) (by exact hi) H129⟩
     ·skip
      refine r_cons (s_gtr false rfl rfl (dfalse hc115) rfl ?_)
      refine r_nil ?_
      refine g_false rfl ?_
      refine g_skip ?_
      refine g_seq ?_
      refine g_region ?_
      refine r_cons (s_move (.slice pp111 (D.length + 1) cc112) rfl rfl ?_)
      refine r_cons (s_assign (.slice pp111 (D.length + 1) cc112) rfl rfl ?_)
      refine r_nil ?_
      refine g_ret' [.slice pp111 (D.length + 1) cc112] Try.func39 Try.results39 ⟨rfl, trivial⟩ ?_
      have hs0 : (thT ns s).length = 0 := by omega
      exfalso; omega
    ·have hb97 := eq_false_of_ne_true hb97
     refine g_false (congrArg Value.bool hb97) ?_
     refine g_skip ?_
     refine g_seq ?_
     refine g_seq ?_
     refine g_region ?_
     refine r_cons (s_move (.slice p D.length c) rfl rfl ?_)
     refine r_cons (s_len D.length rfl ⟨_, un_34⟩ rfl ?_)
     refine r_cons (s_gtr false rfl rfl (dfalse (by omega)) rfl ?_)
     refine r_nil ?_
     refine g_false rfl ?_
     refine g_skip ?_
     refine g_seq ?_
     refine g_region ?_
     refine r_cons (s_move (.slice p D.length c) rfl rfl ?_)
     refine r_cons (s_assign (.slice p D.length c) rfl rfl ?_)
     refine r_nil ?_
     refine g_ret' [.slice p D.length c] Try.func39 Try.results39 ⟨rfl, trivial⟩ ?_
     have hs0 : (thT ns s).length = 0 := by omega
     have hT1 := outT_nil hs0 (show (thR ns s k).owes = false from by assumption)
     have hn130 : (outT s).length = D.length := by rw [hT1, hD1]; exact hs0.symm
     have H131 : St W w26 (Row 41 6 (.slice p D.length c) D.length (D.flatMap dgdCell) :: byA (D.map DgD.by) :: blk g (rfC (thR ns s k) (.slice pp82 L84.length cc83) (.slice pp85 E87.length cc86)) :: Row 101 3 (.slice pp82 L84.length cc83) L84.length (L84.flatMap bodCell) :: byA (L84.map BodD.by) :: Row 105 2 (.slice pp85 E87.length cc86) E87.length (E87.flatMap hlCell) :: byA (mby E87) :: (F.set i emp)) := ((H96.move 6 rfl).move 6 rfl)
     have H132 : St W w26 (Row 41 6 (.slice p ((outT s).length) c) ((outT s).length) (D.flatMap dgdCell) :: byA (D.map DgD.by) :: blk g (rfC (thR ns s k) (.slice pp82 L84.length cc83) (.slice pp85 E87.length cc86)) :: Row 101 3 (.slice pp82 L84.length cc83) L84.length (L84.flatMap bodCell) :: byA (L84.map BodD.by) :: Row 105 2 (.slice pp85 E87.length cc86) E87.length (E87.flatMap hlCell) :: byA (mby E87) :: (F.set i emp)) := by rw [show (outT s).length = D.length from (lenOf (show D.map DgD.d = outT s from by rw [hT1, hD0]; exact List.length_eq_zero_iff.1 hs0)).symm]; exact H131
     have H133 : St W w26 (DgsA p c (outT s) :: blk g (rfC (thR ns s k) (.slice pp82 L84.length cc83) (.slice pp85 E87.length cc86)) :: Row 101 3 (.slice pp82 L84.length cc83) L84.length (L84.flatMap bodCell) :: byA (L84.map BodD.by) :: Row 105 2 (.slice pp85 E87.length cc86) E87.length (E87.flatMap hlCell) :: byA (mby E87) :: (F.set i emp)) := St.shut_ex ⟨D, (show D.map DgD.d = outT s from by rw [hT1, hD0]; exact List.length_eq_zero_iff.1 hs0)⟩ (St.shut_star (ls := [_, _]) H132)
     have H134 : St W w26 (blk g (rfC (thR ns s k) (.slice pp82 L84.length cc83) (.slice pp85 E87.length cc86)) :: Row 101 3 (.slice pp82 L84.length cc83) L84.length (L84.flatMap bodCell) :: byA (L84.map BodD.by) :: Row 105 2 (.slice pp85 E87.length cc86) E87.length (E87.flatMap hlCell) :: byA (mby E87) :: DgsA p c (outT s) :: (F.set i emp)) := (((((H133.move 5 rfl).move 5 rfl).move 5 rfl).move 5 rfl).move 5 rfl)
     have H135 : St W w26 (RfA g (thR ns s k) :: DgsA p c (outT s) :: (F.set i emp)) := St.shut_ex ⟨⟨pp82, cc83, L84, pp85, cc86, E87, A88⟩, hL89, hA90, hH91⟩ (St.shut_star (ls := [_, _, _, _, _]) H134)
     have H136 : St W w26 (RfA g (outS s) :: DgsA p c (outT s) :: (F.set i emp)) := by rw [← outS_keep (s := s) (show (thR ns s k).owes = false from by assumption), ← hk0]; exact H135
     have H137 : St W w26 (DgsA p c (outT s) :: RfA g (outS s) :: (F.set i emp)) := (H136.move 1 rfl)
     have H138 : St W w26 (RfA g (outS s) :: (DgsA p c (outT s) :: F).set (i + 1) emp) := (H137.move 1 rfl)
     exact ⟨_, _, by rw [hn130]; rfl, St.back (i := i + 1) (by exact hi) H138⟩
   ·skip
    refine r_cons (s_eql false rfl rfl (dfalse hc80) rfl ?_)
    refine r_cons (s_move (.bool false) rfl rfl ?_)
    refine r_cons (r_pass rfl rfl rfl rfl rfl ?_)
    refine r_cons (r_pass rfl rfl rfl rfl rfl ?_)
    refine r_cons (r_pass rfl rfl rfl rfl rfl ?_)
    refine r_cons (r_pass rfl rfl rfl rfl rfl ?_)
    refine r_cons (s_pick_f (.bool false) rfl rfl rfl ?_)
    refine r_nil ?_
    refine g_false rfl ?_
    refine g_skip ?_
    refine g_seq ?_
    refine g_seq ?_
    refine g_region ?_
    refine r_cons (s_move (.slice p D.length c) rfl rfl ?_)
    refine r_cons (s_len D.length rfl ⟨_, un_34⟩ rfl ?_)
    by_cases hc139 : (0 : Int) < (D.length : Int)
    ·skip
     refine r_cons (s_gtr true rfl rfl (dtrue hc139) rfl ?_)
     refine r_nil ?_
     refine g_true rfl ?_
     refine g_region ?_
     refine r_cons (s_move (.pointer (some ⟨g, 0, none⟩)) rfl rfl ?_)
     refine r_cons (s_nilCheck (.pointer (some ⟨g, 0, none⟩)) rfl ⟨_, rfl⟩ rfl ?_)
     refine r_cons (s_fieldAddr 86 7 8 8 4 rfl fi_86_7 rfl rfl ?_)
     have H140 := H27.move 2 rfl
     obtain ⟨⟨⟨pp141, cc142, L143, pp144, cc145, E146, A147⟩, hL148, hA149, hH150⟩, H151⟩ := St.open_ex H140
     have H152 := St.open_star H151
     change L143.map BodD.v = A147 ++ (thR ns s k).l at hL148; change A147.length = (thR ns s k).acked at hA149; change HR (thR ns s k).held (mapB E146) at hH150
     have hl153 := refLen hL148 hA149; have hh154 : E146.length = (thR ns s k).held.length := by have h9 := hH150.len; rw [mapB_len rfl] at h9; exact h9
     have H155 : St W w26 (blk g (rfC (thR ns s k) (.slice pp141 L143.length cc142) (.slice pp144 E146.length cc145)) :: Row 101 3 (.slice pp141 L143.length cc142) L143.length (L143.flatMap bodCell) :: byA (L143.map BodD.by) :: Row 105 2 (.slice pp144 E146.length cc145) E146.length (E146.flatMap hlCell) :: byA (mby E146) :: Row 41 6 (.slice p D.length c) D.length (D.flatMap dgdCell) :: byA (D.map DgD.by) :: (F.set i emp)) := H152
     refine r_cons (s_store H155 0 (.bool false) rfl rfl rfl sz_4 rfl (nbl rfl) rfl (cs' := #[.int .i64 ((thR ns s k).frm.v), .int .i64 ((thR ns s k).to_.v), .int .i64 ((thR ns s k).slide : Int), .slice pp141 L143.length cc142, .int .i64 ((thR ns s k).acked : Int), .int .i64 ((i64N (thR ns s k).came).v), .slice pp144 E146.length cc145, .int .i64 ((thR ns s k).clock : Int), .bool false]) rfl ?_); intro w156 H157
     refine r_nil ?_
     refine g_seq ?_
     refine g_region ?_
     refine r_cons (s_move (.slice p D.length c) rfl rfl ?_)
     refine r_cons (s_assign (.slice p D.length c) rfl rfl ?_)
     refine r_nil ?_
     refine g_ret' [.slice p D.length c] Try.func39 Try.results39 ⟨rfl, trivial⟩ ?_
     have hs0 : ¬ (thT ns s).length = 0 := by omega
     have hT1 := outT_some hs0
     have hn158 : (outT s).length = D.length := by rw [hT1, hD1]
     have H159 : St W w156 (Row 41 6 (.slice p D.length c) D.length (D.flatMap dgdCell) :: byA (D.map DgD.by) :: blk g (.cells #[.int .i64 ((thR ns s k).frm.v), .int .i64 ((thR ns s k).to_.v), .int .i64 ((thR ns s k).slide : Int), .slice pp141 L143.length cc142, .int .i64 ((thR ns s k).acked : Int), .int .i64 ((i64N (thR ns s k).came).v), .slice pp144 E146.length cc145, .int .i64 ((thR ns s k).clock : Int), .bool false] 86 (0, 0)) :: Row 101 3 (.slice pp141 L143.length cc142) L143.length (L143.flatMap bodCell) :: byA (L143.map BodD.by) :: Row 105 2 (.slice pp144 E146.length cc145) E146.length (E146.flatMap hlCell) :: byA (mby E146) :: (F.set i emp)) := ((H157.move 6 rfl).move 6 rfl)
     have H160 : St W w156 (Row 41 6 (.slice p ((outT s).length) c) ((outT s).length) (D.flatMap dgdCell) :: byA (D.map DgD.by) :: blk g (.cells #[.int .i64 ((thR ns s k).frm.v), .int .i64 ((thR ns s k).to_.v), .int .i64 ((thR ns s k).slide : Int), .slice pp141 L143.length cc142, .int .i64 ((thR ns s k).acked : Int), .int .i64 ((i64N (thR ns s k).came).v), .slice pp144 E146.length cc145, .int .i64 ((thR ns s k).clock : Int), .bool false] 86 (0, 0)) :: Row 101 3 (.slice pp141 L143.length cc142) L143.length (L143.flatMap bodCell) :: byA (L143.map BodD.by) :: Row 105 2 (.slice pp144 E146.length cc145) E146.length (E146.flatMap hlCell) :: byA (mby E146) :: (F.set i emp)) := by rw [show (outT s).length = D.length from (lenOf (show D.map DgD.d = outT s from by rw [hT1, hD0])).symm]; exact H159
     have H161 : St W w156 (DgsA p c (outT s) :: blk g (.cells #[.int .i64 ((thR ns s k).frm.v), .int .i64 ((thR ns s k).to_.v), .int .i64 ((thR ns s k).slide : Int), .slice pp141 L143.length cc142, .int .i64 ((thR ns s k).acked : Int), .int .i64 ((i64N (thR ns s k).came).v), .slice pp144 E146.length cc145, .int .i64 ((thR ns s k).clock : Int), .bool false] 86 (0, 0)) :: Row 101 3 (.slice pp141 L143.length cc142) L143.length (L143.flatMap bodCell) :: byA (L143.map BodD.by) :: Row 105 2 (.slice pp144 E146.length cc145) E146.length (E146.flatMap hlCell) :: byA (mby E146) :: (F.set i emp)) := St.shut_ex ⟨D, (show D.map DgD.d = outT s from by rw [hT1, hD0])⟩ (St.shut_star (ls := [_, _]) H160)
     have H162 : St W w156 (blk g (.cells #[.int .i64 ((thR ns s k).frm.v), .int .i64 ((thR ns s k).to_.v), .int .i64 ((thR ns s k).slide : Int), .slice pp141 L143.length cc142, .int .i64 ((thR ns s k).acked : Int), .int .i64 ((i64N (thR ns s k).came).v), .slice pp144 E146.length cc145, .int .i64 ((thR ns s k).clock : Int), .bool false] 86 (0, 0)) :: Row 101 3 (.slice pp141 L143.length cc142) L143.length (L143.flatMap bodCell) :: byA (L143.map BodD.by) :: Row 105 2 (.slice pp144 E146.length cc145) E146.length (E146.flatMap hlCell) :: byA (mby E146) :: DgsA p c (outT s) :: (F.set i emp)) := (((((H161.move 5 rfl).move 5 rfl).move 5 rfl).move 5 rfl).move 5 rfl)
     have H163 : St W w156 (RfA g ({ thR ns s k with owes := false } : EndV) :: DgsA p c (outT s) :: (F.set i emp)) := St.shut_ex ⟨⟨pp141, cc142, L143, pp144, cc145, E146, A147⟩, hL148, hA149, hH150⟩ (St.shut_star (ls := [_, _, _, _, _]) H162)
     have H164 : St W w156 (RfA g (outS s) :: DgsA p c (outT s) :: (F.set i emp)) := by rw [show outS s = { thR ns s k with owes := false } from by rw [hk0]; rfl]; exact H163
     have H165 : St W w156 (DgsA p c (outT s) :: RfA g (outS s) :: (F.set i emp)) := (H164.move 1 rfl)
     have H166 : St W w156 (RfA g (outS s) :: (DgsA p c (outT s) :: F).set (i + 1) emp) := (H165.move 1 rfl)
     exact ⟨_, _, by rw [hn158]; rfl, St.back (i := i + 1) (by exact hi) H166⟩
    ·skip
     refine r_cons (s_gtr false rfl rfl (dfalse hc139) rfl ?_)
     refine r_nil ?_
     refine g_false rfl ?_
     refine g_skip ?_
     refine g_seq ?_
     refine g_region ?_
     refine r_cons (s_move (.slice p D.length c) rfl rfl ?_)
     refine r_cons (s_assign (.slice p D.length c) rfl rfl ?_)
     refine r_nil ?_
     refine g_ret' [.slice p D.length c] Try.func39 Try.results39 ⟨rfl, trivial⟩ ?_
     have hs0 : ¬ (thT ns s).length = 0 := by omega
     exfalso; omega
set_option maxHeartbeats 4000000 in
set_option maxRecDepth 100000 in
theorem Rf_Tick {W w : World} {F : List Atom} (g : Nat) (s : EndV) (hv : LInv s) (hck : s.clock + 1 ≤ 4611686018427387904) {i : Nat} (hi : F[i]? = some (RfA g s)) (H : St W w F) : Calls Try.prog 40 #[.pointer (some ⟨g, 0, none⟩)] w (Ret fun v w' => ∃ p c, v = .slice p ((tickT s).length) c ∧ St W w' (DgsA p c (tickT s) :: F.set i (RfA g (tickS s)))) := by
 have H0 := H.front hi
 obtain ⟨o1, o2, o3, o4, o5, o6, o8⟩ := id hv.ok; have o7 := i64N_0 (Nat.le_trans o4 (by decide))
 refine calls_of_go (n := 62) Try.func40 rfl Try.ntmps40 rfl ?_
 refine g_seq ?_
 refine g_region ?_
 refine r_cons (s_assign (.slice none 0 0) rfl rfl ?_)
 refine r_nil ?_
 refine g_seq ?_
 refine g_region ?_
 refine r_cons (s_move (.pointer (some ⟨g, 0, none⟩)) rfl rfl ?_)
 refine r_cons (s_nilCheck (.pointer (some ⟨g, 0, none⟩)) rfl ⟨_, rfl⟩ rfl ?_)
 refine r_cons (s_fieldAddr 86 6 7 7 2 rfl fi_86_6 rfl rfl ?_)
 have H1 := H0.move 0 rfl
 obtain ⟨⟨⟨pp2, cc3, L4, pp5, cc6, E7, A8⟩, hL9, hA10, hH11⟩, H12⟩ := St.open_ex H1
 have H13 := St.open_star H12
 change L4.map BodD.v = A8 ++ s.l at hL9; change A8.length = s.acked at hA10; change HR s.held (mapB E7) at hH11
 have hl14 := refLen hL9 hA10; have hh15 : E7.length = s.held.length := by have h9 := hH11.len; rw [mapB_len rfl] at h9; exact h9
 have H16 : St W w (blk g (rfC s (.slice pp2 L4.length cc3) (.slice pp5 E7.length cc6)) :: Row 101 3 (.slice pp2 L4.length cc3) L4.length (L4.flatMap bodCell) :: byA (L4.map BodD.by) :: Row 105 2 (.slice pp5 E7.length cc6) E7.length (E7.flatMap hlCell) :: byA (mby E7) :: (F.set i emp)) := H13
 refine r_cons (s_load (.int .i64 (s.clock : Int)) ag_2 rfl (H16.blk_at (i := 0) rfl) rfl rfl ?_)
 refine r_cons (s_add ((s.clock + 1 : Nat) : Int) rfl rfl ((wi64 (by omega)).trans (by omega)) rfl ?_)
 refine r_cons (s_nilCheck (.pointer (some ⟨g, 0, none⟩)) rfl ⟨_, rfl⟩ rfl ?_)
 refine r_cons (s_fieldAddr 86 6 7 7 2 rfl fi_86_6 rfl rfl ?_)
 refine r_cons (s_store H16 0 (.int .i64 ((s.clock + 1 : Nat) : Int)) rfl rfl rfl sz_2 rfl (nbl rfl) rfl (cs' := #[.int .i64 s.frm.v, .int .i64 s.to_.v, .int .i64 (s.slide : Int), .slice pp2 L4.length cc3, .int .i64 (s.acked : Int), .int .i64 ((i64N s.came).v), .slice pp5 E7.length cc6, .int .i64 ((s.clock + 1 : Nat) : Int), .bool s.owes]) rfl ?_); intro w17 H18
 refine r_nil ?_
 refine g_seq ?_
 refine g_region ?_
 refine r_cons (s_assign (.slice none 0 0) rfl rfl ?_)
 refine r_nil ?_
 refine g_seq ?_
 refine g_seq ?_
 refine g_region ?_
 have H19 : St W w17 (RfA g (tick1 s) :: (F.set i emp)) := St.shut_ex ⟨⟨pp2, cc3, L4, pp5, cc6, E7, A8⟩, hL9, hA10, hH11⟩ (St.shut_star (ls := [_, _, _, _, _]) H18)
 refine r_cons (s_move (.pointer (some ⟨g, 0, none⟩)) rfl rfl ?_)
 refine r_cons (s_nilCheck (.pointer (some ⟨g, 0, none⟩)) rfl ⟨_, rfl⟩ rfl ?_)
 refine r_cons (s_fieldAddr 86 3 4 4 2 rfl fi_86_3 rfl rfl ?_)
 have H20 := H19.move 0 rfl
 obtain ⟨⟨⟨pp21, cc22, L23, pp24, cc25, E26, A27⟩, hL28, hA29, hH30⟩, H31⟩ := St.open_ex H20
 have H32 := St.open_star H31
 change L23.map BodD.v = A27 ++ (tick1 s).l at hL28; change A27.length = (tick1 s).acked at hA29; change HR (tick1 s).held (mapB E26) at hH30
 have hl33 := refLen hL28 hA29; have hh34 : E26.length = (tick1 s).held.length := by have h9 := hH30.len; rw [mapB_len rfl] at h9; exact h9
 have H35 : St W w17 (blk g (rfC (tick1 s) (.slice pp21 L23.length cc22) (.slice pp24 E26.length cc25)) :: Row 101 3 (.slice pp21 L23.length cc22) L23.length (L23.flatMap bodCell) :: byA (L23.map BodD.by) :: Row 105 2 (.slice pp24 E26.length cc25) E26.length (E26.flatMap hlCell) :: byA (mby E26) :: (F.set i emp)) := H32
 refine r_cons (s_load (.int .i64 ((tick1 s).acked : Int)) ag_2 rfl (H35.blk_at (i := 0) rfl) rfl rfl ?_)
 refine r_cons (s_assign (.int .i64 ((tick1 s).acked : Int)) rfl rfl ?_)
 refine r_nil ?_
 refine g_block ?_
 have H36 : St W w17 (RfA g (tick1 s) :: (F.set i emp)) := St.shut_ex ⟨⟨pp21, cc22, L23, pp24, cc25, E26, A27⟩, hL28, hA29, hH30⟩ (St.shut_star (ls := [_, _, _, _, _]) H35)
 have H37 := Row.nil_intro H36 41 6
 have H38 := byA_nil H37
 have H39 : St W w17 (Row 41 6 (.slice none 0 0) 0 [] :: byA (([] : List DgD).map DgD.by) :: RfA g (tick1 s) :: (F.set i emp)) := (((H38.move 2 rfl).move 1 rfl).move 2 rfl)
 have H40 : St W w17 (Row 41 6 (.slice none 0 0) 0 [] :: byA (([] : List DgD).map DgD.by) :: RfA g (thR (rs (s.clock + 1)) (tick1 s) 0) :: (F.set i emp)) := H39
 refine g_loop_inv (fun (x_ : Nat × (List DgD) × (Option Addr) × Nat) => match x_ with | (k, D, p, c) => [(0, .pointer (some ⟨g, 0, none⟩)), (2, .slice none 0 0), (3, .slice p D.length c), (4, .int .i64 ((s.acked + k : Nat) : Int))]) (fun (x_ : Nat × (List DgD) × (Option Addr) × Nat) w => match x_ with | (k, D, p, c) => (k ≤ winN (tick1 s)) ∧ (D.map DgD.d = goT (rs (s.clock + 1)) (tick1 s) k) ∧ St W w (Row 41 6 (.slice p D.length c) D.length (D.flatMap dgdCell) :: byA (D.map DgD.by) :: RfA g (thR (rs (s.clock + 1)) (tick1 s) k) :: (F.set i emp))) (fun (x_ : Nat × (List DgD) × (Option Addr) × Nat) => match x_ with | (k, D, p, c) => winN (tick1 s) - k) (0, [], none, 0) ?_ ?_ ?_
 ·exact ⟨by first | rfl | exact vint (by omega), by first | rfl | exact vint (by omega), by first | rfl | exact vint (by omega), by first | rfl | exact vint (by omega), trivial⟩
 ·exact ⟨(by omega), rfl, H40⟩
 ·rintro ⟨k, D, p, c⟩ ρ41 w42 ⟨hkn, hD, H43⟩ nx44
  change Ends _ _ (upds ρ41 [(0, .pointer (some ⟨g, 0, none⟩)), (2, .slice none 0 0), (3, .slice p D.length c), (4, .int .i64 ((s.acked + k : Nat) : Int))]) w42
  have hDl := lenOf hD; have hDl2 := goT_len (rs (s.clock + 1)) (tick1 s) k; have hw1 : winN (tick1 s) ≤ (tick1 s).l.length := Nat.min_le_right _ _; have hw2 : winN (tick1 s) ≤ 64 := Nat.le_trans (Nat.min_le_left _ _) o6; have hak : (thR (rs (s.clock + 1)) (tick1 s) k).acked = s.acked := rfl; have hwk := winN_R (rs (s.clock + 1)) (tick1 s) k; have hlk : (thR (rs (s.clock + 1)) (tick1 s) k).l.length = (tick1 s).l.length := thR_len (rs (s.clock + 1)) (tick1 s) k
  refine g_seq ?_
  refine g_seq ?_
  refine g_region ?_
  refine r_cons (s_move (.int .i64 ((s.acked + k : Nat) : Int)) rfl rfl ?_)
  refine r_cons (s_move (.pointer (some ⟨g, 0, none⟩)) rfl rfl ?_)
  refine r_cons (s_call [.pointer (some ⟨g, 0, none⟩)] pl_55 rfl rfl (Rf_may g (thR (rs (s.clock + 1)) (tick1 s) k) (endOk_thR (hv.tick1 hck).ok k) (i := 2) rfl H43) ?_)
  rintro _ w45 ⟨rfl, H46⟩
  by_cases hc47 : ((s.acked + k : Nat) : Int) < (((thR (rs (s.clock + 1)) (tick1 s) k).acked + winN (thR (rs (s.clock + 1)) (tick1 s) k) : Nat) : Int)
  ·skip
   refine r_cons (s_lss true rfl rfl (dtrue hc47) rfl ?_)
   refine r_nil ?_
   refine g_true rfl ?_
   refine g_skip ?_
   refine g_seq ?_
   refine g_block ?_
   refine g_seq ?_
   have H48 := H46.move 2 rfl
   obtain ⟨⟨⟨pp49, cc50, L51, pp52, cc53, E54, A55⟩, hL56, hA57, hH58⟩, H59⟩ := St.open_ex H48
   have H60 := St.open_star H59
   change L51.map BodD.v = A55 ++ (thR (rs (s.clock + 1)) (tick1 s) k).l at hL56; change A55.length = (thR (rs (s.clock + 1)) (tick1 s) k).acked at hA57; change HR (thR (rs (s.clock + 1)) (tick1 s) k).held (mapB E54) at hH58
   have hl61 := refLen hL56 hA57; have hh62 : E54.length = (thR (rs (s.clock + 1)) (tick1 s) k).held.length := by have h9 := hH58.len; rw [mapB_len rfl] at h9; exact h9
   have H63 : St W w45 (blk g (rfC (thR (rs (s.clock + 1)) (tick1 s) k) (.slice pp49 L51.length cc50) (.slice pp52 E54.length cc53)) :: Row 101 3 (.slice pp49 L51.length cc50) L51.length (L51.flatMap bodCell) :: byA (L51.map BodD.by) :: Row 105 2 (.slice pp52 E54.length cc53) E54.length (E54.flatMap hlCell) :: byA (mby E54) :: Row 41 6 (.slice p D.length c) D.length (D.flatMap dgdCell) :: byA (D.map DgD.by) :: (F.set i emp)) := H60
   have hk9 : s.acked + k < L51.length := by rw [hl61]; omega
   obtain ⟨bk64, cur65, hp66, h67, h68, h69, h70, h71, H72⟩ := Row.open2 H63 (i := 1) rfl (by omega)
   refine g_quiet (fun w' => St W w' (blk g (rfC (thR (rs (s.clock + 1)) (tick1 s) k) (.slice pp49 L51.length cc50) (.slice pp52 E54.length cc53)) :: blk bk64 (.cells cur65 101 (0, 0)) :: byA (L51.map BodD.by) :: Row 105 2 (.slice pp52 E54.length cc53) E54.length (E54.flatMap hlCell) :: byA (mby E54) :: Row 41 6 (.slice p D.length c) D.length (D.flatMap dgdCell) :: byA (D.map DgD.by) :: (F.set i emp))) mixed (by kernel_rfl) H72.drew ?_
   refine q_cons (q_val rfl rfl rfl (by intro w hw; exact x_move (.pointer (some ⟨g, 0, none⟩)) rfl w) ?_)
   refine q_cons (q_val rfl rfl rfl (by intro w hw; exact x_nilCheck (.pointer (some ⟨g, 0, none⟩)) rfl ⟨_, rfl⟩ w) ?_)
   refine q_cons (q_val rfl rfl rfl (by intro w hw; exact x_fieldAddr 86 2 3 3 83 rfl fi_86_2 rfl w) ?_)
   refine q_cons (q_val rfl rfl rfl (by intro w hw; exact x_load (.slice pp49 L51.length cc50) ag_83 rfl (hw.blk_at (i := 0) rfl) rfl) ?_)
   refine q_cons (q_val rfl rfl rfl (by intro w hw; exact x_move (.int .i64 ((s.acked + k : Nat) : Int)) rfl w) ?_)
   refine q_cons (q_val rfl rfl rfl (by intro w hw; exact x_indexAddr bk64 (off := 0) ((s.acked + k : Nat) : Int) 3 (0 + (s.acked + k) * 3) (by exact congrArg (fun z_ => Value.slice z_ L51.length cc50) ((fun (_ : 0 < 1) => hp66) (by omega))) rfl el_83 (by omega) rfl w) ?_)
   refine q_cons (q_val rfl rfl rfl (by intro w hw; exact x_fieldAddr 101 1 1 (0 + (s.acked + k) * 3 + 1) 4 rfl fi_101_1 rfl w) ?_)
   refine q_cons (q_val rfl rfl rfl (by intro w hw; exact x_load (.bool ((L51.getD (s.acked + k) default).v.sent)) ag_4 rfl (hw.blk_at (i := 1) rfl) (elem_cell (L := L51) (i := s.acked + k) bodCell_len (by rw [(rfl : L51.length = L51.length)]; exact h70) (by have hh : L51.length = L51.length := (rfl : L51.length = L51.length); omega) default 1 (by decide) _ rfl)) ?_)
   refine q_cons (q_val rfl rfl rfl (by intro w hw; exact x_move (.bool ((L51.getD (s.acked + k) default).v.sent)) rfl w) ?_)
   by_cases hb73 : ((L51.getD (s.acked + k) default).v.sent) = true
   ·skip
    refine q_cons (q_take rfl (congrArg some hb73) ?_)
    refine q_val rfl rfl rfl (by intro w hw; exact x_move (.pointer (some ⟨g, 0, none⟩)) rfl w) ?_
    refine q_cons (q_take rfl (congrArg some hb73) ?_)
    refine q_val rfl rfl rfl (by intro w hw; exact x_nilCheck (.pointer (some ⟨g, 0, none⟩)) rfl ⟨_, rfl⟩ w) ?_
    refine q_cons (q_take rfl (congrArg some hb73) ?_)
    refine q_val rfl rfl rfl (by intro w hw; exact x_fieldAddr 86 6 7 7 2 rfl fi_86_6 rfl w) ?_
    refine q_cons (q_take rfl (congrArg some hb73) ?_)
    refine q_val rfl rfl rfl (by intro w hw; exact x_load (.int .i64 ((thR (rs (s.clock + 1)) (tick1 s) k).clock : Int)) ag_2 rfl (hw.blk_at (i := 0) rfl) rfl) ?_
    refine q_cons (q_take rfl (congrArg some hb73) ?_)
    refine q_val rfl rfl rfl (by intro w hw; exact x_move (.pointer (some ⟨g, 0, none⟩)) rfl w) ?_
    refine q_cons (q_take rfl (congrArg some hb73) ?_)
    refine q_val rfl rfl rfl (by intro w hw; exact x_nilCheck (.pointer (some ⟨g, 0, none⟩)) rfl ⟨_, rfl⟩ w) ?_
    refine q_cons (q_take rfl (congrArg some hb73) ?_)
    refine q_val rfl rfl rfl (by intro w hw; exact x_fieldAddr 86 2 3 3 83 rfl fi_86_2 rfl w) ?_
    refine q_cons (q_take rfl (congrArg some hb73) ?_)
    refine q_val rfl rfl rfl (by intro w hw; exact x_load (.slice pp49 L51.length cc50) ag_83 rfl (hw.blk_at (i := 0) rfl) rfl) ?_
    refine q_cons (q_take rfl (congrArg some hb73) ?_)
    refine q_val rfl rfl rfl (by intro w hw; exact x_move (.int .i64 ((s.acked + k : Nat) : Int)) rfl w) ?_
    refine q_cons (q_take rfl (congrArg some hb73) ?_)
    refine q_val rfl rfl rfl (by intro w hw; exact x_indexAddr bk64 (off := 0) ((s.acked + k : Nat) : Int) 3 (0 + (s.acked + k) * 3) (by exact congrArg (fun z_ => Value.slice z_ L51.length cc50) ((fun (_ : 0 < 1) => hp66) (by omega))) rfl el_83 (by omega) rfl w) ?_
    refine q_cons (q_take rfl (congrArg some hb73) ?_)
    refine q_val rfl rfl rfl (by intro w hw; exact x_fieldAddr 101 2 2 (0 + (s.acked + k) * 3 + 2) 2 rfl fi_101_2 rfl w) ?_
    refine q_cons (q_take rfl (congrArg some hb73) ?_)
    refine q_val rfl rfl rfl (by intro w hw; exact x_load (.int .i64 ((L51.getD (s.acked + k) default).v.tm : Int)) ag_2 rfl (hw.blk_at (i := 1) rfl) (elem_cell (L := L51) (i := s.acked + k) bodCell_len (by rw [(rfl : L51.length = L51.length)]; exact h70) (by have hh : L51.length = L51.length := (rfl : L51.length = L51.length); omega) default 2 (by decide) _ rfl)) ?_
    refine q_cons (q_take rfl (congrArg some hb73) ?_)
    refine q_val rfl rfl rfl (by intro w hw; exact x_sub (((thR (rs (s.clock + 1)) (tick1 s) k).clock : Int) - ((L51.getD (s.acked + k) default).v.tm : Int)) rfl rfl (wi64 (by have h9 := ((endOk_thR (q := (rs (s.clock + 1))) (hv.tick1 hck).ok k).2.1 k (by omega)).1; rw [← refAt (a := s.acked) ‹_› ‹_› k] at h9; have hck9 : (thR (rs (s.clock + 1)) (tick1 s) k).clock = s.clock + 1 := rfl; omega)) w) ?_
    refine q_cons (q_take rfl (congrArg some hb73) ?_)
    by_cases hc74 : (4 : Int) ≤ ((thR (rs (s.clock + 1)) (tick1 s) k).clock : Int) - ((L51.getD (s.acked + k) default).v.tm : Int)
    ·skip
     refine q_val rfl rfl rfl (by intro w hw; exact x_geq true rfl rfl (dtrue hc74) w) ?_
     refine q_cons (q_val rfl rfl rfl (by intro w hw; exact x_pick_t (.bool true) (by exact congrArg Value.bool hb73) rfl w) ?_)
     refine q_nil ?_
     intro w75 H76
     refine g_true rfl ?_
     refine g_region ?_
     refine r_cons (s_move (.slice p D.length c) rfl rfl ?_)
     refine r_cons (s_move (.pointer (some ⟨g, 0, none⟩)) rfl rfl ?_)
     refine r_cons (s_move (.int .i64 ((s.acked + k : Nat) : Int)) rfl rfl ?_)
     have H77 := Row.shut2 (p := pp49) (n := L51.length) (c := cc50) (size := 3) (xs := L51.flatMap bodCell) H76 (i := 1) rfl hp66 h67 h68 h69 (by have hh : (cur65.toList.drop 0).take (L51.length * 3) = L51.flatMap bodCell := (by rw [(rfl : L51.length = L51.length)]; exact h70); have hk : L51.length = L51.length := (rfl : L51.length = L51.length); rw [hk] at hh; exact hh) (fun x_ hx_ => by obtain ⟨a_, _, ha_⟩ := List.mem_flatMap.1 hx_; exact one_bod a_ x_ ha_)
     have H78 : St W w75 (RfA g (thR (rs (s.clock + 1)) (tick1 s) k) :: Row 41 6 (.slice p D.length c) D.length (D.flatMap dgdCell) :: byA (D.map DgD.by) :: (F.set i emp)) := St.shut_ex ⟨⟨pp49, cc50, L51, pp52, cc53, E54, A55⟩, hL56, hA57, hH58⟩ (St.shut_star (ls := [_, _, _, _, _]) H77)
     refine r_cons (s_call [.pointer (some ⟨g, 0, none⟩), .int .i64 ((s.acked + k : Nat) : Int)] pl_56 rfl rfl (Rf_data g (thR (rs (s.clock + 1)) (tick1 s) k) (endOk_thR (hv.tick1 hck).ok k) k (by omega) (i := 0) rfl H78) ?_)
     rintro _ w81 ⟨pp79, cc80, rfl, H82⟩
     refine r_cons (s_buildSlice H82 6 1 (cs := #[.int .i64 ((dgOf (thR (rs (s.clock + 1)) (tick1 s) k) k ((thR (rs (s.clock + 1)) (tick1 s) k).l.getD k default).b).frm.v), .int .i64 ((dgOf (thR (rs (s.clock + 1)) (tick1 s) k) k ((thR (rs (s.clock + 1)) (tick1 s) k).l.getD k default).b).to_.v), .int .i64 ((dgOf (thR (rs (s.clock + 1)) (tick1 s) k) k ((thR (rs (s.clock + 1)) (tick1 s) k).l.getD k default).b).kind.v), .int .i64 ((dgOf (thR (rs (s.clock + 1)) (tick1 s) k) k ((thR (rs (s.clock + 1)) (tick1 s) k).l.getD k default).b).seq.v), .int .i64 ((dgOf (thR (rs (s.clock + 1)) (tick1 s) k) k ((thR (rs (s.clock + 1)) (tick1 s) k).l.getD k default).b).ack.v), .slice pp79 ((dgOf (thR (rs (s.clock + 1)) (tick1 s) k) k ((thR (rs (s.clock + 1)) (tick1 s) k).l.getD k default).b).body.length) cc80]) #[.int .i64 0, .int .i64 0, .int .i64 0, .int .i64 0, .int .i64 0, .slice none 0 0] el_34 ze_41 (by decide) (by decide) (by kernel_rfl) rfl ?_); intro bk83 w84 H85
     refine r_cons (s_append H85 3 rfl rfl rfl (rd_blk (H85.blk_at (i := 0) rfl) rfl (nbl rfl) (by simp [Value.oneCell'])) ap_34 (by decide) (by unfold maxLen; omega) (by omega) (n' := D.length + 1) (xs' := D.flatMap dgdCell ++ ([.int .i64 ((dgOf (thR (rs (s.clock + 1)) (tick1 s) k) k ((thR (rs (s.clock + 1)) (tick1 s) k).l.getD k default).b).frm.v), .int .i64 ((dgOf (thR (rs (s.clock + 1)) (tick1 s) k) k ((thR (rs (s.clock + 1)) (tick1 s) k).l.getD k default).b).to_.v), .int .i64 ((dgOf (thR (rs (s.clock + 1)) (tick1 s) k) k ((thR (rs (s.clock + 1)) (tick1 s) k).l.getD k default).b).kind.v), .int .i64 ((dgOf (thR (rs (s.clock + 1)) (tick1 s) k) k ((thR (rs (s.clock + 1)) (tick1 s) k).l.getD k default).b).seq.v), .int .i64 ((dgOf (thR (rs (s.clock + 1)) (tick1 s) k) k ((thR (rs (s.clock + 1)) (tick1 s) k).l.getD k default).b).ack.v), .slice pp79 ((dgOf (thR (rs (s.clock + 1)) (tick1 s) k) k ((thR (rs (s.clock + 1)) (tick1 s) k).l.getD k default).b).body.length) cc80] : List Value)) (by omega) (by first | rfl | simp) rfl ?_); intro vv86 w87 H88 hn89
     obtain ⟨pp90, cc91, rfl⟩ := Row.slice H88 (i := 3) rfl
     refine r_cons (s_assign (.slice pp90 (D.length + 1) cc91) rfl rfl ?_)
     refine r_nil ?_
     refine g_inBlock ?_
     refine g_region ?_
     refine r_cons (s_move (.int .i64 ((s.acked + k : Nat) : Int)) rfl rfl ?_)
     refine r_cons (s_add (((s.acked + k : Nat) : Int) + 1) rfl rfl (wi64 (by omega)) rfl ?_)
     refine r_cons (s_assign (.int .i64 (((s.acked + k : Nat) : Int) + 1)) rfl rfl ?_)
     refine r_nil ?_
     have hq92 : (rs (s.clock + 1)) ((tick1 s).l.getD k default) = true := by rw [← thR_at (rs (s.clock + 1)) (tick1 s) k, ← refAt (a := s.acked) hL56 hA57 k]; unfold rs; rw [hb73, Bool.true_and]; exact decide_eq_true (by have hx := hc74; first | omega | (simp only [thR, tick1] at hx ⊢; omega))
     have H93 : St W w87 (blk bk83 (.cells #[.int .i64 ((dgOf (thR (rs (s.clock + 1)) (tick1 s) k) k ((thR (rs (s.clock + 1)) (tick1 s) k).l.getD k default).b).frm.v), .int .i64 ((dgOf (thR (rs (s.clock + 1)) (tick1 s) k) k ((thR (rs (s.clock + 1)) (tick1 s) k).l.getD k default).b).to_.v), .int .i64 ((dgOf (thR (rs (s.clock + 1)) (tick1 s) k) k ((thR (rs (s.clock + 1)) (tick1 s) k).l.getD k default).b).kind.v), .int .i64 ((dgOf (thR (rs (s.clock + 1)) (tick1 s) k) k ((thR (rs (s.clock + 1)) (tick1 s) k).l.getD k default).b).seq.v), .int .i64 ((dgOf (thR (rs (s.clock + 1)) (tick1 s) k) k ((thR (rs (s.clock + 1)) (tick1 s) k).l.getD k default).b).ack.v), .slice pp79 ((dgOf (thR (rs (s.clock + 1)) (tick1 s) k) k ((thR (rs (s.clock + 1)) (tick1 s) k).l.getD k default).b).body.length) cc80] 41 (0, 0)) :: Im 1 (.slice pp79 ((dgOf (thR (rs (s.clock + 1)) (tick1 s) k) k ((thR (rs (s.clock + 1)) (tick1 s) k).l.getD k default).b).body.length) cc80) (((dgOf (thR (rs (s.clock + 1)) (tick1 s) k) k ((thR (rs (s.clock + 1)) (tick1 s) k).l.getD k default).b).body).length) (((dgOf (thR (rs (s.clock + 1)) (tick1 s) k) k ((thR (rs (s.clock + 1)) (tick1 s) k).l.getD k default).b).body).flatMap u8c) :: RfA g (thR (rs (s.clock + 1)) (tick1 s) (k + 1)) :: Row 41 6 (.slice pp90 (D.length + 1) cc91) (D.length + 1) (D.flatMap dgdCell ++ ([.int .i64 ((dgOf (thR (rs (s.clock + 1)) (tick1 s) k) k ((thR (rs (s.clock + 1)) (tick1 s) k).l.getD k default).b).frm.v), .int .i64 ((dgOf (thR (rs (s.clock + 1)) (tick1 s) k) k ((thR (rs (s.clock + 1)) (tick1 s) k).l.getD k default).b).to_.v), .int .i64 ((dgOf (thR (rs (s.clock + 1)) (tick1 s) k) k ((thR (rs (s.clock + 1)) (tick1 s) k).l.getD k default).b).kind.v), .int .i64 ((dgOf (thR (rs (s.clock + 1)) (tick1 s) k) k ((thR (rs (s.clock + 1)) (tick1 s) k).l.getD k default).b).seq.v), .int .i64 ((dgOf (thR (rs (s.clock + 1)) (tick1 s) k) k ((thR (rs (s.clock + 1)) (tick1 s) k).l.getD k default).b).ack.v), .slice pp79 ((dgOf (thR (rs (s.clock + 1)) (tick1 s) k) k ((thR (rs (s.clock + 1)) (tick1 s) k).l.getD k default).b).body.length) cc80] : List Value)) :: byA (D.map DgD.by) :: (F.set i emp)) := by rw [← thR_yes hq92]; exact H88
     have H94 : St W w87 (blk bk83 (.cells #[.int .i64 ((dgOf (thR (rs (s.clock + 1)) (tick1 s) k) k ((thR (rs (s.clock + 1)) (tick1 s) k).l.getD k default).b).frm.v), .int .i64 ((dgOf (thR (rs (s.clock + 1)) (tick1 s) k) k ((thR (rs (s.clock + 1)) (tick1 s) k).l.getD k default).b).to_.v), .int .i64 ((dgOf (thR (rs (s.clock + 1)) (tick1 s) k) k ((thR (rs (s.clock + 1)) (tick1 s) k).l.getD k default).b).kind.v), .int .i64 ((dgOf (thR (rs (s.clock + 1)) (tick1 s) k) k ((thR (rs (s.clock + 1)) (tick1 s) k).l.getD k default).b).seq.v), .int .i64 ((dgOf (thR (rs (s.clock + 1)) (tick1 s) k) k ((thR (rs (s.clock + 1)) (tick1 s) k).l.getD k default).b).ack.v), .slice pp79 ((dgOf (thR (rs (s.clock + 1)) (tick1 s) k) k ((thR (rs (s.clock + 1)) (tick1 s) k).l.getD k default).b).body.length) cc80] 41 (0, 0)) :: Im 1 (.slice pp79 ((dgOf (thR (rs (s.clock + 1)) (tick1 s) k) k ((thR (rs (s.clock + 1)) (tick1 s) k).l.getD k default).b).body.length) cc80) (((dgOf (thR (rs (s.clock + 1)) (tick1 s) k) k ((thR (rs (s.clock + 1)) (tick1 s) k).l.getD k default).b).body).length) (((dgOf (thR (rs (s.clock + 1)) (tick1 s) k) k ((thR (rs (s.clock + 1)) (tick1 s) k).l.getD k default).b).body).flatMap u8c) :: RfA g (thR (rs (s.clock + 1)) (tick1 s) (k + 1)) :: Row 41 6 (.slice pp90 ((D ++ [(⟨(dgOf (thR (rs (s.clock + 1)) (tick1 s) k) k ((thR (rs (s.clock + 1)) (tick1 s) k).l.getD k default).b), pp79, cc80⟩ : DgD)]).length) cc91) ((D ++ [(⟨(dgOf (thR (rs (s.clock + 1)) (tick1 s) k) k ((thR (rs (s.clock + 1)) (tick1 s) k).l.getD k default).b), pp79, cc80⟩ : DgD)]).length) ((D ++ [(⟨(dgOf (thR (rs (s.clock + 1)) (tick1 s) k) k ((thR (rs (s.clock + 1)) (tick1 s) k).l.getD k default).b), pp79, cc80⟩ : DgD)]).flatMap dgdCell) :: byA (D.map DgD.by) :: (F.set i emp)) := by rw [flat_app, flat_one, List.length_append]; exact H93
     have H95 := byA_add (x := (⟨(dgOf (thR (rs (s.clock + 1)) (tick1 s) k) k ((thR (rs (s.clock + 1)) (tick1 s) k).l.getD k default).b), pp79, cc80⟩ : DgD).by) H94 (i := 4) (j := 1) rfl rfl snoc_dg
     have H96 : St W w87 (Row 41 6 (.slice pp90 ((D ++ [(⟨(dgOf (thR (rs (s.clock + 1)) (tick1 s) k) k ((thR (rs (s.clock + 1)) (tick1 s) k).l.getD k default).b), pp79, cc80⟩ : DgD)]).length) cc91) ((D ++ [(⟨(dgOf (thR (rs (s.clock + 1)) (tick1 s) k) k ((thR (rs (s.clock + 1)) (tick1 s) k).l.getD k default).b), pp79, cc80⟩ : DgD)]).length) ((D ++ [(⟨(dgOf (thR (rs (s.clock + 1)) (tick1 s) k) k ((thR (rs (s.clock + 1)) (tick1 s) k).l.getD k default).b), pp79, cc80⟩ : DgD)]).flatMap dgdCell) :: byA ((D ++ [(⟨(dgOf (thR (rs (s.clock + 1)) (tick1 s) k) k ((thR (rs (s.clock + 1)) (tick1 s) k).l.getD k default).b), pp79, cc80⟩ : DgD)]).map DgD.by) :: RfA g (thR (rs (s.clock + 1)) (tick1 s) (k + 1)) :: (F.set i emp)) := ((((((H95.move 3 rfl).move 1 rfl).move 4 rfl).drop 3 rfl).drop 3 rfl).drop 3 rfl)
     exact nx44 (k + 1, (D ++ [(⟨(dgOf (thR (rs (s.clock + 1)) (tick1 s) k) k ((thR (rs (s.clock + 1)) (tick1 s) k).l.getD k default).b), pp79, cc80⟩ : DgD)]), pp90, cc91) _ _ ⟨(by omega), (by rw [List.map_append, hD, goT_yes hq92]; show _ ++ [dgOf (thR (rs (s.clock + 1)) (tick1 s) k) k ((thR (rs (s.clock + 1)) (tick1 s) k).l.getD k default).b] = _; rw [thR_at]; rfl), H96⟩ (by first | (dsimp only; omega) | omega) ⟨by first | rfl | exact vint (by omega), by first | rfl | exact vint (by omega), by first | rfl | (show Value.slice _ _ _ = _; rw [List.length_append]; rfl), by first | rfl | exact vint (by omega), trivial⟩
    ·skip
     refine q_val rfl rfl rfl (by intro w hw; exact x_geq false rfl rfl (dfalse hc74) w) ?_
     refine q_cons (q_val rfl rfl rfl (by intro w hw; exact x_pick_t (.bool false) (by exact congrArg Value.bool hb73) rfl w) ?_)
     refine q_nil ?_
     intro w97 H98
     refine g_false rfl ?_
     refine g_skip ?_
     refine g_inBlock ?_
     refine g_region ?_
     refine r_cons (s_move (.int .i64 ((s.acked + k : Nat) : Int)) rfl rfl ?_)
     refine r_cons (s_add (((s.acked + k : Nat) : Int) + 1) rfl rfl (wi64 (by omega)) rfl ?_)
     refine r_cons (s_assign (.int .i64 (((s.acked + k : Nat) : Int) + 1)) rfl rfl ?_)
     refine r_nil ?_
     have H99 := Row.shut2 (p := pp49) (n := L51.length) (c := cc50) (size := 3) (xs := L51.flatMap bodCell) H98 (i := 1) rfl hp66 h67 h68 h69 (by have hh : (cur65.toList.drop 0).take (L51.length * 3) = L51.flatMap bodCell := (by rw [(rfl : L51.length = L51.length)]; exact h70); have hk : L51.length = L51.length := (rfl : L51.length = L51.length); rw [hk] at hh; exact hh) (fun x_ hx_ => by obtain ⟨a_, _, ha_⟩ := List.mem_flatMap.1 hx_; exact one_bod a_ x_ ha_)
     have H100 : St W w97 (RfA g (thR (rs (s.clock + 1)) (tick1 s) k) :: Row 41 6 (.slice p D.length c) D.length (D.flatMap dgdCell) :: byA (D.map DgD.by) :: (F.set i emp)) := St.shut_ex ⟨⟨pp49, cc50, L51, pp52, cc53, E54, A55⟩, hL56, hA57, hH58⟩ (St.shut_star (ls := [_, _, _, _, _]) H99)
     have hq101 : (rs (s.clock + 1)) ((tick1 s).l.getD k default) = false := by rw [← thR_at (rs (s.clock + 1)) (tick1 s) k, ← refAt (a := s.acked) hL56 hA57 k]; unfold rs; rw [hb73, Bool.true_and]; exact decide_eq_false (by have hx := hc74; first | omega | (simp only [thR, tick1] at hx ⊢; omega))
     have H102 : St W w97 (RfA g (thR (rs (s.clock + 1)) (tick1 s) (k + 1)) :: Row 41 6 (.slice p D.length c) D.length (D.flatMap dgdCell) :: byA (D.map DgD.by) :: (F.set i emp)) := by rw [← thR_no hq101]; exact H100
     have H103 : St W w97 (Row 41 6 (.slice p D.length c) D.length (D.flatMap dgdCell) :: byA (D.map DgD.by) :: RfA g (thR (rs (s.clock + 1)) (tick1 s) (k + 1)) :: (F.set i emp)) := ((H102.move 2 rfl).move 2 rfl)
     exact nx44 (k + 1, D, p, c) _ _ ⟨(by omega), (by rw [goT_no hq101]; exact hD), H103⟩ (by first | (dsimp only; omega) | omega) ⟨by first | rfl | exact vint (by omega), by first | rfl | exact vint (by omega), by first | rfl | exact vint (by omega), by first | rfl | exact vint (by omega), trivial⟩
   ·have hb73 := eq_false_of_ne_true hb73
    refine q_cons (q_pass rfl (congrArg some hb73) rfl rfl rfl ?_)
    refine q_cons (q_pass rfl (congrArg some hb73) rfl rfl rfl ?_)
    refine q_cons (q_pass rfl (congrArg some hb73) rfl rfl rfl ?_)
    refine q_cons (q_pass rfl (congrArg some hb73) rfl rfl rfl ?_)
    refine q_cons (q_pass rfl (congrArg some hb73) rfl rfl rfl ?_)
    refine q_cons (q_pass rfl (congrArg some hb73) rfl rfl rfl ?_)
    refine q_cons (q_pass rfl (congrArg some hb73) rfl rfl rfl ?_)
    refine q_cons (q_pass rfl (congrArg some hb73) rfl rfl rfl ?_)
    refine q_cons (q_pass rfl (congrArg some hb73) rfl rfl rfl ?_)
    refine q_cons (q_pass rfl (congrArg some hb73) rfl rfl rfl ?_)
    refine q_cons (q_pass rfl (congrArg some hb73) rfl rfl rfl ?_)
    refine q_cons (q_pass rfl (congrArg some hb73) rfl rfl rfl ?_)
    refine q_cons (q_pass rfl (congrArg some hb73) rfl rfl rfl ?_)
    refine q_cons (q_pass rfl (congrArg some hb73) rfl rfl rfl ?_)
    refine q_cons (q_val rfl rfl rfl (by intro w hw; exact x_pick_f (.bool false) (by exact congrArg Value.bool hb73) rfl w) ?_)
    refine q_nil ?_
    intro w104 H105
    refine g_false rfl ?_
    refine g_skip ?_
    refine g_inBlock ?_
    refine g_region ?_
    refine r_cons (s_move (.int .i64 ((s.acked + k : Nat) : Int)) rfl rfl ?_)
    refine r_cons (s_add (((s.acked + k : Nat) : Int) + 1) rfl rfl (wi64 (by omega)) rfl ?_)
    refine r_cons (s_assign (.int .i64 (((s.acked + k : Nat) : Int) + 1)) rfl rfl ?_)
    refine r_nil ?_
    have H106 := Row.shut2 (p := pp49) (n := L51.length) (c := cc50) (size := 3) (xs := L51.flatMap bodCell) H105 (i := 1) rfl hp66 h67 h68 h69 (by have hh : (cur65.toList.drop 0).take (L51.length * 3) = L51.flatMap bodCell := (by rw [(rfl : L51.length = L51.length)]; exact h70); have hk : L51.length = L51.length := (rfl : L51.length = L51.length); rw [hk] at hh; exact hh) (fun x_ hx_ => by obtain ⟨a_, _, ha_⟩ := List.mem_flatMap.1 hx_; exact one_bod a_ x_ ha_)
    have H107 : St W w104 (RfA g (thR (rs (s.clock + 1)) (tick1 s) k) :: Row 41 6 (.slice p D.length c) D.length (D.flatMap dgdCell) :: byA (D.map DgD.by) :: (F.set i emp)) := St.shut_ex ⟨⟨pp49, cc50, L51, pp52, cc53, E54, A55⟩, hL56, hA57, hH58⟩ (St.shut_star (ls := [_, _, _, _, _]) H106)
    have hq108 : (rs (s.clock + 1)) ((tick1 s).l.getD k default) = false := by rw [← thR_at (rs (s.clock + 1)) (tick1 s) k, ← refAt (a := s.acked) hL56 hA57 k]; unfold rs; rw [hb73]; rfl
    have H109 : St W w104 (RfA g (thR (rs (s.clock + 1)) (tick1 s) (k + 1)) :: Row 41 6 (.slice p D.length c) D.length (D.flatMap dgdCell) :: byA (D.map DgD.by) :: (F.set i emp)) := by rw [← thR_no hq108]; exact H107
    have H110 : St W w104 (Row 41 6 (.slice p D.length c) D.length (D.flatMap dgdCell) :: byA (D.map DgD.by) :: RfA g (thR (rs (s.clock + 1)) (tick1 s) (k + 1)) :: (F.set i emp)) := ((H109.move 2 rfl).move 2 rfl)
    exact nx44 (k + 1, D, p, c) _ _ ⟨(by omega), (by rw [goT_no hq108]; exact hD), H110⟩ (by first | (dsimp only; omega) | omega) ⟨by first | rfl | exact vint (by omega), by first | rfl | exact vint (by omega), by first | rfl | exact vint (by omega), by first | rfl | exact vint (by omega), trivial⟩
  ·skip
   refine r_cons (s_lss false rfl rfl (dfalse hc47) rfl ?_)
   refine r_nil ?_
   refine g_false rfl ?_
   refine g_exit (by rfl) ?_
   refine g_seq ?_
   refine g_seq ?_
   refine g_region ?_
   have hk0 : k = winN (tick1 s) := by omega
   have hD0 : D.map DgD.d = thT (rs (s.clock + 1)) (tick1 s) := by rw [hD, hk0]; rfl
   have hD1 := lenOf hD0
   refine r_cons (s_move (.slice p D.length c) rfl rfl ?_)
   refine r_cons (s_len D.length rfl ⟨_, un_34⟩ rfl ?_)
   by_cases hc111 : (0 : Int) < (D.length : Int)
   ·skip
    refine r_cons (s_gtr true rfl rfl (dtrue hc111) rfl ?_)
    refine r_nil ?_
    refine g_true rfl ?_
    refine g_region ?_
    refine r_cons (s_move (.pointer (some ⟨g, 0, none⟩)) rfl rfl ?_)
    refine r_cons (s_nilCheck (.pointer (some ⟨g, 0, none⟩)) rfl ⟨_, rfl⟩ rfl ?_)
    refine r_cons (s_fieldAddr 86 7 8 8 4 rfl fi_86_7 rfl rfl ?_)
    have H112 := H46.move 2 rfl
    obtain ⟨⟨⟨pp113, cc114, L115, pp116, cc117, E118, A119⟩, hL120, hA121, hH122⟩, H123⟩ := St.open_ex H112
    have H124 := St.open_star H123
    change L115.map BodD.v = A119 ++ (thR (rs (s.clock + 1)) (tick1 s) k).l at hL120; change A119.length = (thR (rs (s.clock + 1)) (tick1 s) k).acked at hA121; change HR (thR (rs (s.clock + 1)) (tick1 s) k).held (mapB E118) at hH122
    have hl125 := refLen hL120 hA121; have hh126 : E118.length = (thR (rs (s.clock + 1)) (tick1 s) k).held.length := by have h9 := hH122.len; rw [mapB_len rfl] at h9; exact h9
    have H127 : St W w45 (blk g (rfC (thR (rs (s.clock + 1)) (tick1 s) k) (.slice pp113 L115.length cc114) (.slice pp116 E118.length cc117)) :: Row 101 3 (.slice pp113 L115.length cc114) L115.length (L115.flatMap bodCell) :: byA (L115.map BodD.by) :: Row 105 2 (.slice pp116 E118.length cc117) E118.length (E118.flatMap hlCell) :: byA (mby E118) :: Row 41 6 (.slice p D.length c) D.length (D.flatMap dgdCell) :: byA (D.map DgD.by) :: (F.set i emp)) := H124
    refine r_cons (s_store H127 0 (.bool false) rfl rfl rfl sz_4 rfl (nbl rfl) rfl (cs' := #[.int .i64 ((thR (rs (s.clock + 1)) (tick1 s) k).frm.v), .int .i64 ((thR (rs (s.clock + 1)) (tick1 s) k).to_.v), .int .i64 ((thR (rs (s.clock + 1)) (tick1 s) k).slide : Int), .slice pp113 L115.length cc114, .int .i64 ((thR (rs (s.clock + 1)) (tick1 s) k).acked : Int), .int .i64 ((i64N (thR (rs (s.clock + 1)) (tick1 s) k).came).v), .slice pp116 E118.length cc117, .int .i64 ((thR (rs (s.clock + 1)) (tick1 s) k).clock : Int), .bool false]) rfl ?_); intro w128 H129
    refine r_nil ?_
    refine g_seq ?_
    refine g_region ?_
    have hs0 : ¬ (thT (rs (s.clock + 1)) (tick1 s)).length = 0 := by omega
    have H130 : St W w128 (RfA g ({ thR (rs (s.clock + 1)) (tick1 s) k with owes := false } : EndV) :: Row 41 6 (.slice p D.length c) D.length (D.flatMap dgdCell) :: byA (D.map DgD.by) :: (F.set i emp)) := St.shut_ex ⟨⟨pp113, cc114, L115, pp116, cc117, E118, A119⟩, hL120, hA121, hH122⟩ (St.shut_star (ls := [_, _, _, _, _]) H129)
    have H131 : St W w128 (RfA g (tick2 s) :: Row 41 6 (.slice p D.length c) D.length (D.flatMap dgdCell) :: byA (D.map DgD.by) :: (F.set i emp)) := by rw [show tick2 s = thS (rs (s.clock + 1)) (tick1 s) from rfl, ← thR_some hs0, ← hk0]; exact H130
    refine r_cons (s_move (.slice p D.length c) rfl rfl ?_)
    refine r_cons (s_move (.pointer (some ⟨g, 0, none⟩)) rfl rfl ?_)
    refine r_cons (s_call [.pointer (some ⟨g, 0, none⟩)] pl_39 rfl rfl (Rf_Out g (tick2 s) ((hv.tick1 hck).th rs_sent) (i := 0) rfl H131) ?_)
    rintro _ w134 ⟨pp132, cc133, rfl, H135⟩
    have hn2 := outT_len (tick2 s) ((hv.tick1 hck).th rs_sent).ok; have hn1 := thT_len (rs (s.clock + 1)) (tick1 s) (hv.tick1 hck).ok
    have H136 := H135.move 0 rfl
    obtain ⟨⟨D137, hD138⟩, H139⟩ := St.open_ex H136
    have H140 := St.open_star H139
    change D137.map DgD.d = (outT (tick2 s)) at hD138
    have H141 : St W w134 (Row 41 6 (.slice pp132 ((outT (tick2 s)).length) cc133) ((outT (tick2 s)).length) (D137.flatMap dgdCell) :: byA (D137.map DgD.by) :: RfA g (outS (tick2 s)) :: Row 41 6 (.slice p D.length c) D.length (D.flatMap dgdCell) :: byA (D.map DgD.by) :: (F.set i emp)) := H140
    refine r_cons (s_append H141 3 rfl rfl rfl (Row.rd H141 (i := 0) rfl) ap_34 (by decide) (by unfold maxLen; omega) (by omega) (n' := D.length + (outT (tick2 s)).length) (xs' := D.flatMap dgdCell ++ D137.flatMap dgdCell) (by omega) (by first | rfl | simp) rfl ?_); intro vv142 w143 H144 hn145
    obtain ⟨pp146, cc147, rfl⟩ := Row.slice H144 (i := 3) rfl
    refine r_cons (s_assign (.slice pp146 (D.length + (outT (tick2 s)).length) cc147) rfl rfl ?_)
    refine r_nil ?_
    refine g_ret' [.slice pp146 (D.length + (outT (tick2 s)).length) cc147] Try.func40 Try.results40 ⟨rfl, trivial⟩ ?_
    have H148 := byA_app (M := (D ++ D137).map DgD.by) H144 (i := 4) (j := 1) rfl rfl app_dg
    have H149 : St W w143 (Row 41 6 (.slice pp146 (D.length + (outT (tick2 s)).length) cc147) (D.length + (outT (tick2 s)).length) (D.flatMap dgdCell ++ D137.flatMap dgdCell) :: byA ((D ++ D137).map DgD.by) :: Row 41 6 (.slice pp132 ((outT (tick2 s)).length) cc133) ((outT (tick2 s)).length) (D137.flatMap dgdCell) :: byA (D137.map DgD.by) :: RfA g (outS (tick2 s)) :: byA (D.map DgD.by) :: (F.set i emp)) := (H148.move 4 rfl)
    have hn150 : (tickT s).length = D.length + (outT (tick2 s)).length := (by rw [show (tickT s).length = (thT (rs (s.clock + 1)) (tick1 s)).length + (outT (tick2 s)).length from List.length_append .., ← hD1])
    have H151 : St W w143 (Row 41 6 (.slice pp146 ((tickT s).length) cc147) ((tickT s).length) ((D ++ D137).flatMap dgdCell) :: byA ((D ++ D137).map DgD.by) :: Row 41 6 (.slice pp132 ((outT (tick2 s)).length) cc133) ((outT (tick2 s)).length) (D137.flatMap dgdCell) :: byA (D137.map DgD.by) :: RfA g (outS (tick2 s)) :: byA (D.map DgD.by) :: (F.set i emp)) := by rw [hn150]; rw [flat_app]; exact H149
    have H152 : St W w143 (DgsA pp146 cc147 (tickT s) :: Row 41 6 (.slice pp132 ((outT (tick2 s)).length) cc133) ((outT (tick2 s)).length) (D137.flatMap dgdCell) :: byA (D137.map DgD.by) :: RfA g (outS (tick2 s)) :: byA (D.map DgD.by) :: (F.set i emp)) := St.shut_ex ⟨(D ++ D137), (show (D ++ D137).map DgD.d = tickT s from app_map hD0 hD138)⟩ (St.shut_star (ls := [_, _]) H151)
    have H153 : St W w143 (DgsA pp146 cc147 (tickT s) :: Row 41 6 (.slice pp132 ((outT (tick2 s)).length) cc133) ((outT (tick2 s)).length) (D137.flatMap dgdCell) :: byA (D137.map DgD.by) :: RfA g (tickS s) :: byA (D.map DgD.by) :: (F.set i emp)) := H152
    have H154 : St W w143 (DgsA pp146 cc147 (tickT s) :: RfA g (tickS s) :: (F.set i emp)) := (((((H153.move 3 rfl).move 1 rfl).drop 2 rfl).drop 2 rfl).drop 2 rfl)
    have H155 : St W w143 (RfA g (tickS s) :: (DgsA pp146 cc147 (tickT s) :: F).set (i + 1) emp) := (H154.move 1 rfl)
    exact ⟨_, _, by rw [hn150]; rfl, St.back (i := i + 1) (by exact hi) H155⟩
   ·skip
    refine r_cons (s_gtr false rfl rfl (dfalse hc111) rfl ?_)
    refine r_nil ?_
    refine g_false rfl ?_
    refine g_skip ?_
    refine g_seq ?_
    refine g_region ?_
    have hs0 : (thT (rs (s.clock + 1)) (tick1 s)).length = 0 := by omega
    have H156 : St W w45 (Row 41 6 (.slice p D.length c) D.length (D.flatMap dgdCell) :: byA (D.map DgD.by) :: RfA g (tick2 s) :: (F.set i emp)) := by rw [show tick2 s = thS (rs (s.clock + 1)) (tick1 s) from rfl, ← thR_none hs0, ← hk0]; exact H46
    refine r_cons (s_move (.slice p D.length c) rfl rfl ?_)
    refine r_cons (s_move (.pointer (some ⟨g, 0, none⟩)) rfl rfl ?_)
    refine r_cons (s_call [.pointer (some ⟨g, 0, none⟩)] pl_39 rfl rfl (Rf_Out g (tick2 s) ((hv.tick1 hck).th rs_sent) (i := 2) rfl H156) ?_)
    rintro _ w159 ⟨pp157, cc158, rfl, H160⟩
    have hn2 := outT_len (tick2 s) ((hv.tick1 hck).th rs_sent).ok; have hn1 := thT_len (rs (s.clock + 1)) (tick1 s) (hv.tick1 hck).ok
    have H161 := H160.move 0 rfl
    obtain ⟨⟨D162, hD163⟩, H164⟩ := St.open_ex H161
    have H165 := St.open_star H164
    change D162.map DgD.d = (outT (tick2 s)) at hD163
    have H166 : St W w159 (Row 41 6 (.slice pp157 ((outT (tick2 s)).length) cc158) ((outT (tick2 s)).length) (D162.flatMap dgdCell) :: byA (D162.map DgD.by) :: Row 41 6 (.slice p D.length c) D.length (D.flatMap dgdCell) :: byA (D.map DgD.by) :: RfA g (outS (tick2 s)) :: (F.set i emp)) := H165
    refine r_cons (s_append H166 2 rfl rfl rfl (Row.rd H166 (i := 0) rfl) ap_34 (by decide) (by unfold maxLen; omega) (by omega) (n' := D.length + (outT (tick2 s)).length) (xs' := D.flatMap dgdCell ++ D162.flatMap dgdCell) (by omega) (by first | rfl | simp) rfl ?_); intro vv167 w168 H169 hn170
    obtain ⟨pp171, cc172, rfl⟩ := Row.slice H169 (i := 2) rfl
    refine r_cons (s_assign (.slice pp171 (D.length + (outT (tick2 s)).length) cc172) rfl rfl ?_)
    refine r_nil ?_
    refine g_ret' [.slice pp171 (D.length + (outT (tick2 s)).length) cc172] Try.func40 Try.results40 ⟨rfl, trivial⟩ ?_
    have H173 := byA_app (M := (D ++ D162).map DgD.by) H169 (i := 3) (j := 1) rfl rfl app_dg
    have H174 : St W w168 (Row 41 6 (.slice pp171 (D.length + (outT (tick2 s)).length) cc172) (D.length + (outT (tick2 s)).length) (D.flatMap dgdCell ++ D162.flatMap dgdCell) :: byA ((D ++ D162).map DgD.by) :: Row 41 6 (.slice pp157 ((outT (tick2 s)).length) cc158) ((outT (tick2 s)).length) (D162.flatMap dgdCell) :: byA (D162.map DgD.by) :: byA (D.map DgD.by) :: RfA g (outS (tick2 s)) :: (F.set i emp)) := (H173.move 3 rfl)
    have hn175 : (tickT s).length = D.length + (outT (tick2 s)).length := (by rw [show (tickT s).length = (thT (rs (s.clock + 1)) (tick1 s)).length + (outT (tick2 s)).length from List.length_append .., ← hD1])
    have H176 : St W w168 (Row 41 6 (.slice pp171 ((tickT s).length) cc172) ((tickT s).length) ((D ++ D162).flatMap dgdCell) :: byA ((D ++ D162).map DgD.by) :: Row 41 6 (.slice pp157 ((outT (tick2 s)).length) cc158) ((outT (tick2 s)).length) (D162.flatMap dgdCell) :: byA (D162.map DgD.by) :: byA (D.map DgD.by) :: RfA g (outS (tick2 s)) :: (F.set i emp)) := by rw [hn175]; rw [flat_app]; exact H174
    have H177 : St W w168 (DgsA pp171 cc172 (tickT s) :: Row 41 6 (.slice pp157 ((outT (tick2 s)).length) cc158) ((outT (tick2 s)).length) (D162.flatMap dgdCell) :: byA (D162.map DgD.by) :: byA (D.map DgD.by) :: RfA g (outS (tick2 s)) :: (F.set i emp)) := St.shut_ex ⟨(D ++ D162), (show (D ++ D162).map DgD.d = tickT s from app_map hD0 hD163)⟩ (St.shut_star (ls := [_, _]) H176)
    have H178 : St W w168 (DgsA pp171 cc172 (tickT s) :: Row 41 6 (.slice pp157 ((outT (tick2 s)).length) cc158) ((outT (tick2 s)).length) (D162.flatMap dgdCell) :: byA (D162.map DgD.by) :: byA (D.map DgD.by) :: RfA g (tickS s) :: (F.set i emp)) := H177
    have H179 : St W w168 (DgsA pp171 cc172 (tickT s) :: RfA g (tickS s) :: (F.set i emp)) := (((((H178.move 4 rfl).move 1 rfl).drop 2 rfl).drop 2 rfl).drop 2 rfl)
    have H180 : St W w168 (RfA g (tickS s) :: (DgsA pp171 cc172 (tickT s) :: F).set (i + 1) emp) := (H179.move 1 rfl)
    exact ⟨_, _, by rw [hn175]; rfl, St.back (i := i + 1) (by exact hi) H180⟩
end Sl
