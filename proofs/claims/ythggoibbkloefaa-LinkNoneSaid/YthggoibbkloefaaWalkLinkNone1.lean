/- Walks of the program's functions. Printed by a program of this claim's author. No condition. -/
import Derived.Test.YthggoibbkloefaaSlBF
import Derived.Test.YthggoibbkloefaaSlQ
import Derived.Test.YthggoibbkloefaaSlG
import Derived.Test.YthggoibbkloefaaSlBB
import Derived.Test.YthggoibbkloefaaSlAB
import Derived.Test.YthggoibbkloefaaSlDC
import Derived.Test.YthggoibbkloefaaSlDJ
import Derived.Test.YthggoibbkloefaaSlEC
import Derived.Test.YthggoibbkloefaaSlBA
import Derived.Test.YthggoibbkloefaaSlEE
import Derived.Test.YthggoibbkloefaaSlEF
import Derived.Test.YthggoibbkloefaaProg
import Derived.Test.YthggoibbkloefaaWalkLinkNone0
namespace Sl
open _root_.Go _root_.Go.RowKit _root_.Go.Proofs
set_option linter.all false
set_option maxHeartbeats 4000000 in
set_option maxRecDepth 100000 in
theorem Lk_Out {W w : World} {F : List Atom} (g : Nat) (s : EndV) (hok : endOk s)  {i : Nat} (hi : F[i]? = some (LkA g s)) (H : St W w F) : Calls Try.prog 23 #[.pointer (some ⟨g, 0, none⟩)] w (Ret fun v w' => ∃ p c, v = .slice p ((outT s).length) c ∧ St W w' (DgsA p c (outT s) :: F.set i (LkA g (outS s)))) := by
 have H0 := H.front hi
 obtain ⟨o1, o2, o3, o4, o5, o6, o8⟩ := id hok; have o7 := i64N_0 (Nat.le_trans o4 (by decide))
 refine calls_of_go (n := 39) Try.func23 rfl Try.ntmps23 rfl ?_
 refine g_seq ?_
 refine g_region ?_
 refine r_cons (s_assign (.slice none 0 0) rfl rfl ?_)
 refine r_nil ?_
 refine g_seq ?_
 refine g_seq ?_
 refine g_region ?_
 refine r_cons (s_move (.pointer (some ⟨g, 0, none⟩)) rfl rfl ?_)
 refine r_cons (s_call [.pointer (some ⟨g, 0, none⟩)] pl_31 rfl rfl (Lk_none g s hok (i := 0) rfl H0) ?_)
 rintro _ w1 ⟨rfl, H2⟩
 refine r_nil ?_
 refine g_false rfl ?_
 refine g_skip ?_
 refine g_seq ?_
 refine g_region ?_
 refine r_cons (s_move (.pointer (some ⟨g, 0, none⟩)) rfl rfl ?_)
 refine r_cons (s_call [.pointer (some ⟨g, 0, none⟩), .func (.func 49) #[] #[]] pl_32 rfl rfl (these_1 g s hok H2) ?_)
 rintro _ w5 ⟨pp3, cc4, rfl, H6⟩
 refine r_cons (s_assign (.slice pp3 ((thT ns s).length) cc4) rfl rfl ?_)
 refine r_nil ?_
 refine g_seq ?_
 refine g_seq ?_
 refine g_region ?_
 refine r_cons (s_move (.slice pp3 ((thT ns s).length) cc4) rfl rfl ?_)
 refine r_cons (s_len ((thT ns s).length) rfl ⟨_, un_34⟩ rfl ?_)
 by_cases hc7 : ((thT ns s).length : Int) = 0
 ·skip
  refine r_cons (s_eql true rfl rfl (dtrue hc7) rfl ?_)
  refine r_cons (s_move (.bool true) rfl rfl ?_)
  refine r_cons (r_take rfl rfl ?_)
  refine s_move (.pointer (some ⟨g, 0, none⟩)) rfl rfl ?_
  refine r_cons (r_take rfl rfl ?_)
  refine s_nilCheck (.pointer (some ⟨g, 0, none⟩)) rfl ⟨_, rfl⟩ rfl ?_
  refine r_cons (r_take rfl rfl ?_)
  refine s_fieldAddr 62 7 8 8 4 rfl fi_62_7 rfl rfl ?_
  refine r_cons (r_take rfl rfl ?_)
  have H8 := H6.move 1 rfl
  obtain ⟨⟨⟨m9, pp10, cc11, L12, E13⟩, hL14, hE15⟩, H16⟩ := St.open_ex H8
  have H17 := St.open_star H16
  change L12.map BodD.v = (thS ns s).l at hL14; change mapB E13 = (thS ns s).held at hE15
  have hl18 := lenOf hL14; have he19 := mapB_len hE15
  have H20 : St W w5 (blk g (lkC (thS ns s) m9 (.slice pp10 L12.length cc11)) :: Row 79 3 (.slice pp10 L12.length cc11) L12.length (L12.flatMap bodCell) :: byA (L12.map BodD.by) :: MapA m9 (ents (kI .i64) evD E13) :: byA (mby E13) :: DgsA pp3 cc4 (thT ns s) :: (F.set i emp)) := H17
  refine s_load (.bool ((thS ns s).owes)) ag_4 rfl (H20.blk_at (i := 0) rfl) rfl rfl ?_
  refine r_cons (s_pick_t (.bool ((thS ns s).owes)) rfl rfl rfl ?_)
  refine r_nil ?_
  by_cases hb21 : ((thS ns s).owes) = true
  ·skip
   refine g_true (congrArg Value.bool hb21) ?_
   refine g_seq ?_
   refine g_region ?_
   refine r_cons (s_move (.pointer (some ⟨g, 0, none⟩)) rfl rfl ?_)
   refine r_cons (s_nilCheck (.pointer (some ⟨g, 0, none⟩)) rfl ⟨_, rfl⟩ rfl ?_)
   refine r_cons (s_fieldAddr 62 7 8 8 4 rfl fi_62_7 rfl rfl ?_)
   refine r_cons (s_store H20 0 (.bool false) rfl rfl rfl sz_4 rfl (nbl rfl) rfl (cs' := #[.int .i64 ((thS ns s).frm.v), .int .i64 ((thS ns s).to_.v), .int .i64 ((thS ns s).slide : Int), .slice pp10 L12.length cc11, .int .i64 ((thS ns s).acked : Int), .int .i64 ((i64N (thS ns s).came).v), .map (some m9), .int .i64 ((thS ns s).clock : Int), .bool false]) rfl ?_); intro w22 H23
   refine r_nil ?_
   have H24 := H23.move 5 rfl
   obtain ⟨⟨D25, hD26⟩, H27⟩ := St.open_ex H24
   have H28 := St.open_star H27
   change D25.map DgD.d = (thT ns s) at hD26
   have H29 : St W w22 (Row 41 6 (.slice pp3 ((thT ns s).length) cc4) ((thT ns s).length) (D25.flatMap dgdCell) :: byA (D25.map DgD.by) :: blk g (.cells #[.int .i64 ((thS ns s).frm.v), .int .i64 ((thS ns s).to_.v), .int .i64 ((thS ns s).slide : Int), .slice pp10 L12.length cc11, .int .i64 ((thS ns s).acked : Int), .int .i64 ((i64N (thS ns s).came).v), .map (some m9), .int .i64 ((thS ns s).clock : Int), .bool false] 62 (0, 0)) :: Row 79 3 (.slice pp10 L12.length cc11) L12.length (L12.flatMap bodCell) :: byA (L12.map BodD.by) :: MapA m9 (ents (kI .i64) evD E13) :: byA (mby E13) :: (F.set i emp)) := H28
   have hT0 : (thT ns s).length = 0 := by omega
   have hT1 : D25 = [] := lenNil hD26 hT0
   have hO1 := outT_yes hT0 (by assumption)
   have H30 : St W w22 (byA (D25.map DgD.by) :: blk g (.cells #[.int .i64 ((thS ns s).frm.v), .int .i64 ((thS ns s).to_.v), .int .i64 ((thS ns s).slide : Int), .slice pp10 L12.length cc11, .int .i64 ((thS ns s).acked : Int), .int .i64 ((i64N (thS ns s).came).v), .map (some m9), .int .i64 ((thS ns s).clock : Int), .bool false] 62 (0, 0)) :: Row 79 3 (.slice pp10 L12.length cc11) L12.length (L12.flatMap bodCell) :: byA (L12.map BodD.by) :: MapA m9 (ents (kI .i64) evD E13) :: byA (mby E13) :: Row 41 6 (.slice pp3 ((thT ns s).length) cc4) ((thT ns s).length) (D25.flatMap dgdCell) :: (F.set i emp)) := ((((((H29.move 6 rfl).move 6 rfl).move 6 rfl).move 6 rfl).move 6 rfl).move 6 rfl)
   refine g_mix (fun t_ w => St W w (byA (D25.map DgD.by) :: blk g (.cells #[.int .i64 ((thS ns s).frm.v), .int .i64 ((thS ns s).to_.v), .int .i64 ((thS ns s).slide : Int), .slice pp10 L12.length cc11, .int .i64 ((thS ns s).acked : Int), .int .i64 ((i64N (thS ns s).came).v), .map (some m9), .int .i64 ((thS ns s).clock : Int), .bool false] 62 (0, 0)) :: Row 79 3 (.slice pp10 L12.length cc11) L12.length (L12.flatMap bodCell) :: byA (L12.map BodD.by) :: MapA m9 (ents (kI .i64) evD E13) :: byA (mby E13) :: t_)) (Row 41 6 (.slice pp3 ((thT ns s).length) cc4) ((thT ns s).length) (D25.flatMap dgdCell) :: (F.set i emp)) mixed 19 rfl H30.drew ?_
   refine f_first 0 (listed' := #[true, false, false, false, false, false, false, false, false, false, false, false, false, false, false, false, false, false, false]) rfl (by kernel_rfl) (by kernel_rfl) (by kernel_rfl) rfl ?_
   refine f_val rfl rfl rfl (by intro _ w _; exact x_move (.slice pp3 ((thT ns s).length) cc4) rfl w) ?_
   refine f_first 1 (listed' := #[true, true, false, false, false, false, false, false, false, false, false, false, false, false, false, false, false, false, false]) rfl (by kernel_rfl) (by kernel_rfl) (by kernel_rfl) rfl ?_
   refine f_val rfl rfl rfl (by intro _ w _; exact x_move (.pointer (some ⟨g, 0, none⟩)) rfl w) ?_
   refine f_first 2 (listed' := #[true, true, true, false, false, false, false, false, false, false, false, false, false, false, false, false, false, false, false]) rfl (by kernel_rfl) (by kernel_rfl) (by kernel_rfl) rfl ?_
   refine f_val rfl rfl rfl (by intro t_ w hw; exact x_nilCheck (.pointer (some ⟨g, 0, none⟩)) rfl ⟨_, rfl⟩ w) ?_
   refine f_first 3 (listed' := #[true, true, true, true, false, false, false, false, false, false, false, false, false, false, false, false, false, false, false]) rfl (by kernel_rfl) (by kernel_rfl) (by kernel_rfl) rfl ?_
   refine f_val rfl rfl rfl (by intro t_ w hw; exact x_fieldAddr 62 0 0 0 46 rfl fi_62_0 rfl w) ?_
   refine f_first 4 (listed' := #[true, true, true, true, true, false, false, false, false, false, false, false, false, false, false, false, false, false, false]) rfl (by kernel_rfl) (by kernel_rfl) (by kernel_rfl) rfl ?_
   refine f_val rfl rfl rfl (by intro t_ w hw; exact x_fieldAddr 46 0 0 0 3 rfl fi_46_0 rfl w) ?_
   refine f_first 5 (listed' := #[true, true, true, true, true, true, false, false, false, false, false, false, false, false, false, false, false, false, false]) rfl (by kernel_rfl) (by kernel_rfl) (by kernel_rfl) rfl ?_
   refine f_val rfl rfl rfl (by intro t_ w hw; exact x_load (.int .i64 ((thS ns s).frm.v)) ag_3 rfl (hw.blk_at (i := 1) rfl) rfl) ?_
   refine f_first 6 (listed' := #[true, true, true, true, true, true, true, false, false, false, false, false, false, false, false, false, false, false, false]) rfl (by kernel_rfl) (by kernel_rfl) (by kernel_rfl) rfl ?_
   refine f_val rfl rfl rfl (by intro _ w _; exact x_move (.pointer (some ⟨g, 0, none⟩)) rfl w) ?_
   refine f_first 7 (listed' := #[true, true, true, true, true, true, true, true, false, false, false, false, false, false, false, false, false, false, false]) rfl (by kernel_rfl) (by kernel_rfl) (by kernel_rfl) rfl ?_
   refine f_val rfl rfl rfl (by intro t_ w hw; exact x_nilCheck (.pointer (some ⟨g, 0, none⟩)) rfl ⟨_, rfl⟩ w) ?_
   refine f_first 8 (listed' := #[true, true, true, true, true, true, true, true, true, false, false, false, false, false, false, false, false, false, false]) rfl (by kernel_rfl) (by kernel_rfl) (by kernel_rfl) rfl ?_
   refine f_val rfl rfl rfl (by intro t_ w hw; exact x_fieldAddr 62 0 0 0 46 rfl fi_62_0 rfl w) ?_
   refine f_first 9 (listed' := #[true, true, true, true, true, true, true, true, true, true, false, false, false, false, false, false, false, false, false]) rfl (by kernel_rfl) (by kernel_rfl) (by kernel_rfl) rfl ?_
   refine f_val rfl rfl rfl (by intro t_ w hw; exact x_fieldAddr 46 1 1 1 3 rfl fi_46_1 rfl w) ?_
   refine f_first 10 (listed' := #[true, true, true, true, true, true, true, true, true, true, true, false, false, false, false, false, false, false, false]) rfl (by kernel_rfl) (by kernel_rfl) (by kernel_rfl) rfl ?_
   refine f_val rfl rfl rfl (by intro t_ w hw; exact x_load (.int .i64 ((thS ns s).to_.v)) ag_3 rfl (hw.blk_at (i := 1) rfl) rfl) ?_
   refine f_first 11 (listed' := #[true, true, true, true, true, true, true, true, true, true, true, true, false, false, false, false, false, false, false]) rfl (by kernel_rfl) (by kernel_rfl) (by kernel_rfl) rfl ?_
   refine f_val rfl rfl rfl (by intro _ w _; exact x_move (.pointer (some ⟨g, 0, none⟩)) rfl w) ?_
   refine f_first 12 (listed' := #[true, true, true, true, true, true, true, true, true, true, true, true, true, false, false, false, false, false, false]) rfl (by kernel_rfl) (by kernel_rfl) (by kernel_rfl) rfl ?_
   refine f_val rfl rfl rfl (by intro t_ w hw; exact x_nilCheck (.pointer (some ⟨g, 0, none⟩)) rfl ⟨_, rfl⟩ w) ?_
   refine f_first 13 (listed' := #[true, true, true, true, true, true, true, true, true, true, true, true, true, true, false, false, false, false, false]) rfl (by kernel_rfl) (by kernel_rfl) (by kernel_rfl) rfl ?_
   refine f_val rfl rfl rfl (by intro t_ w hw; exact x_fieldAddr 62 4 5 5 2 rfl fi_62_4 rfl w) ?_
   refine f_first 14 (listed' := #[true, true, true, true, true, true, true, true, true, true, true, true, true, true, true, false, false, false, false]) rfl (by kernel_rfl) (by kernel_rfl) (by kernel_rfl) rfl ?_
   refine f_val rfl rfl rfl (by intro t_ w hw; exact x_load (.int .i64 ((i64N (thS ns s).came).v)) ag_2 rfl (hw.blk_at (i := 1) rfl) rfl) ?_
   refine f_first 15 (listed' := #[true, true, true, true, true, true, true, true, true, true, true, true, true, true, true, true, false, false, false]) rfl (by kernel_rfl) (by kernel_rfl) (by kernel_rfl) rfl ?_
   refine f_val rfl rfl rfl (by intro t_ w hw; exact x_build (cs := #[.int .i64 ((thS ns s).frm.v), .int .i64 ((thS ns s).to_.v), .int .i64 2, .int .i64 0, .int .i64 ((i64N (thS ns s).came).v), .slice none 0 0]) (by kernel_rfl) w) ?_
   refine f_all (rs := [16]) (by kernel_rfl) (by simp) ?_
   refine a_cons ⟨_, rfl, ?_⟩ (fun x hx => absurd hx (by simp))
   intro w31 H32
   try dsimp only at H32
   refine s_buildSlice H32 6 1 (cs := #[.int .i64 ((thS ns s).frm.v), .int .i64 ((thS ns s).to_.v), .int .i64 2, .int .i64 0, .int .i64 ((i64N (thS ns s).came).v), .slice none 0 0]) #[.int .i64 0, .int .i64 0, .int .i64 0, .int .i64 0, .int .i64 0, .slice none 0 0] el_34 ze_41 (by decide) (by decide) (by kernel_rfl) rfl ?_; intro bk33 w34 H35
   have H36 : St W w34 (byA (D25.map DgD.by) :: blk g (.cells #[.int .i64 ((thS ns s).frm.v), .int .i64 ((thS ns s).to_.v), .int .i64 ((thS ns s).slide : Int), .slice pp10 L12.length cc11, .int .i64 ((thS ns s).acked : Int), .int .i64 ((i64N (thS ns s).came).v), .map (some m9), .int .i64 ((thS ns s).clock : Int), .bool false] 62 (0, 0)) :: Row 79 3 (.slice pp10 L12.length cc11) L12.length (L12.flatMap bodCell) :: byA (L12.map BodD.by) :: MapA m9 (ents (kI .i64) evD E13) :: byA (mby E13) :: blk bk33 (.cells #[.int .i64 ((thS ns s).frm.v), .int .i64 ((thS ns s).to_.v), .int .i64 2, .int .i64 0, .int .i64 ((i64N (thS ns s).came).v), .slice none 0 0] 41 (0, 0)) :: Row 41 6 (.slice pp3 ((thT ns s).length) cc4) ((thT ns s).length) (D25.flatMap dgdCell) :: (F.set i emp)) := ((((((((H35.move 7 rfl).move 1 rfl).move 7 rfl).move 7 rfl).move 7 rfl).move 7 rfl).move 7 rfl).move 7 rfl)
   refine ⟨blk bk33 (.cells #[.int .i64 ((thS ns s).frm.v), .int .i64 ((thS ns s).to_.v), .int .i64 2, .int .i64 0, .int .i64 ((i64N (thS ns s).came).v), .slice none 0 0] 41 (0, 0)) :: Row 41 6 (.slice pp3 ((thT ns s).length) cc4) ((thT ns s).length) (D25.flatMap dgdCell) :: (F.set i emp), ?_, H36⟩
   change FReg _ _ _ _ _ #[true, true, true, true, true, true, true, true, true, true, true, true, true, true, true, true, true, false, false] _ _
   refine f_all (rs := [17]) (by kernel_rfl) (by simp) ?_
   refine a_cons ⟨_, rfl, ?_⟩ (fun x hx => absurd hx (by simp))
   intro w37 H38
   try dsimp only at H38
   refine s_append H38 7 rfl rfl rfl (rd_blk (H38.blk_at (i := 6) rfl) rfl (nbl rfl) (by simp [Value.oneCell'])) ap_34 (by decide) (by unfold maxLen; omega) (by omega) (n' := (thT ns s).length + 1) (xs' := D25.flatMap dgdCell ++ ([.int .i64 ((thS ns s).frm.v), .int .i64 ((thS ns s).to_.v), .int .i64 2, .int .i64 0, .int .i64 ((i64N (thS ns s).came).v), .slice none 0 0] : List Value)) (by omega) (by first | rfl | simp) rfl ?_; intro vv39 w40 H41 hn42
   obtain ⟨pp43, cc44, rfl⟩ := Row.slice H41 (i := 7) rfl
   refine ⟨blk bk33 (.cells #[.int .i64 ((thS ns s).frm.v), .int .i64 ((thS ns s).to_.v), .int .i64 2, .int .i64 0, .int .i64 ((i64N (thS ns s).came).v), .slice none 0 0] 41 (0, 0)) :: Row 41 6 (.slice pp43 ((thT ns s).length + 1) cc44) ((thT ns s).length + 1) (D25.flatMap dgdCell ++ ([.int .i64 ((thS ns s).frm.v), .int .i64 ((thS ns s).to_.v), .int .i64 2, .int .i64 0, .int .i64 ((i64N (thS ns s).came).v), .slice none 0 0] : List Value)) :: (F.set i emp), ?_, H41⟩
   change FReg _ _ _ _ _ #[true, true, true, true, true, true, true, true, true, true, true, true, true, true, true, true, true, true, false] _ _
   refine f_first 18 (listed' := #[true, true, true, true, true, true, true, true, true, true, true, true, true, true, true, true, true, true, true]) rfl (by kernel_rfl) (by kernel_rfl) (by kernel_rfl) rfl ?_
   refine f_val rfl rfl rfl (by intro t_ w hw; exact x_assign (.slice pp43 ((thT ns s).length + 1) cc44) rfl w) ?_
   refine f_done (by kernel_rfl) ?_
   intro w45 H46
   refine g_seq ?_
   refine g_region ?_
   refine r_cons (s_move (.slice pp43 ((thT ns s).length + 1) cc44) rfl rfl ?_)
   refine r_cons (s_assign (.slice pp43 ((thT ns s).length + 1) cc44) rfl rfl ?_)
   refine r_nil ?_
   refine g_ret' [.slice pp43 ((thT ns s).length + 1) cc44] Try.func23 Try.results23 ⟨rfl, trivial⟩ ?_
   have H47 : St W w45 (blk g (.cells #[.int .i64 ((thS ns s).frm.v), .int .i64 ((thS ns s).to_.v), .int .i64 ((thS ns s).slide : Int), .slice pp10 L12.length cc11, .int .i64 ((thS ns s).acked : Int), .int .i64 ((i64N (thS ns s).came).v), .map (some m9), .int .i64 ((thS ns s).clock : Int), .bool false] 62 (0, 0)) :: Row 79 3 (.slice pp10 L12.length cc11) L12.length (L12.flatMap bodCell) :: byA (L12.map BodD.by) :: MapA m9 (ents (kI .i64) evD E13) :: byA (mby E13) :: byA (D25.map DgD.by) :: blk bk33 (.cells #[.int .i64 ((thS ns s).frm.v), .int .i64 ((thS ns s).to_.v), .int .i64 2, .int .i64 0, .int .i64 ((i64N (thS ns s).came).v), .slice none 0 0] 41 (0, 0)) :: Row 41 6 (.slice pp43 ((thT ns s).length + 1) cc44) ((thT ns s).length + 1) (D25.flatMap dgdCell ++ ([.int .i64 ((thS ns s).frm.v), .int .i64 ((thS ns s).to_.v), .int .i64 2, .int .i64 0, .int .i64 ((i64N (thS ns s).came).v), .slice none 0 0] : List Value)) :: (F.set i emp)) := (((((H46.move 5 rfl).move 5 rfl).move 5 rfl).move 5 rfl).move 5 rfl)
   have H48 : St W w45 (LkA g (outS s) :: byA (D25.map DgD.by) :: blk bk33 (.cells #[.int .i64 ((thS ns s).frm.v), .int .i64 ((thS ns s).to_.v), .int .i64 2, .int .i64 0, .int .i64 ((i64N (thS ns s).came).v), .slice none 0 0] 41 (0, 0)) :: Row 41 6 (.slice pp43 ((thT ns s).length + 1) cc44) ((thT ns s).length + 1) (D25.flatMap dgdCell ++ ([.int .i64 ((thS ns s).frm.v), .int .i64 ((thS ns s).to_.v), .int .i64 2, .int .i64 0, .int .i64 ((i64N (thS ns s).came).v), .slice none 0 0] : List Value)) :: (F.set i emp)) := St.shut_ex ⟨(m9, pp10, cc11, L12, E13), hL14, hE15⟩ (St.shut_star (ls := [_, _, _, _, _]) H47)
   have H49 := Row.im (Row.nil_intro H48 5 1) (i := 0) rfl
   have H50 : St W w45 (Im 1 (.slice none 0 0) (([] : List UInt8).length) (([] : List UInt8).flatMap u8c) :: LkA g (outS s) :: byA (D25.map DgD.by) :: blk bk33 (.cells #[.int .i64 ((thS ns s).frm.v), .int .i64 ((thS ns s).to_.v), .int .i64 2, .int .i64 0, .int .i64 ((i64N (thS ns s).came).v), .slice none 0 0] 41 (0, 0)) :: Row 41 6 (.slice pp43 ((thT ns s).length + 1) cc44) ((thT ns s).length + 1) (D25.flatMap dgdCell ++ ([.int .i64 ((thS ns s).frm.v), .int .i64 ((thS ns s).to_.v), .int .i64 2, .int .i64 0, .int .i64 ((i64N (thS ns s).came).v), .slice none 0 0] : List Value)) :: (F.set i emp)) := H49
   have H51 := byA_add (x := (⟨ackOf s, none, 0⟩ : DgD).by) H50 (i := 2) (j := 0) rfl rfl snoc_dg
   have H52 : St W w45 (Row 41 6 (.slice pp43 ((thT ns s).length + 1) cc44) ((thT ns s).length + 1) (D25.flatMap dgdCell ++ ([.int .i64 ((thS ns s).frm.v), .int .i64 ((thS ns s).to_.v), .int .i64 2, .int .i64 0, .int .i64 ((i64N (thS ns s).came).v), .slice none 0 0] : List Value)) :: byA ((D25 ++ [(⟨ackOf s, none, 0⟩ : DgD)]).map DgD.by) :: Im 1 (.slice none 0 0) (([] : List UInt8).length) (([] : List UInt8).flatMap u8c) :: LkA g (outS s) :: byA (D25.map DgD.by) :: blk bk33 (.cells #[.int .i64 ((thS ns s).frm.v), .int .i64 ((thS ns s).to_.v), .int .i64 2, .int .i64 0, .int .i64 ((i64N (thS ns s).came).v), .slice none 0 0] 41 (0, 0)) :: (F.set i emp)) := (H51.move 5 rfl)
   have hn53 : (outT s).length = (thT ns s).length + 1 := (by rw [hO1, hT0]; rfl)
   have H54 : St W w45 (Row 41 6 (.slice pp43 ((outT s).length) cc44) ((outT s).length) ((D25 ++ [(⟨ackOf s, none, 0⟩ : DgD)]).flatMap dgdCell) :: byA ((D25 ++ [(⟨ackOf s, none, 0⟩ : DgD)]).map DgD.by) :: Im 1 (.slice none 0 0) (([] : List UInt8).length) (([] : List UInt8).flatMap u8c) :: LkA g (outS s) :: byA (D25.map DgD.by) :: blk bk33 (.cells #[.int .i64 ((thS ns s).frm.v), .int .i64 ((thS ns s).to_.v), .int .i64 2, .int .i64 0, .int .i64 ((i64N (thS ns s).came).v), .slice none 0 0] 41 (0, 0)) :: (F.set i emp)) := by rw [hn53]; rw [flat_app]; exact H52
   have H55 : St W w45 (DgsA pp43 cc44 (outT s) :: Im 1 (.slice none 0 0) (([] : List UInt8).length) (([] : List UInt8).flatMap u8c) :: LkA g (outS s) :: byA (D25.map DgD.by) :: blk bk33 (.cells #[.int .i64 ((thS ns s).frm.v), .int .i64 ((thS ns s).to_.v), .int .i64 2, .int .i64 0, .int .i64 ((i64N (thS ns s).came).v), .slice none 0 0] 41 (0, 0)) :: (F.set i emp)) := St.shut_ex ⟨(D25 ++ [(⟨ackOf s, none, 0⟩ : DgD)]), (show (D25 ++ [(⟨ackOf s, none, 0⟩ : DgD)]).map DgD.d = outT s from by rw [hO1, hT1]; rfl)⟩ (St.shut_star (ls := [_, _]) H54)
   have H56 : St W w45 (DgsA pp43 cc44 (outT s) :: LkA g (outS s) :: (F.set i emp)) := (((((H55.move 2 rfl).move 1 rfl).drop 2 rfl).drop 2 rfl).drop 2 rfl)
   have H57 : St W w45 (LkA g (outS s) :: (DgsA pp43 cc44 (outT s) :: F).set (i + 1) emp) := (H56.move 1 rfl)
   exact ⟨_, _, by rw [hn53]; rfl, St.back (i := i + 1) (by exact hi) H57⟩
  ·have hb21 := eq_false_of_ne_true hb21
   refine g_false (congrArg Value.bool hb21) ?_
   refine g_skip ?_
   refine g_seq ?_
   refine g_region ?_
   refine r_cons (s_move (.slice pp3 ((thT ns s).length) cc4) rfl rfl ?_)
   refine r_cons (s_assign (.slice pp3 ((thT ns s).length) cc4) rfl rfl ?_)
   refine r_nil ?_
   refine g_ret' [.slice pp3 ((thT ns s).length) cc4] Try.func23 Try.results23 ⟨rfl, trivial⟩ ?_
   have H58 : St W w5 (LkA g (thS ns s) :: DgsA pp3 cc4 (thT ns s) :: (F.set i emp)) := St.shut_ex ⟨(m9, pp10, cc11, L12, E13), hL14, hE15⟩ (St.shut_star (ls := [_, _, _, _, _]) H20)
   have hw9 : (thS ns s).owes = false := by first | assumption | exact th_owes (by omega)
   have H59 : St W w5 (LkA g (outS s) :: DgsA pp3 cc4 (outT s) :: (F.set i emp)) := by rw [outT_no hw9, ← outS_no hw9]; exact H58
   have H60 : St W w5 (DgsA pp3 cc4 (outT s) :: LkA g (outS s) :: (F.set i emp)) := (H59.move 1 rfl)
   have H61 : St W w5 (LkA g (outS s) :: (DgsA pp3 cc4 (outT s) :: F).set (i + 1) emp) := (H60.move 1 rfl)
   exact ⟨_, _, by rw [outT_no hw9]; rfl, St.back (i := i + 1) (by exact hi) H61⟩
 ·skip
  refine r_cons (s_eql false rfl rfl (dfalse hc7) rfl ?_)
  refine r_cons (s_move (.bool false) rfl rfl ?_)
  refine r_cons (r_pass rfl rfl rfl rfl rfl ?_)
  refine r_cons (r_pass rfl rfl rfl rfl rfl ?_)
  refine r_cons (r_pass rfl rfl rfl rfl rfl ?_)
  refine r_cons (r_pass rfl rfl rfl rfl rfl ?_)
  refine r_cons (s_pick_f (.bool false) rfl rfl rfl ?_)
  refine r_nil ?_
  refine g_false rfl ?_
  refine g_skip ?_
  refine g_seq ?_
  refine g_region ?_
  refine r_cons (s_move (.slice pp3 ((thT ns s).length) cc4) rfl rfl ?_)
  refine r_cons (s_assign (.slice pp3 ((thT ns s).length) cc4) rfl rfl ?_)
  refine r_nil ?_
  refine g_ret' [.slice pp3 ((thT ns s).length) cc4] Try.func23 Try.results23 ⟨rfl, trivial⟩ ?_
  have hw9 : (thS ns s).owes = false := by first | assumption | exact th_owes (by omega)
  have H62 : St W w5 (DgsA pp3 cc4 (outT s) :: LkA g (outS s) :: (F.set i emp)) := by rw [outT_no hw9, ← outS_no hw9]; exact H6
  have H63 : St W w5 (DgsA pp3 cc4 (outT s) :: LkA g (outS s) :: (F.set i emp)) := ((H62.move 1 rfl).move 1 rfl)
  have H64 : St W w5 (LkA g (outS s) :: (DgsA pp3 cc4 (outT s) :: F).set (i + 1) emp) := (H63.move 1 rfl)
  exact ⟨_, _, by rw [outT_no hw9]; rfl, St.back (i := i + 1) (by exact hi) H64⟩
set_option maxHeartbeats 4000000 in
set_option maxRecDepth 100000 in
theorem Lk_Tick {W w : World} {F : List Atom} (g : Nat) (s : EndV) (hok : endOk s) (hck : s.clock + 1 ≤ 4611686018427387904) {i : Nat} (hi : F[i]? = some (LkA g s)) (H : St W w F) : Calls Try.prog 11 #[.pointer (some ⟨g, 0, none⟩)] w (Ret fun v w' => ∃ p c, v = .slice p ((tickT s).length) c ∧ St W w' (DgsA p c (tickT s) :: F.set i (LkA g (tickS s)))) := by
 have H0 := H.front hi
 obtain ⟨o1, o2, o3, o4, o5, o6, o8⟩ := id hok; have o7 := i64N_0 (Nat.le_trans o4 (by decide))
 refine calls_of_go (n := 20) Try.func11 rfl Try.ntmps11 rfl ?_
 refine g_seq ?_
 refine g_region ?_
 refine r_cons (s_box H0 30 (.pointer (some ⟨g, 0, none⟩)) rfl (cs := #[.pointer (some ⟨g, 0, none⟩)]) rfl rfl ?_); intro bk1 w2 H3
 refine r_cons (s_assign (.slice none 0 0) rfl rfl ?_)
 refine r_nil ?_
 refine g_seq ?_
 refine g_seq ?_
 refine g_region ?_
 refine r_cons (s_load (.pointer (some ⟨g, 0, none⟩)) ag_30 rfl (H3.blk_at (i := 0) rfl) rfl rfl ?_)
 refine r_cons (s_call [.pointer (some ⟨g, 0, none⟩)] pl_31 rfl rfl (Lk_none g s hok (i := 1) rfl H3) ?_)
 rintro _ w4 ⟨rfl, H5⟩
 refine r_nil ?_
 refine g_false rfl ?_
 refine g_skip ?_
 refine g_seq ?_
 refine g_region ?_
 refine r_cons (s_load (.pointer (some ⟨g, 0, none⟩)) ag_30 rfl (H5.blk_at (i := 0) rfl) rfl rfl ?_)
 refine r_cons (s_nilCheck (.pointer (some ⟨g, 0, none⟩)) rfl ⟨_, rfl⟩ rfl ?_)
 refine r_cons (s_fieldAddr 62 6 7 7 2 rfl fi_62_6 rfl rfl ?_)
 have H6 := H5.move 1 rfl
 obtain ⟨⟨⟨m7, pp8, cc9, L10, E11⟩, hL12, hE13⟩, H14⟩ := St.open_ex H6
 have H15 := St.open_star H14
 change L10.map BodD.v = s.l at hL12; change mapB E11 = s.held at hE13
 have hl16 := lenOf hL12; have he17 := mapB_len hE13
 have H18 : St W w4 (blk g (lkC s m7 (.slice pp8 L10.length cc9)) :: Row 79 3 (.slice pp8 L10.length cc9) L10.length (L10.flatMap bodCell) :: byA (L10.map BodD.by) :: MapA m7 (ents (kI .i64) evD E11) :: byA (mby E11) :: blk bk1 (.cells #[.pointer (some ⟨g, 0, none⟩)] 30 (0, 0)) :: (F.set i emp)) := H15
 refine r_cons (s_load (.int .i64 (s.clock : Int)) ag_2 rfl (H18.blk_at (i := 0) rfl) rfl rfl ?_)
 refine r_cons (s_add ((s.clock + 1 : Nat) : Int) rfl rfl ((wi64 (by omega)).trans (by omega)) rfl ?_)
 refine r_cons (s_nilCheck (.pointer (some ⟨g, 0, none⟩)) rfl ⟨_, rfl⟩ rfl ?_)
 refine r_cons (s_fieldAddr 62 6 7 7 2 rfl fi_62_6 rfl rfl ?_)
 refine r_cons (s_store H18 0 (.int .i64 ((s.clock + 1 : Nat) : Int)) rfl rfl rfl sz_2 rfl (nbl rfl) rfl (cs' := #[.int .i64 s.frm.v, .int .i64 s.to_.v, .int .i64 (s.slide : Int), .slice pp8 L10.length cc9, .int .i64 (s.acked : Int), .int .i64 ((i64N s.came).v), .map (some m7), .int .i64 ((s.clock + 1 : Nat) : Int), .bool s.owes]) rfl ?_); intro w19 H20
 refine r_nil ?_
 refine g_seq ?_
 refine g_region ?_
 refine r_cons (s_load (.pointer (some ⟨g, 0, none⟩)) ag_30 rfl (H20.blk_at (i := 5) rfl) rfl rfl ?_)
 have H21 : St W w19 (LkA g (tick1 s) :: blk bk1 (.cells #[.pointer (some ⟨g, 0, none⟩)] 30 (0, 0)) :: (F.set i emp)) := St.shut_ex ⟨(m7, pp8, cc9, L10, E11), hL12, hE13⟩ (St.shut_star (ls := [_, _, _, _, _]) H20)
 refine r_cons (s_makeFunc (.func (.func 33) #[] #[.pointer (some ⟨bk1, 0, none⟩)]) rfl rfl ?_)
 refine r_cons (s_call [.pointer (some ⟨g, 0, none⟩), .func (.func 33) #[] #[.pointer (some ⟨bk1, 0, none⟩)]] pl_32 rfl rfl (these_2 g bk1 (tick1 s) (endOk_tick1 hok hck) H21) ?_)
 rintro _ w24 ⟨pp22, cc23, rfl, H25⟩
 refine r_cons (s_assign (.slice pp22 ((thT (rs (tick1 s).clock) (tick1 s)).length) cc23) rfl rfl ?_)
 refine r_nil ?_
 refine g_seq ?_
 refine g_region ?_
 refine r_cons (s_move (.slice pp22 ((thT (rs (tick1 s).clock) (tick1 s)).length) cc23) rfl rfl ?_)
 refine r_cons (s_load (.pointer (some ⟨g, 0, none⟩)) ag_30 rfl (H25.blk_at (i := 2) rfl) rfl rfl ?_)
 refine r_cons (s_call [.pointer (some ⟨g, 0, none⟩)] pl_23 rfl rfl (Lk_Out g (thS (rs (tick1 s).clock) (tick1 s)) (endOk_th (endOk_tick1 hok hck)) (i := 1) rfl H25) ?_)
 rintro _ w28 ⟨pp26, cc27, rfl, H29⟩
 have hn1 := thT_len (rs (tick1 s).clock) (tick1 s) (endOk_tick1 hok hck); have hn2 := outT_len (thS (rs (tick1 s).clock) (tick1 s)) (endOk_th (endOk_tick1 hok hck))
 have H30 := H29.move 0 rfl
 obtain ⟨⟨D31, hD32⟩, H33⟩ := St.open_ex H30
 have H34 := St.open_star H33
 change D31.map DgD.d = (outT (thS (rs (tick1 s).clock) (tick1 s))) at hD32
 have H35 : St W w28 (Row 41 6 (.slice pp26 ((outT (thS (rs (tick1 s).clock) (tick1 s))).length) cc27) ((outT (thS (rs (tick1 s).clock) (tick1 s))).length) (D31.flatMap dgdCell) :: byA (D31.map DgD.by) :: DgsA pp22 cc23 (thT (rs (tick1 s).clock) (tick1 s)) :: LkA g (outS (thS (rs (tick1 s).clock) (tick1 s))) :: blk bk1 (.cells #[.pointer (some ⟨g, 0, none⟩)] 30 (0, 0)) :: (F.set i emp)) := H34
 have H36 := H35.move 2 rfl
 obtain ⟨⟨D37, hD38⟩, H39⟩ := St.open_ex H36
 have H40 := St.open_star H39
 change D37.map DgD.d = (thT (rs (tick1 s).clock) (tick1 s)) at hD38
 have H41 : St W w28 (Row 41 6 (.slice pp22 ((thT (rs (tick1 s).clock) (tick1 s)).length) cc23) ((thT (rs (tick1 s).clock) (tick1 s)).length) (D37.flatMap dgdCell) :: byA (D37.map DgD.by) :: Row 41 6 (.slice pp26 ((outT (thS (rs (tick1 s).clock) (tick1 s))).length) cc27) ((outT (thS (rs (tick1 s).clock) (tick1 s))).length) (D31.flatMap dgdCell) :: byA (D31.map DgD.by) :: LkA g (outS (thS (rs (tick1 s).clock) (tick1 s))) :: blk bk1 (.cells #[.pointer (some ⟨g, 0, none⟩)] 30 (0, 0)) :: (F.set i emp)) := H40
 refine r_cons (s_append H41 0 rfl rfl rfl (Row.rd H41 (i := 2) rfl) ap_34 (by decide) (by unfold maxLen; omega) (by omega) (n' := (thT (rs (tick1 s).clock) (tick1 s)).length + (outT (thS (rs (tick1 s).clock) (tick1 s))).length) (xs' := D37.flatMap dgdCell ++ D31.flatMap dgdCell) (by omega) (by first | rfl | simp) rfl ?_); intro vv42 w43 H44 hn45
 obtain ⟨pp46, cc47, rfl⟩ := Row.slice H44 (i := 0) rfl
 refine r_cons (s_assign (.slice pp46 ((thT (rs (tick1 s).clock) (tick1 s)).length + (outT (thS (rs (tick1 s).clock) (tick1 s))).length) cc47) rfl rfl ?_)
 refine r_nil ?_
 refine g_ret' [.slice pp46 ((thT (rs (tick1 s).clock) (tick1 s)).length + (outT (thS (rs (tick1 s).clock) (tick1 s))).length) cc47] Try.func11 Try.results11 ⟨rfl, trivial⟩ ?_
 have H48 := byA_app (M := (D37 ++ D31).map DgD.by) H44 (i := 1) (j := 3) rfl rfl app_dg
 have H49 : St W w43 (Row 41 6 (.slice pp46 ((thT (rs (tick1 s).clock) (tick1 s)).length + (outT (thS (rs (tick1 s).clock) (tick1 s))).length) cc47) ((thT (rs (tick1 s).clock) (tick1 s)).length + (outT (thS (rs (tick1 s).clock) (tick1 s))).length) (D37.flatMap dgdCell ++ D31.flatMap dgdCell) :: byA ((D37 ++ D31).map DgD.by) :: byA (D37.map DgD.by) :: Row 41 6 (.slice pp26 ((outT (thS (rs (tick1 s).clock) (tick1 s))).length) cc27) ((outT (thS (rs (tick1 s).clock) (tick1 s))).length) (D31.flatMap dgdCell) :: byA (D31.map DgD.by) :: LkA g (outS (thS (rs (tick1 s).clock) (tick1 s))) :: blk bk1 (.cells #[.pointer (some ⟨g, 0, none⟩)] 30 (0, 0)) :: (F.set i emp)) := (H48.move 1 rfl)
 have hn50 : (tickT s).length = (thT (rs (tick1 s).clock) (tick1 s)).length + (outT (thS (rs (tick1 s).clock) (tick1 s))).length := (List.length_append ..)
 have H51 : St W w43 (Row 41 6 (.slice pp46 ((tickT s).length) cc47) ((tickT s).length) ((D37 ++ D31).flatMap dgdCell) :: byA ((D37 ++ D31).map DgD.by) :: byA (D37.map DgD.by) :: Row 41 6 (.slice pp26 ((outT (thS (rs (tick1 s).clock) (tick1 s))).length) cc27) ((outT (thS (rs (tick1 s).clock) (tick1 s))).length) (D31.flatMap dgdCell) :: byA (D31.map DgD.by) :: LkA g (outS (thS (rs (tick1 s).clock) (tick1 s))) :: blk bk1 (.cells #[.pointer (some ⟨g, 0, none⟩)] 30 (0, 0)) :: (F.set i emp)) := by rw [hn50]; rw [flat_app]; exact H49
 have H52 : St W w43 (DgsA pp46 cc47 (tickT s) :: byA (D37.map DgD.by) :: Row 41 6 (.slice pp26 ((outT (thS (rs (tick1 s).clock) (tick1 s))).length) cc27) ((outT (thS (rs (tick1 s).clock) (tick1 s))).length) (D31.flatMap dgdCell) :: byA (D31.map DgD.by) :: LkA g (outS (thS (rs (tick1 s).clock) (tick1 s))) :: blk bk1 (.cells #[.pointer (some ⟨g, 0, none⟩)] 30 (0, 0)) :: (F.set i emp)) := St.shut_ex ⟨(D37 ++ D31), (show (D37 ++ D31).map DgD.d = tickT s from app_map hD38 hD32)⟩ (St.shut_star (ls := [_, _]) H51)
 have H53 : St W w43 (DgsA pp46 cc47 (tickT s) :: byA (D37.map DgD.by) :: Row 41 6 (.slice pp26 ((outT (thS (rs (tick1 s).clock) (tick1 s))).length) cc27) ((outT (thS (rs (tick1 s).clock) (tick1 s))).length) (D31.flatMap dgdCell) :: byA (D31.map DgD.by) :: LkA g (tickS s) :: blk bk1 (.cells #[.pointer (some ⟨g, 0, none⟩)] 30 (0, 0)) :: (F.set i emp)) := H52
 have H54 : St W w43 (DgsA pp46 cc47 (tickT s) :: LkA g (tickS s) :: (F.set i emp)) := ((((((H53.move 4 rfl).move 1 rfl).drop 2 rfl).drop 2 rfl).drop 2 rfl).drop 2 rfl)
 have H55 : St W w43 (LkA g (tickS s) :: (DgsA pp46 cc47 (tickT s) :: F).set (i + 1) emp) := (H54.move 1 rfl)
 exact ⟨_, _, by rw [hn50]; rfl, St.back (i := i + 1) (by exact hi) H55⟩
set_option maxHeartbeats 4000000 in
set_option maxRecDepth 100000 in
theorem New_1 {W w : World} {F : List Atom} (n : Int) (H : St W w F) : Calls Try.prog 35 #[.int .i64 n] w (Ret fun v w' => v = .bool (brB n) ∧ St W w' F) := by
 refine calls_of_go (n := 9) Try.func35 rfl Try.ntmps35 rfl ?_
 refine g_seq ?_
 refine g_region ?_
 refine r_cons (s_assign (.bool false) rfl rfl ?_)
 refine r_nil ?_
 refine g_seq ?_
 refine g_region ?_
 refine r_cons (s_move (.int .i64 n) rfl rfl ?_)
 by_cases hc1 : (0 : Int) ≤ n
 ·skip
  refine r_cons (s_geq true rfl rfl (dtrue hc1) rfl ?_)
  refine r_cons (s_move (.bool true) rfl rfl ?_)
  refine r_cons (r_take rfl rfl ?_)
  refine s_move (.int .i64 n) rfl rfl ?_
  refine r_cons (r_take rfl rfl ?_)
  by_cases hc2 : n < 16
  ·skip
   refine s_lss true rfl rfl (dtrue hc2) rfl ?_
   refine r_cons (s_pick_t (.bool true) rfl rfl rfl ?_)
   refine r_cons (s_assign (.bool true) rfl rfl ?_)
   refine r_nil ?_
   refine g_ret' [.bool true] Try.func35 Try.results35 ⟨rfl, trivial⟩ ?_
   exact ⟨congrArg Value.bool (by simp only [brB]; first | (exact (decide_eq_true (by omega)).symm) | (exact (decide_eq_false (by omega)).symm)), H⟩
  ·skip
   refine s_lss false rfl rfl (dfalse hc2) rfl ?_
   refine r_cons (s_pick_t (.bool false) rfl rfl rfl ?_)
   refine r_cons (s_assign (.bool false) rfl rfl ?_)
   refine r_nil ?_
   refine g_ret' [.bool false] Try.func35 Try.results35 ⟨rfl, trivial⟩ ?_
   exact ⟨congrArg Value.bool (by simp only [brB]; first | (exact (decide_eq_true (by omega)).symm) | (exact (decide_eq_false (by omega)).symm)), H⟩
 ·skip
  refine r_cons (s_geq false rfl rfl (dfalse hc1) rfl ?_)
  refine r_cons (s_move (.bool false) rfl rfl ?_)
  refine r_cons (r_pass rfl rfl rfl rfl rfl ?_)
  refine r_cons (r_pass rfl rfl rfl rfl rfl ?_)
  refine r_cons (s_pick_f (.bool false) rfl rfl rfl ?_)
  refine r_cons (s_assign (.bool false) rfl rfl ?_)
  refine r_nil ?_
  refine g_ret' [.bool false] Try.func35 Try.results35 ⟨rfl, trivial⟩ ?_
  exact ⟨congrArg Value.bool (by simp only [brB]; first | (exact (decide_eq_true (by omega)).symm) | (exact (decide_eq_false (by omega)).symm)), H⟩
set_option maxHeartbeats 4000000 in
set_option maxRecDepth 100000 in
theorem Link_New {W w : World} {F : List Atom} (f t : I64) (n : Nat) (hf : brB f.v = true) (ht : brB t.v = true) (hne : ¬ f.v = t.v) (hn : 1 ≤ n) (hn2 : n ≤ 64) (H : St W w F) : Calls Try.prog 17 #[.agg #[.int .i64 f.v, .int .i64 t.v], .int .i64 (n : Int)] w (Ret fun v w' => ∃ g, v = .tuple #[.pointer (some ⟨g, 0, none⟩), .int .i64 0] ∧ St W w' (LkA g (newS f t n) :: F)) := by
 refine calls_of_go (n := 39) Try.func17 rfl Try.ntmps17 rfl ?_
 refine g_seq ?_
 refine g_region ?_
 refine r_cons (s_box H 46 (.agg #[.int .i64 f.v, .int .i64 t.v]) rfl (cs := #[.int .i64 f.v, .int .i64 t.v]) rfl rfl ?_); intro bk1 w2 H3
 refine r_cons (s_assign (.pointer none) rfl rfl ?_)
 refine r_cons (s_assign (.int .i64 0) rfl rfl ?_)
 refine r_nil ?_
 refine g_seq ?_
 refine g_region ?_
 refine r_cons (s_assign (.func (.func 35) #[] #[]) rfl rfl ?_)
 refine r_nil ?_
 refine g_seq ?_
 refine g_seq ?_
 refine g_region ?_
 refine r_cons (s_move (.func (.func 35) #[] #[]) rfl rfl ?_)
 refine r_cons (s_fieldAddr 46 0 0 0 3 rfl fi_46_0 rfl rfl ?_)
 refine r_cons (s_load (.int .i64 f.v) ag_3 rfl (H3.blk_at (i := 0) rfl) rfl rfl ?_)
 refine r_cons (s_callv [] [.int .i64 f.v] rfl pl_35 rfl rfl (New_1 f.v H3) ?_)
 rintro _ w4 ⟨rfl, H5⟩
 refine r_cons (s_not (brB f.v) rfl false (by rw [hf]; rfl) rfl ?_)
 refine r_cons (s_move (.bool false) rfl rfl ?_)
 refine r_cons (r_take rfl rfl ?_)
 refine s_move (.func (.func 35) #[] #[]) rfl rfl ?_
 refine r_cons (r_take rfl rfl ?_)
 refine s_fieldAddr 46 1 1 1 3 rfl fi_46_1 rfl rfl ?_
 refine r_cons (r_take rfl rfl ?_)
 refine s_load (.int .i64 t.v) ag_3 rfl (H5.blk_at (i := 0) rfl) rfl rfl ?_
 refine r_cons (r_take rfl rfl ?_)
 refine s_callv [] [.int .i64 t.v] rfl pl_35 rfl rfl (New_1 t.v H5) ?_
 rintro _ w6 ⟨rfl, H7⟩
 refine r_cons (r_take rfl rfl ?_)
 refine s_not (brB t.v) rfl false (by rw [ht]; rfl) rfl ?_
 refine r_cons (s_pick_f (.bool false) rfl rfl rfl ?_)
 refine r_cons (s_move (.bool false) rfl rfl ?_)
 refine r_cons (r_take rfl rfl ?_)
 refine s_fieldAddr 46 0 0 0 3 rfl fi_46_0 rfl rfl ?_
 refine r_cons (r_take rfl rfl ?_)
 refine s_load (.int .i64 f.v) ag_3 rfl (H7.blk_at (i := 0) rfl) rfl rfl ?_
 refine r_cons (r_take rfl rfl ?_)
 refine s_fieldAddr 46 1 1 1 3 rfl fi_46_1 rfl rfl ?_
 refine r_cons (r_take rfl rfl ?_)
 refine s_load (.int .i64 t.v) ag_3 rfl (H7.blk_at (i := 0) rfl) rfl rfl ?_
 refine r_cons (r_take rfl rfl ?_)
 refine s_eql false rfl rfl (dfalse hne) rfl ?_
 refine r_cons (s_pick_f (.bool false) rfl rfl rfl ?_)
 refine r_cons (s_move (.bool false) rfl rfl ?_)
 refine r_cons (r_take rfl rfl ?_)
 refine s_move (.int .i64 (n : Int)) rfl rfl ?_
 refine r_cons (r_take rfl rfl ?_)
 refine s_lss false rfl rfl (dfalse (by omega)) rfl ?_
 refine r_cons (s_pick_f (.bool false) rfl rfl rfl ?_)
 refine r_cons (s_move (.bool false) rfl rfl ?_)
 refine r_cons (r_take rfl rfl ?_)
 refine s_move (.int .i64 (n : Int)) rfl rfl ?_
 refine r_cons (r_take rfl rfl ?_)
 refine s_gtr false rfl rfl (dfalse (by omega)) rfl ?_
 refine r_cons (s_pick_f (.bool false) rfl rfl rfl ?_)
 refine r_nil ?_
 refine g_false rfl ?_
 refine g_skip ?_
 refine g_seq ?_
 refine g_region ?_
 refine r_cons (s_loadAgg [.int .i64 f.v, .int .i64 t.v] 2 ag_46 rfl (H7.blk_at (i := 0) rfl) (nbl rfl) rfl rfl ?_)
 refine r_cons (s_move (.int .i64 (n : Int)) rfl rfl ?_)
 refine r_cons (s_makeMap H7 rfl ?_); intro mp8 w9 H10
 have H11 : St W w9 (MapA mp8 (ents (kI .i64) evD ([] : List (I64 × BytesD))) :: blk bk1 (.cells #[.int .i64 f.v, .int .i64 t.v] 46 (0, 0)) :: F) := H10
 refine r_cons (s_build (cs := #[.int .i64 f.v, .int .i64 t.v, .int .i64 (n : Int), .slice none 0 0, .int .i64 0, .int .i64 0, .map (some mp8), .int .i64 0, .bool false]) (by kernel_rfl) rfl ?_)
 refine r_cons (s_box H11 62 (.agg #[.int .i64 f.v, .int .i64 t.v, .int .i64 (n : Int), .slice none 0 0, .int .i64 0, .int .i64 0, .map (some mp8), .int .i64 0, .bool false]) rfl (cs := #[.int .i64 f.v, .int .i64 t.v, .int .i64 (n : Int), .slice none 0 0, .int .i64 0, .int .i64 0, .map (some mp8), .int .i64 0, .bool false]) rfl rfl ?_); intro bk12 w13 H14
 refine r_cons (s_assign (.pointer (some ⟨bk12, 0, none⟩)) rfl rfl ?_)
 refine r_cons (s_assign (.int .i64 0) rfl rfl ?_)
 refine r_nil ?_
 refine g_ret' [.pointer (some ⟨bk12, 0, none⟩), .int .i64 0] Try.func17 Try.results17 ⟨rfl, rfl, trivial⟩ ?_
 have H15 : St W w13 (blk bk12 (.cells #[.int .i64 f.v, .int .i64 t.v, .int .i64 (n : Int), .slice none 0 0, .int .i64 0, .int .i64 0, .map (some mp8), .int .i64 0, .bool false] 62 (0, 0)) :: MapA mp8 (ents (kI .i64) evD ([] : List (I64 × BytesD))) :: F) := (((H14.move 1 rfl).move 1 rfl).drop 2 rfl)
 have H16 := Row.nil_intro H15 79 3
 have H17 := byA_nil H16
 have H18 := byA_nil H17
 have H19 : St W w13 (blk bk12 (.cells #[.int .i64 f.v, .int .i64 t.v, .int .i64 (n : Int), .slice none 0 0, .int .i64 0, .int .i64 0, .map (some mp8), .int .i64 0, .bool false] 62 (0, 0)) :: Row 79 3 (.slice none 0 0) 0 [] :: byA [] :: MapA mp8 (ents (kI .i64) evD ([] : List (I64 × BytesD))) :: byA [] :: F) := (((((H18.move 1 rfl).move 4 rfl).move 2 rfl).move 3 rfl).move 4 rfl)
 exact ⟨bk12, rfl, St.shut_ex ⟨(mp8, none, 0, [], []), rfl, rfl⟩ (St.shut_star (ls := [_, _, _, _, _]) H19)⟩
set_option maxHeartbeats 4000000 in
set_option maxRecDepth 100000 in
theorem clone_bodies {W w : World} {F : List Atom} (A : Atom) (v0 : Value) (n : Nat) (xs : List Value) (hA : RdA A 3 v0 n xs) (hn : n ≤ 1099511627776) {j : Nat} (hj : F[j]? = some A) (H : St W w F) : Calls Try.prog 47 #[v0] w (Ret fun v w' => ∃ p c, v = .slice p n c ∧ St W w' (Row 79 3 (.slice p n c) n xs :: F)) := by
 have hml := (hA _ _ _ j H hj).2
 obtain ⟨pp1, cc2, rfl, hn3⟩ := Rd.shape (hA _ _ _ j H hj).1
 refine calls_of_go (n := 8) Try.func47 rfl Try.ntmps47 rfl ?_
 refine g_seq ?_
 refine g_region ?_
 refine r_cons (s_assign (.slice none 0 0) rfl rfl ?_)
 refine r_nil ?_
 refine g_seq ?_
 refine g_seq ?_
 refine g_region ?_
 refine r_cons (s_move (.slice pp1 n cc2) rfl rfl ?_)
 by_cases hc4 : pp1 = none
 ·skip
  refine r_cons (s_sleql true un_59 rfl rfl (isNone_t hc4) rfl ?_)
  refine r_nil ?_
  refine g_true rfl ?_
  refine g_seq ?_
  refine g_region ?_
  refine r_cons (s_assign (.slice none 0 0) rfl rfl ?_)
  refine r_nil ?_
  refine g_ret' [.slice none 0 0] Try.func47 Try.results47 ⟨rfl, trivial⟩ ?_
  have H5 : St W w F := H
  obtain ⟨h1, h2, h3⟩ := hn3 ‹_›
  subst h1 h3
  exact ⟨none, 0, rfl, Row.nil_intro H5 79 3⟩
 ·skip
  refine r_cons (s_sleql false un_59 rfl rfl (isNone_f hc4) rfl ?_)
  refine r_nil ?_
  refine g_false rfl ?_
  refine g_skip ?_
  refine g_seq ?_
  refine g_region ?_
  refine r_cons (s_buildSlice0 H 3 el_59 rfl ?_); intro bk6 w7 H8
  have H9 := Row.of_blk (n := 0) (size := 3) H8 (i := 0) rfl (by unfold maxLen; omega) (by simp) (by simp)
  refine r_cons (s_move (.slice pp1 n cc2) rfl rfl ?_)
  refine r_cons (s_append H9 0 rfl rfl rfl (hA _ _ _ (j + 1) H9 (by exact hj)).1 ap_59 (by decide) (by unfold maxLen; omega) (by omega) (n' := n) (xs' := xs) (by omega) (by first | rfl | simp) rfl ?_); intro vv10 w11 H12 hn13
  obtain ⟨pp14, cc15, rfl⟩ := Row.slice H12 (i := 0) rfl
  refine r_cons (s_assign (.slice pp14 n cc15) rfl rfl ?_)
  refine r_nil ?_
  refine g_ret' [.slice pp14 n cc15] Try.func47 Try.results47 ⟨rfl, trivial⟩ ?_
  have H16 : St W w11 (Row 79 3 (.slice pp14 n cc15) n xs :: F) := H12
  exact ⟨_, _, rfl, H16⟩
set_option maxHeartbeats 4000000 in
set_option maxRecDepth 100000 in
theorem Lo_none {W w : World} {F : List Atom} (g m : Nat) (s : EndV) (p : Option Addr) (c : Nat) (L : List BodD) {i : Nat} (hi : F[i]? = some (blk g (lkC s m (.slice p L.length c)))) (H : St W w F) : Calls Try.prog 31 #[.pointer (some ⟨g, 0, none⟩)] w (Ret fun v w' => v = .bool false ∧ St W w' F) := by
 have H0 := H.front hi
 refine calls_of_go (n := 12) Try.func31 rfl Try.ntmps31 rfl ?_
 refine g_seq ?_
 refine g_region ?_
 refine r_cons (s_assign (.bool false) rfl rfl ?_)
 refine r_nil ?_
 refine g_seq ?_
 refine g_region ?_
 refine r_cons (s_move (.pointer (some ⟨g, 0, none⟩)) rfl rfl ?_)
 refine r_cons (s_peql false un_30 rfl rfl rfl rfl ?_)
 refine r_cons (s_move (.bool false) rfl rfl ?_)
 refine r_cons (r_take rfl rfl ?_)
 refine s_move (.pointer (some ⟨g, 0, none⟩)) rfl rfl ?_
 refine r_cons (r_take rfl rfl ?_)
 refine s_nilCheck (.pointer (some ⟨g, 0, none⟩)) rfl ⟨_, rfl⟩ rfl ?_
 refine r_cons (r_take rfl rfl ?_)
 refine s_fieldAddr 62 5 6 6 60 rfl fi_62_5 rfl rfl ?_
 refine r_cons (r_take rfl rfl ?_)
 refine s_load (.map (some m)) ag_60 rfl (H0.blk_at (i := 0) rfl) rfl rfl ?_
 refine r_cons (r_take rfl rfl ?_)
 refine s_meql false un_60 rfl rfl rfl rfl ?_
 refine r_cons (s_pick_f (.bool false) rfl rfl rfl ?_)
 refine r_cons (s_assign (.bool false) rfl rfl ?_)
 refine r_nil ?_
 refine g_ret' [.bool false] Try.func31 Try.results31 ⟨rfl, trivial⟩ ?_
 have H1 : St W w (blk g (lkC s m (.slice p L.length c)) :: (F.set i emp)) := H0
 exact ⟨rfl, St.back_same hi H1⟩
set_option maxHeartbeats 4000000 in
set_option maxRecDepth 100000 in
theorem Lo_Waiting {W w : World} {F : List Atom} (g m : Nat) (s : EndV) (p : Option Addr) (c : Nat) (L : List BodD) {i : Nat} (hi : F[i]? = some (blk g (lkC s m (.slice p L.length c)))) (H : St W w F) : Calls Try.prog 10 #[.pointer (some ⟨g, 0, none⟩)] w (Ret fun v w' => v = .int .i64 (L.length : Int) ∧ St W w' F) := by
 have H0 := H.front hi
 refine calls_of_go (n := 10) Try.func10 rfl Try.ntmps10 rfl ?_
 refine g_seq ?_
 refine g_region ?_
 refine r_cons (s_assign (.int .i64 0) rfl rfl ?_)
 refine r_nil ?_
 refine g_seq ?_
 refine g_seq ?_
 refine g_region ?_
 refine r_cons (s_move (.pointer (some ⟨g, 0, none⟩)) rfl rfl ?_)
 refine r_cons (s_call [.pointer (some ⟨g, 0, none⟩)] pl_31 rfl rfl (Lo_none g m s p c L (i := 0) rfl H0) ?_)
 rintro _ w1 ⟨rfl, H2⟩
 refine r_nil ?_
 refine g_false rfl ?_
 refine g_skip ?_
 refine g_seq ?_
 refine g_region ?_
 refine r_cons (s_move (.pointer (some ⟨g, 0, none⟩)) rfl rfl ?_)
 refine r_cons (s_nilCheck (.pointer (some ⟨g, 0, none⟩)) rfl ⟨_, rfl⟩ rfl ?_)
 refine r_cons (s_fieldAddr 62 2 3 3 59 rfl fi_62_2 rfl rfl ?_)
 refine r_cons (s_load (.slice p L.length c) ag_59 rfl (H2.blk_at (i := 0) rfl) rfl rfl ?_)
 refine r_cons (s_len L.length rfl ⟨_, un_59⟩ rfl ?_)
 refine r_cons (s_assign (.int .i64 (L.length : Int)) rfl rfl ?_)
 refine r_nil ?_
 refine g_ret' [.int .i64 (L.length : Int)] Try.func10 Try.results10 ⟨rfl, trivial⟩ ?_
 have H3 : St W w1 (blk g (lkC s m (.slice p L.length c)) :: (F.set i emp)) := H2
 exact ⟨rfl, St.back_same hi H3⟩
set_option maxHeartbeats 4000000 in
set_option maxRecDepth 100000 in
theorem Lo_Under {W w : World} {F : List Atom} (g m : Nat) (s : EndV) (p : Option Addr) (c : Nat) (L : List BodD) (hL : L.map BodD.v = s.l) (hc : s.l.length ≤ 1099511627776) {i j : Nat} (hi : F[i]? = some (blk g (lkC s m (.slice p L.length c)))) (hj : (F.set i emp)[j]? = some (Row 79 3 (.slice p L.length c) L.length (L.flatMap bodCell))) (H : St W w F) : Calls Try.prog 16 #[.pointer (some ⟨g, 0, none⟩)] w (Ret fun v w' => v = .int .i64 (under s : Int) ∧ St W w' F) := by
 have H0 := (H.front hi).front (i := j + 1) (by exact hj)
 have H1 : St W w (Row 79 3 (.slice p L.length c) L.length (L.flatMap bodCell) :: blk g (lkC s m (.slice p L.length c)) :: ((F.set i emp).set j emp)) := H0
 have hl := lenOf hL
 refine calls_of_go (n := 21) Try.func16 rfl Try.ntmps16 rfl ?_
 refine g_seq ?_
 refine g_region ?_
 refine r_cons (s_assign (.int .i64 0) rfl rfl ?_)
 refine r_nil ?_
 refine g_seq ?_
 refine g_region ?_
 refine r_cons (s_assign (.int .i64 0) rfl rfl ?_)
 refine r_nil ?_
 refine g_seq ?_
 refine g_block ?_
 refine g_loop_inv (fun (x_ : Nat) => match x_ with | n => [(0, .pointer (some ⟨g, 0, none⟩)), (2, .int .i64 0), (3, .int .i64 (n : Int))]) (fun (x_ : Nat) w => match x_ with | n => (n ≤ s.l.length) ∧ (∀ j, j < n → (s.l.getD j default).sent = true) ∧ St W w (Row 79 3 (.slice p L.length c) L.length (L.flatMap bodCell) :: blk g (lkC s m (.slice p L.length c)) :: ((F.set i emp).set j emp))) (fun (x_ : Nat) => match x_ with | n => s.l.length - n) (0) ?_ ?_ ?_
 ·exact ⟨by first | rfl | exact vint (by omega), by first | rfl | exact vint (by omega), by first | rfl | exact vint (by omega), trivial⟩
 ·exact ⟨(by omega), (fun j hj => absurd hj (by omega)), H1⟩
 ·rintro n ρ2 w3 ⟨hn, hs, H4⟩ nx5
  change Ends _ _ (upds ρ2 [(0, .pointer (some ⟨g, 0, none⟩)), (2, .int .i64 0), (3, .int .i64 (n : Int))]) w3
  refine g_seq ?_
  refine g_seq ?_
  refine g_region ?_
  refine r_cons (s_move (.int .i64 (n : Int)) rfl rfl ?_)
  refine r_cons (s_move (.pointer (some ⟨g, 0, none⟩)) rfl rfl ?_)
  refine r_cons (s_call [.pointer (some ⟨g, 0, none⟩)] pl_10 rfl rfl (Lo_Waiting g m s p c L (i := 1) rfl H4) ?_)
  rintro _ w6 ⟨rfl, H7⟩
  by_cases hc8 : (n : Int) < (L.length : Int)
  ·skip
   refine r_cons (s_lss true rfl rfl (dtrue hc8) rfl ?_)
   refine r_cons (s_move (.bool true) rfl rfl ?_)
   refine r_cons (r_take rfl rfl ?_)
   refine s_move (.pointer (some ⟨g, 0, none⟩)) rfl rfl ?_
   refine r_cons (r_take rfl rfl ?_)
   refine s_nilCheck (.pointer (some ⟨g, 0, none⟩)) rfl ⟨_, rfl⟩ rfl ?_
   refine r_cons (r_take rfl rfl ?_)
   obtain ⟨bk9, cur10, hp11, h12, h13, h14, h15, h16, H17⟩ := Row.open2 H7 (i := 0) rfl (by omega)
   refine s_fieldAddr 62 2 3 3 59 rfl fi_62_2 rfl rfl ?_
   refine r_cons (r_take rfl rfl ?_)
   refine s_load (.slice p L.length c) ag_59 rfl (H17.blk_at (i := 1) rfl) rfl rfl ?_
   refine r_cons (r_take rfl rfl ?_)
   refine s_move (.int .i64 (n : Int)) rfl rfl ?_
   refine r_cons (r_take rfl rfl ?_)
   refine s_indexAddr bk9 (off := 0) (n : Int) 3 (0 + n * 3) (by exact congrArg (fun z_ => Value.slice z_ L.length c) ((fun (_ : 0 < 1) => hp11) (by omega))) rfl el_59 (by omega) rfl rfl ?_
   refine r_cons (r_take rfl rfl ?_)
   refine s_fieldAddr 79 1 1 (0 + n * 3 + 1) 4 rfl fi_79_1 rfl rfl ?_
   refine r_cons (r_take rfl rfl ?_)
   refine s_load (.bool ((L.getD n default).v.sent)) ag_4 rfl (H17.blk_at (i := 0) rfl) (elem_cell (L := L) (i := n) bodCell_len (by rw [(rfl : L.length = L.length)]; exact h15) (by have hh : L.length = L.length := (rfl : L.length = L.length); omega) default 1 (by decide) _ rfl) rfl ?_
   refine r_cons (s_pick_t (.bool ((L.getD n default).v.sent)) rfl rfl rfl ?_)
   refine r_nil ?_
   by_cases hb18 : ((L.getD n default).v.sent) = true
   ·skip
    refine g_true (congrArg Value.bool hb18) ?_
    refine g_skip ?_
    refine g_block ?_
    refine g_region ?_
    refine r_cons (s_move (.int .i64 (n : Int)) rfl rfl ?_)
    refine r_cons (s_add ((n : Int) + 1) rfl rfl (wi64 (by omega)) rfl ?_)
    refine r_cons (s_assign (.int .i64 ((n : Int) + 1)) rfl rfl ?_)
    refine r_nil ?_
    refine g_inBlock ?_
    have H19 := Row.shut2 (p := p) (n := L.length) (c := c) (size := 3) (xs := L.flatMap bodCell) H17 (i := 0) rfl hp11 h12 h13 h14 (by have hh : (cur10.toList.drop 0).take (L.length * 3) = L.flatMap bodCell := (by rw [(rfl : L.length = L.length)]; exact h15); have hk : L.length = L.length := (rfl : L.length = L.length); rw [hk] at hh; exact hh) (fun x_ hx_ => by obtain ⟨a_, _, ha_⟩ := List.mem_flatMap.1 hx_; exact one_bod a_ x_ ha_)
    have hs9 : (s.l.getD n default).sent = true := by rw [← bodAt hL n]; assumption
    have H20 : St W w6 (Row 79 3 (.slice p L.length c) L.length (L.flatMap bodCell) :: blk g (lkC s m (.slice p L.length c)) :: ((F.set i emp).set j emp)) := ((H19.move 1 rfl).move 1 rfl)
    exact nx5 (n + 1) _ _ ⟨(by omega), (fun j hj => (Nat.lt_succ_iff_lt_or_eq.1 hj).elim (hs j) (fun e => by rw [e]; exact hs9)), H20⟩ (by first | (dsimp only; omega) | omega) ⟨by first | rfl | exact vint (by omega), by first | rfl | exact vint (by omega), by first | rfl | exact vint (by omega), trivial⟩
   ·have hb18 := eq_false_of_ne_true hb18
    refine g_false (congrArg Value.bool hb18) ?_
    refine g_exit (by rfl) ?_
    refine g_seq ?_
    refine g_region ?_
    refine r_cons (s_move (.int .i64 (n : Int)) rfl rfl ?_)
    refine r_cons (s_assign (.int .i64 (n : Int)) rfl rfl ?_)
    refine r_nil ?_
    refine g_ret' [.int .i64 (n : Int)] Try.func16 Try.results16 ⟨rfl, trivial⟩ ?_
    have H21 := Row.shut2 (p := p) (n := L.length) (c := c) (size := 3) (xs := L.flatMap bodCell) H17 (i := 0) rfl hp11 h12 h13 h14 (by have hh : (cur10.toList.drop 0).take (L.length * 3) = L.flatMap bodCell := (by rw [(rfl : L.length = L.length)]; exact h15); have hk : L.length = L.length := (rfl : L.length = L.length); rw [hk] at hh; exact hh) (fun x_ hx_ => by obtain ⟨a_, _, ha_⟩ := List.mem_flatMap.1 hx_; exact one_bod a_ x_ ha_)
    have hu := under_eq hs hn (fun hlt => by rw [← bodAt hL n]; first | exact hb18 | simpa using hb18)
    have H23 : St W w6 (Row 79 3 (.slice p L.length c) L.length (L.flatMap bodCell) :: blk g (lkC s m (.slice p L.length c)) :: ((F.set i emp).set j emp)) := ((H21.move 1 rfl).move 1 rfl)
    have H22 : St W w6 (Row 79 3 (.slice p L.length c) L.length (L.flatMap bodCell) :: (blk g (lkC s m (.slice p L.length c)) :: F.set i emp).set (j + 1) emp) := H23
    exact ⟨by rw [hu]; rfl, St.back_same hi (St.back_same (i := j + 1) (by exact hj) H22)⟩
  ·skip
   refine r_cons (s_lss false rfl rfl (dfalse hc8) rfl ?_)
   refine r_cons (s_move (.bool false) rfl rfl ?_)
   refine r_cons (r_pass rfl rfl rfl rfl rfl ?_)
   refine r_cons (r_pass rfl rfl rfl rfl rfl ?_)
   refine r_cons (r_pass rfl rfl rfl rfl rfl ?_)
   refine r_cons (r_pass rfl rfl rfl rfl rfl ?_)
   refine r_cons (r_pass rfl rfl rfl rfl rfl ?_)
   refine r_cons (r_pass rfl rfl rfl rfl rfl ?_)
   refine r_cons (r_pass rfl rfl rfl rfl rfl ?_)
   refine r_cons (r_pass rfl rfl rfl rfl rfl ?_)
   refine r_cons (s_pick_f (.bool false) rfl rfl rfl ?_)
   refine r_nil ?_
   refine g_false rfl ?_
   refine g_exit (by rfl) ?_
   refine g_seq ?_
   refine g_region ?_
   refine r_cons (s_move (.int .i64 (n : Int)) rfl rfl ?_)
   refine r_cons (s_assign (.int .i64 (n : Int)) rfl rfl ?_)
   refine r_nil ?_
   refine g_ret' [.int .i64 (n : Int)] Try.func16 Try.results16 ⟨rfl, trivial⟩ ?_
   have hu := under_eq hs hn (fun hlt => by omega)
   have H25 : St W w6 (Row 79 3 (.slice p L.length c) L.length (L.flatMap bodCell) :: blk g (lkC s m (.slice p L.length c)) :: ((F.set i emp).set j emp)) := ((H7.move 1 rfl).move 1 rfl)
   have H24 : St W w6 (Row 79 3 (.slice p L.length c) L.length (L.flatMap bodCell) :: (blk g (lkC s m (.slice p L.length c)) :: F.set i emp).set (j + 1) emp) := H25
   exact ⟨by rw [hu]; rfl, St.back_same hi (St.back_same (i := j + 1) (by exact hj) H24)⟩
set_option maxHeartbeats 4000000 in
set_option maxRecDepth 100000 in
theorem Lk_Take {W w : World} {F : List Atom} (g : Nat) (s : EndV) (hok : endOk s) (d : DgM) (v0 : Value) (hN : s.held.length ≤ 1099511627776) {i : Nat} (hi : F[i]? = some (LkA g s)) {A : Atom} (hA : RdA A 1 v0 d.body.length (d.body.flatMap u8c)) {j : Nat} (hj : (F.set i emp)[j]? = some A) (H : St W w F) : Calls Try.prog 21 #[.pointer (some ⟨g, 0, none⟩), .agg #[.int .i64 d.frm.v, .int .i64 d.to_.v, .int .i64 d.kind.v, .int .i64 d.seq.v, .int .i64 d.ack.v, v0]] w (Ret fun v w' => ∃ p c, v = .tuple #[.slice p ((takeT s d).length) c, .int .i64 (takeE s d)] ∧ St W w' (BysA p c (takeT s d) :: F.set i (LkA g (takeS s d)))) := by
 have H0 := H.front hi
 have hml := (hA _ _ _ (j + 1) H0 (by exact hj)).2
 obtain ⟨pp1, cc2, rfl, hn3⟩ := Rd.shape (hA _ _ _ (j + 1) H0 (by exact hj)).1
 obtain ⟨o1, o2, o3, o4, o5, o6, o8⟩ := id hok; have o7 := i64N_0 (Nat.le_trans o4 (by decide))
 refine calls_of_go (n := 158) Try.func21 rfl Try.ntmps21 rfl ?_
 refine g_seq ?_
 refine g_region ?_
 refine r_cons (s_box H0 41 (.agg #[.int .i64 d.frm.v, .int .i64 d.to_.v, .int .i64 d.kind.v, .int .i64 d.seq.v, .int .i64 d.ack.v, .slice pp1 d.body.length cc2]) rfl (cs := #[.int .i64 d.frm.v, .int .i64 d.to_.v, .int .i64 d.kind.v, .int .i64 d.seq.v, .int .i64 d.ack.v, .slice pp1 d.body.length cc2]) rfl rfl ?_); intro bk4 w5 H6
 refine r_cons (s_assign (.slice none 0 0) rfl rfl ?_)
 refine r_cons (s_assign (.int .i64 0) rfl rfl ?_)
 refine r_nil ?_
 refine g_seq ?_
 refine g_seq ?_
 refine g_region ?_
 refine r_cons (s_move (.pointer (some ⟨g, 0, none⟩)) rfl rfl ?_)
 refine r_cons (s_call [.pointer (some ⟨g, 0, none⟩)] pl_31 rfl rfl (Lk_none g s hok (i := 1) rfl H6) ?_)
 rintro _ w7 ⟨rfl, H8⟩
 refine r_nil ?_
 refine g_false rfl ?_
 refine g_skip ?_
 refine g_seq ?_
 refine g_seq ?_
 refine g_region ?_
 refine r_cons (s_loadAgg [.int .i64 d.frm.v, .int .i64 d.to_.v, .int .i64 d.kind.v, .int .i64 d.seq.v, .int .i64 d.ack.v, .slice pp1 d.body.length cc2] 6 ag_41 rfl (H8.blk_at (i := 0) rfl) (nbl rfl) rfl rfl ?_)
 refine r_cons (s_call [.agg #[.int .i64 d.frm.v, .int .i64 d.to_.v, .int .i64 d.kind.v, .int .i64 d.seq.v, .int .i64 d.ack.v, .slice pp1 d.body.length cc2]] pl_46 rfl rfl (frame_Check d _ hA (j := j + 2) (by exact hj) H8) ?_)
 rintro _ w9 ⟨rfl, H10⟩
 refine r_cons (s_assign (.int .i64 (dgE d)) rfl rfl ?_)
 refine r_nil ?_
 refine g_seq ?_
 refine g_region ?_
 refine r_cons (s_move (.int .i64 (dgE d)) rfl rfl ?_)
 by_cases hc11 : dgE d = 0
 ·skip
  refine r_cons (s_neq false rfl rfl (ntrue hc11) rfl ?_)
  refine r_nil ?_
  refine g_false rfl ?_
  refine g_skip ?_
  refine g_seq ?_
  refine g_seq ?_
  have hd0 : dgE d = 0 := by omega
  obtain ⟨q1, q2, q3, q4, q5, q6⟩ := dgE_seq hd0
  have H12 := H10.move 1 rfl
  obtain ⟨⟨⟨m13, pp14, cc15, L16, E17⟩, hL18, hE19⟩, H20⟩ := St.open_ex H12
  have H21 := St.open_star H20
  change L16.map BodD.v = s.l at hL18; change mapB E17 = s.held at hE19
  have hl22 := lenOf hL18; have he23 := mapB_len hE19
  have H24 : St W w9 (blk g (lkC s m13 (.slice pp14 L16.length cc15)) :: Row 79 3 (.slice pp14 L16.length cc15) L16.length (L16.flatMap bodCell) :: byA (L16.map BodD.by) :: MapA m13 (ents (kI .i64) evD E17) :: byA (mby E17) :: blk bk4 (.cells #[.int .i64 d.frm.v, .int .i64 d.to_.v, .int .i64 d.kind.v, .int .i64 d.seq.v, .int .i64 d.ack.v, .slice pp1 d.body.length cc2] 41 (0, 0)) :: (F.set i emp)) := H21
  have hu0 := under_le s
  refine g_cut (fun (x_ : Unit) => match x_ with | z_ => [(0, .pointer (some ⟨g, 0, none⟩)), (3, .pointer (some ⟨bk4, 0, none⟩)), (4, .slice none 0 0), (5, .int .i64 0), (64, .bool (stray s d))]) (fun (x_ : Unit) w => match x_ with | z_ => (True) ∧ St W w (blk g (lkC s m13 (.slice pp14 L16.length cc15)) :: Row 79 3 (.slice pp14 L16.length cc15) L16.length (L16.flatMap bodCell) :: byA (L16.map BodD.by) :: MapA m13 (ents (kI .i64) evD E17) :: byA (mby E17) :: blk bk4 (.cells #[.int .i64 d.frm.v, .int .i64 d.to_.v, .int .i64 d.kind.v, .int .i64 d.seq.v, .int .i64 d.ack.v, .slice pp1 d.body.length cc2] 41 (0, 0)) :: (F.set i emp))) ?_ ?_
  ·rintro z_ ρ28 w26 ⟨hz_, H27⟩
   change Ends _ _ (upds ρ28 [(0, .pointer (some ⟨g, 0, none⟩)), (3, .pointer (some ⟨bk4, 0, none⟩)), (4, .slice none 0 0), (5, .int .i64 0), (64, .bool (stray s d))]) w26
   by_cases hb29 : (stray s d) = true
   ·skip
    refine g_true (congrArg Value.bool hb29) ?_
    refine g_seq ?_
    refine g_region ?_
    refine r_cons (s_assign (.slice none 0 0) rfl rfl ?_)
    refine r_cons (s_assign (.int .i64 210) rfl rfl ?_)
    refine r_nil ?_
    refine g_ret' [.slice none 0 0, .int .i64 210] Try.func21 Try.results21 ⟨rfl, rfl, trivial⟩ ?_
    have H30 : St W w26 (LkA g s :: blk bk4 (.cells #[.int .i64 d.frm.v, .int .i64 d.to_.v, .int .i64 d.kind.v, .int .i64 d.seq.v, .int .i64 d.ack.v, .slice pp1 d.body.length cc2] 41 (0, 0)) :: (F.set i emp)) := St.shut_ex ⟨(m13, pp14, cc15, L16, E17), hL18, hE19⟩ (St.shut_star (ls := [_, _, _, _, _]) H27)
    have hE : takeE s d = 210 := takeE_210 hd0 (by assumption)
    have hE0 : ¬ takeE s d = 0 := by omega
    have H31 := Row.nil_intro H30 26 1
    have H32 := byA_nil H31
    have H33 : St W w26 (Row 26 1 (.slice none 0 0) 0 [] :: byA ([] : List BytesD) :: LkA g s :: blk bk4 (.cells #[.int .i64 d.frm.v, .int .i64 d.to_.v, .int .i64 d.kind.v, .int .i64 d.seq.v, .int .i64 d.ack.v, .slice pp1 d.body.length cc2] 41 (0, 0)) :: (F.set i emp)) := (H32.move 1 rfl)
    have hT9 : takeT s d = [] := takeT_no (fun h => hE0 h.1)
    have H34 : St W w26 (BysA none 0 (takeT s d) :: LkA g s :: blk bk4 (.cells #[.int .i64 d.frm.v, .int .i64 d.to_.v, .int .i64 d.kind.v, .int .i64 d.seq.v, .int .i64 d.ack.v, .slice pp1 d.body.length cc2] 41 (0, 0)) :: (F.set i emp)) := by rw [hT9]; exact St.shut_ex ⟨[], rfl⟩ (St.shut_star (ls := [_, _]) H33)
    have H35 : St W w26 (BysA none 0 (takeT s d) :: LkA g (takeS s d) :: blk bk4 (.cells #[.int .i64 d.frm.v, .int .i64 d.to_.v, .int .i64 d.kind.v, .int .i64 d.seq.v, .int .i64 d.ack.v, .slice pp1 d.body.length cc2] 41 (0, 0)) :: (F.set i emp)) := by rw [takeS_no hE0]; exact H34
    have H36 : St W w26 (BysA none 0 (takeT s d) :: LkA g (takeS s d) :: (F.set i emp)) := (((H35.move 1 rfl).move 1 rfl).drop 2 rfl)
    have H37 : St W w26 (LkA g (takeS s d) :: (BysA none 0 (takeT s d) :: F).set (i + 1) emp) := (H36.move 1 rfl)
    exact ⟨none, 0, by rw [hE, hT9]; rfl, St.back (i := i + 1) (by exact hi) H37⟩
   ·have hb29 := eq_false_of_ne_true hb29
    refine g_false (congrArg Value.bool hb29) ?_
    refine g_skip ?_
    refine g_seq ?_
    refine g_seq ?_
    have hst : stray s d = false := by assumption
    have hE : takeE s d = 0 := takeE_is hd0 hst
    have hs9 := stray_not hst
    refine g_quiet (fun w' => St W w' (blk g (lkC s m13 (.slice pp14 L16.length cc15)) :: Row 79 3 (.slice pp14 L16.length cc15) L16.length (L16.flatMap bodCell) :: byA (L16.map BodD.by) :: MapA m13 (ents (kI .i64) evD E17) :: byA (mby E17) :: blk bk4 (.cells #[.int .i64 d.frm.v, .int .i64 d.to_.v, .int .i64 d.kind.v, .int .i64 d.seq.v, .int .i64 d.ack.v, .slice pp1 d.body.length cc2] 41 (0, 0)) :: (F.set i emp))) mixed (by kernel_rfl) H27.drew ?_
    refine q_cons (q_val rfl rfl rfl (by intro w hw; exact x_fieldAddr 41 4 4 4 2 rfl fi_41_4 rfl w) ?_)
    refine q_cons (q_val rfl rfl rfl (by intro w hw; exact x_load (.int .i64 d.ack.v) ag_2 rfl (hw.blk_at (i := 5) rfl) rfl) ?_)
    refine q_cons (q_val rfl rfl rfl (by intro w hw; exact x_move (.pointer (some ⟨g, 0, none⟩)) rfl w) ?_)
    refine q_cons (q_val rfl rfl rfl (by intro w hw; exact x_nilCheck (.pointer (some ⟨g, 0, none⟩)) rfl ⟨_, rfl⟩ w) ?_)
    refine q_cons (q_val rfl rfl rfl (by intro w hw; exact x_fieldAddr 62 3 4 4 2 rfl fi_62_3 rfl w) ?_)
    refine q_cons (q_val rfl rfl rfl (by intro w hw; exact x_load (.int .i64 (s.acked : Int)) ag_2 rfl (hw.blk_at (i := 0) rfl) rfl) ?_)
    refine q_cons (q_val rfl rfl rfl (by intro w hw; exact x_sub (d.ack.v - (s.acked : Int)) rfl rfl (wi64 (by omega)) w) ?_)
    refine q_cons (q_val rfl rfl rfl (by intro w hw; exact x_assign (.int .i64 (d.ack.v - (s.acked : Int))) rfl w) ?_)
    refine q_nil ?_
    intro w38 H39
    refine g_seq ?_
    refine g_region ?_
    refine r_cons (s_move (.int .i64 (d.ack.v - (s.acked : Int))) rfl rfl ?_)
    by_cases hc40 : (0 : Int) < d.ack.v - (s.acked : Int)
    ·skip
     refine r_cons (s_gtr true rfl rfl (dtrue hc40) rfl ?_)
     refine r_nil ?_
     refine g_cut (fun (x_ : Unit) => match x_ with | z_ => [(0, .pointer (some ⟨g, 0, none⟩)), (3, .pointer (some ⟨bk4, 0, none⟩)), (4, .slice none 0 0), (5, .int .i64 0)]) (fun (x_ : Unit) w => match x_ with | z_ => (True) ∧ St W w (LkA g (ackS s d.ack.v) :: blk bk4 (.cells #[.int .i64 d.frm.v, .int .i64 d.to_.v, .int .i64 d.kind.v, .int .i64 d.seq.v, .int .i64 d.ack.v, .slice pp1 d.body.length cc2] 41 (0, 0)) :: (F.set i emp))) ?_ ?_
     ·rintro z_ ρ44 w42 ⟨hz_, H43⟩
      change Ends _ _ (upds ρ44 [(0, .pointer (some ⟨g, 0, none⟩)), (3, .pointer (some ⟨bk4, 0, none⟩)), (4, .slice none 0 0), (5, .int .i64 0)]) w42
      have hca := ackS_came s d.ack.v; have hhe := ackS_held s d.ack.v; have hcy : (i64N (ackS s d.ack.v).came).v = (s.came : Int) := by rw [hca]; exact o7
      refine g_seq ?_
      refine g_seq ?_
      refine g_region ?_
      refine r_cons (s_fieldAddr 41 2 2 2 3 rfl fi_41_2 rfl rfl ?_)
      refine r_cons (s_load (.int .i64 d.kind.v) ag_3 rfl (H43.blk_at (i := 1) rfl) rfl rfl ?_)
      by_cases hc45 : d.kind.v = 1
      ·skip
       refine r_cons (s_neq false rfl rfl (ntrue hc45) rfl ?_)
       refine r_nil ?_
       refine g_false rfl ?_
       refine g_skip ?_
       refine g_seq ?_
       refine g_region ?_
       refine r_cons (s_move (.pointer (some ⟨g, 0, none⟩)) rfl rfl ?_)
       have hk1 : d.kind.v = 1 := by omega
       have H46 := H43.move 0 rfl
       obtain ⟨⟨⟨m47, pp48, cc49, L50, E51⟩, hL52, hE53⟩, H54⟩ := St.open_ex H46
       have H55 := St.open_star H54
       change L50.map BodD.v = (ackS s d.ack.v).l at hL52; change mapB E51 = (ackS s d.ack.v).held at hE53
       have hl56 := lenOf hL52; have he57 := mapB_len hE53
       have H58 : St W w42 (blk g (lkC (ackS s d.ack.v) m47 (.slice pp48 L50.length cc49)) :: Row 79 3 (.slice pp48 L50.length cc49) L50.length (L50.flatMap bodCell) :: byA (L50.map BodD.by) :: MapA m47 (ents (kI .i64) evD E51) :: byA (mby E51) :: blk bk4 (.cells #[.int .i64 d.frm.v, .int .i64 d.to_.v, .int .i64 d.kind.v, .int .i64 d.seq.v, .int .i64 d.ack.v, .slice pp1 d.body.length cc2] 41 (0, 0)) :: (F.set i emp)) := H55
       refine r_cons (s_nilCheck (.pointer (some ⟨g, 0, none⟩)) rfl ⟨_, rfl⟩ rfl ?_)
       refine r_cons (s_fieldAddr 62 7 8 8 4 rfl fi_62_7 rfl rfl ?_)
       refine r_cons (s_store H58 0 (.bool true) rfl rfl rfl sz_4 rfl (nbl rfl) rfl (cs' := #[.int .i64 ((ackS s d.ack.v).frm.v), .int .i64 ((ackS s d.ack.v).to_.v), .int .i64 ((ackS s d.ack.v).slide : Int), .slice pp48 L50.length cc49, .int .i64 ((ackS s d.ack.v).acked : Int), .int .i64 ((i64N (ackS s d.ack.v).came).v), .map (some m47), .int .i64 ((ackS s d.ack.v).clock : Int), .bool true]) rfl ?_); intro w59 H60
       refine r_nil ?_
       refine g_seq ?_
       refine g_seq ?_
       refine g_quiet (fun w' => St W w' (blk g (.cells #[.int .i64 ((ackS s d.ack.v).frm.v), .int .i64 ((ackS s d.ack.v).to_.v), .int .i64 ((ackS s d.ack.v).slide : Int), .slice pp48 L50.length cc49, .int .i64 ((ackS s d.ack.v).acked : Int), .int .i64 ((i64N (ackS s d.ack.v).came).v), .map (some m47), .int .i64 ((ackS s d.ack.v).clock : Int), .bool true] 62 (0, 0)) :: Row 79 3 (.slice pp48 L50.length cc49) L50.length (L50.flatMap bodCell) :: byA (L50.map BodD.by) :: MapA m47 (ents (kI .i64) evD E51) :: byA (mby E51) :: blk bk4 (.cells #[.int .i64 d.frm.v, .int .i64 d.to_.v, .int .i64 d.kind.v, .int .i64 d.seq.v, .int .i64 d.ack.v, .slice pp1 d.body.length cc2] 41 (0, 0)) :: (F.set i emp))) mixed (by kernel_rfl) H60.drew ?_
       refine q_cons (q_val rfl rfl rfl (by intro w hw; exact x_move (.pointer (some ⟨g, 0, none⟩)) rfl w) ?_)
       refine q_cons (q_val rfl rfl rfl (by intro w hw; exact x_nilCheck (.pointer (some ⟨g, 0, none⟩)) rfl ⟨_, rfl⟩ w) ?_)
       refine q_cons (q_val rfl rfl rfl (by intro w hw; exact x_fieldAddr 62 5 6 6 60 rfl fi_62_5 rfl w) ?_)
       refine q_cons (q_val rfl rfl rfl (by intro w hw; exact x_load (.map (some m47)) ag_60 rfl (hw.blk_at (i := 0) rfl) rfl) ?_)
       refine q_cons (q_val rfl rfl rfl (by intro w hw; exact x_fieldAddr 41 3 3 3 2 rfl fi_41_3 rfl w) ?_)
       refine q_cons (q_val rfl rfl rfl (by intro w hw; exact x_load (.int .i64 d.seq.v) ag_2 rfl (hw.blk_at (i := 5) rfl) rfl) ?_)
       refine q_cons (q_val rfl rfl rfl (by intro w hw; exact x_lookup2 (ek := (kI .i64)) (ev := evD) (L := E51) d.seq ((lookV evD (.slice none 0 0) E51 d.seq)) (ahas E51 d.seq) (MapA.at hw (i := 3) rfl) (KeyLaw.I un_2) un_60 zv_26 rfl rfl (rfl) rfl) ?_)
       refine q_cons (q_val rfl rfl rfl (by intro w hw; exact x_move (.tuple #[(lookV evD (.slice none 0 0) E51 d.seq), .bool (ahas E51 d.seq)]) rfl w) ?_)
       refine q_cons (q_val rfl rfl rfl (by intro w hw; exact x_extract ((lookV evD (.slice none 0 0) E51 d.seq)) #[(lookV evD (.slice none 0 0) E51 d.seq), .bool (ahas E51 d.seq)] rfl rfl w) ?_)
       refine q_cons (q_val rfl rfl rfl (by intro w hw; exact x_extract (.bool (ahas E51 d.seq)) #[(lookV evD (.slice none 0 0) E51 d.seq), .bool (ahas E51 d.seq)] rfl rfl w) ?_)
       refine q_cons (q_val rfl rfl rfl (by intro w hw; exact x_assign ((lookV evD (.slice none 0 0) E51 d.seq)) rfl w) ?_)
       refine q_cons (q_val rfl rfl rfl (by intro w hw; exact x_assign (.bool (ahas E51 d.seq)) rfl w) ?_)
       refine q_nil ?_
       intro w61 H62
       refine g_seq ?_
       refine g_quiet (fun w' => St W w' (blk g (.cells #[.int .i64 ((ackS s d.ack.v).frm.v), .int .i64 ((ackS s d.ack.v).to_.v), .int .i64 ((ackS s d.ack.v).slide : Int), .slice pp48 L50.length cc49, .int .i64 ((ackS s d.ack.v).acked : Int), .int .i64 ((i64N (ackS s d.ack.v).came).v), .map (some m47), .int .i64 ((ackS s d.ack.v).clock : Int), .bool true] 62 (0, 0)) :: Row 79 3 (.slice pp48 L50.length cc49) L50.length (L50.flatMap bodCell) :: byA (L50.map BodD.by) :: MapA m47 (ents (kI .i64) evD E51) :: byA (mby E51) :: blk bk4 (.cells #[.int .i64 d.frm.v, .int .i64 d.to_.v, .int .i64 d.kind.v, .int .i64 d.seq.v, .int .i64 d.ack.v, .slice pp1 d.body.length cc2] 41 (0, 0)) :: (F.set i emp))) mixed (by kernel_rfl) H62.drew ?_
       refine q_cons (q_val rfl rfl rfl (by intro w hw; exact x_fieldAddr 41 3 3 3 2 rfl fi_41_3 rfl w) ?_)
       refine q_cons (q_val rfl rfl rfl (by intro w hw; exact x_load (.int .i64 d.seq.v) ag_2 rfl (hw.blk_at (i := 5) rfl) rfl) ?_)
       refine q_cons (q_val rfl rfl rfl (by intro w hw; exact x_move (.pointer (some ⟨g, 0, none⟩)) rfl w) ?_)
       refine q_cons (q_val rfl rfl rfl (by intro w hw; exact x_nilCheck (.pointer (some ⟨g, 0, none⟩)) rfl ⟨_, rfl⟩ w) ?_)
       refine q_cons (q_val rfl rfl rfl (by intro w hw; exact x_fieldAddr 62 4 5 5 2 rfl fi_62_4 rfl w) ?_)
       refine q_cons (q_val rfl rfl rfl (by intro w hw; exact x_load (.int .i64 ((i64N (ackS s d.ack.v).came).v)) ag_2 rfl (hw.blk_at (i := 0) rfl) rfl) ?_)
       by_cases hc63 : d.seq.v < (i64N (ackS s d.ack.v).came).v
       ·skip
        refine q_cons (q_val rfl rfl rfl (by intro w hw; exact x_lss true rfl rfl (dtrue hc63) w) ?_)
        refine q_cons (q_val rfl rfl rfl (by intro w hw; exact x_move (.bool true) rfl w) ?_)
        refine q_cons (q_pass rfl rfl rfl rfl rfl ?_)
        refine q_cons (q_val rfl rfl rfl (by intro w hw; exact x_pick_t (.bool true) rfl rfl w) ?_)
        refine q_nil ?_
        intro w64 H65
        refine g_true rfl ?_
        refine g_seq ?_
        refine g_region ?_
        refine r_cons (s_assign (.slice none 0 0) rfl rfl ?_)
        refine r_cons (s_assign (.int .i64 0) rfl rfl ?_)
        refine r_nil ?_
        refine g_ret' [.slice none 0 0, .int .i64 0] Try.func21 Try.results21 ⟨rfl, rfl, trivial⟩ ?_
        have H66 : St W w64 (LkA g ({ ackS s d.ack.v with owes := true } : EndV) :: blk bk4 (.cells #[.int .i64 d.frm.v, .int .i64 d.to_.v, .int .i64 d.kind.v, .int .i64 d.seq.v, .int .i64 d.ack.v, .slice pp1 d.body.length cc2] 41 (0, 0)) :: (F.set i emp)) := St.shut_ex ⟨(m47, pp48, cc49, L50, E51), hL52, hE53⟩ (St.shut_star (ls := [_, _, _, _, _]) H65)
        have hC : takeC s d = ([], s.came, s.held) := takeC_no (by first | exact .inl (by omega) | (right; rw [← hhe, mapB_has hE53]; assumption))
        have H67 := Row.nil_intro H66 26 1
        have H68 := byA_nil H67
        have H69 : St W w64 (Row 26 1 (.slice none 0 0) 0 [] :: byA ([] : List BytesD) :: LkA g ({ ackS s d.ack.v with owes := true } : EndV) :: blk bk4 (.cells #[.int .i64 d.frm.v, .int .i64 d.to_.v, .int .i64 d.kind.v, .int .i64 d.seq.v, .int .i64 d.ack.v, .slice pp1 d.body.length cc2] 41 (0, 0)) :: (F.set i emp)) := (H68.move 1 rfl)
        have hT9 : takeT s d = [] := by rw [takeT_yes hE hk1, hC]
        have H70 : St W w64 (BysA none 0 (takeT s d) :: LkA g ({ ackS s d.ack.v with owes := true } : EndV) :: blk bk4 (.cells #[.int .i64 d.frm.v, .int .i64 d.to_.v, .int .i64 d.kind.v, .int .i64 d.seq.v, .int .i64 d.ack.v, .slice pp1 d.body.length cc2] 41 (0, 0)) :: (F.set i emp)) := by rw [hT9]; exact St.shut_ex ⟨[], rfl⟩ (St.shut_star (ls := [_, _]) H69)
        have H71 : St W w64 (BysA none 0 (takeT s d) :: LkA g (takeS s d) :: blk bk4 (.cells #[.int .i64 d.frm.v, .int .i64 d.to_.v, .int .i64 d.kind.v, .int .i64 d.seq.v, .int .i64 d.ack.v, .slice pp1 d.body.length cc2] 41 (0, 0)) :: (F.set i emp)) := by rw [takeS_data hE hk1, hC, ← hca, ← hhe]; exact H70
        have H72 : St W w64 (BysA none 0 (takeT s d) :: LkA g (takeS s d) :: (F.set i emp)) := (((H71.move 1 rfl).move 1 rfl).drop 2 rfl)
        have H73 : St W w64 (LkA g (takeS s d) :: (BysA none 0 (takeT s d) :: F).set (i + 1) emp) := (H72.move 1 rfl)
        exact ⟨none, 0, by rw [hE, hT9]; rfl, St.back (i := i + 1) (by exact hi) H73⟩
       ·skip
        refine q_cons (q_val rfl rfl rfl (by intro w hw; exact x_lss false rfl rfl (dfalse hc63) w) ?_)
        refine q_cons (q_val rfl rfl rfl (by intro w hw; exact x_move (.bool false) rfl w) ?_)
        refine q_cons (q_take rfl rfl ?_)
        refine q_val rfl rfl rfl (by intro w hw; exact x_move (.bool (ahas E51 d.seq)) rfl w) ?_
        refine q_cons (q_val rfl rfl rfl (by intro w hw; exact x_pick_f (.bool (ahas E51 d.seq)) rfl rfl w) ?_)
        refine q_nil ?_
        intro w74 H75
        by_cases hb76 : (ahas E51 d.seq) = true
        ·skip
         refine g_true (congrArg Value.bool hb76) ?_
         refine g_seq ?_
         refine g_region ?_
         refine r_cons (s_assign (.slice none 0 0) rfl rfl ?_)
         refine r_cons (s_assign (.int .i64 0) rfl rfl ?_)
         refine r_nil ?_
         refine g_ret' [.slice none 0 0, .int .i64 0] Try.func21 Try.results21 ⟨rfl, rfl, trivial⟩ ?_
         have H77 : St W w74 (LkA g ({ ackS s d.ack.v with owes := true } : EndV) :: blk bk4 (.cells #[.int .i64 d.frm.v, .int .i64 d.to_.v, .int .i64 d.kind.v, .int .i64 d.seq.v, .int .i64 d.ack.v, .slice pp1 d.body.length cc2] 41 (0, 0)) :: (F.set i emp)) := St.shut_ex ⟨(m47, pp48, cc49, L50, E51), hL52, hE53⟩ (St.shut_star (ls := [_, _, _, _, _]) H75)
         have hC : takeC s d = ([], s.came, s.held) := takeC_no (by first | exact .inl (by omega) | (right; rw [← hhe, mapB_has hE53]; assumption))
         have H78 := Row.nil_intro H77 26 1
         have H79 := byA_nil H78
         have H80 : St W w74 (Row 26 1 (.slice none 0 0) 0 [] :: byA ([] : List BytesD) :: LkA g ({ ackS s d.ack.v with owes := true } : EndV) :: blk bk4 (.cells #[.int .i64 d.frm.v, .int .i64 d.to_.v, .int .i64 d.kind.v, .int .i64 d.seq.v, .int .i64 d.ack.v, .slice pp1 d.body.length cc2] 41 (0, 0)) :: (F.set i emp)) := (H79.move 1 rfl)
         have hT9 : takeT s d = [] := by rw [takeT_yes hE hk1, hC]
         have H81 : St W w74 (BysA none 0 (takeT s d) :: LkA g ({ ackS s d.ack.v with owes := true } : EndV) :: blk bk4 (.cells #[.int .i64 d.frm.v, .int .i64 d.to_.v, .int .i64 d.kind.v, .int .i64 d.seq.v, .int .i64 d.ack.v, .slice pp1 d.body.length cc2] 41 (0, 0)) :: (F.set i emp)) := by rw [hT9]; exact St.shut_ex ⟨[], rfl⟩ (St.shut_star (ls := [_, _]) H80)
         have H82 : St W w74 (BysA none 0 (takeT s d) :: LkA g (takeS s d) :: blk bk4 (.cells #[.int .i64 d.frm.v, .int .i64 d.to_.v, .int .i64 d.kind.v, .int .i64 d.seq.v, .int .i64 d.ack.v, .slice pp1 d.body.length cc2] 41 (0, 0)) :: (F.set i emp)) := by rw [takeS_data hE hk1, hC, ← hca, ← hhe]; exact H81
         have H83 : St W w74 (BysA none 0 (takeT s d) :: LkA g (takeS s d) :: (F.set i emp)) := (((H82.move 1 rfl).move 1 rfl).drop 2 rfl)
         have H84 : St W w74 (LkA g (takeS s d) :: (BysA none 0 (takeT s d) :: F).set (i + 1) emp) := (H83.move 1 rfl)
         exact ⟨none, 0, by rw [hE, hT9]; rfl, St.back (i := i + 1) (by exact hi) H84⟩
        ·have hb76 := eq_false_of_ne_true hb76
         refine g_false (congrArg Value.bool hb76) ?_
         refine g_skip ?_
         refine g_seq ?_
         have hno0 : ahas s.held d.seq = false := by rw [← hhe, mapB_has hE53]; assumption
         have hC := takeC_yes (s := s) (d := d) (by rw [hno0]; simp only [Bool.false_eq_true, or_false]; omega)
         have H85 : St W w74 (blk g (.cells #[.int .i64 ((ackS s d.ack.v).frm.v), .int .i64 ((ackS s d.ack.v).to_.v), .int .i64 ((ackS s d.ack.v).slide : Int), .slice pp48 L50.length cc49, .int .i64 ((ackS s d.ack.v).acked : Int), .int .i64 ((i64N (ackS s d.ack.v).came).v), .map (some m47), .int .i64 ((ackS s d.ack.v).clock : Int), .bool true] 62 (0, 0)) :: Row 79 3 (.slice pp48 L50.length cc49) L50.length (L50.flatMap bodCell) :: byA (L50.map BodD.by) :: byA (mby E51) :: blk bk4 (.cells #[.int .i64 d.frm.v, .int .i64 d.to_.v, .int .i64 d.kind.v, .int .i64 d.seq.v, .int .i64 d.ack.v, .slice pp1 d.body.length cc2] 41 (0, 0)) :: MapA m47 (ents (kI .i64) evD E51) :: (F.set i emp)) := ((((((H75.move 3 rfl).move 5 rfl).move 5 rfl).move 5 rfl).move 5 rfl).move 5 rfl)
         refine g_mix (fun t_ w => St W w (blk g (.cells #[.int .i64 ((ackS s d.ack.v).frm.v), .int .i64 ((ackS s d.ack.v).to_.v), .int .i64 ((ackS s d.ack.v).slide : Int), .slice pp48 L50.length cc49, .int .i64 ((ackS s d.ack.v).acked : Int), .int .i64 ((i64N (ackS s d.ack.v).came).v), .map (some m47), .int .i64 ((ackS s d.ack.v).clock : Int), .bool true] 62 (0, 0)) :: Row 79 3 (.slice pp48 L50.length cc49) L50.length (L50.flatMap bodCell) :: byA (L50.map BodD.by) :: byA (mby E51) :: blk bk4 (.cells #[.int .i64 d.frm.v, .int .i64 d.to_.v, .int .i64 d.kind.v, .int .i64 d.seq.v, .int .i64 d.ack.v, .slice pp1 d.body.length cc2] 41 (0, 0)) :: t_)) (MapA m47 (ents (kI .i64) evD E51) :: (F.set i emp)) mixed 10 rfl H85.drew ?_
         refine f_first 0 (listed' := #[true, false, false, false, false, false, false, false, false, false]) rfl (by kernel_rfl) (by kernel_rfl) (by kernel_rfl) rfl ?_
         refine f_val rfl rfl rfl (by intro _ w _; exact x_move (.pointer (some ⟨g, 0, none⟩)) rfl w) ?_
         refine f_first 1 (listed' := #[true, true, false, false, false, false, false, false, false, false]) rfl (by kernel_rfl) (by kernel_rfl) (by kernel_rfl) rfl ?_
         refine f_val rfl rfl rfl (by intro t_ w hw; exact x_nilCheck (.pointer (some ⟨g, 0, none⟩)) rfl ⟨_, rfl⟩ w) ?_
         refine f_first 2 (listed' := #[true, true, true, false, false, false, false, false, false, false]) rfl (by kernel_rfl) (by kernel_rfl) (by kernel_rfl) rfl ?_
         refine f_val rfl rfl rfl (by intro t_ w hw; exact x_fieldAddr 62 5 6 6 60 rfl fi_62_5 rfl w) ?_
         refine f_first 3 (listed' := #[true, true, true, true, false, false, false, false, false, false]) rfl (by kernel_rfl) (by kernel_rfl) (by kernel_rfl) rfl ?_
         refine f_val rfl rfl rfl (by intro t_ w hw; exact x_load (.map (some m47)) ag_60 rfl (hw.blk_at (i := 0) rfl) rfl) ?_
         refine f_first 4 (listed' := #[true, true, true, true, true, false, false, false, false, false]) rfl (by kernel_rfl) (by kernel_rfl) (by kernel_rfl) rfl ?_
         refine f_val rfl rfl rfl (by intro t_ w hw; exact x_fieldAddr 41 3 3 3 2 rfl fi_41_3 rfl w) ?_
         refine f_first 5 (listed' := #[true, true, true, true, true, true, false, false, false, false]) rfl (by kernel_rfl) (by kernel_rfl) (by kernel_rfl) rfl ?_
         refine f_val rfl rfl rfl (by intro t_ w hw; exact x_load (.int .i64 d.seq.v) ag_2 rfl (hw.blk_at (i := 4) rfl) rfl) ?_
         refine f_first 6 (listed' := #[true, true, true, true, true, true, true, false, false, false]) rfl (by kernel_rfl) (by kernel_rfl) (by kernel_rfl) rfl ?_
         refine f_val rfl rfl rfl (by intro t_ w hw; exact x_fieldAddr 41 5 5 5 26 rfl fi_41_5 rfl w) ?_
         refine f_first 7 (listed' := #[true, true, true, true, true, true, true, true, false, false]) rfl (by kernel_rfl) (by kernel_rfl) (by kernel_rfl) rfl ?_
         refine f_val rfl rfl rfl (by intro t_ w hw; exact x_load (.slice pp1 d.body.length cc2) ag_26 rfl (hw.blk_at (i := 4) rfl) rfl) ?_
         refine f_all (rs := [8]) (by kernel_rfl) (by simp) ?_
         refine a_cons ⟨_, rfl, ?_⟩ (fun x hx => absurd hx (by simp))
         intro w86 H87
         try dsimp only at H87
         refine s_call [.slice pp1 d.body.length cc2] pl_48 rfl rfl (clone_bytes _ _ d.body.length (d.body.flatMap u8c) hA (by first | omega | (have hlp := Nat.le_refl 0; omega)) (j := j + 6) (by exact hj) H87) ?_
         rintro _ w90 ⟨pp88, cc89, rfl, H91⟩
         have H92 : St W w90 (blk g (.cells #[.int .i64 ((ackS s d.ack.v).frm.v), .int .i64 ((ackS s d.ack.v).to_.v), .int .i64 ((ackS s d.ack.v).slide : Int), .slice pp48 L50.length cc49, .int .i64 ((ackS s d.ack.v).acked : Int), .int .i64 ((i64N (ackS s d.ack.v).came).v), .map (some m47), .int .i64 ((ackS s d.ack.v).clock : Int), .bool true] 62 (0, 0)) :: Row 79 3 (.slice pp48 L50.length cc49) L50.length (L50.flatMap bodCell) :: byA (L50.map BodD.by) :: byA (mby E51) :: blk bk4 (.cells #[.int .i64 d.frm.v, .int .i64 d.to_.v, .int .i64 d.kind.v, .int .i64 d.seq.v, .int .i64 d.ack.v, .slice pp1 d.body.length cc2] 41 (0, 0)) :: Row 5 1 (.slice pp88 d.body.length cc89) d.body.length (d.body.flatMap u8c) :: MapA m47 (ents (kI .i64) evD E51) :: (F.set i emp)) := (((((((H91.move 6 rfl).move 1 rfl).move 6 rfl).move 6 rfl).move 6 rfl).move 6 rfl).move 6 rfl)
         refine ⟨Row 5 1 (.slice pp88 d.body.length cc89) d.body.length (d.body.flatMap u8c) :: MapA m47 (ents (kI .i64) evD E51) :: (F.set i emp), ?_, H92⟩
         change FReg _ _ _ _ _ #[true, true, true, true, true, true, true, true, true, false] _ _
         refine f_all (rs := [9]) (by kernel_rfl) (by simp) ?_
         refine a_cons ⟨_, rfl, ?_⟩ (fun x hx => absurd hx (by simp))
         intro w93 H94
         try dsimp only at H94
         refine s_mapUpdate (ek := (kI .i64)) (ev := evD) (L := E51) d.seq (⟨d.body, pp88, cc89⟩ : BytesD) H94 (i := 6) rfl (KeyLaw.I un_2) un_60 rfl rfl rfl ?_; intro w95 H96
         have H97 : St W w95 (blk g (.cells #[.int .i64 ((ackS s d.ack.v).frm.v), .int .i64 ((ackS s d.ack.v).to_.v), .int .i64 ((ackS s d.ack.v).slide : Int), .slice pp48 L50.length cc49, .int .i64 ((ackS s d.ack.v).acked : Int), .int .i64 ((i64N (ackS s d.ack.v).came).v), .map (some m47), .int .i64 ((ackS s d.ack.v).clock : Int), .bool true] 62 (0, 0)) :: Row 79 3 (.slice pp48 L50.length cc49) L50.length (L50.flatMap bodCell) :: byA (L50.map BodD.by) :: byA (mby E51) :: blk bk4 (.cells #[.int .i64 d.frm.v, .int .i64 d.to_.v, .int .i64 d.kind.v, .int .i64 d.seq.v, .int .i64 d.ack.v, .slice pp1 d.body.length cc2] 41 (0, 0)) :: Row 5 1 (.slice pp88 d.body.length cc89) d.body.length (d.body.flatMap u8c) :: MapA m47 (ents (kI .i64) evD (aset E51 d.seq (⟨d.body, pp88, cc89⟩ : BytesD))) :: (F.set i emp)) := H96
         refine ⟨Row 5 1 (.slice pp88 d.body.length cc89) d.body.length (d.body.flatMap u8c) :: MapA m47 (ents (kI .i64) evD (aset E51 d.seq (⟨d.body, pp88, cc89⟩ : BytesD))) :: (F.set i emp), ?_, H97⟩
         change FReg _ _ _ _ _ #[true, true, true, true, true, true, true, true, true, true] _ _
         refine f_done (by kernel_rfl) ?_
         intro w98 H99
         refine g_seq ?_
         refine g_region ?_
         refine r_cons (s_assign (.slice none 0 0) rfl rfl ?_)
         refine r_nil ?_
         refine g_block ?_
         have H100 : St W w98 (blk g (.cells #[.int .i64 ((ackS s d.ack.v).frm.v), .int .i64 ((ackS s d.ack.v).to_.v), .int .i64 ((ackS s d.ack.v).slide : Int), .slice pp48 L50.length cc49, .int .i64 ((ackS s d.ack.v).acked : Int), .int .i64 ((i64N (ackS s d.ack.v).came).v), .map (some m47), .int .i64 ((ackS s d.ack.v).clock : Int), .bool true] 62 (0, 0)) :: Row 79 3 (.slice pp48 L50.length cc49) L50.length (L50.flatMap bodCell) :: byA (L50.map BodD.by) :: byA (mby E51) :: blk bk4 (.cells #[.int .i64 d.frm.v, .int .i64 d.to_.v, .int .i64 d.kind.v, .int .i64 d.seq.v, .int .i64 d.ack.v, .slice pp1 d.body.length cc2] 41 (0, 0)) :: Im 1 (.slice pp88 d.body.length cc89) d.body.length (d.body.flatMap u8c) :: MapA m47 (ents (kI .i64) evD (aset E51 d.seq (⟨d.body, pp88, cc89⟩ : BytesD))) :: (F.set i emp)) := Row.im H99 (i := 5) rfl
         have H101 := byA_add (x := (⟨d.body, pp88, cc89⟩ : BytesD)) (M := mby (aset E51 d.seq (⟨d.body, pp88, cc89⟩ : BytesD))) H100 (i := 3) (j := 5) rfl rfl (mby_set (by rw [← mapB_has hE53, hhe]; exact hno0))
         have H102 : St W w98 (byA (mby (aset E51 d.seq (⟨d.body, pp88, cc89⟩ : BytesD))) :: blk g (.cells #[.int .i64 ((ackS s d.ack.v).frm.v), .int .i64 ((ackS s d.ack.v).to_.v), .int .i64 ((ackS s d.ack.v).slide : Int), .slice pp48 L50.length cc49, .int .i64 ((ackS s d.ack.v).acked : Int), .int .i64 ((i64N s.came).v), .map (some m47), .int .i64 ((ackS s d.ack.v).clock : Int), .bool true] 62 (0, 0)) :: Row 79 3 (.slice pp48 L50.length cc49) L50.length (L50.flatMap bodCell) :: byA (L50.map BodD.by) :: byA (mby E51) :: blk bk4 (.cells #[.int .i64 d.frm.v, .int .i64 d.to_.v, .int .i64 d.kind.v, .int .i64 d.seq.v, .int .i64 d.ack.v, .slice pp1 d.body.length cc2] 41 (0, 0)) :: Im 1 (.slice pp88 d.body.length cc89) d.body.length (d.body.flatMap u8c) :: MapA m47 (ents (kI .i64) evD (aset E51 d.seq (⟨d.body, pp88, cc89⟩ : BytesD))) :: (F.set i emp)) := by rw [← hca]; exact H101
         have H103 : St W w98 (blk g (.cells #[.int .i64 ((ackS s d.ack.v).frm.v), .int .i64 ((ackS s d.ack.v).to_.v), .int .i64 ((ackS s d.ack.v).slide : Int), .slice pp48 L50.length cc49, .int .i64 ((ackS s d.ack.v).acked : Int), .int .i64 ((i64N s.came).v), .map (some m47), .int .i64 ((ackS s d.ack.v).clock : Int), .bool true] 62 (0, 0)) :: Row 79 3 (.slice pp48 L50.length cc49) L50.length (L50.flatMap bodCell) :: byA (L50.map BodD.by) :: MapA m47 (ents (kI .i64) evD (aset E51 d.seq (⟨d.body, pp88, cc89⟩ : BytesD))) :: byA (mby (aset E51 d.seq (⟨d.body, pp88, cc89⟩ : BytesD))) :: byA (mby E51) :: blk bk4 (.cells #[.int .i64 d.frm.v, .int .i64 d.to_.v, .int .i64 d.kind.v, .int .i64 d.seq.v, .int .i64 d.ack.v, .slice pp1 d.body.length cc2] 41 (0, 0)) :: Im 1 (.slice pp88 d.body.length cc89) d.body.length (d.body.flatMap u8c) :: (F.set i emp)) := ((((H102.move 7 rfl).move 4 rfl).move 4 rfl).move 4 rfl)
         have H104 : St W w98 (LkA g (drS (ackS s d.ack.v) s.came (s.held ++ [(d.seq, d.body)])) :: byA (mby E51) :: blk bk4 (.cells #[.int .i64 d.frm.v, .int .i64 d.to_.v, .int .i64 d.kind.v, .int .i64 d.seq.v, .int .i64 d.ack.v, .slice pp1 d.body.length cc2] 41 (0, 0)) :: Im 1 (.slice pp88 d.body.length cc89) d.body.length (d.body.flatMap u8c) :: (F.set i emp)) := St.shut_ex ⟨(m47, pp48, cc49, L50, (aset E51 d.seq (⟨d.body, pp88, cc89⟩ : BytesD))), hL52, (show mapB (aset E51 d.seq (⟨d.body, pp88, cc89⟩ : BytesD)) = s.held ++ [(d.seq, d.body)] from by rw [mapB_set hE53 (⟨d.body, pp88, cc89⟩ : BytesD) (by rw [hhe]; exact hno0), hhe])⟩ (St.shut_star (ls := [_, _, _, _, _]) H103)
         have H105 := Row.nil_intro H104 26 1
         have H106 := byA_nil H105
         have H107 : St W w98 (Row 26 1 (.slice none 0 0) 0 [] :: byA ([] : List BytesD) :: LkA g (drS (ackS s d.ack.v) s.came (s.held ++ [(d.seq, d.body)])) :: (F.set i emp)) := ((((((H106.move 2 rfl).move 1 rfl).move 2 rfl).drop 3 rfl).drop 3 rfl).drop 3 rfl)
         have H108 : St W w98 (Row 26 1 (.slice none 0 0) 0 [] :: byA ([] : List BytesD) :: LkA g (drS (ackS s d.ack.v) s.came (s.held ++ [(d.seq, d.body)])) :: (F.set i emp)) := H107
         refine g_loop_inv (fun (x_ : Nat × (List (I64 × List UInt8)) × (List BytesD) × (Option Addr) × Nat) => match x_ with | (c9, h9, O, p, c) => [(0, .pointer (some ⟨g, 0, none⟩)), (4, .slice none 0 0), (5, .int .i64 0), (10, .slice p O.length c)]) (fun (x_ : Nat × (List (I64 × List UInt8)) × (List BytesD) × (Option Addr) × Nat) w => match x_ with | (c9, h9, O, p, c) => (DrI (drain (s.held ++ [(d.seq, d.body)]).length s.came (s.held ++ [(d.seq, d.body)])) (O.map BytesD.data) c9 h9) ∧ (c9 ≤ 1099511627777) ∧ (∀ x ∈ h9, x.1.v ≤ 1099511627776) ∧ (O.length + h9.length ≤ s.held.length + 1) ∧ St W w (Row 26 1 (.slice p O.length c) O.length (O.flatMap byCell) :: byA O :: LkA g (drS (ackS s d.ack.v) c9 h9) :: (F.set i emp))) (fun (x_ : Nat × (List (I64 × List UInt8)) × (List BytesD) × (Option Addr) × Nat) => match x_ with | (c9, h9, O, p, c) => h9.length) (s.came, s.held ++ [(d.seq, d.body)], [], none, 0) ?_ ?_ ?_
         ·exact ⟨by first | rfl | exact vint (by omega), by first | rfl | exact vint (by omega), by first | rfl | exact vint (by omega), by first | rfl | exact vint (by omega), trivial⟩
         ·exact ⟨(DrI.start _ _), (by omega), (fun x hx => (List.mem_append.1 hx).elim (o8 x) (fun h => by rw [List.mem_singleton] at h; subst h; exact q2)), (by simp), H108⟩
         ·rintro ⟨c9, h9, O, p, c⟩ ρ109 w110 ⟨hDr, hc9, hh9, hl9, H111⟩ nx112
          change Ends _ _ (upds ρ109 [(0, .pointer (some ⟨g, 0, none⟩)), (4, .slice none 0 0), (5, .int .i64 0), (10, .slice p O.length c)]) w110
          refine g_block ?_
          refine g_seq ?_
          have H113 := H111.move 2 rfl
          obtain ⟨⟨⟨m114, pp115, cc116, L117, E118⟩, hL119, hE120⟩, H121⟩ := St.open_ex H113
          have H122 := St.open_star H121
          change L117.map BodD.v = (drS (ackS s d.ack.v) c9 h9).l at hL119; change mapB E118 = (drS (ackS s d.ack.v) c9 h9).held at hE120
          have hl123 := lenOf hL119; have he124 := mapB_len hE120
          have H125 : St W w110 (blk g (lkC (drS (ackS s d.ack.v) c9 h9) m114 (.slice pp115 L117.length cc116)) :: Row 79 3 (.slice pp115 L117.length cc116) L117.length (L117.flatMap bodCell) :: byA (L117.map BodD.by) :: MapA m114 (ents (kI .i64) evD E118) :: byA (mby E118) :: Row 26 1 (.slice p O.length c) O.length (O.flatMap byCell) :: byA O :: (F.set i emp)) := H122
          have hcv : (i64N (drS (ackS s d.ack.v) c9 h9).came).v = (c9 : Int) := i64N_v (n := c9) (by omega); have hcw := i64N_v (n := c9) (by omega)
          refine g_quiet (fun w' => St W w' (blk g (lkC (drS (ackS s d.ack.v) c9 h9) m114 (.slice pp115 L117.length cc116)) :: Row 79 3 (.slice pp115 L117.length cc116) L117.length (L117.flatMap bodCell) :: byA (L117.map BodD.by) :: MapA m114 (ents (kI .i64) evD E118) :: byA (mby E118) :: Row 26 1 (.slice p O.length c) O.length (O.flatMap byCell) :: byA O :: (F.set i emp))) mixed (by kernel_rfl) H125.drew ?_
          refine q_cons (q_val rfl rfl rfl (by intro w hw; exact x_move (.pointer (some ⟨g, 0, none⟩)) rfl w) ?_)
          refine q_cons (q_val rfl rfl rfl (by intro w hw; exact x_nilCheck (.pointer (some ⟨g, 0, none⟩)) rfl ⟨_, rfl⟩ w) ?_)
          refine q_cons (q_val rfl rfl rfl (by intro w hw; exact x_fieldAddr 62 5 6 6 60 rfl fi_62_5 rfl w) ?_)
          refine q_cons (q_val rfl rfl rfl (by intro w hw; exact x_load (.map (some m114)) ag_60 rfl (hw.blk_at (i := 0) rfl) rfl) ?_)
          refine q_cons (q_val rfl rfl rfl (by intro w hw; exact x_move (.pointer (some ⟨g, 0, none⟩)) rfl w) ?_)
          refine q_cons (q_val rfl rfl rfl (by intro w hw; exact x_nilCheck (.pointer (some ⟨g, 0, none⟩)) rfl ⟨_, rfl⟩ w) ?_)
          refine q_cons (q_val rfl rfl rfl (by intro w hw; exact x_fieldAddr 62 4 5 5 2 rfl fi_62_4 rfl w) ?_)
          refine q_cons (q_val rfl rfl rfl (by intro w hw; exact x_load (.int .i64 ((i64N (drS (ackS s d.ack.v) c9 h9).came).v)) ag_2 rfl (hw.blk_at (i := 0) rfl) rfl) ?_)
          refine q_cons (q_val rfl rfl rfl (by intro w hw; exact x_lookup2 (ek := (kI .i64)) (ev := evD) (L := E118) (i64N (drS (ackS s d.ack.v) c9 h9).came) ((lookV evD (.slice none 0 0) E118 (i64N (drS (ackS s d.ack.v) c9 h9).came))) (ahas E118 (i64N (drS (ackS s d.ack.v) c9 h9).came)) (MapA.at hw (i := 3) rfl) (KeyLaw.I un_2) un_60 zv_26 rfl rfl (rfl) rfl) ?_)
          refine q_cons (q_val rfl rfl rfl (by intro w hw; exact x_move (.tuple #[(lookV evD (.slice none 0 0) E118 (i64N (drS (ackS s d.ack.v) c9 h9).came)), .bool (ahas E118 (i64N (drS (ackS s d.ack.v) c9 h9).came))]) rfl w) ?_)
          refine q_cons (q_val rfl rfl rfl (by intro w hw; exact x_extract ((lookV evD (.slice none 0 0) E118 (i64N (drS (ackS s d.ack.v) c9 h9).came))) #[(lookV evD (.slice none 0 0) E118 (i64N (drS (ackS s d.ack.v) c9 h9).came)), .bool (ahas E118 (i64N (drS (ackS s d.ack.v) c9 h9).came))] rfl rfl w) ?_)
          refine q_cons (q_val rfl rfl rfl (by intro w hw; exact x_extract (.bool (ahas E118 (i64N (drS (ackS s d.ack.v) c9 h9).came))) #[(lookV evD (.slice none 0 0) E118 (i64N (drS (ackS s d.ack.v) c9 h9).came)), .bool (ahas E118 (i64N (drS (ackS s d.ack.v) c9 h9).came))] rfl rfl w) ?_)
          refine q_cons (q_val rfl rfl rfl (by intro w hw; exact x_assign ((lookV evD (.slice none 0 0) E118 (i64N (drS (ackS s d.ack.v) c9 h9).came))) rfl w) ?_)
          refine q_cons (q_val rfl rfl rfl (by intro w hw; exact x_assign (.bool (ahas E118 (i64N (drS (ackS s d.ack.v) c9 h9).came))) rfl w) ?_)
          refine q_nil ?_
          intro w126 H127
          refine g_seq ?_
          refine g_seq ?_
          refine g_region ?_
          refine r_cons (s_move (.bool (ahas E118 (i64N (drS (ackS s d.ack.v) c9 h9).came))) rfl rfl ?_)
          refine r_cons (s_not (ahas E118 (i64N (drS (ackS s d.ack.v) c9 h9).came)) rfl (!(ahas E118 (i64N (drS (ackS s d.ack.v) c9 h9).came))) rfl rfl ?_)
          refine r_nil ?_
          by_cases hb128 : (!(ahas E118 (i64N (drS (ackS s d.ack.v) c9 h9).came))) = true
          ·skip
           refine g_true (congrArg Value.bool hb128) ?_
           refine g_seq ?_
           refine g_region ?_
           have hno : ahas h9 (i64N c9) = false := by rw [mapB_has (show mapB E118 = h9 from hE120)]; show ahas E118 (i64N (drS (ackS s d.ack.v) c9 h9).came) = false; simpa using hb128
           refine r_cons (s_move (.slice p O.length c) rfl rfl ?_)
           refine r_cons (s_assign (.slice p O.length c) rfl rfl ?_)
           refine r_cons (s_assign (.int .i64 0) rfl rfl ?_)
           refine r_nil ?_
           refine g_ret' [.slice p O.length c, .int .i64 0] Try.func21 Try.results21 ⟨rfl, rfl, trivial⟩ ?_
           have H129 : St W w126 (LkA g (drS (ackS s d.ack.v) c9 h9) :: Row 26 1 (.slice p O.length c) O.length (O.flatMap byCell) :: byA O :: (F.set i emp)) := St.shut_ex ⟨(m114, pp115, cc116, L117, E118), hL119, hE120⟩ (St.shut_star (ls := [_, _, _, _, _]) H127)
           have hd9 := hDr.stop hno
           have hT9 : takeT s d = O.map BytesD.data := by rw [takeT_yes hE hk1, hC, hd9]
           have H130 : St W w126 (Row 26 1 (.slice p O.length c) O.length (O.flatMap byCell) :: byA O :: LkA g (drS (ackS s d.ack.v) c9 h9) :: (F.set i emp)) := ((H129.move 2 rfl).move 2 rfl)
           have hn131 : (takeT s d).length = O.length := (by rw [hT9, List.length_map])
           have H132 : St W w126 (Row 26 1 (.slice p ((takeT s d).length) c) ((takeT s d).length) (O.flatMap byCell) :: byA O :: LkA g (drS (ackS s d.ack.v) c9 h9) :: (F.set i emp)) := by rw [hn131]; exact H130
           have H133 : St W w126 (BysA p c (takeT s d) :: LkA g (drS (ackS s d.ack.v) c9 h9) :: (F.set i emp)) := St.shut_ex ⟨O, hT9.symm⟩ (St.shut_star (ls := [_, _]) H132)
           have H134 : St W w126 (BysA p c (takeT s d) :: LkA g (takeS s d) :: (F.set i emp)) := by rw [takeS_data hE hk1, hC, hd9]; exact H133
           have H135 : St W w126 (BysA p c (takeT s d) :: LkA g (takeS s d) :: (F.set i emp)) := ((H134.move 1 rfl).move 1 rfl)
           have H136 : St W w126 (LkA g (takeS s d) :: (BysA p c (takeT s d) :: F).set (i + 1) emp) := (H135.move 1 rfl)
           exact ⟨_, _, by rw [hE, hn131]; rfl, St.back (i := i + 1) (by exact hi) H136⟩
          ·have hb128 := eq_false_of_ne_true hb128
           refine g_false (congrArg Value.bool hb128) ?_
           refine g_skip ?_
           refine g_seq ?_
           obtain ⟨x9, hx9⟩ : ∃ x, aget E118 (i64N (drS (ackS s d.ack.v) c9 h9).came) = some x := Option.isSome_iff_exists.1 (by rw [aget_has]; simpa using hb128)
           have hg9 : aget h9 (i64N c9) = some x9.data := by rw [mapB_get (show mapB E118 = h9 from hE120)]; exact congrArg (Option.map BytesD.data) hx9
           have hk9 := hh9 _ (aget_mem hg9); simp only at hk9
           have hhl := adel_len (has_of_get hg9)
           rw [look_some hx9]
           have H137 : St W w126 (blk g (lkC (drS (ackS s d.ack.v) c9 h9) m114 (.slice pp115 L117.length cc116)) :: Row 79 3 (.slice pp115 L117.length cc116) L117.length (L117.flatMap bodCell) :: byA (L117.map BodD.by) :: byA (mby E118) :: Row 26 1 (.slice p O.length c) O.length (O.flatMap byCell) :: byA O :: MapA m114 (ents (kI .i64) evD E118) :: (F.set i emp)) := (((((((H127.move 3 rfl).move 6 rfl).move 6 rfl).move 6 rfl).move 6 rfl).move 6 rfl).move 6 rfl)
           refine g_mix (fun t_ w => St W w (blk g (lkC (drS (ackS s d.ack.v) c9 h9) m114 (.slice pp115 L117.length cc116)) :: Row 79 3 (.slice pp115 L117.length cc116) L117.length (L117.flatMap bodCell) :: byA (L117.map BodD.by) :: byA (mby E118) :: Row 26 1 (.slice p O.length c) O.length (O.flatMap byCell) :: byA O :: t_)) (MapA m114 (ents (kI .i64) evD E118) :: (F.set i emp)) mixed 9 rfl H137.drew ?_
           refine f_first 0 (listed' := #[true, false, false, false, false, false, false, false, false]) rfl (by kernel_rfl) (by kernel_rfl) (by kernel_rfl) rfl ?_
           refine f_val rfl rfl rfl (by intro _ w _; exact x_move (.pointer (some ⟨g, 0, none⟩)) rfl w) ?_
           refine f_first 1 (listed' := #[true, true, false, false, false, false, false, false, false]) rfl (by kernel_rfl) (by kernel_rfl) (by kernel_rfl) rfl ?_
           refine f_val rfl rfl rfl (by intro t_ w hw; exact x_nilCheck (.pointer (some ⟨g, 0, none⟩)) rfl ⟨_, rfl⟩ w) ?_
           refine f_first 2 (listed' := #[true, true, true, false, false, false, false, false, false]) rfl (by kernel_rfl) (by kernel_rfl) (by kernel_rfl) rfl ?_
           refine f_val rfl rfl rfl (by intro t_ w hw; exact x_fieldAddr 62 5 6 6 60 rfl fi_62_5 rfl w) ?_
           refine f_first 3 (listed' := #[true, true, true, true, false, false, false, false, false]) rfl (by kernel_rfl) (by kernel_rfl) (by kernel_rfl) rfl ?_
           refine f_val rfl rfl rfl (by intro t_ w hw; exact x_load (.map (some m114)) ag_60 rfl (hw.blk_at (i := 0) rfl) rfl) ?_
           refine f_first 4 (listed' := #[true, true, true, true, true, false, false, false, false]) rfl (by kernel_rfl) (by kernel_rfl) (by kernel_rfl) rfl ?_
           refine f_val rfl rfl rfl (by intro _ w _; exact x_move (.pointer (some ⟨g, 0, none⟩)) rfl w) ?_
           refine f_first 5 (listed' := #[true, true, true, true, true, true, false, false, false]) rfl (by kernel_rfl) (by kernel_rfl) (by kernel_rfl) rfl ?_
           refine f_val rfl rfl rfl (by intro t_ w hw; exact x_nilCheck (.pointer (some ⟨g, 0, none⟩)) rfl ⟨_, rfl⟩ w) ?_
           refine f_first 6 (listed' := #[true, true, true, true, true, true, true, false, false]) rfl (by kernel_rfl) (by kernel_rfl) (by kernel_rfl) rfl ?_
           refine f_val rfl rfl rfl (by intro t_ w hw; exact x_fieldAddr 62 4 5 5 2 rfl fi_62_4 rfl w) ?_
           refine f_first 7 (listed' := #[true, true, true, true, true, true, true, true, false]) rfl (by kernel_rfl) (by kernel_rfl) (by kernel_rfl) rfl ?_
           refine f_val rfl rfl rfl (by intro t_ w hw; exact x_load (.int .i64 ((i64N (drS (ackS s d.ack.v) c9 h9).came).v)) ag_2 rfl (hw.blk_at (i := 0) rfl) rfl) ?_
           refine f_all (rs := [8]) (by kernel_rfl) (by simp) ?_
           refine a_cons ⟨_, rfl, ?_⟩ (fun x hx => absurd hx (by simp))
           intro w138 H139
           try dsimp only at H139
           refine s_delete (ek := (kI .i64)) (ev := evD) (L := E118) (i64N (drS (ackS s d.ack.v) c9 h9).came) H139 (i := 6) rfl (KeyLaw.I un_2) un_60 rfl rfl ?_; intro w140 H141
           have H142 : St W w140 (blk g (lkC (drS (ackS s d.ack.v) c9 h9) m114 (.slice pp115 L117.length cc116)) :: Row 79 3 (.slice pp115 L117.length cc116) L117.length (L117.flatMap bodCell) :: byA (L117.map BodD.by) :: byA (mby E118) :: Row 26 1 (.slice p O.length c) O.length (O.flatMap byCell) :: byA O :: MapA m114 (ents (kI .i64) evD (adel E118 (i64N (drS (ackS s d.ack.v) c9 h9).came))) :: (F.set i emp)) := H141
           refine ⟨MapA m114 (ents (kI .i64) evD (adel E118 (i64N (drS (ackS s d.ack.v) c9 h9).came))) :: (F.set i emp), ?_, H142⟩
           change FReg _ _ _ _ _ #[true, true, true, true, true, true, true, true, true] _ _
           refine f_done (by kernel_rfl) ?_
           intro w143 H144
           refine g_seq ?_
           refine g_region ?_
           refine r_cons (s_move (.pointer (some ⟨g, 0, none⟩)) rfl rfl ?_)
           refine r_cons (s_nilCheck (.pointer (some ⟨g, 0, none⟩)) rfl ⟨_, rfl⟩ rfl ?_)
           refine r_cons (s_fieldAddr 62 4 5 5 2 rfl fi_62_4 rfl rfl ?_)
           refine r_cons (s_load (.int .i64 ((i64N (drS (ackS s d.ack.v) c9 h9).came).v)) ag_2 rfl (H144.blk_at (i := 0) rfl) rfl rfl ?_)
           refine r_cons (s_add ((c9 + 1 : Nat) : Int) rfl rfl ((wi64 (by omega)).trans (by omega)) rfl ?_)
           refine r_cons (s_nilCheck (.pointer (some ⟨g, 0, none⟩)) rfl ⟨_, rfl⟩ rfl ?_)
           refine r_cons (s_fieldAddr 62 4 5 5 2 rfl fi_62_4 rfl rfl ?_)
           refine r_cons (s_store H144 0 (.int .i64 ((c9 + 1 : Nat) : Int)) rfl rfl rfl sz_2 rfl (nbl rfl) rfl (cs' := #[.int .i64 ((drS (ackS s d.ack.v) c9 h9).frm.v), .int .i64 ((drS (ackS s d.ack.v) c9 h9).to_.v), .int .i64 ((drS (ackS s d.ack.v) c9 h9).slide : Int), .slice pp115 L117.length cc116, .int .i64 ((drS (ackS s d.ack.v) c9 h9).acked : Int), .int .i64 ((c9 + 1 : Nat) : Int), .map (some m114), .int .i64 ((drS (ackS s d.ack.v) c9 h9).clock : Int), .bool ((drS (ackS s d.ack.v) c9 h9).owes)]) rfl ?_); intro w145 H146
           refine r_nil ?_
           refine g_region ?_
           refine r_cons (s_move (.slice p O.length c) rfl rfl ?_)
           refine r_cons (s_move (.slice x9.p x9.data.length x9.c) rfl rfl ?_)
           refine r_cons (s_buildSlice H146 1 1 (cs := #[.slice x9.p x9.data.length x9.c]) #[.slice none 0 0] el_32 ze_26 (by decide) (by decide) (by kernel_rfl) rfl ?_); intro bk147 w148 H149
           refine r_cons (s_append H149 5 rfl rfl rfl (rd_blk (H149.blk_at (i := 0) rfl) rfl (nbl rfl) (by simp [Value.oneCell'])) ap_32 (by decide) (by unfold maxLen; omega) (by omega) (n' := O.length + 1) (xs' := O.flatMap byCell ++ ([.slice x9.p x9.data.length x9.c] : List Value)) (by omega) (by first | rfl | simp) rfl ?_); intro vv150 w151 H152 hn153
           obtain ⟨pp154, cc155, rfl⟩ := Row.slice H152 (i := 5) rfl
           refine r_cons (s_assign (.slice pp154 (O.length + 1) cc155) rfl rfl ?_)
           refine r_nil ?_
           refine g_inBlock ?_
           have H156 : St W w151 (blk bk147 (.cells #[.slice x9.p x9.data.length x9.c] 26 (0, 0)) :: blk g (.cells #[.int .i64 ((drS (ackS s d.ack.v) c9 h9).frm.v), .int .i64 ((drS (ackS s d.ack.v) c9 h9).to_.v), .int .i64 ((drS (ackS s d.ack.v) c9 h9).slide : Int), .slice pp115 L117.length cc116, .int .i64 ((drS (ackS s d.ack.v) c9 h9).acked : Int), .int .i64 ((i64N (c9 + 1)).v), .map (some m114), .int .i64 ((drS (ackS s d.ack.v) c9 h9).clock : Int), .bool ((drS (ackS s d.ack.v) c9 h9).owes)] 62 (0, 0)) :: Row 79 3 (.slice pp115 L117.length cc116) L117.length (L117.flatMap bodCell) :: byA (L117.map BodD.by) :: byA (mby E118) :: Row 26 1 (.slice pp154 ((O ++ [x9]).length) cc155) ((O ++ [x9]).length) ((O ++ [x9]).flatMap byCell) :: byA O :: MapA m114 (ents (kI .i64) evD (adel E118 (i64N (drS (ackS s d.ack.v) c9 h9).came))) :: (F.set i emp)) := by rw [i64N_v (n := c9 + 1) (by omega), flat_app, flat_one, List.length_append]; exact H152
           have H157 : St W w151 (Im 1 (.slice x9.p x9.data.length x9.c) x9.data.length (x9.data.flatMap u8c) :: blk bk147 (.cells #[.slice x9.p x9.data.length x9.c] 26 (0, 0)) :: blk g (.cells #[.int .i64 ((drS (ackS s d.ack.v) c9 h9).frm.v), .int .i64 ((drS (ackS s d.ack.v) c9 h9).to_.v), .int .i64 ((drS (ackS s d.ack.v) c9 h9).slide : Int), .slice pp115 L117.length cc116, .int .i64 ((drS (ackS s d.ack.v) c9 h9).acked : Int), .int .i64 ((i64N (c9 + 1)).v), .map (some m114), .int .i64 ((drS (ackS s d.ack.v) c9 h9).clock : Int), .bool ((drS (ackS s d.ack.v) c9 h9).owes)] 62 (0, 0)) :: Row 79 3 (.slice pp115 L117.length cc116) L117.length (L117.flatMap bodCell) :: byA (L117.map BodD.by) :: byA (mby E118) :: Row 26 1 (.slice pp154 ((O ++ [x9]).length) cc155) ((O ++ [x9]).length) ((O ++ [x9]).flatMap byCell) :: byA O :: MapA m114 (ents (kI .i64) evD (adel E118 (i64N (drS (ackS s d.ack.v) c9 h9).came))) :: (F.set i emp)) := byA_at H156 (i := 4) rfl (mby_get hx9)
           have H158 := byA_add (x := x9) H157 (i := 7) (j := 0) rfl rfl snoc_b
           have H159 := byA_sub (M := mby (adel E118 (i64N (drS (ackS s d.ack.v) c9 h9).came))) H158 (i := 6) rfl mby_del
           have H160 : St W w151 (blk g (.cells #[.int .i64 ((drS (ackS s d.ack.v) c9 h9).frm.v), .int .i64 ((drS (ackS s d.ack.v) c9 h9).to_.v), .int .i64 ((drS (ackS s d.ack.v) c9 h9).slide : Int), .slice pp115 L117.length cc116, .int .i64 ((drS (ackS s d.ack.v) c9 h9).acked : Int), .int .i64 ((i64N (c9 + 1)).v), .map (some m114), .int .i64 ((drS (ackS s d.ack.v) c9 h9).clock : Int), .bool ((drS (ackS s d.ack.v) c9 h9).owes)] 62 (0, 0)) :: Row 79 3 (.slice pp115 L117.length cc116) L117.length (L117.flatMap bodCell) :: byA (L117.map BodD.by) :: MapA m114 (ents (kI .i64) evD (adel E118 (i64N (drS (ackS s d.ack.v) c9 h9).came))) :: byA (mby (adel E118 (i64N (drS (ackS s d.ack.v) c9 h9).came))) :: byA (O ++ [x9]) :: Im 1 (.slice x9.p x9.data.length x9.c) x9.data.length (x9.data.flatMap u8c) :: blk bk147 (.cells #[.slice x9.p x9.data.length x9.c] 26 (0, 0)) :: byA (mby E118) :: Row 26 1 (.slice pp154 ((O ++ [x9]).length) cc155) ((O ++ [x9]).length) ((O ++ [x9]).flatMap byCell) :: byA O :: (F.set i emp)) := ((((H159.move 10 rfl).move 7 rfl).move 7 rfl).move 7 rfl)
           have H161 : St W w151 (LkA g (drS (ackS s d.ack.v) (c9 + 1) (adel h9 (i64N c9))) :: byA (O ++ [x9]) :: Im 1 (.slice x9.p x9.data.length x9.c) x9.data.length (x9.data.flatMap u8c) :: blk bk147 (.cells #[.slice x9.p x9.data.length x9.c] 26 (0, 0)) :: byA (mby E118) :: Row 26 1 (.slice pp154 ((O ++ [x9]).length) cc155) ((O ++ [x9]).length) ((O ++ [x9]).flatMap byCell) :: byA O :: (F.set i emp)) := St.shut_ex ⟨(m114, pp115, cc116, L117, (adel E118 (i64N (drS (ackS s d.ack.v) c9 h9).came))), hL119, (show mapB (adel E118 (i64N (drS (ackS s d.ack.v) c9 h9).came)) = adel h9 (i64N c9) from mapB_del hE120 _)⟩ (St.shut_star (ls := [_, _, _, _, _]) H160)
           have H162 : St W w151 (Row 26 1 (.slice pp154 ((O ++ [x9]).length) cc155) ((O ++ [x9]).length) ((O ++ [x9]).flatMap byCell) :: byA (O ++ [x9]) :: LkA g (drS (ackS s d.ack.v) (c9 + 1) (adel h9 (i64N c9))) :: (F.set i emp)) := ((((((H161.move 1 rfl).move 5 rfl).drop 3 rfl).drop 3 rfl).drop 3 rfl).drop 3 rfl)
           exact nx112 (c9 + 1, adel h9 (i64N c9), (O ++ [x9]), pp154, cc155) _ _ ⟨(by rw [List.map_append]; exact hDr.step hg9), (by omega), (fun x hx => hh9 x (adel_sub hx)), (by rw [List.length_append]; have := adel_len (has_of_get hg9); simp only [List.length_cons, List.length_nil]; omega), H162⟩ (by first | (dsimp only; (have := adel_len (has_of_get hg9); omega)) | (have := adel_len (has_of_get hg9); omega)) ⟨by first | rfl | exact vint (by omega), by first | rfl | exact vint (by omega), by first | rfl | exact vint (by omega), by first | rfl | (show Value.slice _ _ _ = _; rw [List.length_append]; rfl), trivial⟩
      ·skip
       refine r_cons (s_neq true rfl rfl (nfalse hc45) rfl ?_)
       refine r_nil ?_
       refine g_true rfl ?_
       refine g_seq ?_
       refine g_region ?_
       refine r_cons (s_assign (.slice none 0 0) rfl rfl ?_)
       refine r_cons (s_assign (.int .i64 0) rfl rfl ?_)
       refine r_nil ?_
       refine g_ret' [.slice none 0 0, .int .i64 0] Try.func21 Try.results21 ⟨rfl, rfl, trivial⟩ ?_
       have H163 := Row.nil_intro H43 26 1
       have H164 := byA_nil H163
       have H165 : St W w42 (Row 26 1 (.slice none 0 0) 0 [] :: byA ([] : List BytesD) :: LkA g (ackS s d.ack.v) :: blk bk4 (.cells #[.int .i64 d.frm.v, .int .i64 d.to_.v, .int .i64 d.kind.v, .int .i64 d.seq.v, .int .i64 d.ack.v, .slice pp1 d.body.length cc2] 41 (0, 0)) :: (F.set i emp)) := (H164.move 1 rfl)
       have hT9 : takeT s d = [] := takeT_no (fun h => by omega)
       have H166 : St W w42 (BysA none 0 (takeT s d) :: LkA g (ackS s d.ack.v) :: blk bk4 (.cells #[.int .i64 d.frm.v, .int .i64 d.to_.v, .int .i64 d.kind.v, .int .i64 d.seq.v, .int .i64 d.ack.v, .slice pp1 d.body.length cc2] 41 (0, 0)) :: (F.set i emp)) := by rw [hT9]; exact St.shut_ex ⟨[], rfl⟩ (St.shut_star (ls := [_, _]) H165)
       have H167 : St W w42 (BysA none 0 (takeT s d) :: LkA g (takeS s d) :: blk bk4 (.cells #[.int .i64 d.frm.v, .int .i64 d.to_.v, .int .i64 d.kind.v, .int .i64 d.seq.v, .int .i64 d.ack.v, .slice pp1 d.body.length cc2] 41 (0, 0)) :: (F.set i emp)) := by rw [takeS_ack hE (by omega)]; exact H166
       have H168 : St W w42 (BysA none 0 (takeT s d) :: LkA g (takeS s d) :: (F.set i emp)) := (((H167.move 1 rfl).move 1 rfl).drop 2 rfl)
       have H169 : St W w42 (LkA g (takeS s d) :: (BysA none 0 (takeT s d) :: F).set (i + 1) emp) := (H168.move 1 rfl)
       exact ⟨none, 0, by rw [hE, hT9]; rfl, St.back (i := i + 1) (by exact hi) H169⟩
     ·intro join41
      refine g_true rfl ?_
      refine g_seq ?_
      refine g_region ?_
      refine r_cons (s_move (.pointer (some ⟨g, 0, none⟩)) rfl rfl ?_)
      refine r_cons (s_move (.pointer (some ⟨g, 0, none⟩)) rfl rfl ?_)
      refine r_cons (s_nilCheck (.pointer (some ⟨g, 0, none⟩)) rfl ⟨_, rfl⟩ rfl ?_)
      refine r_cons (s_fieldAddr 62 2 3 3 59 rfl fi_62_2 rfl rfl ?_)
      have H170 : St W w38 (blk g (lkC s m13 (.slice pp14 L16.length cc15)) :: Im 3 (.slice pp14 L16.length cc15) L16.length (L16.flatMap bodCell) :: byA (L16.map BodD.by) :: MapA m13 (ents (kI .i64) evD E17) :: byA (mby E17) :: blk bk4 (.cells #[.int .i64 d.frm.v, .int .i64 d.to_.v, .int .i64 d.kind.v, .int .i64 d.seq.v, .int .i64 d.ack.v, .slice pp1 d.body.length cc2] 41 (0, 0)) :: (F.set i emp)) := Row.im H39 (i := 1) rfl
      refine r_cons (s_load (.slice pp14 L16.length cc15) ag_59 rfl (H170.blk_at (i := 0) rfl) rfl rfl ?_)
      refine r_cons (s_move (.int .i64 (d.ack.v - (s.acked : Int))) rfl rfl ?_)
      have hc171 := Im.cap H170 (i := 1) rfl
      refine r_cons (s_slice_l pp14 (d.ack.v - (s.acked : Int)) 3 (.slice (cutAt pp14 ((d.ack.v - (s.acked : Int)).toNat) cc15 3) (L16.length - ((d.ack.v - (s.acked : Int)).toNat)) (cc15 - ((d.ack.v - (s.acked : Int)).toNat))) rfl rfl el_59 (by omega) (by first | rfl | (congr 1; omega)) rfl ?_)
      have H172 : St W w38 (Im 3 (.slice (cutAt pp14 ((d.ack.v - (s.acked : Int)).toNat) cc15 3) (L16.length - ((d.ack.v - (s.acked : Int)).toNat)) (cc15 - ((d.ack.v - (s.acked : Int)).toNat))) (L16.length - ((d.ack.v - (s.acked : Int)).toNat)) ((L16.drop ((d.ack.v - (s.acked : Int)).toNat)).flatMap bodCell) :: blk g (lkC s m13 (.slice pp14 L16.length cc15)) :: Im 3 (.slice pp14 L16.length cc15) L16.length (L16.flatMap bodCell) :: byA (L16.map BodD.by) :: MapA m13 (ents (kI .i64) evD E17) :: byA (mby E17) :: blk bk4 (.cells #[.int .i64 d.frm.v, .int .i64 d.to_.v, .int .i64 d.kind.v, .int .i64 d.seq.v, .int .i64 d.ack.v, .slice pp1 d.body.length cc2] 41 (0, 0)) :: (F.set i emp)) := Im.cutN_l bodCell_len (by decide) ((d.ack.v - (s.acked : Int)).toNat) H170 (i := 1) rfl (by omega)
      refine r_cons (s_call [.slice (cutAt pp14 ((d.ack.v - (s.acked : Int)).toNat) cc15 3) (L16.length - ((d.ack.v - (s.acked : Int)).toNat)) (cc15 - ((d.ack.v - (s.acked : Int)).toNat))] pl_47 rfl rfl (clone_bodies _ _ (L16.length - ((d.ack.v - (s.acked : Int)).toNat)) ((L16.drop ((d.ack.v - (s.acked : Int)).toNat)).flatMap bodCell) RdA.im (by omega) (j := 0) rfl H172) ?_)
      rintro _ w175 ⟨pp173, cc174, rfl, H176⟩
      refine r_cons (s_nilCheck (.pointer (some ⟨g, 0, none⟩)) rfl ⟨_, rfl⟩ rfl ?_)
      refine r_cons (s_fieldAddr 62 2 3 3 59 rfl fi_62_2 rfl rfl ?_)
      refine r_cons (s_store H176 2 (.slice pp173 (L16.length - ((d.ack.v - (s.acked : Int)).toNat)) cc174) rfl rfl rfl sz_59 rfl (nbl rfl) rfl (cs' := #[.int .i64 s.frm.v, .int .i64 s.to_.v, .int .i64 (s.slide : Int), .slice pp173 (L16.length - ((d.ack.v - (s.acked : Int)).toNat)) cc174, .int .i64 (s.acked : Int), .int .i64 ((i64N s.came).v), .map (some m13), .int .i64 (s.clock : Int), .bool s.owes]) rfl ?_); intro w177 H178
      refine r_nil ?_
      refine g_region ?_
      refine r_cons (s_move (.pointer (some ⟨g, 0, none⟩)) rfl rfl ?_)
      refine r_cons (s_fieldAddr 41 4 4 4 2 rfl fi_41_4 rfl rfl ?_)
      refine r_cons (s_load (.int .i64 d.ack.v) ag_2 rfl (H178.blk_at (i := 7) rfl) rfl rfl ?_)
      refine r_cons (s_nilCheck (.pointer (some ⟨g, 0, none⟩)) rfl ⟨_, rfl⟩ rfl ?_)
      refine r_cons (s_fieldAddr 62 3 4 4 2 rfl fi_62_3 rfl rfl ?_)
      refine r_cons (s_store H178 2 (.int .i64 d.ack.v) rfl rfl rfl sz_2 rfl (nbl rfl) rfl (cs' := #[.int .i64 s.frm.v, .int .i64 s.to_.v, .int .i64 (s.slide : Int), .slice pp173 (L16.length - ((d.ack.v - (s.acked : Int)).toNat)) cc174, .int .i64 d.ack.v, .int .i64 ((i64N s.came).v), .map (some m13), .int .i64 (s.clock : Int), .bool s.owes]) rfl ?_); intro w179 H180
      refine r_nil ?_
      have ha9 : ((d.ack.v.toNat : Nat) : Int) = d.ack.v := by omega
      have ha8 := ackS_pos (s := s) (d := d) (by omega)
      have H181 : St W w179 (Row 79 3 (.slice pp173 ((L16.drop (d.ack.v - (s.acked : Int)).toNat).length) cc174) ((L16.drop (d.ack.v - (s.acked : Int)).toNat).length) ((L16.drop (d.ack.v - (s.acked : Int)).toNat).flatMap bodCell) :: Im 3 (.slice (cutAt pp14 ((d.ack.v - (s.acked : Int)).toNat) cc15 3) (L16.length - ((d.ack.v - (s.acked : Int)).toNat)) (cc15 - ((d.ack.v - (s.acked : Int)).toNat))) (L16.length - ((d.ack.v - (s.acked : Int)).toNat)) ((L16.drop ((d.ack.v - (s.acked : Int)).toNat)).flatMap bodCell) :: blk g (.cells #[.int .i64 s.frm.v, .int .i64 s.to_.v, .int .i64 (s.slide : Int), .slice pp173 ((L16.drop (d.ack.v - (s.acked : Int)).toNat).length) cc174, .int .i64 ((d.ack.v.toNat : Nat) : Int), .int .i64 ((i64N s.came).v), .map (some m13), .int .i64 (s.clock : Int), .bool s.owes] 62 (0, 0)) :: Im 3 (.slice pp14 L16.length cc15) L16.length (L16.flatMap bodCell) :: byA (L16.map BodD.by) :: MapA m13 (ents (kI .i64) evD E17) :: byA (mby E17) :: blk bk4 (.cells #[.int .i64 d.frm.v, .int .i64 d.to_.v, .int .i64 d.kind.v, .int .i64 d.seq.v, .int .i64 d.ack.v, .slice pp1 d.body.length cc2] 41 (0, 0)) :: (F.set i emp)) := by rw [List.length_drop, ha9]; exact H180
      have H182 := byA_sub (M := (L16.drop (d.ack.v - (s.acked : Int)).toNat).map BodD.by) H181 (i := 4) rfl drop_by
      have H183 : St W w179 (blk g (.cells #[.int .i64 s.frm.v, .int .i64 s.to_.v, .int .i64 (s.slide : Int), .slice pp173 ((L16.drop (d.ack.v - (s.acked : Int)).toNat).length) cc174, .int .i64 ((d.ack.v.toNat : Nat) : Int), .int .i64 ((i64N s.came).v), .map (some m13), .int .i64 (s.clock : Int), .bool s.owes] 62 (0, 0)) :: Row 79 3 (.slice pp173 ((L16.drop (d.ack.v - (s.acked : Int)).toNat).length) cc174) ((L16.drop (d.ack.v - (s.acked : Int)).toNat).length) ((L16.drop (d.ack.v - (s.acked : Int)).toNat).flatMap bodCell) :: byA ((L16.drop (d.ack.v - (s.acked : Int)).toNat).map BodD.by) :: MapA m13 (ents (kI .i64) evD E17) :: byA (mby E17) :: Im 3 (.slice (cutAt pp14 ((d.ack.v - (s.acked : Int)).toNat) cc15 3) (L16.length - ((d.ack.v - (s.acked : Int)).toNat)) (cc15 - ((d.ack.v - (s.acked : Int)).toNat))) (L16.length - ((d.ack.v - (s.acked : Int)).toNat)) ((L16.drop ((d.ack.v - (s.acked : Int)).toNat)).flatMap bodCell) :: Im 3 (.slice pp14 L16.length cc15) L16.length (L16.flatMap bodCell) :: byA (L16.map BodD.by) :: blk bk4 (.cells #[.int .i64 d.frm.v, .int .i64 d.to_.v, .int .i64 d.kind.v, .int .i64 d.seq.v, .int .i64 d.ack.v, .slice pp1 d.body.length cc2] 41 (0, 0)) :: (F.set i emp)) := (((((H182.move 7 rfl).move 7 rfl).move 2 rfl).move 3 rfl).move 5 rfl)
      have H184 : St W w179 (LkA g ({ s with l := s.l.drop (d.ack.v - (s.acked : Int)).toNat, acked := d.ack.v.toNat } : EndV) :: Im 3 (.slice (cutAt pp14 ((d.ack.v - (s.acked : Int)).toNat) cc15 3) (L16.length - ((d.ack.v - (s.acked : Int)).toNat)) (cc15 - ((d.ack.v - (s.acked : Int)).toNat))) (L16.length - ((d.ack.v - (s.acked : Int)).toNat)) ((L16.drop ((d.ack.v - (s.acked : Int)).toNat)).flatMap bodCell) :: Im 3 (.slice pp14 L16.length cc15) L16.length (L16.flatMap bodCell) :: byA (L16.map BodD.by) :: blk bk4 (.cells #[.int .i64 d.frm.v, .int .i64 d.to_.v, .int .i64 d.kind.v, .int .i64 d.seq.v, .int .i64 d.ack.v, .slice pp1 d.body.length cc2] 41 (0, 0)) :: (F.set i emp)) := St.shut_ex ⟨(m13, pp173, cc174, (L16.drop (d.ack.v - (s.acked : Int)).toNat), E17), (show (L16.drop (d.ack.v - (s.acked : Int)).toNat).map BodD.v = s.l.drop (d.ack.v - (s.acked : Int)).toNat from by rw [List.map_drop, hL18]), hE19⟩ (St.shut_star (ls := [_, _, _, _, _]) H183)
      have H185 : St W w179 (LkA g (ackS s d.ack.v) :: Im 3 (.slice (cutAt pp14 ((d.ack.v - (s.acked : Int)).toNat) cc15 3) (L16.length - ((d.ack.v - (s.acked : Int)).toNat)) (cc15 - ((d.ack.v - (s.acked : Int)).toNat))) (L16.length - ((d.ack.v - (s.acked : Int)).toNat)) ((L16.drop ((d.ack.v - (s.acked : Int)).toNat)).flatMap bodCell) :: Im 3 (.slice pp14 L16.length cc15) L16.length (L16.flatMap bodCell) :: byA (L16.map BodD.by) :: blk bk4 (.cells #[.int .i64 d.frm.v, .int .i64 d.to_.v, .int .i64 d.kind.v, .int .i64 d.seq.v, .int .i64 d.ack.v, .slice pp1 d.body.length cc2] 41 (0, 0)) :: (F.set i emp)) := by rw [ha8]; exact H184
      have H186 : St W w179 (LkA g (ackS s d.ack.v) :: blk bk4 (.cells #[.int .i64 d.frm.v, .int .i64 d.to_.v, .int .i64 d.kind.v, .int .i64 d.seq.v, .int .i64 d.ack.v, .slice pp1 d.body.length cc2] 41 (0, 0)) :: (F.set i emp)) := (((((H185.move 4 rfl).move 1 rfl).drop 2 rfl).drop 2 rfl).drop 2 rfl)
      exact join41 (()) _ _ ⟨trivial, H186⟩ ⟨by first | rfl | exact vint (by omega), by first | rfl | exact vint (by omega), by first | rfl | exact vint (by omega), by first | rfl | exact vint (by omega), trivial⟩
    ·skip
     refine r_cons (s_gtr false rfl rfl (dfalse hc40) rfl ?_)
     refine r_nil ?_
     refine g_cut (fun (x_ : Unit) => match x_ with | z_ => [(0, .pointer (some ⟨g, 0, none⟩)), (3, .pointer (some ⟨bk4, 0, none⟩)), (4, .slice none 0 0), (5, .int .i64 0)]) (fun (x_ : Unit) w => match x_ with | z_ => (True) ∧ St W w (LkA g (ackS s d.ack.v) :: blk bk4 (.cells #[.int .i64 d.frm.v, .int .i64 d.to_.v, .int .i64 d.kind.v, .int .i64 d.seq.v, .int .i64 d.ack.v, .slice pp1 d.body.length cc2] 41 (0, 0)) :: (F.set i emp))) ?_ ?_
     ·rintro z_ ρ190 w188 ⟨hz_, H189⟩
      change Ends _ _ (upds ρ190 [(0, .pointer (some ⟨g, 0, none⟩)), (3, .pointer (some ⟨bk4, 0, none⟩)), (4, .slice none 0 0), (5, .int .i64 0)]) w188
      have hca := ackS_came s d.ack.v; have hhe := ackS_held s d.ack.v; have hcy : (i64N (ackS s d.ack.v).came).v = (s.came : Int) := by rw [hca]; exact o7
      refine g_seq ?_
      refine g_seq ?_
      refine g_region ?_
      refine r_cons (s_fieldAddr 41 2 2 2 3 rfl fi_41_2 rfl rfl ?_)
      refine r_cons (s_load (.int .i64 d.kind.v) ag_3 rfl (H189.blk_at (i := 1) rfl) rfl rfl ?_)
      by_cases hc191 : d.kind.v = 1
      ·skip
       refine r_cons (s_neq false rfl rfl (ntrue hc191) rfl ?_)
       refine r_nil ?_
       refine g_false rfl ?_
       refine g_skip ?_
       refine g_seq ?_
       refine g_region ?_
       refine r_cons (s_move (.pointer (some ⟨g, 0, none⟩)) rfl rfl ?_)
       have hk1 : d.kind.v = 1 := by omega
       have H192 := H189.move 0 rfl
       obtain ⟨⟨⟨m193, pp194, cc195, L196, E197⟩, hL198, hE199⟩, H200⟩ := St.open_ex H192
       have H201 := St.open_star H200
       change L196.map BodD.v = (ackS s d.ack.v).l at hL198; change mapB E197 = (ackS s d.ack.v).held at hE199
       have hl202 := lenOf hL198; have he203 := mapB_len hE199
       have H204 : St W w188 (blk g (lkC (ackS s d.ack.v) m193 (.slice pp194 L196.length cc195)) :: Row 79 3 (.slice pp194 L196.length cc195) L196.length (L196.flatMap bodCell) :: byA (L196.map BodD.by) :: MapA m193 (ents (kI .i64) evD E197) :: byA (mby E197) :: blk bk4 (.cells #[.int .i64 d.frm.v, .int .i64 d.to_.v, .int .i64 d.kind.v, .int .i64 d.seq.v, .int .i64 d.ack.v, .slice pp1 d.body.length cc2] 41 (0, 0)) :: (F.set i emp)) := H201
       refine r_cons (s_nilCheck (.pointer (some ⟨g, 0, none⟩)) rfl ⟨_, rfl⟩ rfl ?_)
       refine r_cons (s_fieldAddr 62 7 8 8 4 rfl fi_62_7 rfl rfl ?_)
       refine r_cons (s_store H204 0 (.bool true) rfl rfl rfl sz_4 rfl (nbl rfl) rfl (cs' := #[.int .i64 ((ackS s d.ack.v).frm.v), .int .i64 ((ackS s d.ack.v).to_.v), .int .i64 ((ackS s d.ack.v).slide : Int), .slice pp194 L196.length cc195, .int .i64 ((ackS s d.ack.v).acked : Int), .int .i64 ((i64N (ackS s d.ack.v).came).v), .map (some m193), .int .i64 ((ackS s d.ack.v).clock : Int), .bool true]) rfl ?_); intro w205 H206
       refine r_nil ?_
       refine g_seq ?_
       refine g_seq ?_
       refine g_quiet (fun w' => St W w' (blk g (.cells #[.int .i64 ((ackS s d.ack.v).frm.v), .int .i64 ((ackS s d.ack.v).to_.v), .int .i64 ((ackS s d.ack.v).slide : Int), .slice pp194 L196.length cc195, .int .i64 ((ackS s d.ack.v).acked : Int), .int .i64 ((i64N (ackS s d.ack.v).came).v), .map (some m193), .int .i64 ((ackS s d.ack.v).clock : Int), .bool true] 62 (0, 0)) :: Row 79 3 (.slice pp194 L196.length cc195) L196.length (L196.flatMap bodCell) :: byA (L196.map BodD.by) :: MapA m193 (ents (kI .i64) evD E197) :: byA (mby E197) :: blk bk4 (.cells #[.int .i64 d.frm.v, .int .i64 d.to_.v, .int .i64 d.kind.v, .int .i64 d.seq.v, .int .i64 d.ack.v, .slice pp1 d.body.length cc2] 41 (0, 0)) :: (F.set i emp))) mixed (by kernel_rfl) H206.drew ?_
       refine q_cons (q_val rfl rfl rfl (by intro w hw; exact x_move (.pointer (some ⟨g, 0, none⟩)) rfl w) ?_)
       refine q_cons (q_val rfl rfl rfl (by intro w hw; exact x_nilCheck (.pointer (some ⟨g, 0, none⟩)) rfl ⟨_, rfl⟩ w) ?_)
       refine q_cons (q_val rfl rfl rfl (by intro w hw; exact x_fieldAddr 62 5 6 6 60 rfl fi_62_5 rfl w) ?_)
       refine q_cons (q_val rfl rfl rfl (by intro w hw; exact x_load (.map (some m193)) ag_60 rfl (hw.blk_at (i := 0) rfl) rfl) ?_)
       refine q_cons (q_val rfl rfl rfl (by intro w hw; exact x_fieldAddr 41 3 3 3 2 rfl fi_41_3 rfl w) ?_)
       refine q_cons (q_val rfl rfl rfl (by intro w hw; exact x_load (.int .i64 d.seq.v) ag_2 rfl (hw.blk_at (i := 5) rfl) rfl) ?_)
       refine q_cons (q_val rfl rfl rfl (by intro w hw; exact x_lookup2 (ek := (kI .i64)) (ev := evD) (L := E197) d.seq ((lookV evD (.slice none 0 0) E197 d.seq)) (ahas E197 d.seq) (MapA.at hw (i := 3) rfl) (KeyLaw.I un_2) un_60 zv_26 rfl rfl (rfl) rfl) ?_)
       refine q_cons (q_val rfl rfl rfl (by intro w hw; exact x_move (.tuple #[(lookV evD (.slice none 0 0) E197 d.seq), .bool (ahas E197 d.seq)]) rfl w) ?_)
       refine q_cons (q_val rfl rfl rfl (by intro w hw; exact x_extract ((lookV evD (.slice none 0 0) E197 d.seq)) #[(lookV evD (.slice none 0 0) E197 d.seq), .bool (ahas E197 d.seq)] rfl rfl w) ?_)
       refine q_cons (q_val rfl rfl rfl (by intro w hw; exact x_extract (.bool (ahas E197 d.seq)) #[(lookV evD (.slice none 0 0) E197 d.seq), .bool (ahas E197 d.seq)] rfl rfl w) ?_)
       refine q_cons (q_val rfl rfl rfl (by intro w hw; exact x_assign ((lookV evD (.slice none 0 0) E197 d.seq)) rfl w) ?_)
       refine q_cons (q_val rfl rfl rfl (by intro w hw; exact x_assign (.bool (ahas E197 d.seq)) rfl w) ?_)
       refine q_nil ?_
       intro w207 H208
       refine g_seq ?_
       refine g_quiet (fun w' => St W w' (blk g (.cells #[.int .i64 ((ackS s d.ack.v).frm.v), .int .i64 ((ackS s d.ack.v).to_.v), .int .i64 ((ackS s d.ack.v).slide : Int), .slice pp194 L196.length cc195, .int .i64 ((ackS s d.ack.v).acked : Int), .int .i64 ((i64N (ackS s d.ack.v).came).v), .map (some m193), .int .i64 ((ackS s d.ack.v).clock : Int), .bool true] 62 (0, 0)) :: Row 79 3 (.slice pp194 L196.length cc195) L196.length (L196.flatMap bodCell) :: byA (L196.map BodD.by) :: MapA m193 (ents (kI .i64) evD E197) :: byA (mby E197) :: blk bk4 (.cells #[.int .i64 d.frm.v, .int .i64 d.to_.v, .int .i64 d.kind.v, .int .i64 d.seq.v, .int .i64 d.ack.v, .slice pp1 d.body.length cc2] 41 (0, 0)) :: (F.set i emp))) mixed (by kernel_rfl) H208.drew ?_
       refine q_cons (q_val rfl rfl rfl (by intro w hw; exact x_fieldAddr 41 3 3 3 2 rfl fi_41_3 rfl w) ?_)
       refine q_cons (q_val rfl rfl rfl (by intro w hw; exact x_load (.int .i64 d.seq.v) ag_2 rfl (hw.blk_at (i := 5) rfl) rfl) ?_)
       refine q_cons (q_val rfl rfl rfl (by intro w hw; exact x_move (.pointer (some ⟨g, 0, none⟩)) rfl w) ?_)
       refine q_cons (q_val rfl rfl rfl (by intro w hw; exact x_nilCheck (.pointer (some ⟨g, 0, none⟩)) rfl ⟨_, rfl⟩ w) ?_)
       refine q_cons (q_val rfl rfl rfl (by intro w hw; exact x_fieldAddr 62 4 5 5 2 rfl fi_62_4 rfl w) ?_)
       refine q_cons (q_val rfl rfl rfl (by intro w hw; exact x_load (.int .i64 ((i64N (ackS s d.ack.v).came).v)) ag_2 rfl (hw.blk_at (i := 0) rfl) rfl) ?_)
       by_cases hc209 : d.seq.v < (i64N (ackS s d.ack.v).came).v
       ·skip
        refine q_cons (q_val rfl rfl rfl (by intro w hw; exact x_lss true rfl rfl (dtrue hc209) w) ?_)
        refine q_cons (q_val rfl rfl rfl (by intro w hw; exact x_move (.bool true) rfl w) ?_)
        refine q_cons (q_pass rfl rfl rfl rfl rfl ?_)
        refine q_cons (q_val rfl rfl rfl (by intro w hw; exact x_pick_t (.bool true) rfl rfl w) ?_)
        refine q_nil ?_
        intro w210 H211
        refine g_true rfl ?_
        refine g_seq ?_
        refine g_region ?_
        refine r_cons (s_assign (.slice none 0 0) rfl rfl ?_)
        refine r_cons (s_assign (.int .i64 0) rfl rfl ?_)
        refine r_nil ?_
        refine g_ret' [.slice none 0 0, .int .i64 0] Try.func21 Try.results21 ⟨rfl, rfl, trivial⟩ ?_
        have H212 : St W w210 (LkA g ({ ackS s d.ack.v with owes := true } : EndV) :: blk bk4 (.cells #[.int .i64 d.frm.v, .int .i64 d.to_.v, .int .i64 d.kind.v, .int .i64 d.seq.v, .int .i64 d.ack.v, .slice pp1 d.body.length cc2] 41 (0, 0)) :: (F.set i emp)) := St.shut_ex ⟨(m193, pp194, cc195, L196, E197), hL198, hE199⟩ (St.shut_star (ls := [_, _, _, _, _]) H211)
        have hC : takeC s d = ([], s.came, s.held) := takeC_no (by first | exact .inl (by omega) | (right; rw [← hhe, mapB_has hE199]; assumption))
        have H213 := Row.nil_intro H212 26 1
        have H214 := byA_nil H213
        have H215 : St W w210 (Row 26 1 (.slice none 0 0) 0 [] :: byA ([] : List BytesD) :: LkA g ({ ackS s d.ack.v with owes := true } : EndV) :: blk bk4 (.cells #[.int .i64 d.frm.v, .int .i64 d.to_.v, .int .i64 d.kind.v, .int .i64 d.seq.v, .int .i64 d.ack.v, .slice pp1 d.body.length cc2] 41 (0, 0)) :: (F.set i emp)) := (H214.move 1 rfl)
        have hT9 : takeT s d = [] := by rw [takeT_yes hE hk1, hC]
        have H216 : St W w210 (BysA none 0 (takeT s d) :: LkA g ({ ackS s d.ack.v with owes := true } : EndV) :: blk bk4 (.cells #[.int .i64 d.frm.v, .int .i64 d.to_.v, .int .i64 d.kind.v, .int .i64 d.seq.v, .int .i64 d.ack.v, .slice pp1 d.body.length cc2] 41 (0, 0)) :: (F.set i emp)) := by rw [hT9]; exact St.shut_ex ⟨[], rfl⟩ (St.shut_star (ls := [_, _]) H215)
        have H217 : St W w210 (BysA none 0 (takeT s d) :: LkA g (takeS s d) :: blk bk4 (.cells #[.int .i64 d.frm.v, .int .i64 d.to_.v, .int .i64 d.kind.v, .int .i64 d.seq.v, .int .i64 d.ack.v, .slice pp1 d.body.length cc2] 41 (0, 0)) :: (F.set i emp)) := by rw [takeS_data hE hk1, hC, ← hca, ← hhe]; exact H216
        have H218 : St W w210 (BysA none 0 (takeT s d) :: LkA g (takeS s d) :: (F.set i emp)) := (((H217.move 1 rfl).move 1 rfl).drop 2 rfl)
        have H219 : St W w210 (LkA g (takeS s d) :: (BysA none 0 (takeT s d) :: F).set (i + 1) emp) := (H218.move 1 rfl)
        exact ⟨none, 0, by rw [hE, hT9]; rfl, St.back (i := i + 1) (by exact hi) H219⟩
       ·skip
        refine q_cons (q_val rfl rfl rfl (by intro w hw; exact x_lss false rfl rfl (dfalse hc209) w) ?_)
        refine q_cons (q_val rfl rfl rfl (by intro w hw; exact x_move (.bool false) rfl w) ?_)
        refine q_cons (q_take rfl rfl ?_)
        refine q_val rfl rfl rfl (by intro w hw; exact x_move (.bool (ahas E197 d.seq)) rfl w) ?_
        refine q_cons (q_val rfl rfl rfl (by intro w hw; exact x_pick_f (.bool (ahas E197 d.seq)) rfl rfl w) ?_)
        refine q_nil ?_
        intro w220 H221
        by_cases hb222 : (ahas E197 d.seq) = true
        ·skip
         refine g_true (congrArg Value.bool hb222) ?_
         refine g_seq ?_
         refine g_region ?_
         refine r_cons (s_assign (.slice none 0 0) rfl rfl ?_)
         refine r_cons (s_assign (.int .i64 0) rfl rfl ?_)
         refine r_nil ?_
         refine g_ret' [.slice none 0 0, .int .i64 0] Try.func21 Try.results21 ⟨rfl, rfl, trivial⟩ ?_
         have H223 : St W w220 (LkA g ({ ackS s d.ack.v with owes := true } : EndV) :: blk bk4 (.cells #[.int .i64 d.frm.v, .int .i64 d.to_.v, .int .i64 d.kind.v, .int .i64 d.seq.v, .int .i64 d.ack.v, .slice pp1 d.body.length cc2] 41 (0, 0)) :: (F.set i emp)) := St.shut_ex ⟨(m193, pp194, cc195, L196, E197), hL198, hE199⟩ (St.shut_star (ls := [_, _, _, _, _]) H221)
         have hC : takeC s d = ([], s.came, s.held) := takeC_no (by first | exact .inl (by omega) | (right; rw [← hhe, mapB_has hE199]; assumption))
         have H224 := Row.nil_intro H223 26 1
         have H225 := byA_nil H224
         have H226 : St W w220 (Row 26 1 (.slice none 0 0) 0 [] :: byA ([] : List BytesD) :: LkA g ({ ackS s d.ack.v with owes := true } : EndV) :: blk bk4 (.cells #[.int .i64 d.frm.v, .int .i64 d.to_.v, .int .i64 d.kind.v, .int .i64 d.seq.v, .int .i64 d.ack.v, .slice pp1 d.body.length cc2] 41 (0, 0)) :: (F.set i emp)) := (H225.move 1 rfl)
         have hT9 : takeT s d = [] := by rw [takeT_yes hE hk1, hC]
         have H227 : St W w220 (BysA none 0 (takeT s d) :: LkA g ({ ackS s d.ack.v with owes := true } : EndV) :: blk bk4 (.cells #[.int .i64 d.frm.v, .int .i64 d.to_.v, .int .i64 d.kind.v, .int .i64 d.seq.v, .int .i64 d.ack.v, .slice pp1 d.body.length cc2] 41 (0, 0)) :: (F.set i emp)) := by rw [hT9]; exact St.shut_ex ⟨[], rfl⟩ (St.shut_star (ls := [_, _]) H226)
         have H228 : St W w220 (BysA none 0 (takeT s d) :: LkA g (takeS s d) :: blk bk4 (.cells #[.int .i64 d.frm.v, .int .i64 d.to_.v, .int .i64 d.kind.v, .int .i64 d.seq.v, .int .i64 d.ack.v, .slice pp1 d.body.length cc2] 41 (0, 0)) :: (F.set i emp)) := by rw [takeS_data hE hk1, hC, ← hca, ← hhe]; exact H227
         have H229 : St W w220 (BysA none 0 (takeT s d) :: LkA g (takeS s d) :: (F.set i emp)) := (((H228.move 1 rfl).move 1 rfl).drop 2 rfl)
         have H230 : St W w220 (LkA g (takeS s d) :: (BysA none 0 (takeT s d) :: F).set (i + 1) emp) := (H229.move 1 rfl)
         exact ⟨none, 0, by rw [hE, hT9]; rfl, St.back (i := i + 1) (by exact hi) H230⟩
        ·have hb222 := eq_false_of_ne_true hb222
         refine g_false (congrArg Value.bool hb222) ?_
         refine g_skip ?_
         refine g_seq ?_
         have hno0 : ahas s.held d.seq = false := by rw [← hhe, mapB_has hE199]; assumption
         have hC := takeC_yes (s := s) (d := d) (by rw [hno0]; simp only [Bool.false_eq_true, or_false]; omega)
         have H231 : St W w220 (blk g (.cells #[.int .i64 ((ackS s d.ack.v).frm.v), .int .i64 ((ackS s d.ack.v).to_.v), .int .i64 ((ackS s d.ack.v).slide : Int), .slice pp194 L196.length cc195, .int .i64 ((ackS s d.ack.v).acked : Int), .int .i64 ((i64N (ackS s d.ack.v).came).v), .map (some m193), .int .i64 ((ackS s d.ack.v).clock : Int), .bool true] 62 (0, 0)) :: Row 79 3 (.slice pp194 L196.length cc195) L196.length (L196.flatMap bodCell) :: byA (L196.map BodD.by) :: byA (mby E197) :: blk bk4 (.cells #[.int .i64 d.frm.v, .int .i64 d.to_.v, .int .i64 d.kind.v, .int .i64 d.seq.v, .int .i64 d.ack.v, .slice pp1 d.body.length cc2] 41 (0, 0)) :: MapA m193 (ents (kI .i64) evD E197) :: (F.set i emp)) := ((((((H221.move 3 rfl).move 5 rfl).move 5 rfl).move 5 rfl).move 5 rfl).move 5 rfl)
         refine g_mix (fun t_ w => St W w (blk g (.cells #[.int .i64 ((ackS s d.ack.v).frm.v), .int .i64 ((ackS s d.ack.v).to_.v), .int .i64 ((ackS s d.ack.v).slide : Int), .slice pp194 L196.length cc195, .int .i64 ((ackS s d.ack.v).acked : Int), .int .i64 ((i64N (ackS s d.ack.v).came).v), .map (some m193), .int .i64 ((ackS s d.ack.v).clock : Int), .bool true] 62 (0, 0)) :: Row 79 3 (.slice pp194 L196.length cc195) L196.length (L196.flatMap bodCell) :: byA (L196.map BodD.by) :: byA (mby E197) :: blk bk4 (.cells #[.int .i64 d.frm.v, .int .i64 d.to_.v, .int .i64 d.kind.v, .int .i64 d.seq.v, .int .i64 d.ack.v, .slice pp1 d.body.length cc2] 41 (0, 0)) :: t_)) (MapA m193 (ents (kI .i64) evD E197) :: (F.set i emp)) mixed 10 rfl H231.drew ?_
         refine f_first 0 (listed' := #[true, false, false, false, false, false, false, false, false, false]) rfl (by kernel_rfl) (by kernel_rfl) (by kernel_rfl) rfl ?_
         refine f_val rfl rfl rfl (by intro _ w _; exact x_move (.pointer (some ⟨g, 0, none⟩)) rfl w) ?_
         refine f_first 1 (listed' := #[true, true, false, false, false, false, false, false, false, false]) rfl (by kernel_rfl) (by kernel_rfl) (by kernel_rfl) rfl ?_
         refine f_val rfl rfl rfl (by intro t_ w hw; exact x_nilCheck (.pointer (some ⟨g, 0, none⟩)) rfl ⟨_, rfl⟩ w) ?_
         refine f_first 2 (listed' := #[true, true, true, false, false, false, false, false, false, false]) rfl (by kernel_rfl) (by kernel_rfl) (by kernel_rfl) rfl ?_
         refine f_val rfl rfl rfl (by intro t_ w hw; exact x_fieldAddr 62 5 6 6 60 rfl fi_62_5 rfl w) ?_
         refine f_first 3 (listed' := #[true, true, true, true, false, false, false, false, false, false]) rfl (by kernel_rfl) (by kernel_rfl) (by kernel_rfl) rfl ?_
         refine f_val rfl rfl rfl (by intro t_ w hw; exact x_load (.map (some m193)) ag_60 rfl (hw.blk_at (i := 0) rfl) rfl) ?_
         refine f_first 4 (listed' := #[true, true, true, true, true, false, false, false, false, false]) rfl (by kernel_rfl) (by kernel_rfl) (by kernel_rfl) rfl ?_
         refine f_val rfl rfl rfl (by intro t_ w hw; exact x_fieldAddr 41 3 3 3 2 rfl fi_41_3 rfl w) ?_
         refine f_first 5 (listed' := #[true, true, true, true, true, true, false, false, false, false]) rfl (by kernel_rfl) (by kernel_rfl) (by kernel_rfl) rfl ?_
         refine f_val rfl rfl rfl (by intro t_ w hw; exact x_load (.int .i64 d.seq.v) ag_2 rfl (hw.blk_at (i := 4) rfl) rfl) ?_
         refine f_first 6 (listed' := #[true, true, true, true, true, true, true, false, false, false]) rfl (by kernel_rfl) (by kernel_rfl) (by kernel_rfl) rfl ?_
         refine f_val rfl rfl rfl (by intro t_ w hw; exact x_fieldAddr 41 5 5 5 26 rfl fi_41_5 rfl w) ?_
         refine f_first 7 (listed' := #[true, true, true, true, true, true, true, true, false, false]) rfl (by kernel_rfl) (by kernel_rfl) (by kernel_rfl) rfl ?_
         refine f_val rfl rfl rfl (by intro t_ w hw; exact x_load (.slice pp1 d.body.length cc2) ag_26 rfl (hw.blk_at (i := 4) rfl) rfl) ?_
         refine f_all (rs := [8]) (by kernel_rfl) (by simp) ?_
         refine a_cons ⟨_, rfl, ?_⟩ (fun x hx => absurd hx (by simp))
         intro w232 H233
         try dsimp only at H233
         refine s_call [.slice pp1 d.body.length cc2] pl_48 rfl rfl (clone_bytes _ _ d.body.length (d.body.flatMap u8c) hA (by first | omega | (have hlp := Nat.le_refl 0; omega)) (j := j + 6) (by exact hj) H233) ?_
         rintro _ w236 ⟨pp234, cc235, rfl, H237⟩
         have H238 : St W w236 (blk g (.cells #[.int .i64 ((ackS s d.ack.v).frm.v), .int .i64 ((ackS s d.ack.v).to_.v), .int .i64 ((ackS s d.ack.v).slide : Int), .slice pp194 L196.length cc195, .int .i64 ((ackS s d.ack.v).acked : Int), .int .i64 ((i64N (ackS s d.ack.v).came).v), .map (some m193), .int .i64 ((ackS s d.ack.v).clock : Int), .bool true] 62 (0, 0)) :: Row 79 3 (.slice pp194 L196.length cc195) L196.length (L196.flatMap bodCell) :: byA (L196.map BodD.by) :: byA (mby E197) :: blk bk4 (.cells #[.int .i64 d.frm.v, .int .i64 d.to_.v, .int .i64 d.kind.v, .int .i64 d.seq.v, .int .i64 d.ack.v, .slice pp1 d.body.length cc2] 41 (0, 0)) :: Row 5 1 (.slice pp234 d.body.length cc235) d.body.length (d.body.flatMap u8c) :: MapA m193 (ents (kI .i64) evD E197) :: (F.set i emp)) := (((((((H237.move 6 rfl).move 1 rfl).move 6 rfl).move 6 rfl).move 6 rfl).move 6 rfl).move 6 rfl)
         refine ⟨Row 5 1 (.slice pp234 d.body.length cc235) d.body.length (d.body.flatMap u8c) :: MapA m193 (ents (kI .i64) evD E197) :: (F.set i emp), ?_, H238⟩
         change FReg _ _ _ _ _ #[true, true, true, true, true, true, true, true, true, false] _ _
         refine f_all (rs := [9]) (by kernel_rfl) (by simp) ?_
         refine a_cons ⟨_, rfl, ?_⟩ (fun x hx => absurd hx (by simp))
         intro w239 H240
         try dsimp only at H240
         refine s_mapUpdate (ek := (kI .i64)) (ev := evD) (L := E197) d.seq (⟨d.body, pp234, cc235⟩ : BytesD) H240 (i := 6) rfl (KeyLaw.I un_2) un_60 rfl rfl rfl ?_; intro w241 H242
         have H243 : St W w241 (blk g (.cells #[.int .i64 ((ackS s d.ack.v).frm.v), .int .i64 ((ackS s d.ack.v).to_.v), .int .i64 ((ackS s d.ack.v).slide : Int), .slice pp194 L196.length cc195, .int .i64 ((ackS s d.ack.v).acked : Int), .int .i64 ((i64N (ackS s d.ack.v).came).v), .map (some m193), .int .i64 ((ackS s d.ack.v).clock : Int), .bool true] 62 (0, 0)) :: Row 79 3 (.slice pp194 L196.length cc195) L196.length (L196.flatMap bodCell) :: byA (L196.map BodD.by) :: byA (mby E197) :: blk bk4 (.cells #[.int .i64 d.frm.v, .int .i64 d.to_.v, .int .i64 d.kind.v, .int .i64 d.seq.v, .int .i64 d.ack.v, .slice pp1 d.body.length cc2] 41 (0, 0)) :: Row 5 1 (.slice pp234 d.body.length cc235) d.body.length (d.body.flatMap u8c) :: MapA m193 (ents (kI .i64) evD (aset E197 d.seq (⟨d.body, pp234, cc235⟩ : BytesD))) :: (F.set i emp)) := H242
         refine ⟨Row 5 1 (.slice pp234 d.body.length cc235) d.body.length (d.body.flatMap u8c) :: MapA m193 (ents (kI .i64) evD (aset E197 d.seq (⟨d.body, pp234, cc235⟩ : BytesD))) :: (F.set i emp), ?_, H243⟩
         change FReg _ _ _ _ _ #[true, true, true, true, true, true, true, true, true, true] _ _
         refine f_done (by kernel_rfl) ?_
         intro w244 H245
         refine g_seq ?_
         refine g_region ?_
         refine r_cons (s_assign (.slice none 0 0) rfl rfl ?_)
         refine r_nil ?_
         refine g_block ?_
         have H246 : St W w244 (blk g (.cells #[.int .i64 ((ackS s d.ack.v).frm.v), .int .i64 ((ackS s d.ack.v).to_.v), .int .i64 ((ackS s d.ack.v).slide : Int), .slice pp194 L196.length cc195, .int .i64 ((ackS s d.ack.v).acked : Int), .int .i64 ((i64N (ackS s d.ack.v).came).v), .map (some m193), .int .i64 ((ackS s d.ack.v).clock : Int), .bool true] 62 (0, 0)) :: Row 79 3 (.slice pp194 L196.length cc195) L196.length (L196.flatMap bodCell) :: byA (L196.map BodD.by) :: byA (mby E197) :: blk bk4 (.cells #[.int .i64 d.frm.v, .int .i64 d.to_.v, .int .i64 d.kind.v, .int .i64 d.seq.v, .int .i64 d.ack.v, .slice pp1 d.body.length cc2] 41 (0, 0)) :: Im 1 (.slice pp234 d.body.length cc235) d.body.length (d.body.flatMap u8c) :: MapA m193 (ents (kI .i64) evD (aset E197 d.seq (⟨d.body, pp234, cc235⟩ : BytesD))) :: (F.set i emp)) := Row.im H245 (i := 5) rfl
         have H247 := byA_add (x := (⟨d.body, pp234, cc235⟩ : BytesD)) (M := mby (aset E197 d.seq (⟨d.body, pp234, cc235⟩ : BytesD))) H246 (i := 3) (j := 5) rfl rfl (mby_set (by rw [← mapB_has hE199, hhe]; exact hno0))
         have H248 : St W w244 (byA (mby (aset E197 d.seq (⟨d.body, pp234, cc235⟩ : BytesD))) :: blk g (.cells #[.int .i64 ((ackS s d.ack.v).frm.v), .int .i64 ((ackS s d.ack.v).to_.v), .int .i64 ((ackS s d.ack.v).slide : Int), .slice pp194 L196.length cc195, .int .i64 ((ackS s d.ack.v).acked : Int), .int .i64 ((i64N s.came).v), .map (some m193), .int .i64 ((ackS s d.ack.v).clock : Int), .bool true] 62 (0, 0)) :: Row 79 3 (.slice pp194 L196.length cc195) L196.length (L196.flatMap bodCell) :: byA (L196.map BodD.by) :: byA (mby E197) :: blk bk4 (.cells #[.int .i64 d.frm.v, .int .i64 d.to_.v, .int .i64 d.kind.v, .int .i64 d.seq.v, .int .i64 d.ack.v, .slice pp1 d.body.length cc2] 41 (0, 0)) :: Im 1 (.slice pp234 d.body.length cc235) d.body.length (d.body.flatMap u8c) :: MapA m193 (ents (kI .i64) evD (aset E197 d.seq (⟨d.body, pp234, cc235⟩ : BytesD))) :: (F.set i emp)) := by rw [← hca]; exact H247
         have H249 : St W w244 (blk g (.cells #[.int .i64 ((ackS s d.ack.v).frm.v), .int .i64 ((ackS s d.ack.v).to_.v), .int .i64 ((ackS s d.ack.v).slide : Int), .slice pp194 L196.length cc195, .int .i64 ((ackS s d.ack.v).acked : Int), .int .i64 ((i64N s.came).v), .map (some m193), .int .i64 ((ackS s d.ack.v).clock : Int), .bool true] 62 (0, 0)) :: Row 79 3 (.slice pp194 L196.length cc195) L196.length (L196.flatMap bodCell) :: byA (L196.map BodD.by) :: MapA m193 (ents (kI .i64) evD (aset E197 d.seq (⟨d.body, pp234, cc235⟩ : BytesD))) :: byA (mby (aset E197 d.seq (⟨d.body, pp234, cc235⟩ : BytesD))) :: byA (mby E197) :: blk bk4 (.cells #[.int .i64 d.frm.v, .int .i64 d.to_.v, .int .i64 d.kind.v, .int .i64 d.seq.v, .int .i64 d.ack.v, .slice pp1 d.body.length cc2] 41 (0, 0)) :: Im 1 (.slice pp234 d.body.length cc235) d.body.length (d.body.flatMap u8c) :: (F.set i emp)) := ((((H248.move 7 rfl).move 4 rfl).move 4 rfl).move 4 rfl)
         have H250 : St W w244 (LkA g (drS (ackS s d.ack.v) s.came (s.held ++ [(d.seq, d.body)])) :: byA (mby E197) :: blk bk4 (.cells #[.int .i64 d.frm.v, .int .i64 d.to_.v, .int .i64 d.kind.v, .int .i64 d.seq.v, .int .i64 d.ack.v, .slice pp1 d.body.length cc2] 41 (0, 0)) :: Im 1 (.slice pp234 d.body.length cc235) d.body.length (d.body.flatMap u8c) :: (F.set i emp)) := St.shut_ex ⟨(m193, pp194, cc195, L196, (aset E197 d.seq (⟨d.body, pp234, cc235⟩ : BytesD))), hL198, (show mapB (aset E197 d.seq (⟨d.body, pp234, cc235⟩ : BytesD)) = s.held ++ [(d.seq, d.body)] from by rw [mapB_set hE199 (⟨d.body, pp234, cc235⟩ : BytesD) (by rw [hhe]; exact hno0), hhe])⟩ (St.shut_star (ls := [_, _, _, _, _]) H249)
         have H251 := Row.nil_intro H250 26 1
         have H252 := byA_nil H251
         have H253 : St W w244 (Row 26 1 (.slice none 0 0) 0 [] :: byA ([] : List BytesD) :: LkA g (drS (ackS s d.ack.v) s.came (s.held ++ [(d.seq, d.body)])) :: (F.set i emp)) := ((((((H252.move 2 rfl).move 1 rfl).move 2 rfl).drop 3 rfl).drop 3 rfl).drop 3 rfl)
         have H254 : St W w244 (Row 26 1 (.slice none 0 0) 0 [] :: byA ([] : List BytesD) :: LkA g (drS (ackS s d.ack.v) s.came (s.held ++ [(d.seq, d.body)])) :: (F.set i emp)) := H253
         refine g_loop_inv (fun (x_ : Nat × (List (I64 × List UInt8)) × (List BytesD) × (Option Addr) × Nat) => match x_ with | (c9, h9, O, p, c) => [(0, .pointer (some ⟨g, 0, none⟩)), (4, .slice none 0 0), (5, .int .i64 0), (10, .slice p O.length c)]) (fun (x_ : Nat × (List (I64 × List UInt8)) × (List BytesD) × (Option Addr) × Nat) w => match x_ with | (c9, h9, O, p, c) => (DrI (drain (s.held ++ [(d.seq, d.body)]).length s.came (s.held ++ [(d.seq, d.body)])) (O.map BytesD.data) c9 h9) ∧ (c9 ≤ 1099511627777) ∧ (∀ x ∈ h9, x.1.v ≤ 1099511627776) ∧ (O.length + h9.length ≤ s.held.length + 1) ∧ St W w (Row 26 1 (.slice p O.length c) O.length (O.flatMap byCell) :: byA O :: LkA g (drS (ackS s d.ack.v) c9 h9) :: (F.set i emp))) (fun (x_ : Nat × (List (I64 × List UInt8)) × (List BytesD) × (Option Addr) × Nat) => match x_ with | (c9, h9, O, p, c) => h9.length) (s.came, s.held ++ [(d.seq, d.body)], [], none, 0) ?_ ?_ ?_
         ·exact ⟨by first | rfl | exact vint (by omega), by first | rfl | exact vint (by omega), by first | rfl | exact vint (by omega), by first | rfl | exact vint (by omega), trivial⟩
         ·exact ⟨(DrI.start _ _), (by omega), (fun x hx => (List.mem_append.1 hx).elim (o8 x) (fun h => by rw [List.mem_singleton] at h; subst h; exact q2)), (by simp), H254⟩
         ·rintro ⟨c9, h9, O, p, c⟩ ρ255 w256 ⟨hDr, hc9, hh9, hl9, H257⟩ nx258
          change Ends _ _ (upds ρ255 [(0, .pointer (some ⟨g, 0, none⟩)), (4, .slice none 0 0), (5, .int .i64 0), (10, .slice p O.length c)]) w256
          refine g_block ?_
          refine g_seq ?_
          have H259 := H257.move 2 rfl
          obtain ⟨⟨⟨m260, pp261, cc262, L263, E264⟩, hL265, hE266⟩, H267⟩ := St.open_ex H259
          have H268 := St.open_star H267
          change L263.map BodD.v = (drS (ackS s d.ack.v) c9 h9).l at hL265; change mapB E264 = (drS (ackS s d.ack.v) c9 h9).held at hE266
          have hl269 := lenOf hL265; have he270 := mapB_len hE266
          have H271 : St W w256 (blk g (lkC (drS (ackS s d.ack.v) c9 h9) m260 (.slice pp261 L263.length cc262)) :: Row 79 3 (.slice pp261 L263.length cc262) L263.length (L263.flatMap bodCell) :: byA (L263.map BodD.by) :: MapA m260 (ents (kI .i64) evD E264) :: byA (mby E264) :: Row 26 1 (.slice p O.length c) O.length (O.flatMap byCell) :: byA O :: (F.set i emp)) := H268
          have hcv : (i64N (drS (ackS s d.ack.v) c9 h9).came).v = (c9 : Int) := i64N_v (n := c9) (by omega); have hcw := i64N_v (n := c9) (by omega)
          refine g_quiet (fun w' => St W w' (blk g (lkC (drS (ackS s d.ack.v) c9 h9) m260 (.slice pp261 L263.length cc262)) :: Row 79 3 (.slice pp261 L263.length cc262) L263.length (L263.flatMap bodCell) :: byA (L263.map BodD.by) :: MapA m260 (ents (kI .i64) evD E264) :: byA (mby E264) :: Row 26 1 (.slice p O.length c) O.length (O.flatMap byCell) :: byA O :: (F.set i emp))) mixed (by kernel_rfl) H271.drew ?_
          refine q_cons (q_val rfl rfl rfl (by intro w hw; exact x_move (.pointer (some ⟨g, 0, none⟩)) rfl w) ?_)
          refine q_cons (q_val rfl rfl rfl (by intro w hw; exact x_nilCheck (.pointer (some ⟨g, 0, none⟩)) rfl ⟨_, rfl⟩ w) ?_)
          refine q_cons (q_val rfl rfl rfl (by intro w hw; exact x_fieldAddr 62 5 6 6 60 rfl fi_62_5 rfl w) ?_)
          refine q_cons (q_val rfl rfl rfl (by intro w hw; exact x_load (.map (some m260)) ag_60 rfl (hw.blk_at (i := 0) rfl) rfl) ?_)
          refine q_cons (q_val rfl rfl rfl (by intro w hw; exact x_move (.pointer (some ⟨g, 0, none⟩)) rfl w) ?_)
          refine q_cons (q_val rfl rfl rfl (by intro w hw; exact x_nilCheck (.pointer (some ⟨g, 0, none⟩)) rfl ⟨_, rfl⟩ w) ?_)
          refine q_cons (q_val rfl rfl rfl (by intro w hw; exact x_fieldAddr 62 4 5 5 2 rfl fi_62_4 rfl w) ?_)
          refine q_cons (q_val rfl rfl rfl (by intro w hw; exact x_load (.int .i64 ((i64N (drS (ackS s d.ack.v) c9 h9).came).v)) ag_2 rfl (hw.blk_at (i := 0) rfl) rfl) ?_)
          refine q_cons (q_val rfl rfl rfl (by intro w hw; exact x_lookup2 (ek := (kI .i64)) (ev := evD) (L := E264) (i64N (drS (ackS s d.ack.v) c9 h9).came) ((lookV evD (.slice none 0 0) E264 (i64N (drS (ackS s d.ack.v) c9 h9).came))) (ahas E264 (i64N (drS (ackS s d.ack.v) c9 h9).came)) (MapA.at hw (i := 3) rfl) (KeyLaw.I un_2) un_60 zv_26 rfl rfl (rfl) rfl) ?_)
          refine q_cons (q_val rfl rfl rfl (by intro w hw; exact x_move (.tuple #[(lookV evD (.slice none 0 0) E264 (i64N (drS (ackS s d.ack.v) c9 h9).came)), .bool (ahas E264 (i64N (drS (ackS s d.ack.v) c9 h9).came))]) rfl w) ?_)
          refine q_cons (q_val rfl rfl rfl (by intro w hw; exact x_extract ((lookV evD (.slice none 0 0) E264 (i64N (drS (ackS s d.ack.v) c9 h9).came))) #[(lookV evD (.slice none 0 0) E264 (i64N (drS (ackS s d.ack.v) c9 h9).came)), .bool (ahas E264 (i64N (drS (ackS s d.ack.v) c9 h9).came))] rfl rfl w) ?_)
          refine q_cons (q_val rfl rfl rfl (by intro w hw; exact x_extract (.bool (ahas E264 (i64N (drS (ackS s d.ack.v) c9 h9).came))) #[(lookV evD (.slice none 0 0) E264 (i64N (drS (ackS s d.ack.v) c9 h9).came)), .bool (ahas E264 (i64N (drS (ackS s d.ack.v) c9 h9).came))] rfl rfl w) ?_)
          refine q_cons (q_val rfl rfl rfl (by intro w hw; exact x_assign ((lookV evD (.slice none 0 0) E264 (i64N (drS (ackS s d.ack.v) c9 h9).came))) rfl w) ?_)
          refine q_cons (q_val rfl rfl rfl (by intro w hw; exact x_assign (.bool (ahas E264 (i64N (drS (ackS s d.ack.v) c9 h9).came))) rfl w) ?_)
          refine q_nil ?_
          intro w272 H273
          refine g_seq ?_
          refine g_seq ?_
          refine g_region ?_
          refine r_cons (s_move (.bool (ahas E264 (i64N (drS (ackS s d.ack.v) c9 h9).came))) rfl rfl ?_)
          refine r_cons (s_not (ahas E264 (i64N (drS (ackS s d.ack.v) c9 h9).came)) rfl (!(ahas E264 (i64N (drS (ackS s d.ack.v) c9 h9).came))) rfl rfl ?_)
          refine r_nil ?_
          by_cases hb274 : (!(ahas E264 (i64N (drS (ackS s d.ack.v) c9 h9).came))) = true
          ·skip
           refine g_true (congrArg Value.bool hb274) ?_
           refine g_seq ?_
           refine g_region ?_
           have hno : ahas h9 (i64N c9) = false := by rw [mapB_has (show mapB E264 = h9 from hE266)]; show ahas E264 (i64N (drS (ackS s d.ack.v) c9 h9).came) = false; simpa using hb274
           refine r_cons (s_move (.slice p O.length c) rfl rfl ?_)
           refine r_cons (s_assign (.slice p O.length c) rfl rfl ?_)
           refine r_cons (s_assign (.int .i64 0) rfl rfl ?_)
           refine r_nil ?_
           refine g_ret' [.slice p O.length c, .int .i64 0] Try.func21 Try.results21 ⟨rfl, rfl, trivial⟩ ?_
           have H275 : St W w272 (LkA g (drS (ackS s d.ack.v) c9 h9) :: Row 26 1 (.slice p O.length c) O.length (O.flatMap byCell) :: byA O :: (F.set i emp)) := St.shut_ex ⟨(m260, pp261, cc262, L263, E264), hL265, hE266⟩ (St.shut_star (ls := [_, _, _, _, _]) H273)
           have hd9 := hDr.stop hno
           have hT9 : takeT s d = O.map BytesD.data := by rw [takeT_yes hE hk1, hC, hd9]
           have H276 : St W w272 (Row 26 1 (.slice p O.length c) O.length (O.flatMap byCell) :: byA O :: LkA g (drS (ackS s d.ack.v) c9 h9) :: (F.set i emp)) := ((H275.move 2 rfl).move 2 rfl)
           have hn277 : (takeT s d).length = O.length := (by rw [hT9, List.length_map])
           have H278 : St W w272 (Row 26 1 (.slice p ((takeT s d).length) c) ((takeT s d).length) (O.flatMap byCell) :: byA O :: LkA g (drS (ackS s d.ack.v) c9 h9) :: (F.set i emp)) := by rw [hn277]; exact H276
           have H279 : St W w272 (BysA p c (takeT s d) :: LkA g (drS (ackS s d.ack.v) c9 h9) :: (F.set i emp)) := St.shut_ex ⟨O, hT9.symm⟩ (St.shut_star (ls := [_, _]) H278)
           have H280 : St W w272 (BysA p c (takeT s d) :: LkA g (takeS s d) :: (F.set i emp)) := by rw [takeS_data hE hk1, hC, hd9]; exact H279
           have H281 : St W w272 (BysA p c (takeT s d) :: LkA g (takeS s d) :: (F.set i emp)) := ((H280.move 1 rfl).move 1 rfl)
           have H282 : St W w272 (LkA g (takeS s d) :: (BysA p c (takeT s d) :: F).set (i + 1) emp) := (H281.move 1 rfl)
           exact ⟨_, _, by rw [hE, hn277]; rfl, St.back (i := i + 1) (by exact hi) H282⟩
          ·have hb274 := eq_false_of_ne_true hb274
           refine g_false (congrArg Value.bool hb274) ?_
           refine g_skip ?_
           refine g_seq ?_
           obtain ⟨x9, hx9⟩ : ∃ x, aget E264 (i64N (drS (ackS s d.ack.v) c9 h9).came) = some x := Option.isSome_iff_exists.1 (by rw [aget_has]; simpa using hb274)
           have hg9 : aget h9 (i64N c9) = some x9.data := by rw [mapB_get (show mapB E264 = h9 from hE266)]; exact congrArg (Option.map BytesD.data) hx9
           have hk9 := hh9 _ (aget_mem hg9); simp only at hk9
           have hhl := adel_len (has_of_get hg9)
           rw [look_some hx9]
           have H283 : St W w272 (blk g (lkC (drS (ackS s d.ack.v) c9 h9) m260 (.slice pp261 L263.length cc262)) :: Row 79 3 (.slice pp261 L263.length cc262) L263.length (L263.flatMap bodCell) :: byA (L263.map BodD.by) :: byA (mby E264) :: Row 26 1 (.slice p O.length c) O.length (O.flatMap byCell) :: byA O :: MapA m260 (ents (kI .i64) evD E264) :: (F.set i emp)) := (((((((H273.move 3 rfl).move 6 rfl).move 6 rfl).move 6 rfl).move 6 rfl).move 6 rfl).move 6 rfl)
           refine g_mix (fun t_ w => St W w (blk g (lkC (drS (ackS s d.ack.v) c9 h9) m260 (.slice pp261 L263.length cc262)) :: Row 79 3 (.slice pp261 L263.length cc262) L263.length (L263.flatMap bodCell) :: byA (L263.map BodD.by) :: byA (mby E264) :: Row 26 1 (.slice p O.length c) O.length (O.flatMap byCell) :: byA O :: t_)) (MapA m260 (ents (kI .i64) evD E264) :: (F.set i emp)) mixed 9 rfl H283.drew ?_
           refine f_first 0 (listed' := #[true, false, false, false, false, false, false, false, false]) rfl (by kernel_rfl) (by kernel_rfl) (by kernel_rfl) rfl ?_
           refine f_val rfl rfl rfl (by intro _ w _; exact x_move (.pointer (some ⟨g, 0, none⟩)) rfl w) ?_
           refine f_first 1 (listed' := #[true, true, false, false, false, false, false, false, false]) rfl (by kernel_rfl) (by kernel_rfl) (by kernel_rfl) rfl ?_
           refine f_val rfl rfl rfl (by intro t_ w hw; exact x_nilCheck (.pointer (some ⟨g, 0, none⟩)) rfl ⟨_, rfl⟩ w) ?_
           refine f_first 2 (listed' := #[true, true, true, false, false, false, false, false, false]) rfl (by kernel_rfl) (by kernel_rfl) (by kernel_rfl) rfl ?_
           refine f_val rfl rfl rfl (by intro t_ w hw; exact x_fieldAddr 62 5 6 6 60 rfl fi_62_5 rfl w) ?_
           refine f_first 3 (listed' := #[true, true, true, true, false, false, false, false, false]) rfl (by kernel_rfl) (by kernel_rfl) (by kernel_rfl) rfl ?_
           refine f_val rfl rfl rfl (by intro t_ w hw; exact x_load (.map (some m260)) ag_60 rfl (hw.blk_at (i := 0) rfl) rfl) ?_
           refine f_first 4 (listed' := #[true, true, true, true, true, false, false, false, false]) rfl (by kernel_rfl) (by kernel_rfl) (by kernel_rfl) rfl ?_
           refine f_val rfl rfl rfl (by intro _ w _; exact x_move (.pointer (some ⟨g, 0, none⟩)) rfl w) ?_
           refine f_first 5 (listed' := #[true, true, true, true, true, true, false, false, false]) rfl (by kernel_rfl) (by kernel_rfl) (by kernel_rfl) rfl ?_
           refine f_val rfl rfl rfl (by intro t_ w hw; exact x_nilCheck (.pointer (some ⟨g, 0, none⟩)) rfl ⟨_, rfl⟩ w) ?_
           refine f_first 6 (listed' := #[true, true, true, true, true, true, true, false, false]) rfl (by kernel_rfl) (by kernel_rfl) (by kernel_rfl) rfl ?_
           refine f_val rfl rfl rfl (by intro t_ w hw; exact x_fieldAddr 62 4 5 5 2 rfl fi_62_4 rfl w) ?_
           refine f_first 7 (listed' := #[true, true, true, true, true, true, true, true, false]) rfl (by kernel_rfl) (by kernel_rfl) (by kernel_rfl) rfl ?_
           refine f_val rfl rfl rfl (by intro t_ w hw; exact x_load (.int .i64 ((i64N (drS (ackS s d.ack.v) c9 h9).came).v)) ag_2 rfl (hw.blk_at (i := 0) rfl) rfl) ?_
           refine f_all (rs := [8]) (by kernel_rfl) (by simp) ?_
           refine a_cons ⟨_, rfl, ?_⟩ (fun x hx => absurd hx (by simp))
           intro w284 H285
           try dsimp only at H285
           refine s_delete (ek := (kI .i64)) (ev := evD) (L := E264) (i64N (drS (ackS s d.ack.v) c9 h9).came) H285 (i := 6) rfl (KeyLaw.I un_2) un_60 rfl rfl ?_; intro w286 H287
           have H288 : St W w286 (blk g (lkC (drS (ackS s d.ack.v) c9 h9) m260 (.slice pp261 L263.length cc262)) :: Row 79 3 (.slice pp261 L263.length cc262) L263.length (L263.flatMap bodCell) :: byA (L263.map BodD.by) :: byA (mby E264) :: Row 26 1 (.slice p O.length c) O.length (O.flatMap byCell) :: byA O :: MapA m260 (ents (kI .i64) evD (adel E264 (i64N (drS (ackS s d.ack.v) c9 h9).came))) :: (F.set i emp)) := H287
           refine ⟨MapA m260 (ents (kI .i64) evD (adel E264 (i64N (drS (ackS s d.ack.v) c9 h9).came))) :: (F.set i emp), ?_, H288⟩
           change FReg _ _ _ _ _ #[true, true, true, true, true, true, true, true, true] _ _
           refine f_done (by kernel_rfl) ?_
           intro w289 H290
           refine g_seq ?_
           refine g_region ?_
           refine r_cons (s_move (.pointer (some ⟨g, 0, none⟩)) rfl rfl ?_)
           refine r_cons (s_nilCheck (.pointer (some ⟨g, 0, none⟩)) rfl ⟨_, rfl⟩ rfl ?_)
           refine r_cons (s_fieldAddr 62 4 5 5 2 rfl fi_62_4 rfl rfl ?_)
           refine r_cons (s_load (.int .i64 ((i64N (drS (ackS s d.ack.v) c9 h9).came).v)) ag_2 rfl (H290.blk_at (i := 0) rfl) rfl rfl ?_)
           refine r_cons (s_add ((c9 + 1 : Nat) : Int) rfl rfl ((wi64 (by omega)).trans (by omega)) rfl ?_)
           refine r_cons (s_nilCheck (.pointer (some ⟨g, 0, none⟩)) rfl ⟨_, rfl⟩ rfl ?_)
           refine r_cons (s_fieldAddr 62 4 5 5 2 rfl fi_62_4 rfl rfl ?_)
           refine r_cons (s_store H290 0 (.int .i64 ((c9 + 1 : Nat) : Int)) rfl rfl rfl sz_2 rfl (nbl rfl) rfl (cs' := #[.int .i64 ((drS (ackS s d.ack.v) c9 h9).frm.v), .int .i64 ((drS (ackS s d.ack.v) c9 h9).to_.v), .int .i64 ((drS (ackS s d.ack.v) c9 h9).slide : Int), .slice pp261 L263.length cc262, .int .i64 ((drS (ackS s d.ack.v) c9 h9).acked : Int), .int .i64 ((c9 + 1 : Nat) : Int), .map (some m260), .int .i64 ((drS (ackS s d.ack.v) c9 h9).clock : Int), .bool ((drS (ackS s d.ack.v) c9 h9).owes)]) rfl ?_); intro w291 H292
           refine r_nil ?_
           refine g_region ?_
           refine r_cons (s_move (.slice p O.length c) rfl rfl ?_)
           refine r_cons (s_move (.slice x9.p x9.data.length x9.c) rfl rfl ?_)
           refine r_cons (s_buildSlice H292 1 1 (cs := #[.slice x9.p x9.data.length x9.c]) #[.slice none 0 0] el_32 ze_26 (by decide) (by decide) (by kernel_rfl) rfl ?_); intro bk293 w294 H295
           refine r_cons (s_append H295 5 rfl rfl rfl (rd_blk (H295.blk_at (i := 0) rfl) rfl (nbl rfl) (by simp [Value.oneCell'])) ap_32 (by decide) (by unfold maxLen; omega) (by omega) (n' := O.length + 1) (xs' := O.flatMap byCell ++ ([.slice x9.p x9.data.length x9.c] : List Value)) (by omega) (by first | rfl | simp) rfl ?_); intro vv296 w297 H298 hn299
           obtain ⟨pp300, cc301, rfl⟩ := Row.slice H298 (i := 5) rfl
           refine r_cons (s_assign (.slice pp300 (O.length + 1) cc301) rfl rfl ?_)
           refine r_nil ?_
           refine g_inBlock ?_
           have H302 : St W w297 (blk bk293 (.cells #[.slice x9.p x9.data.length x9.c] 26 (0, 0)) :: blk g (.cells #[.int .i64 ((drS (ackS s d.ack.v) c9 h9).frm.v), .int .i64 ((drS (ackS s d.ack.v) c9 h9).to_.v), .int .i64 ((drS (ackS s d.ack.v) c9 h9).slide : Int), .slice pp261 L263.length cc262, .int .i64 ((drS (ackS s d.ack.v) c9 h9).acked : Int), .int .i64 ((i64N (c9 + 1)).v), .map (some m260), .int .i64 ((drS (ackS s d.ack.v) c9 h9).clock : Int), .bool ((drS (ackS s d.ack.v) c9 h9).owes)] 62 (0, 0)) :: Row 79 3 (.slice pp261 L263.length cc262) L263.length (L263.flatMap bodCell) :: byA (L263.map BodD.by) :: byA (mby E264) :: Row 26 1 (.slice pp300 ((O ++ [x9]).length) cc301) ((O ++ [x9]).length) ((O ++ [x9]).flatMap byCell) :: byA O :: MapA m260 (ents (kI .i64) evD (adel E264 (i64N (drS (ackS s d.ack.v) c9 h9).came))) :: (F.set i emp)) := by rw [i64N_v (n := c9 + 1) (by omega), flat_app, flat_one, List.length_append]; exact H298
           have H303 : St W w297 (Im 1 (.slice x9.p x9.data.length x9.c) x9.data.length (x9.data.flatMap u8c) :: blk bk293 (.cells #[.slice x9.p x9.data.length x9.c] 26 (0, 0)) :: blk g (.cells #[.int .i64 ((drS (ackS s d.ack.v) c9 h9).frm.v), .int .i64 ((drS (ackS s d.ack.v) c9 h9).to_.v), .int .i64 ((drS (ackS s d.ack.v) c9 h9).slide : Int), .slice pp261 L263.length cc262, .int .i64 ((drS (ackS s d.ack.v) c9 h9).acked : Int), .int .i64 ((i64N (c9 + 1)).v), .map (some m260), .int .i64 ((drS (ackS s d.ack.v) c9 h9).clock : Int), .bool ((drS (ackS s d.ack.v) c9 h9).owes)] 62 (0, 0)) :: Row 79 3 (.slice pp261 L263.length cc262) L263.length (L263.flatMap bodCell) :: byA (L263.map BodD.by) :: byA (mby E264) :: Row 26 1 (.slice pp300 ((O ++ [x9]).length) cc301) ((O ++ [x9]).length) ((O ++ [x9]).flatMap byCell) :: byA O :: MapA m260 (ents (kI .i64) evD (adel E264 (i64N (drS (ackS s d.ack.v) c9 h9).came))) :: (F.set i emp)) := byA_at H302 (i := 4) rfl (mby_get hx9)
           have H304 := byA_add (x := x9) H303 (i := 7) (j := 0) rfl rfl snoc_b
           have H305 := byA_sub (M := mby (adel E264 (i64N (drS (ackS s d.ack.v) c9 h9).came))) H304 (i := 6) rfl mby_del
           have H306 : St W w297 (blk g (.cells #[.int .i64 ((drS (ackS s d.ack.v) c9 h9).frm.v), .int .i64 ((drS (ackS s d.ack.v) c9 h9).to_.v), .int .i64 ((drS (ackS s d.ack.v) c9 h9).slide : Int), .slice pp261 L263.length cc262, .int .i64 ((drS (ackS s d.ack.v) c9 h9).acked : Int), .int .i64 ((i64N (c9 + 1)).v), .map (some m260), .int .i64 ((drS (ackS s d.ack.v) c9 h9).clock : Int), .bool ((drS (ackS s d.ack.v) c9 h9).owes)] 62 (0, 0)) :: Row 79 3 (.slice pp261 L263.length cc262) L263.length (L263.flatMap bodCell) :: byA (L263.map BodD.by) :: MapA m260 (ents (kI .i64) evD (adel E264 (i64N (drS (ackS s d.ack.v) c9 h9).came))) :: byA (mby (adel E264 (i64N (drS (ackS s d.ack.v) c9 h9).came))) :: byA (O ++ [x9]) :: Im 1 (.slice x9.p x9.data.length x9.c) x9.data.length (x9.data.flatMap u8c) :: blk bk293 (.cells #[.slice x9.p x9.data.length x9.c] 26 (0, 0)) :: byA (mby E264) :: Row 26 1 (.slice pp300 ((O ++ [x9]).length) cc301) ((O ++ [x9]).length) ((O ++ [x9]).flatMap byCell) :: byA O :: (F.set i emp)) := ((((H305.move 10 rfl).move 7 rfl).move 7 rfl).move 7 rfl)
           have H307 : St W w297 (LkA g (drS (ackS s d.ack.v) (c9 + 1) (adel h9 (i64N c9))) :: byA (O ++ [x9]) :: Im 1 (.slice x9.p x9.data.length x9.c) x9.data.length (x9.data.flatMap u8c) :: blk bk293 (.cells #[.slice x9.p x9.data.length x9.c] 26 (0, 0)) :: byA (mby E264) :: Row 26 1 (.slice pp300 ((O ++ [x9]).length) cc301) ((O ++ [x9]).length) ((O ++ [x9]).flatMap byCell) :: byA O :: (F.set i emp)) := St.shut_ex ⟨(m260, pp261, cc262, L263, (adel E264 (i64N (drS (ackS s d.ack.v) c9 h9).came))), hL265, (show mapB (adel E264 (i64N (drS (ackS s d.ack.v) c9 h9).came)) = adel h9 (i64N c9) from mapB_del hE266 _)⟩ (St.shut_star (ls := [_, _, _, _, _]) H306)
           have H308 : St W w297 (Row 26 1 (.slice pp300 ((O ++ [x9]).length) cc301) ((O ++ [x9]).length) ((O ++ [x9]).flatMap byCell) :: byA (O ++ [x9]) :: LkA g (drS (ackS s d.ack.v) (c9 + 1) (adel h9 (i64N c9))) :: (F.set i emp)) := ((((((H307.move 1 rfl).move 5 rfl).drop 3 rfl).drop 3 rfl).drop 3 rfl).drop 3 rfl)
           exact nx258 (c9 + 1, adel h9 (i64N c9), (O ++ [x9]), pp300, cc301) _ _ ⟨(by rw [List.map_append]; exact hDr.step hg9), (by omega), (fun x hx => hh9 x (adel_sub hx)), (by rw [List.length_append]; have := adel_len (has_of_get hg9); simp only [List.length_cons, List.length_nil]; omega), H308⟩ (by first | (dsimp only; (have := adel_len (has_of_get hg9); omega)) | (have := adel_len (has_of_get hg9); omega)) ⟨by first | rfl | exact vint (by omega), by first | rfl | exact vint (by omega), by first | rfl | exact vint (by omega), by first | rfl | (show Value.slice _ _ _ = _; rw [List.length_append]; rfl), trivial⟩
      ·skip
       refine r_cons (s_neq true rfl rfl (nfalse hc191) rfl ?_)
       refine r_nil ?_
       refine g_true rfl ?_
       refine g_seq ?_
       refine g_region ?_
       refine r_cons (s_assign (.slice none 0 0) rfl rfl ?_)
       refine r_cons (s_assign (.int .i64 0) rfl rfl ?_)
       refine r_nil ?_
       refine g_ret' [.slice none 0 0, .int .i64 0] Try.func21 Try.results21 ⟨rfl, rfl, trivial⟩ ?_
       have H309 := Row.nil_intro H189 26 1
       have H310 := byA_nil H309
       have H311 : St W w188 (Row 26 1 (.slice none 0 0) 0 [] :: byA ([] : List BytesD) :: LkA g (ackS s d.ack.v) :: blk bk4 (.cells #[.int .i64 d.frm.v, .int .i64 d.to_.v, .int .i64 d.kind.v, .int .i64 d.seq.v, .int .i64 d.ack.v, .slice pp1 d.body.length cc2] 41 (0, 0)) :: (F.set i emp)) := (H310.move 1 rfl)
       have hT9 : takeT s d = [] := takeT_no (fun h => by omega)
       have H312 : St W w188 (BysA none 0 (takeT s d) :: LkA g (ackS s d.ack.v) :: blk bk4 (.cells #[.int .i64 d.frm.v, .int .i64 d.to_.v, .int .i64 d.kind.v, .int .i64 d.seq.v, .int .i64 d.ack.v, .slice pp1 d.body.length cc2] 41 (0, 0)) :: (F.set i emp)) := by rw [hT9]; exact St.shut_ex ⟨[], rfl⟩ (St.shut_star (ls := [_, _]) H311)
       have H313 : St W w188 (BysA none 0 (takeT s d) :: LkA g (takeS s d) :: blk bk4 (.cells #[.int .i64 d.frm.v, .int .i64 d.to_.v, .int .i64 d.kind.v, .int .i64 d.seq.v, .int .i64 d.ack.v, .slice pp1 d.body.length cc2] 41 (0, 0)) :: (F.set i emp)) := by rw [takeS_ack hE (by omega)]; exact H312
       have H314 : St W w188 (BysA none 0 (takeT s d) :: LkA g (takeS s d) :: (F.set i emp)) := (((H313.move 1 rfl).move 1 rfl).drop 2 rfl)
       have H315 : St W w188 (LkA g (takeS s d) :: (BysA none 0 (takeT s d) :: F).set (i + 1) emp) := (H314.move 1 rfl)
       exact ⟨none, 0, by rw [hE, hT9]; rfl, St.back (i := i + 1) (by exact hi) H315⟩
     ·intro join187
      refine g_false rfl ?_
      refine g_skip ?_
      have ha9 : ¬ (s.acked : Int) < d.ack.v := by omega
      have H316 : St W w38 (LkA g s :: blk bk4 (.cells #[.int .i64 d.frm.v, .int .i64 d.to_.v, .int .i64 d.kind.v, .int .i64 d.seq.v, .int .i64 d.ack.v, .slice pp1 d.body.length cc2] 41 (0, 0)) :: (F.set i emp)) := St.shut_ex ⟨(m13, pp14, cc15, L16, E17), hL18, hE19⟩ (St.shut_star (ls := [_, _, _, _, _]) H39)
      have H317 : St W w38 (LkA g (ackS s d.ack.v) :: blk bk4 (.cells #[.int .i64 d.frm.v, .int .i64 d.to_.v, .int .i64 d.kind.v, .int .i64 d.seq.v, .int .i64 d.ack.v, .slice pp1 d.body.length cc2] 41 (0, 0)) :: (F.set i emp)) := by rw [ackS_no ha9]; exact H316
      have H318 : St W w38 (LkA g (ackS s d.ack.v) :: blk bk4 (.cells #[.int .i64 d.frm.v, .int .i64 d.to_.v, .int .i64 d.kind.v, .int .i64 d.seq.v, .int .i64 d.ack.v, .slice pp1 d.body.length cc2] 41 (0, 0)) :: (F.set i emp)) := ((H317.move 1 rfl).move 1 rfl)
      exact join187 (()) _ _ ⟨trivial, H318⟩ ⟨by first | rfl | exact vint (by omega), by first | rfl | exact vint (by omega), by first | rfl | exact vint (by omega), by first | rfl | exact vint (by omega), trivial⟩
  ·intro join25
   refine g_quiet (fun w' => St W w' (blk g (lkC s m13 (.slice pp14 L16.length cc15)) :: Row 79 3 (.slice pp14 L16.length cc15) L16.length (L16.flatMap bodCell) :: byA (L16.map BodD.by) :: MapA m13 (ents (kI .i64) evD E17) :: byA (mby E17) :: blk bk4 (.cells #[.int .i64 d.frm.v, .int .i64 d.to_.v, .int .i64 d.kind.v, .int .i64 d.seq.v, .int .i64 d.ack.v, .slice pp1 d.body.length cc2] 41 (0, 0)) :: (F.set i emp))) mixed (by kernel_rfl) H24.drew ?_
   refine q_cons (q_val rfl rfl rfl (by intro w hw; exact x_fieldAddr 41 0 0 0 3 rfl fi_41_0 rfl w) ?_)
   refine q_cons (q_val rfl rfl rfl (by intro w hw; exact x_load (.int .i64 d.frm.v) ag_3 rfl (hw.blk_at (i := 5) rfl) rfl) ?_)
   refine q_cons (q_val rfl rfl rfl (by intro w hw; exact x_move (.pointer (some ⟨g, 0, none⟩)) rfl w) ?_)
   refine q_cons (q_val rfl rfl rfl (by intro w hw; exact x_nilCheck (.pointer (some ⟨g, 0, none⟩)) rfl ⟨_, rfl⟩ w) ?_)
   refine q_cons (q_val rfl rfl rfl (by intro w hw; exact x_fieldAddr 62 0 0 0 46 rfl fi_62_0 rfl w) ?_)
   refine q_cons (q_val rfl rfl rfl (by intro w hw; exact x_fieldAddr 46 1 1 1 3 rfl fi_46_1 rfl w) ?_)
   refine q_cons (q_val rfl rfl rfl (by intro w hw; exact x_load (.int .i64 s.to_.v) ag_3 rfl (hw.blk_at (i := 0) rfl) rfl) ?_)
   by_cases hc319 : d.frm.v = s.to_.v
   ·skip
    refine q_cons (q_val rfl rfl rfl (by intro w hw; exact x_neq false rfl rfl (ntrue hc319) w) ?_)
    refine q_cons (q_val rfl rfl rfl (by intro w hw; exact x_move (.bool false) rfl w) ?_)
    refine q_cons (q_take rfl rfl ?_)
    refine q_val rfl rfl rfl (by intro w hw; exact x_fieldAddr 41 1 1 1 3 rfl fi_41_1 rfl w) ?_
    refine q_cons (q_take rfl rfl ?_)
    refine q_val rfl rfl rfl (by intro w hw; exact x_load (.int .i64 d.to_.v) ag_3 rfl (hw.blk_at (i := 5) rfl) rfl) ?_
    refine q_cons (q_take rfl rfl ?_)
    refine q_val rfl rfl rfl (by intro w hw; exact x_move (.pointer (some ⟨g, 0, none⟩)) rfl w) ?_
    refine q_cons (q_take rfl rfl ?_)
    refine q_val rfl rfl rfl (by intro w hw; exact x_nilCheck (.pointer (some ⟨g, 0, none⟩)) rfl ⟨_, rfl⟩ w) ?_
    refine q_cons (q_take rfl rfl ?_)
    refine q_val rfl rfl rfl (by intro w hw; exact x_fieldAddr 62 0 0 0 46 rfl fi_62_0 rfl w) ?_
    refine q_cons (q_take rfl rfl ?_)
    refine q_val rfl rfl rfl (by intro w hw; exact x_fieldAddr 46 0 0 0 3 rfl fi_46_0 rfl w) ?_
    refine q_cons (q_take rfl rfl ?_)
    refine q_val rfl rfl rfl (by intro w hw; exact x_load (.int .i64 s.frm.v) ag_3 rfl (hw.blk_at (i := 0) rfl) rfl) ?_
    refine q_cons (q_take rfl rfl ?_)
    by_cases hc320 : d.to_.v = s.frm.v
    ·skip
     refine q_val rfl rfl rfl (by intro w hw; exact x_neq false rfl rfl (ntrue hc320) w) ?_
     refine q_cons (q_val rfl rfl rfl (by intro w hw; exact x_pick_f (.bool false) rfl rfl w) ?_)
     refine q_cons (q_val rfl rfl rfl (by intro w hw; exact x_move (.bool false) rfl w) ?_)
     refine q_cons (q_take rfl rfl ?_)
     refine q_val rfl rfl rfl (by intro w hw; exact x_fieldAddr 41 4 4 4 2 rfl fi_41_4 rfl w) ?_
     refine q_cons (q_take rfl rfl ?_)
     refine q_val rfl rfl rfl (by intro w hw; exact x_load (.int .i64 d.ack.v) ag_2 rfl (hw.blk_at (i := 5) rfl) rfl) ?_
     refine q_cons (q_take rfl rfl ?_)
     refine q_val rfl rfl rfl (by intro w hw; exact x_move (.pointer (some ⟨g, 0, none⟩)) rfl w) ?_
     refine q_cons (q_take rfl rfl ?_)
     refine q_val rfl rfl rfl (by intro w hw; exact x_nilCheck (.pointer (some ⟨g, 0, none⟩)) rfl ⟨_, rfl⟩ w) ?_
     refine q_cons (q_take rfl rfl ?_)
     refine q_val rfl rfl rfl (by intro w hw; exact x_fieldAddr 62 3 4 4 2 rfl fi_62_3 rfl w) ?_
     refine q_cons (q_take rfl rfl ?_)
     refine q_val rfl rfl rfl (by intro w hw; exact x_load (.int .i64 (s.acked : Int)) ag_2 rfl (hw.blk_at (i := 0) rfl) rfl) ?_
     refine q_cons (q_take rfl rfl ?_)
     refine q_val rfl rfl rfl (by intro w hw; exact x_move (.pointer (some ⟨g, 0, none⟩)) rfl w) ?_
     refine q_cons (q_take rfl rfl ?_)
     refine q_enter (args := #[.pointer (some ⟨g, 0, none⟩)]) (v := .int .i64 (under s : Int)) rfl rfl rfl (x_call pl_16 [.pointer (some ⟨g, 0, none⟩)] rfl) (fun w hw => Lo_Under g m13 s pp14 cc15 L16 hL18 (Nat.le_trans (Nat.le_add_left _ _) hok.2.2.1) (i := 0) (j := 1) rfl rfl hw) ?_
     refine q_cons (q_take rfl rfl ?_)
     refine q_val rfl rfl rfl (by intro w hw; exact x_add ((s.acked : Int) + (under s : Int)) rfl rfl (wi64 (by omega)) w) ?_
     refine q_cons (q_take rfl rfl ?_)
     by_cases hc321 : (s.acked : Int) + (under s : Int) < d.ack.v
     ·skip
      refine q_val rfl rfl rfl (by intro w hw; exact x_gtr true rfl rfl (dtrue hc321) w) ?_
      refine q_cons (q_val rfl rfl rfl (by intro w hw; exact x_pick_f (.bool true) rfl rfl w) ?_)
      refine q_cons (q_val rfl rfl rfl (by intro w hw; exact x_move (.bool true) rfl w) ?_)
      refine q_cons (q_pass rfl rfl rfl rfl rfl ?_)
      refine q_cons (q_pass rfl rfl rfl rfl rfl ?_)
      refine q_cons (q_pass rfl rfl rfl rfl rfl ?_)
      refine q_cons (q_pass rfl rfl rfl rfl rfl ?_)
      refine q_cons (q_passN rfl rfl rfl rfl ?_)
      refine q_cons (q_passN rfl rfl rfl rfl ?_)
      refine q_cons (q_passN rfl rfl rfl rfl ?_)
      refine q_cons (q_passN rfl rfl rfl rfl ?_)
      refine q_cons (q_passN rfl rfl rfl rfl ?_)
      refine q_cons (q_passN rfl rfl rfl rfl ?_)
      refine q_cons (q_passN rfl rfl rfl rfl ?_)
      refine q_cons (q_passN rfl rfl rfl rfl ?_)
      refine q_cons (q_pass rfl rfl rfl rfl rfl ?_)
      refine q_cons (q_val rfl rfl rfl (by intro w hw; exact x_pick_t (.bool true) rfl rfl w) ?_)
      refine q_nil ?_
      intro w322 H323
      have H324 : St W w322 (blk g (lkC s m13 (.slice pp14 L16.length cc15)) :: Row 79 3 (.slice pp14 L16.length cc15) L16.length (L16.flatMap bodCell) :: byA (L16.map BodD.by) :: MapA m13 (ents (kI .i64) evD E17) :: byA (mby E17) :: blk bk4 (.cells #[.int .i64 d.frm.v, .int .i64 d.to_.v, .int .i64 d.kind.v, .int .i64 d.seq.v, .int .i64 d.ack.v, .slice pp1 d.body.length cc2] 41 (0, 0)) :: (F.set i emp)) := ((((((H323.move 5 rfl).move 5 rfl).move 5 rfl).move 5 rfl).move 5 rfl).move 5 rfl)
      exact join25 (()) _ _ ⟨trivial, H324⟩ ⟨by first | rfl | exact vint (by omega), by first | rfl | exact vint (by omega), by first | rfl | exact vint (by omega), by first | rfl | exact vint (by omega), congrArg Value.bool (show true = stray s d from (decide_eq_true (by omega)).symm), trivial⟩
     ·skip
      refine q_val rfl rfl rfl (by intro w hw; exact x_gtr false rfl rfl (dfalse hc321) w) ?_
      refine q_cons (q_val rfl rfl rfl (by intro w hw; exact x_pick_f (.bool false) rfl rfl w) ?_)
      refine q_cons (q_val rfl rfl rfl (by intro w hw; exact x_move (.bool false) rfl w) ?_)
      refine q_cons (q_take rfl rfl ?_)
      refine q_val rfl rfl rfl (by intro w hw; exact x_fieldAddr 41 2 2 2 3 rfl fi_41_2 rfl w) ?_
      refine q_cons (q_take rfl rfl ?_)
      refine q_val rfl rfl rfl (by intro w hw; exact x_load (.int .i64 d.kind.v) ag_3 rfl (hw.blk_at (i := 5) rfl) rfl) ?_
      refine q_cons (q_take rfl rfl ?_)
      by_cases hc325 : d.kind.v = 1
      ·skip
       refine q_val rfl rfl rfl (by intro w hw; exact x_eql true rfl rfl (dtrue hc325) w) ?_
       refine q_cons (q_take rfl rfl ?_)
       refine q_val rfl rfl rfl (by intro w hw; exact x_move (.bool true) rfl w) ?_
       refine q_cons (q_take rfl rfl ?_)
       refine q_val rfl rfl rfl (by intro w hw; exact x_fieldAddr 41 3 3 3 2 rfl fi_41_3 rfl w) ?_
       refine q_cons (q_take rfl rfl ?_)
       refine q_val rfl rfl rfl (by intro w hw; exact x_load (.int .i64 d.seq.v) ag_2 rfl (hw.blk_at (i := 5) rfl) rfl) ?_
       refine q_cons (q_take rfl rfl ?_)
       refine q_val rfl rfl rfl (by intro w hw; exact x_move (.pointer (some ⟨g, 0, none⟩)) rfl w) ?_
       refine q_cons (q_take rfl rfl ?_)
       refine q_val rfl rfl rfl (by intro w hw; exact x_nilCheck (.pointer (some ⟨g, 0, none⟩)) rfl ⟨_, rfl⟩ w) ?_
       refine q_cons (q_take rfl rfl ?_)
       refine q_val rfl rfl rfl (by intro w hw; exact x_fieldAddr 62 4 5 5 2 rfl fi_62_4 rfl w) ?_
       refine q_cons (q_take rfl rfl ?_)
       refine q_val rfl rfl rfl (by intro w hw; exact x_load (.int .i64 ((i64N s.came).v)) ag_2 rfl (hw.blk_at (i := 0) rfl) rfl) ?_
       refine q_cons (q_take rfl rfl ?_)
       refine q_val rfl rfl rfl (by intro w hw; exact x_add ((i64N s.came).v + 64) rfl rfl (wi64 (by omega)) w) ?_
       refine q_cons (q_take rfl rfl ?_)
       by_cases hc326 : (i64N s.came).v + 64 ≤ d.seq.v
       ·skip
        refine q_val rfl rfl rfl (by intro w hw; exact x_geq true rfl rfl (dtrue hc326) w) ?_
        refine q_cons (q_take rfl rfl ?_)
        refine q_val rfl rfl rfl (by intro w hw; exact x_pick_t (.bool true) rfl rfl w) ?_
        refine q_cons (q_val rfl rfl rfl (by intro w hw; exact x_pick_f (.bool true) rfl rfl w) ?_)
        refine q_nil ?_
        intro w327 H328
        have H329 : St W w327 (blk g (lkC s m13 (.slice pp14 L16.length cc15)) :: Row 79 3 (.slice pp14 L16.length cc15) L16.length (L16.flatMap bodCell) :: byA (L16.map BodD.by) :: MapA m13 (ents (kI .i64) evD E17) :: byA (mby E17) :: blk bk4 (.cells #[.int .i64 d.frm.v, .int .i64 d.to_.v, .int .i64 d.kind.v, .int .i64 d.seq.v, .int .i64 d.ack.v, .slice pp1 d.body.length cc2] 41 (0, 0)) :: (F.set i emp)) := ((((((H328.move 5 rfl).move 5 rfl).move 5 rfl).move 5 rfl).move 5 rfl).move 5 rfl)
        exact join25 (()) _ _ ⟨trivial, H329⟩ ⟨by first | rfl | exact vint (by omega), by first | rfl | exact vint (by omega), by first | rfl | exact vint (by omega), by first | rfl | exact vint (by omega), congrArg Value.bool (show true = stray s d from (decide_eq_true (by omega)).symm), trivial⟩
       ·skip
        refine q_val rfl rfl rfl (by intro w hw; exact x_geq false rfl rfl (dfalse hc326) w) ?_
        refine q_cons (q_take rfl rfl ?_)
        refine q_val rfl rfl rfl (by intro w hw; exact x_pick_t (.bool false) rfl rfl w) ?_
        refine q_cons (q_val rfl rfl rfl (by intro w hw; exact x_pick_f (.bool false) rfl rfl w) ?_)
        refine q_nil ?_
        intro w330 H331
        have H332 : St W w330 (blk g (lkC s m13 (.slice pp14 L16.length cc15)) :: Row 79 3 (.slice pp14 L16.length cc15) L16.length (L16.flatMap bodCell) :: byA (L16.map BodD.by) :: MapA m13 (ents (kI .i64) evD E17) :: byA (mby E17) :: blk bk4 (.cells #[.int .i64 d.frm.v, .int .i64 d.to_.v, .int .i64 d.kind.v, .int .i64 d.seq.v, .int .i64 d.ack.v, .slice pp1 d.body.length cc2] 41 (0, 0)) :: (F.set i emp)) := ((((((H331.move 5 rfl).move 5 rfl).move 5 rfl).move 5 rfl).move 5 rfl).move 5 rfl)
        exact join25 (()) _ _ ⟨trivial, H332⟩ ⟨by first | rfl | exact vint (by omega), by first | rfl | exact vint (by omega), by first | rfl | exact vint (by omega), by first | rfl | exact vint (by omega), congrArg Value.bool (show false = stray s d from (decide_eq_false (by omega)).symm), trivial⟩
      ·skip
       refine q_val rfl rfl rfl (by intro w hw; exact x_eql false rfl rfl (dfalse hc325) w) ?_
       refine q_cons (q_take rfl rfl ?_)
       refine q_val rfl rfl rfl (by intro w hw; exact x_move (.bool false) rfl w) ?_
       refine q_cons (q_pass rfl rfl rfl rfl rfl ?_)
       refine q_cons (q_pass rfl rfl rfl rfl rfl ?_)
       refine q_cons (q_pass rfl rfl rfl rfl rfl ?_)
       refine q_cons (q_pass rfl rfl rfl rfl rfl ?_)
       refine q_cons (q_pass rfl rfl rfl rfl rfl ?_)
       refine q_cons (q_pass rfl rfl rfl rfl rfl ?_)
       refine q_cons (q_pass rfl rfl rfl rfl rfl ?_)
       refine q_cons (q_pass rfl rfl rfl rfl rfl ?_)
       refine q_cons (q_take rfl rfl ?_)
       refine q_val rfl rfl rfl (by intro w hw; exact x_pick_f (.bool false) rfl rfl w) ?_
       refine q_cons (q_val rfl rfl rfl (by intro w hw; exact x_pick_f (.bool false) rfl rfl w) ?_)
       refine q_nil ?_
       intro w333 H334
       have H335 : St W w333 (blk g (lkC s m13 (.slice pp14 L16.length cc15)) :: Row 79 3 (.slice pp14 L16.length cc15) L16.length (L16.flatMap bodCell) :: byA (L16.map BodD.by) :: MapA m13 (ents (kI .i64) evD E17) :: byA (mby E17) :: blk bk4 (.cells #[.int .i64 d.frm.v, .int .i64 d.to_.v, .int .i64 d.kind.v, .int .i64 d.seq.v, .int .i64 d.ack.v, .slice pp1 d.body.length cc2] 41 (0, 0)) :: (F.set i emp)) := ((((((H334.move 5 rfl).move 5 rfl).move 5 rfl).move 5 rfl).move 5 rfl).move 5 rfl)
       exact join25 (()) _ _ ⟨trivial, H335⟩ ⟨by first | rfl | exact vint (by omega), by first | rfl | exact vint (by omega), by first | rfl | exact vint (by omega), by first | rfl | exact vint (by omega), congrArg Value.bool (show false = stray s d from (decide_eq_false (by omega)).symm), trivial⟩
    ·skip
     refine q_val rfl rfl rfl (by intro w hw; exact x_neq true rfl rfl (nfalse hc320) w) ?_
     refine q_cons (q_val rfl rfl rfl (by intro w hw; exact x_pick_f (.bool true) rfl rfl w) ?_)
     refine q_cons (q_val rfl rfl rfl (by intro w hw; exact x_move (.bool true) rfl w) ?_)
     refine q_cons (q_pass rfl rfl rfl rfl rfl ?_)
     refine q_cons (q_pass rfl rfl rfl rfl rfl ?_)
     refine q_cons (q_pass rfl rfl rfl rfl rfl ?_)
     refine q_cons (q_pass rfl rfl rfl rfl rfl ?_)
     refine q_cons (q_pass rfl rfl rfl rfl rfl ?_)
     refine q_cons (q_pass rfl rfl rfl rfl rfl ?_)
     refine q_cons (q_pass rfl rfl rfl rfl rfl ?_)
     refine q_cons (q_pass rfl rfl rfl rfl rfl ?_)
     refine q_cons (q_pass rfl rfl rfl rfl rfl ?_)
     refine q_cons (q_pass rfl rfl rfl rfl rfl ?_)
     refine q_cons (q_val rfl rfl rfl (by intro w hw; exact x_pick_t (.bool true) rfl rfl w) ?_)
     refine q_cons (q_val rfl rfl rfl (by intro w hw; exact x_move (.bool true) rfl w) ?_)
     refine q_cons (q_pass rfl rfl rfl rfl rfl ?_)
     refine q_cons (q_pass rfl rfl rfl rfl rfl ?_)
     refine q_cons (q_pass rfl rfl rfl rfl rfl ?_)
     refine q_cons (q_pass rfl rfl rfl rfl rfl ?_)
     refine q_cons (q_passN rfl rfl rfl rfl ?_)
     refine q_cons (q_passN rfl rfl rfl rfl ?_)
     refine q_cons (q_passN rfl rfl rfl rfl ?_)
     refine q_cons (q_passN rfl rfl rfl rfl ?_)
     refine q_cons (q_passN rfl rfl rfl rfl ?_)
     refine q_cons (q_passN rfl rfl rfl rfl ?_)
     refine q_cons (q_passN rfl rfl rfl rfl ?_)
     refine q_cons (q_passN rfl rfl rfl rfl ?_)
     refine q_cons (q_pass rfl rfl rfl rfl rfl ?_)
     refine q_cons (q_val rfl rfl rfl (by intro w hw; exact x_pick_t (.bool true) rfl rfl w) ?_)
     refine q_nil ?_
     intro w336 H337
     have H338 : St W w336 (blk g (lkC s m13 (.slice pp14 L16.length cc15)) :: Row 79 3 (.slice pp14 L16.length cc15) L16.length (L16.flatMap bodCell) :: byA (L16.map BodD.by) :: MapA m13 (ents (kI .i64) evD E17) :: byA (mby E17) :: blk bk4 (.cells #[.int .i64 d.frm.v, .int .i64 d.to_.v, .int .i64 d.kind.v, .int .i64 d.seq.v, .int .i64 d.ack.v, .slice pp1 d.body.length cc2] 41 (0, 0)) :: (F.set i emp)) := ((((((H337.move 5 rfl).move 5 rfl).move 5 rfl).move 5 rfl).move 5 rfl).move 5 rfl)
     exact join25 (()) _ _ ⟨trivial, H338⟩ ⟨by first | rfl | exact vint (by omega), by first | rfl | exact vint (by omega), by first | rfl | exact vint (by omega), by first | rfl | exact vint (by omega), congrArg Value.bool (show true = stray s d from (decide_eq_true (by omega)).symm), trivial⟩
   ·skip
    refine q_cons (q_val rfl rfl rfl (by intro w hw; exact x_neq true rfl rfl (nfalse hc319) w) ?_)
    refine q_cons (q_val rfl rfl rfl (by intro w hw; exact x_move (.bool true) rfl w) ?_)
    refine q_cons (q_pass rfl rfl rfl rfl rfl ?_)
    refine q_cons (q_pass rfl rfl rfl rfl rfl ?_)
    refine q_cons (q_pass rfl rfl rfl rfl rfl ?_)
    refine q_cons (q_pass rfl rfl rfl rfl rfl ?_)
    refine q_cons (q_pass rfl rfl rfl rfl rfl ?_)
    refine q_cons (q_pass rfl rfl rfl rfl rfl ?_)
    refine q_cons (q_pass rfl rfl rfl rfl rfl ?_)
    refine q_cons (q_pass rfl rfl rfl rfl rfl ?_)
    refine q_cons (q_val rfl rfl rfl (by intro w hw; exact x_pick_t (.bool true) rfl rfl w) ?_)
    refine q_cons (q_val rfl rfl rfl (by intro w hw; exact x_move (.bool true) rfl w) ?_)
    refine q_cons (q_pass rfl rfl rfl rfl rfl ?_)
    refine q_cons (q_pass rfl rfl rfl rfl rfl ?_)
    refine q_cons (q_pass rfl rfl rfl rfl rfl ?_)
    refine q_cons (q_pass rfl rfl rfl rfl rfl ?_)
    refine q_cons (q_pass rfl rfl rfl rfl rfl ?_)
    refine q_cons (q_pass rfl rfl rfl rfl rfl ?_)
    refine q_cons (q_pass rfl rfl rfl rfl rfl ?_)
    refine q_cons (q_pass rfl rfl rfl rfl rfl ?_)
    refine q_cons (q_pass rfl rfl rfl rfl rfl ?_)
    refine q_cons (q_pass rfl rfl rfl rfl rfl ?_)
    refine q_cons (q_val rfl rfl rfl (by intro w hw; exact x_pick_t (.bool true) rfl rfl w) ?_)
    refine q_cons (q_val rfl rfl rfl (by intro w hw; exact x_move (.bool true) rfl w) ?_)
    refine q_cons (q_pass rfl rfl rfl rfl rfl ?_)
    refine q_cons (q_pass rfl rfl rfl rfl rfl ?_)
    refine q_cons (q_pass rfl rfl rfl rfl rfl ?_)
    refine q_cons (q_pass rfl rfl rfl rfl rfl ?_)
    refine q_cons (q_passN rfl rfl rfl rfl ?_)
    refine q_cons (q_passN rfl rfl rfl rfl ?_)
    refine q_cons (q_passN rfl rfl rfl rfl ?_)
    refine q_cons (q_passN rfl rfl rfl rfl ?_)
    refine q_cons (q_passN rfl rfl rfl rfl ?_)
    refine q_cons (q_passN rfl rfl rfl rfl ?_)
    refine q_cons (q_passN rfl rfl rfl rfl ?_)
    refine q_cons (q_passN rfl rfl rfl rfl ?_)
    refine q_cons (q_pass rfl rfl rfl rfl rfl ?_)
    refine q_cons (q_val rfl rfl rfl (by intro w hw; exact x_pick_t (.bool true) rfl rfl w) ?_)
    refine q_nil ?_
    intro w339 H340
    have H341 : St W w339 (blk g (lkC s m13 (.slice pp14 L16.length cc15)) :: Row 79 3 (.slice pp14 L16.length cc15) L16.length (L16.flatMap bodCell) :: byA (L16.map BodD.by) :: MapA m13 (ents (kI .i64) evD E17) :: byA (mby E17) :: blk bk4 (.cells #[.int .i64 d.frm.v, .int .i64 d.to_.v, .int .i64 d.kind.v, .int .i64 d.seq.v, .int .i64 d.ack.v, .slice pp1 d.body.length cc2] 41 (0, 0)) :: (F.set i emp)) := ((((((H340.move 5 rfl).move 5 rfl).move 5 rfl).move 5 rfl).move 5 rfl).move 5 rfl)
    exact join25 (()) _ _ ⟨trivial, H341⟩ ⟨by first | rfl | exact vint (by omega), by first | rfl | exact vint (by omega), by first | rfl | exact vint (by omega), by first | rfl | exact vint (by omega), congrArg Value.bool (show true = stray s d from (decide_eq_true (by omega)).symm), trivial⟩
 ·skip
  refine r_cons (s_neq true rfl rfl (nfalse hc11) rfl ?_)
  refine r_nil ?_
  refine g_true rfl ?_
  refine g_seq ?_
  refine g_region ?_
  refine r_cons (s_move (.int .i64 (dgE d)) rfl rfl ?_)
  refine r_cons (s_assign (.slice none 0 0) rfl rfl ?_)
  refine r_cons (s_assign (.int .i64 (dgE d)) rfl rfl ?_)
  refine r_nil ?_
  refine g_ret' [.slice none 0 0, .int .i64 (dgE d)] Try.func21 Try.results21 ⟨rfl, rfl, trivial⟩ ?_
  have hE : takeE s d = dgE d := takeE_no (by omega)
  have hE0 : ¬ takeE s d = 0 := by omega
  have H342 := Row.nil_intro H10 26 1
  have H343 := byA_nil H342
  have H344 : St W w9 (Row 26 1 (.slice none 0 0) 0 [] :: byA ([] : List BytesD) :: blk bk4 (.cells #[.int .i64 d.frm.v, .int .i64 d.to_.v, .int .i64 d.kind.v, .int .i64 d.seq.v, .int .i64 d.ack.v, .slice pp1 d.body.length cc2] 41 (0, 0)) :: LkA g s :: (F.set i emp)) := (H343.move 1 rfl)
  have hT9 : takeT s d = [] := takeT_no (fun h => hE0 h.1)
  have H345 : St W w9 (BysA none 0 (takeT s d) :: blk bk4 (.cells #[.int .i64 d.frm.v, .int .i64 d.to_.v, .int .i64 d.kind.v, .int .i64 d.seq.v, .int .i64 d.ack.v, .slice pp1 d.body.length cc2] 41 (0, 0)) :: LkA g s :: (F.set i emp)) := by rw [hT9]; exact St.shut_ex ⟨[], rfl⟩ (St.shut_star (ls := [_, _]) H344)
  have H346 : St W w9 (BysA none 0 (takeT s d) :: blk bk4 (.cells #[.int .i64 d.frm.v, .int .i64 d.to_.v, .int .i64 d.kind.v, .int .i64 d.seq.v, .int .i64 d.ack.v, .slice pp1 d.body.length cc2] 41 (0, 0)) :: LkA g (takeS s d) :: (F.set i emp)) := by rw [takeS_no hE0]; exact H345
  have H347 : St W w9 (BysA none 0 (takeT s d) :: LkA g (takeS s d) :: (F.set i emp)) := (((H346.move 2 rfl).move 1 rfl).drop 2 rfl)
  have H348 : St W w9 (LkA g (takeS s d) :: (BysA none 0 (takeT s d) :: F).set (i + 1) emp) := (H347.move 1 rfl)
  exact ⟨none, 0, by rw [hE, hT9]; rfl, St.back (i := i + 1) (by exact hi) H348⟩
/-- An end: the document's. -/
def RfA (g : Nat) (s : EndV) : Atom := ex fun q : {q : RfQ // RfOk q s} => star [blk g (rfC s (.slice q.1.p q.1.L.length q.1.c) (.slice q.1.p2 q.1.H.length q.1.c2)), Row 101 3 (.slice q.1.p q.1.L.length q.1.c) q.1.L.length (q.1.L.flatMap bodCell), byA (q.1.L.map BodD.by), Row 105 2 (.slice q.1.p2 q.1.H.length q.1.c2) q.1.H.length (q.1.H.flatMap hlCell), byA (mby q.1.H)]
set_option maxHeartbeats 4000000 in
set_option maxRecDepth 100000 in
theorem ref21_broker {W w : World} {F : List Atom} (n : Int) (H : St W w F) : Calls Try.prog 36 #[.int .i64 n] w (Ret fun v w' => v = .bool (brB n) ∧ St W w' F) := by
 refine calls_of_go (n := 9) Try.func36 rfl Try.ntmps36 rfl ?_
 refine g_seq ?_
 refine g_region ?_
 refine r_cons (s_assign (.bool false) rfl rfl ?_)
 refine r_nil ?_
 refine g_seq ?_
 refine g_region ?_
 refine r_cons (s_move (.int .i64 n) rfl rfl ?_)
 by_cases hc1 : (0 : Int) ≤ n
 ·skip
  refine r_cons (s_geq true rfl rfl (dtrue hc1) rfl ?_)
  refine r_cons (s_move (.bool true) rfl rfl ?_)
  refine r_cons (r_take rfl rfl ?_)
  refine s_move (.int .i64 n) rfl rfl ?_
  refine r_cons (r_take rfl rfl ?_)
  by_cases hc2 : n < 16
  ·skip
   refine s_lss true rfl rfl (dtrue hc2) rfl ?_
   refine r_cons (s_pick_t (.bool true) rfl rfl rfl ?_)
   refine r_cons (s_assign (.bool true) rfl rfl ?_)
   refine r_nil ?_
   refine g_ret' [.bool true] Try.func36 Try.results36 ⟨rfl, trivial⟩ ?_
   exact ⟨congrArg Value.bool (by simp only [brB]; first | (exact (decide_eq_true (by omega)).symm) | (exact (decide_eq_false (by omega)).symm)), H⟩
  ·skip
   refine s_lss false rfl rfl (dfalse hc2) rfl ?_
   refine r_cons (s_pick_t (.bool false) rfl rfl rfl ?_)
   refine r_cons (s_assign (.bool false) rfl rfl ?_)
   refine r_nil ?_
   refine g_ret' [.bool false] Try.func36 Try.results36 ⟨rfl, trivial⟩ ?_
   exact ⟨congrArg Value.bool (by simp only [brB]; first | (exact (decide_eq_true (by omega)).symm) | (exact (decide_eq_false (by omega)).symm)), H⟩
 ·skip
  refine r_cons (s_geq false rfl rfl (dfalse hc1) rfl ?_)
  refine r_cons (s_move (.bool false) rfl rfl ?_)
  refine r_cons (r_pass rfl rfl rfl rfl rfl ?_)
  refine r_cons (r_pass rfl rfl rfl rfl rfl ?_)
  refine r_cons (s_pick_f (.bool false) rfl rfl rfl ?_)
  refine r_cons (s_assign (.bool false) rfl rfl ?_)
  refine r_nil ?_
  refine g_ret' [.bool false] Try.func36 Try.results36 ⟨rfl, trivial⟩ ?_
  exact ⟨congrArg Value.bool (by simp only [brB]; first | (exact (decide_eq_true (by omega)).symm) | (exact (decide_eq_false (by omega)).symm)), H⟩
set_option maxHeartbeats 4000000 in
set_option maxRecDepth 100000 in
theorem Rf_Waiting {W w : World} {F : List Atom} (g : Nat) (s : EndV) (hok : endOk s) {i : Nat} (hi : F[i]? = some (RfA g s)) (H : St W w F) : Calls Try.prog 42 #[.pointer (some ⟨g, 0, none⟩)] w (Ret fun v w' => v = .int .i64 (s.l.length : Int) ∧ St W w' F) := by
 have H0 := H.front hi
 obtain ⟨o1, o2, o3, o4, o5, o6, o8⟩ := id hok
 refine calls_of_go (n := 13) Try.func42 rfl Try.ntmps42 rfl ?_
 refine g_seq ?_
 refine g_region ?_
 refine r_cons (s_assign (.int .i64 0) rfl rfl ?_)
 refine r_nil ?_
 refine g_seq ?_
 have H1 := H0.move 0 rfl
 obtain ⟨⟨⟨pp2, cc3, L4, pp5, cc6, E7, A8⟩, hL9, hA10, hH11⟩, H12⟩ := St.open_ex H1
 have H13 := St.open_star H12
 change L4.map BodD.v = A8 ++ s.l at hL9; change A8.length = s.acked at hA10; change HR s.held (mapB E7) at hH11
 have hl14 := refLen hL9 hA10; have hh15 : E7.length = s.held.length := by have h9 := hH11.len; rw [mapB_len rfl] at h9; exact h9
 have H16 : St W w (blk g (rfC s (.slice pp2 L4.length cc3) (.slice pp5 E7.length cc6)) :: Row 101 3 (.slice pp2 L4.length cc3) L4.length (L4.flatMap bodCell) :: byA (L4.map BodD.by) :: Row 105 2 (.slice pp5 E7.length cc6) E7.length (E7.flatMap hlCell) :: byA (mby E7) :: (F.set i emp)) := H13
 refine g_quiet (fun w' => St W w' (blk g (rfC s (.slice pp2 L4.length cc3) (.slice pp5 E7.length cc6)) :: Row 101 3 (.slice pp2 L4.length cc3) L4.length (L4.flatMap bodCell) :: byA (L4.map BodD.by) :: Row 105 2 (.slice pp5 E7.length cc6) E7.length (E7.flatMap hlCell) :: byA (mby E7) :: (F.set i emp))) mixed (by kernel_rfl) H16.drew ?_
 refine q_cons (q_val rfl rfl rfl (by intro w hw; exact x_move (.pointer (some ⟨g, 0, none⟩)) rfl w) ?_)
 refine q_cons (q_val rfl rfl rfl (by intro w hw; exact x_nilCheck (.pointer (some ⟨g, 0, none⟩)) rfl ⟨_, rfl⟩ w) ?_)
 refine q_cons (q_val rfl rfl rfl (by intro w hw; exact x_fieldAddr 86 2 3 3 83 rfl fi_86_2 rfl w) ?_)
 refine q_cons (q_val rfl rfl rfl (by intro w hw; exact x_load (.slice pp2 L4.length cc3) ag_83 rfl (hw.blk_at (i := 0) rfl) rfl) ?_)
 refine q_cons (q_val rfl rfl rfl (by intro w hw; exact x_len L4.length rfl ⟨_, un_83⟩ w) ?_)
 refine q_cons (q_val rfl rfl rfl (by intro w hw; exact x_move (.pointer (some ⟨g, 0, none⟩)) rfl w) ?_)
 refine q_cons (q_val rfl rfl rfl (by intro w hw; exact x_nilCheck (.pointer (some ⟨g, 0, none⟩)) rfl ⟨_, rfl⟩ w) ?_)
 refine q_cons (q_val rfl rfl rfl (by intro w hw; exact x_fieldAddr 86 3 4 4 2 rfl fi_86_3 rfl w) ?_)
 refine q_cons (q_val rfl rfl rfl (by intro w hw; exact x_load (.int .i64 (s.acked : Int)) ag_2 rfl (hw.blk_at (i := 0) rfl) rfl) ?_)
 refine q_cons (q_val rfl rfl rfl (by intro w hw; exact x_sub ((L4.length : Int) - (s.acked : Int)) rfl rfl (wi64 (by omega)) w) ?_)
 refine q_cons (q_val rfl rfl rfl (by intro w hw; exact x_assign (.int .i64 ((L4.length : Int) - (s.acked : Int))) rfl w) ?_)
 refine q_nil ?_
 intro w17 H18
 refine g_ret' [.int .i64 ((L4.length : Int) - (s.acked : Int))] Try.func42 Try.results42 ⟨rfl, trivial⟩ ?_
 have H19 : St W w17 (RfA g s :: (F.set i emp)) := St.shut_ex ⟨⟨pp2, cc3, L4, pp5, cc6, E7, A8⟩, hL9, hA10, hH11⟩ (St.shut_star (ls := [_, _, _, _, _]) H18)
 have H20 : St W w17 (RfA g s :: (F.set i emp)) := H19
 exact ⟨vint (by have := hl14; omega), St.back_same hi H20⟩
set_option maxHeartbeats 4000000 in
set_option maxRecDepth 100000 in
theorem Rf_may {W w : World} {F : List Atom} (g : Nat) (s : EndV) (hok : endOk s) {i : Nat} (hi : F[i]? = some (RfA g s)) (H : St W w F) : Calls Try.prog 55 #[.pointer (some ⟨g, 0, none⟩)] w (Ret fun v w' => v = .int .i64 ((s.acked + winN s : Nat) : Int) ∧ St W w' F) := by
 have H0 := H.front hi
 obtain ⟨o1, o2, o3, o4, o5, o6, o8⟩ := id hok
 refine calls_of_go (n := 18) Try.func55 rfl Try.ntmps55 rfl ?_
 refine g_seq ?_
 refine g_region ?_
 refine r_cons (s_assign (.int .i64 0) rfl rfl ?_)
 refine r_nil ?_
 refine g_seq ?_
 have H1 := H0.move 0 rfl
 obtain ⟨⟨⟨pp2, cc3, L4, pp5, cc6, E7, A8⟩, hL9, hA10, hH11⟩, H12⟩ := St.open_ex H1
 have H13 := St.open_star H12
 change L4.map BodD.v = A8 ++ s.l at hL9; change A8.length = s.acked at hA10; change HR s.held (mapB E7) at hH11
 have hl14 := refLen hL9 hA10; have hh15 : E7.length = s.held.length := by have h9 := hH11.len; rw [mapB_len rfl] at h9; exact h9
 have H16 : St W w (blk g (rfC s (.slice pp2 L4.length cc3) (.slice pp5 E7.length cc6)) :: Row 101 3 (.slice pp2 L4.length cc3) L4.length (L4.flatMap bodCell) :: byA (L4.map BodD.by) :: Row 105 2 (.slice pp5 E7.length cc6) E7.length (E7.flatMap hlCell) :: byA (mby E7) :: (F.set i emp)) := H13
 refine g_quiet (fun w' => St W w' (blk g (rfC s (.slice pp2 L4.length cc3) (.slice pp5 E7.length cc6)) :: Row 101 3 (.slice pp2 L4.length cc3) L4.length (L4.flatMap bodCell) :: byA (L4.map BodD.by) :: Row 105 2 (.slice pp5 E7.length cc6) E7.length (E7.flatMap hlCell) :: byA (mby E7) :: (F.set i emp))) mixed (by kernel_rfl) H16.drew ?_
 refine q_cons (q_val rfl rfl rfl (by intro w hw; exact x_move (.pointer (some ⟨g, 0, none⟩)) rfl w) ?_)
 refine q_cons (q_val rfl rfl rfl (by intro w hw; exact x_nilCheck (.pointer (some ⟨g, 0, none⟩)) rfl ⟨_, rfl⟩ w) ?_)
 refine q_cons (q_val rfl rfl rfl (by intro w hw; exact x_fieldAddr 86 2 3 3 83 rfl fi_86_2 rfl w) ?_)
 refine q_cons (q_val rfl rfl rfl (by intro w hw; exact x_load (.slice pp2 L4.length cc3) ag_83 rfl (hw.blk_at (i := 0) rfl) rfl) ?_)
 refine q_cons (q_val rfl rfl rfl (by intro w hw; exact x_len L4.length rfl ⟨_, un_83⟩ w) ?_)
 refine q_cons (q_val rfl rfl rfl (by intro w hw; exact x_move (.pointer (some ⟨g, 0, none⟩)) rfl w) ?_)
 refine q_cons (q_val rfl rfl rfl (by intro w hw; exact x_nilCheck (.pointer (some ⟨g, 0, none⟩)) rfl ⟨_, rfl⟩ w) ?_)
 refine q_cons (q_val rfl rfl rfl (by intro w hw; exact x_fieldAddr 86 3 4 4 2 rfl fi_86_3 rfl w) ?_)
 refine q_cons (q_val rfl rfl rfl (by intro w hw; exact x_load (.int .i64 (s.acked : Int)) ag_2 rfl (hw.blk_at (i := 0) rfl) rfl) ?_)
 refine q_cons (q_val rfl rfl rfl (by intro w hw; exact x_move (.pointer (some ⟨g, 0, none⟩)) rfl w) ?_)
 refine q_cons (q_val rfl rfl rfl (by intro w hw; exact x_nilCheck (.pointer (some ⟨g, 0, none⟩)) rfl ⟨_, rfl⟩ w) ?_)
 refine q_cons (q_val rfl rfl rfl (by intro w hw; exact x_fieldAddr 86 1 2 2 3 rfl fi_86_1 rfl w) ?_)
 refine q_cons (q_val rfl rfl rfl (by intro w hw; exact x_load (.int .i64 (s.slide : Int)) ag_3 rfl (hw.blk_at (i := 0) rfl) rfl) ?_)
 refine q_cons (q_val rfl rfl rfl (by intro w hw; exact x_add ((s.acked : Int) + (s.slide : Int)) rfl rfl (wi64 (by omega)) w) ?_)
 refine q_cons (q_val rfl rfl rfl (by intro w hw; exact x_min2 ((s.acked + winN s : Nat) : Int) rfl rfl (by unfold winN; omega) w) ?_)
 refine q_cons (q_val rfl rfl rfl (by intro w hw; exact x_assign (.int .i64 ((s.acked + winN s : Nat) : Int)) rfl w) ?_)
 refine q_nil ?_
 intro w17 H18
 refine g_ret' [.int .i64 ((s.acked + winN s : Nat) : Int)] Try.func55 Try.results55 ⟨rfl, trivial⟩ ?_
 have H19 : St W w17 (RfA g s :: (F.set i emp)) := St.shut_ex ⟨⟨pp2, cc3, L4, pp5, cc6, E7, A8⟩, hL9, hA10, hH11⟩ (St.shut_star (ls := [_, _, _, _, _]) H18)
 have H20 : St W w17 (RfA g s :: (F.set i emp)) := H19
 exact ⟨rfl, St.back_same hi H20⟩
set_option maxHeartbeats 4000000 in
set_option maxRecDepth 100000 in
theorem Rf_Idle {W w : World} {F : List Atom} (g : Nat) (s : EndV) (hok : endOk s) {i : Nat} (hi : F[i]? = some (RfA g s)) (H : St W w F) : Calls Try.prog 44 #[.pointer (some ⟨g, 0, none⟩)] w (Ret fun v w' => v = .bool (idle s) ∧ St W w' F) := by
 have H0 := H.front hi
 obtain ⟨o1, o2, o3, o4, o5, o6, o8⟩ := id hok
 refine calls_of_go (n := 21) Try.func44 rfl Try.ntmps44 rfl ?_
 refine g_seq ?_
 refine g_region ?_
 refine r_cons (s_assign (.bool false) rfl rfl ?_)
 refine r_nil ?_
 refine g_seq ?_
 refine g_region ?_
 refine r_cons (s_move (.pointer (some ⟨g, 0, none⟩)) rfl rfl ?_)
 refine r_cons (s_call [.pointer (some ⟨g, 0, none⟩)] pl_42 rfl rfl (Rf_Waiting g s hok (i := 0) rfl H0) ?_)
 rintro _ w1 ⟨rfl, H2⟩
 by_cases hc3 : (s.l.length : Int) = 0
 ·skip
  refine r_cons (s_eql true rfl rfl (dtrue hc3) rfl ?_)
  refine r_cons (s_move (.bool true) rfl rfl ?_)
  refine r_cons (r_take rfl rfl ?_)
  refine s_move (.pointer (some ⟨g, 0, none⟩)) rfl rfl ?_
  refine r_cons (r_take rfl rfl ?_)
  refine s_nilCheck (.pointer (some ⟨g, 0, none⟩)) rfl ⟨_, rfl⟩ rfl ?_
  refine r_cons (r_take rfl rfl ?_)
  refine s_fieldAddr 86 5 6 6 84 rfl fi_86_5 rfl rfl ?_
  refine r_cons (r_take rfl rfl ?_)
  have H4 := H2.move 0 rfl
  obtain ⟨⟨⟨pp5, cc6, L7, pp8, cc9, E10, A11⟩, hL12, hA13, hH14⟩, H15⟩ := St.open_ex H4
  have H16 := St.open_star H15
  change L7.map BodD.v = A11 ++ s.l at hL12; change A11.length = s.acked at hA13; change HR s.held (mapB E10) at hH14
  have hl17 := refLen hL12 hA13; have hh18 : E10.length = s.held.length := by have h9 := hH14.len; rw [mapB_len rfl] at h9; exact h9
  have H19 : St W w1 (blk g (rfC s (.slice pp5 L7.length cc6) (.slice pp8 E10.length cc9)) :: Row 101 3 (.slice pp5 L7.length cc6) L7.length (L7.flatMap bodCell) :: byA (L7.map BodD.by) :: Row 105 2 (.slice pp8 E10.length cc9) E10.length (E10.flatMap hlCell) :: byA (mby E10) :: (F.set i emp)) := H16
  refine s_load (.slice pp8 E10.length cc9) ag_84 rfl (H19.blk_at (i := 0) rfl) rfl rfl ?_
  refine r_cons (r_take rfl rfl ?_)
  refine s_len E10.length rfl ⟨_, un_84⟩ rfl ?_
  refine r_cons (r_take rfl rfl ?_)
  by_cases hc20 : (E10.length : Int) = 0
  ·skip
   refine s_eql true rfl rfl (dtrue hc20) rfl ?_
   refine r_cons (s_pick_t (.bool true) rfl rfl rfl ?_)
   refine r_cons (s_move (.bool true) rfl rfl ?_)
   refine r_cons (r_take rfl rfl ?_)
   refine s_move (.pointer (some ⟨g, 0, none⟩)) rfl rfl ?_
   refine r_cons (r_take rfl rfl ?_)
   refine s_nilCheck (.pointer (some ⟨g, 0, none⟩)) rfl ⟨_, rfl⟩ rfl ?_
   refine r_cons (r_take rfl rfl ?_)
   refine s_fieldAddr 86 7 8 8 4 rfl fi_86_7 rfl rfl ?_
   refine r_cons (r_take rfl rfl ?_)
   refine s_load (.bool s.owes) ag_4 rfl (H19.blk_at (i := 0) rfl) rfl rfl ?_
   refine r_cons (r_take rfl rfl ?_)
   refine s_not s.owes rfl (!s.owes) rfl rfl ?_
   refine r_cons (s_pick_t (.bool (!s.owes)) rfl rfl rfl ?_)
   refine r_cons (s_assign (.bool (!s.owes)) rfl rfl ?_)
   refine r_nil ?_
   refine g_ret' [.bool (!s.owes)] Try.func44 Try.results44 ⟨rfl, trivial⟩ ?_
   have H21 : St W w1 (RfA g s :: (F.set i emp)) := St.shut_ex ⟨⟨pp5, cc6, L7, pp8, cc9, E10, A11⟩, hL12, hA13, hH14⟩ (St.shut_star (ls := [_, _, _, _, _]) H19)
   have H22 : St W w1 (RfA g s :: (F.set i emp)) := H21
   exact ⟨(by unfold idle; have q1 := hh18; exact congrArg Value.bool (by first | (simp_all; done) | (simp_all; omega))), St.back_same hi H22⟩
  ·skip
   refine s_eql false rfl rfl (dfalse hc20) rfl ?_
   refine r_cons (s_pick_t (.bool false) rfl rfl rfl ?_)
   refine r_cons (s_move (.bool false) rfl rfl ?_)
   refine r_cons (r_pass rfl rfl rfl rfl rfl ?_)
   refine r_cons (r_pass rfl rfl rfl rfl rfl ?_)
   refine r_cons (r_pass rfl rfl rfl rfl rfl ?_)
   refine r_cons (r_pass rfl rfl rfl rfl rfl ?_)
   refine r_cons (r_pass rfl rfl rfl rfl rfl ?_)
   refine r_cons (s_pick_f (.bool false) rfl rfl rfl ?_)
   refine r_cons (s_assign (.bool false) rfl rfl ?_)
   refine r_nil ?_
   refine g_ret' [.bool false] Try.func44 Try.results44 ⟨rfl, trivial⟩ ?_
   have H23 : St W w1 (RfA g s :: (F.set i emp)) := St.shut_ex ⟨⟨pp5, cc6, L7, pp8, cc9, E10, A11⟩, hL12, hA13, hH14⟩ (St.shut_star (ls := [_, _, _, _, _]) H19)
   have H24 : St W w1 (RfA g s :: (F.set i emp)) := H23
   exact ⟨(by unfold idle; have q1 := hh18; exact congrArg Value.bool (by first | (simp_all; done) | (simp_all; omega))), St.back_same hi H24⟩
 ·skip
  refine r_cons (s_eql false rfl rfl (dfalse hc3) rfl ?_)
  refine r_cons (s_move (.bool false) rfl rfl ?_)
  refine r_cons (r_pass rfl rfl rfl rfl rfl ?_)
  refine r_cons (r_pass rfl rfl rfl rfl rfl ?_)
  refine r_cons (r_pass rfl rfl rfl rfl rfl ?_)
  refine r_cons (r_pass rfl rfl rfl rfl rfl ?_)
  refine r_cons (r_pass rfl rfl rfl rfl rfl ?_)
  refine r_cons (r_pass rfl rfl rfl rfl rfl ?_)
  refine r_cons (s_pick_f (.bool false) rfl rfl rfl ?_)
  refine r_cons (s_move (.bool false) rfl rfl ?_)
  refine r_cons (r_pass rfl rfl rfl rfl rfl ?_)
  refine r_cons (r_pass rfl rfl rfl rfl rfl ?_)
  refine r_cons (r_pass rfl rfl rfl rfl rfl ?_)
  refine r_cons (r_pass rfl rfl rfl rfl rfl ?_)
  refine r_cons (r_pass rfl rfl rfl rfl rfl ?_)
  refine r_cons (s_pick_f (.bool false) rfl rfl rfl ?_)
  refine r_cons (s_assign (.bool false) rfl rfl ?_)
  refine r_nil ?_
  refine g_ret' [.bool false] Try.func44 Try.results44 ⟨rfl, trivial⟩ ?_
  have H25 : St W w1 (RfA g s :: (F.set i emp)) := H2
  exact ⟨(by unfold idle; exact congrArg Value.bool (by first | (simp_all; done) | (simp_all; omega))), St.back_same hi H25⟩
set_option maxHeartbeats 4000000 in
set_option maxRecDepth 100000 in
theorem Rf_Under {W w : World} {F : List Atom} (g : Nat) (s : EndV) (hv : LInv s)  {i : Nat} (hi : F[i]? = some (RfA g s)) (H : St W w F) : Calls Try.prog 43 #[.pointer (some ⟨g, 0, none⟩)] w (Ret fun v w' => v = .int .i64 (under s : Int) ∧ St W w' F) := by
 have H0 := H.front hi
 obtain ⟨o1, o2, o3, o4, o5, o6, o8⟩ := id hv.ok; have o7 := i64N_0 (Nat.le_trans o4 (by decide))
 refine calls_of_go (n := 29) Try.func43 rfl Try.ntmps43 rfl ?_
 refine g_seq ?_
 refine g_region ?_
 refine r_cons (s_assign (.int .i64 0) rfl rfl ?_)
 refine r_nil ?_
 refine g_seq ?_
 refine g_region ?_
 refine r_cons (s_assign (.int .i64 0) rfl rfl ?_)
 refine r_nil ?_
 refine g_seq ?_
 refine g_seq ?_
 refine g_region ?_
 refine r_cons (s_move (.pointer (some ⟨g, 0, none⟩)) rfl rfl ?_)
 refine r_cons (s_nilCheck (.pointer (some ⟨g, 0, none⟩)) rfl ⟨_, rfl⟩ rfl ?_)
 refine r_cons (s_fieldAddr 86 3 4 4 2 rfl fi_86_3 rfl rfl ?_)
 have H1 := H0.move 0 rfl
 obtain ⟨⟨⟨pp2, cc3, L4, pp5, cc6, E7, A8⟩, hL9, hA10, hH11⟩, H12⟩ := St.open_ex H1
 have H13 := St.open_star H12
 change L4.map BodD.v = A8 ++ s.l at hL9; change A8.length = s.acked at hA10; change HR s.held (mapB E7) at hH11
 have hl14 := refLen hL9 hA10; have hh15 : E7.length = s.held.length := by have h9 := hH11.len; rw [mapB_len rfl] at h9; exact h9
 have H16 : St W w (blk g (rfC s (.slice pp2 L4.length cc3) (.slice pp5 E7.length cc6)) :: Row 101 3 (.slice pp2 L4.length cc3) L4.length (L4.flatMap bodCell) :: byA (L4.map BodD.by) :: Row 105 2 (.slice pp5 E7.length cc6) E7.length (E7.flatMap hlCell) :: byA (mby E7) :: (F.set i emp)) := H13
 refine r_cons (s_load (.int .i64 (s.acked : Int)) ag_2 rfl (H16.blk_at (i := 0) rfl) rfl rfl ?_)
 refine r_cons (s_assign (.int .i64 (s.acked : Int)) rfl rfl ?_)
 refine r_nil ?_
 refine g_block ?_
 have H17 : St W w (RfA g s :: (F.set i emp)) := St.shut_ex ⟨⟨pp2, cc3, L4, pp5, cc6, E7, A8⟩, hL9, hA10, hH11⟩ (St.shut_star (ls := [_, _, _, _, _]) H16)
 refine g_loop_inv (fun (x_ : Nat) => match x_ with | j => [(0, .pointer (some ⟨g, 0, none⟩)), (2, .int .i64 0), (3, .int .i64 ((min j (under s) : Nat) : Int)), (4, .int .i64 ((s.acked + j : Nat) : Int))]) (fun (x_ : Nat) w => match x_ with | j => (j ≤ s.l.length) ∧ St W w (RfA g s :: (F.set i emp))) (fun (x_ : Nat) => match x_ with | j => s.l.length - j) (0) ?_ ?_ ?_
 ·exact ⟨by first | rfl | exact vint (by omega), by first | rfl | exact vint (by omega), by first | rfl | exact vint (by omega), by first | rfl | exact vint (by omega), trivial⟩
 ·exact ⟨(by omega), H17⟩
 ·rintro j ρ18 w19 ⟨hj, H20⟩ nx21
  change Ends _ _ (upds ρ18 [(0, .pointer (some ⟨g, 0, none⟩)), (2, .int .i64 0), (3, .int .i64 ((min j (under s) : Nat) : Int)), (4, .int .i64 ((s.acked + j : Nat) : Int))]) w19
  refine g_seq ?_
  refine g_seq ?_
  refine g_region ?_
  refine r_cons (s_move (.int .i64 ((s.acked + j : Nat) : Int)) rfl rfl ?_)
  refine r_cons (s_move (.pointer (some ⟨g, 0, none⟩)) rfl rfl ?_)
  refine r_cons (s_nilCheck (.pointer (some ⟨g, 0, none⟩)) rfl ⟨_, rfl⟩ rfl ?_)
  refine r_cons (s_fieldAddr 86 2 3 3 83 rfl fi_86_2 rfl rfl ?_)
  have H22 := H20.move 0 rfl
  obtain ⟨⟨⟨pp23, cc24, L25, pp26, cc27, E28, A29⟩, hL30, hA31, hH32⟩, H33⟩ := St.open_ex H22
  have H34 := St.open_star H33
  change L25.map BodD.v = A29 ++ s.l at hL30; change A29.length = s.acked at hA31; change HR s.held (mapB E28) at hH32
  have hl35 := refLen hL30 hA31; have hh36 : E28.length = s.held.length := by have h9 := hH32.len; rw [mapB_len rfl] at h9; exact h9
  have H37 : St W w19 (blk g (rfC s (.slice pp23 L25.length cc24) (.slice pp26 E28.length cc27)) :: Row 101 3 (.slice pp23 L25.length cc24) L25.length (L25.flatMap bodCell) :: byA (L25.map BodD.by) :: Row 105 2 (.slice pp26 E28.length cc27) E28.length (E28.flatMap hlCell) :: byA (mby E28) :: (F.set i emp)) := H34
  refine r_cons (s_load (.slice pp23 L25.length cc24) ag_83 rfl (H37.blk_at (i := 0) rfl) rfl rfl ?_)
  refine r_cons (s_len L25.length rfl ⟨_, un_83⟩ rfl ?_)
  by_cases hc38 : ((s.acked + j : Nat) : Int) < (L25.length : Int)
  ·skip
   refine r_cons (s_lss true rfl rfl (dtrue hc38) rfl ?_)
   refine r_nil ?_
   refine g_true rfl ?_
   refine g_skip ?_
   refine g_seq ?_
   refine g_block ?_
   refine g_seq ?_
   refine g_region ?_
   obtain ⟨bk39, cur40, hp41, h42, h43, h44, h45, h46, H47⟩ := Row.open2 H37 (i := 1) rfl (by omega)
   refine r_cons (s_move (.pointer (some ⟨g, 0, none⟩)) rfl rfl ?_)
   refine r_cons (s_nilCheck (.pointer (some ⟨g, 0, none⟩)) rfl ⟨_, rfl⟩ rfl ?_)
   refine r_cons (s_fieldAddr 86 2 3 3 83 rfl fi_86_2 rfl rfl ?_)
   refine r_cons (s_load (.slice pp23 L25.length cc24) ag_83 rfl (H47.blk_at (i := 0) rfl) rfl rfl ?_)
   refine r_cons (s_move (.int .i64 ((s.acked + j : Nat) : Int)) rfl rfl ?_)
   refine r_cons (s_indexAddr bk39 (off := 0) ((s.acked + j : Nat) : Int) 3 (0 + (s.acked + j) * 3) (by exact congrArg (fun z_ => Value.slice z_ L25.length cc24) ((fun (_ : 0 < 1) => hp41) (by omega))) rfl el_83 (by omega) rfl rfl ?_)
   refine r_cons (s_fieldAddr 101 1 1 (0 + (s.acked + j) * 3 + 1) 4 rfl fi_101_1 rfl rfl ?_)
   refine r_cons (s_load (.bool ((L25.getD (s.acked + j) default).v.sent)) ag_4 rfl (H47.blk_at (i := 1) rfl) (elem_cell (L := L25) (i := s.acked + j) bodCell_len (by rw [(rfl : L25.length = L25.length)]; exact h45) (by have hh : L25.length = L25.length := (rfl : L25.length = L25.length); omega) default 1 (by decide) _ rfl) rfl ?_)
   refine r_nil ?_
   by_cases hb48 : ((L25.getD (s.acked + j) default).v.sent) = true
   ·skip
    refine g_true (congrArg Value.bool hb48) ?_
    refine g_region ?_
    refine r_cons (s_move (.int .i64 ((min j (under s) : Nat) : Int)) rfl rfl ?_)
    refine r_cons (s_add (((min j (under s) : Nat) : Int) + 1) rfl rfl (wi64 (by omega)) rfl ?_)
    refine r_cons (s_assign (.int .i64 (((min j (under s) : Nat) : Int) + 1)) rfl rfl ?_)
    refine r_nil ?_
    refine g_inBlock ?_
    refine g_region ?_
    refine r_cons (s_move (.int .i64 ((s.acked + j : Nat) : Int)) rfl rfl ?_)
    refine r_cons (s_add (((s.acked + j : Nat) : Int) + 1) rfl rfl (wi64 (by omega)) rfl ?_)
    refine r_cons (s_assign (.int .i64 (((s.acked + j : Nat) : Int) + 1)) rfl rfl ?_)
    refine r_nil ?_
    have hs9 : (s.l.getD j default).sent = true := by rw [← refAt hL30 hA31 j]; first | exact hb48 | simpa using hb48
    rw [hv.pre.2.2 j (by omega)] at hs9; have hs8 := of_decide_eq_true hs9
    have H49 := Row.shut2 (p := pp23) (n := L25.length) (c := cc24) (size := 3) (xs := L25.flatMap bodCell) H47 (i := 1) rfl hp41 h42 h43 h44 (by have hh : (cur40.toList.drop 0).take (L25.length * 3) = L25.flatMap bodCell := (by rw [(rfl : L25.length = L25.length)]; exact h45); have hk : L25.length = L25.length := (rfl : L25.length = L25.length); rw [hk] at hh; exact hh) (fun x_ hx_ => by obtain ⟨a_, _, ha_⟩ := List.mem_flatMap.1 hx_; exact one_bod a_ x_ ha_)
    have H50 : St W w19 (RfA g s :: (F.set i emp)) := St.shut_ex ⟨⟨pp23, cc24, L25, pp26, cc27, E28, A29⟩, hL30, hA31, hH32⟩ (St.shut_star (ls := [_, _, _, _, _]) H49)
    have H51 : St W w19 (RfA g s :: (F.set i emp)) := H50
    exact nx21 (j + 1) _ _ ⟨(by omega), H51⟩ (by first | (dsimp only; omega) | omega) ⟨by first | rfl | exact vint (by omega), by first | rfl | exact vint (by omega), by first | rfl | exact vint (by omega), by first | rfl | exact vint (by omega), trivial⟩
   ·have hb48 := eq_false_of_ne_true hb48
    refine g_false (congrArg Value.bool hb48) ?_
    refine g_skip ?_
    refine g_inBlock ?_
    refine g_region ?_
    refine r_cons (s_move (.int .i64 ((s.acked + j : Nat) : Int)) rfl rfl ?_)
    refine r_cons (s_add (((s.acked + j : Nat) : Int) + 1) rfl rfl (wi64 (by omega)) rfl ?_)
    refine r_cons (s_assign (.int .i64 (((s.acked + j : Nat) : Int) + 1)) rfl rfl ?_)
    refine r_nil ?_
    have hs9 : (s.l.getD j default).sent = false := by rw [← refAt hL30 hA31 j]; first | exact hb48 | simpa using hb48
    rw [hv.pre.2.2 j (by omega)] at hs9; have hs8 := of_decide_eq_false hs9
    have H52 := Row.shut2 (p := pp23) (n := L25.length) (c := cc24) (size := 3) (xs := L25.flatMap bodCell) H47 (i := 1) rfl hp41 h42 h43 h44 (by have hh : (cur40.toList.drop 0).take (L25.length * 3) = L25.flatMap bodCell := (by rw [(rfl : L25.length = L25.length)]; exact h45); have hk : L25.length = L25.length := (rfl : L25.length = L25.length); rw [hk] at hh; exact hh) (fun x_ hx_ => by obtain ⟨a_, _, ha_⟩ := List.mem_flatMap.1 hx_; exact one_bod a_ x_ ha_)
    have H53 : St W w19 (RfA g s :: (F.set i emp)) := St.shut_ex ⟨⟨pp23, cc24, L25, pp26, cc27, E28, A29⟩, hL30, hA31, hH32⟩ (St.shut_star (ls := [_, _, _, _, _]) H52)
    have H54 : St W w19 (RfA g s :: (F.set i emp)) := H53
    exact nx21 (j + 1) _ _ ⟨(by omega), H54⟩ (by first | (dsimp only; omega) | omega) ⟨by first | rfl | exact vint (by omega), by first | rfl | exact vint (by omega), by first | rfl | exact vint (by omega), by first | rfl | exact vint (by omega), trivial⟩
  ·skip
   refine r_cons (s_lss false rfl rfl (dfalse hc38) rfl ?_)
   refine r_nil ?_
   refine g_false rfl ?_
   refine g_exit (by rfl) ?_
   refine g_seq ?_
   refine g_region ?_
   refine r_cons (s_move (.int .i64 ((min j (under s) : Nat) : Int)) rfl rfl ?_)
   refine r_cons (s_assign (.int .i64 ((min j (under s) : Nat) : Int)) rfl rfl ?_)
   refine r_nil ?_
   refine g_ret' [.int .i64 ((min j (under s) : Nat) : Int)] Try.func43 Try.results43 ⟨rfl, trivial⟩ ?_
   have H55 : St W w19 (RfA g s :: (F.set i emp)) := St.shut_ex ⟨⟨pp23, cc24, L25, pp26, cc27, E28, A29⟩, hL30, hA31, hH32⟩ (St.shut_star (ls := [_, _, _, _, _]) H37)
   have H56 : St W w19 (RfA g s :: (F.set i emp)) := H55
   have hul := under_le s
   exact ⟨vint (by omega), St.back_same hi H56⟩
set_option maxHeartbeats 4000000 in
set_option maxRecDepth 100000 in
theorem Ro_sent {W w : World} {F : List Atom} (g : Nat) (s : EndV) (p : Option Addr) (c : Nat) (L : List BodD) (p2 : Option Addr) (n2 c2 : Nat) (A : List BodV) (hL : L.map BodD.v = A ++ s.l) (hA : A.length = s.acked) (hc : s.acked + s.l.length ≤ 1099511627776) {i j : Nat} (hi : F[i]? = some (blk g (rfC s (.slice p L.length c) (.slice p2 n2 c2)))) (hj : (F.set i emp)[j]? = some (Row 101 3 (.slice p L.length c) L.length (L.flatMap bodCell))) (H : St W w F) : Calls Try.prog 58 #[.pointer (some ⟨g, 0, none⟩)] w (Ret fun v w' => v = .int .i64 ((s.acked + under s : Nat) : Int) ∧ St W w' F) := by
 have H0 := (H.front hi).front (i := j + 1) (by exact hj)
 have H1 : St W w (Row 101 3 (.slice p L.length c) L.length (L.flatMap bodCell) :: blk g (rfC s (.slice p L.length c) (.slice p2 n2 c2)) :: ((F.set i emp).set j emp)) := H0
 have hl := refLen hL hA
 refine calls_of_go (n := 28) Try.func58 rfl Try.ntmps58 rfl ?_
 refine g_seq ?_
 refine g_region ?_
 refine r_cons (s_assign (.int .i64 0) rfl rfl ?_)
 refine r_nil ?_
 refine g_seq ?_
 refine g_region ?_
 refine r_cons (s_move (.pointer (some ⟨g, 0, none⟩)) rfl rfl ?_)
 refine r_cons (s_nilCheck (.pointer (some ⟨g, 0, none⟩)) rfl ⟨_, rfl⟩ rfl ?_)
 refine r_cons (s_fieldAddr 86 3 4 4 2 rfl fi_86_3 rfl rfl ?_)
 refine r_cons (s_load (.int .i64 (s.acked : Int)) ag_2 rfl (H1.blk_at (i := 1) rfl) rfl rfl ?_)
 refine r_cons (s_assign (.int .i64 (s.acked : Int)) rfl rfl ?_)
 refine r_nil ?_
 refine g_seq ?_
 refine g_block ?_
 refine g_loop_inv (fun (x_ : Nat) => match x_ with | n => [(0, .pointer (some ⟨g, 0, none⟩)), (2, .int .i64 0), (3, .int .i64 ((s.acked + n : Nat) : Int))]) (fun (x_ : Nat) w => match x_ with | n => (n ≤ s.l.length) ∧ (∀ j, j < n → (s.l.getD j default).sent = true) ∧ St W w (Row 101 3 (.slice p L.length c) L.length (L.flatMap bodCell) :: blk g (rfC s (.slice p L.length c) (.slice p2 n2 c2)) :: ((F.set i emp).set j emp))) (fun (x_ : Nat) => match x_ with | n => s.l.length - n) (0) ?_ ?_ ?_
 ·exact ⟨by first | rfl | exact vint (by omega), by first | rfl | exact vint (by omega), by first | rfl | exact vint (by omega), trivial⟩
 ·exact ⟨(by omega), (fun j hj => absurd hj (by omega)), H1⟩
 ·rintro n ρ2 w3 ⟨hn, hs, H4⟩ nx5
  change Ends _ _ (upds ρ2 [(0, .pointer (some ⟨g, 0, none⟩)), (2, .int .i64 0), (3, .int .i64 ((s.acked + n : Nat) : Int))]) w3
  refine g_seq ?_
  refine g_seq ?_
  refine g_region ?_
  refine r_cons (s_move (.int .i64 ((s.acked + n : Nat) : Int)) rfl rfl ?_)
  refine r_cons (s_move (.pointer (some ⟨g, 0, none⟩)) rfl rfl ?_)
  refine r_cons (s_nilCheck (.pointer (some ⟨g, 0, none⟩)) rfl ⟨_, rfl⟩ rfl ?_)
  refine r_cons (s_fieldAddr 86 2 3 3 83 rfl fi_86_2 rfl rfl ?_)
  refine r_cons (s_load (.slice p L.length c) ag_83 rfl (H4.blk_at (i := 1) rfl) rfl rfl ?_)
  refine r_cons (s_len L.length rfl ⟨_, un_83⟩ rfl ?_)
  by_cases hc6 : ((s.acked + n : Nat) : Int) < (L.length : Int)
  ·skip
   refine r_cons (s_lss true rfl rfl (dtrue hc6) rfl ?_)
   refine r_cons (s_move (.bool true) rfl rfl ?_)
   refine r_cons (r_take rfl rfl ?_)
   obtain ⟨bk7, cur8, hp9, h10, h11, h12, h13, h14, H15⟩ := Row.open2 H4 (i := 0) rfl (by omega)
   refine s_move (.pointer (some ⟨g, 0, none⟩)) rfl rfl ?_
   refine r_cons (r_take rfl rfl ?_)
   refine s_nilCheck (.pointer (some ⟨g, 0, none⟩)) rfl ⟨_, rfl⟩ rfl ?_
   refine r_cons (r_take rfl rfl ?_)
   refine s_fieldAddr 86 2 3 3 83 rfl fi_86_2 rfl rfl ?_
   refine r_cons (r_take rfl rfl ?_)
   refine s_load (.slice p L.length c) ag_83 rfl (H15.blk_at (i := 1) rfl) rfl rfl ?_
   refine r_cons (r_take rfl rfl ?_)
   refine s_move (.int .i64 ((s.acked + n : Nat) : Int)) rfl rfl ?_
   refine r_cons (r_take rfl rfl ?_)
   refine s_indexAddr bk7 (off := 0) ((s.acked + n : Nat) : Int) 3 (0 + (s.acked + n) * 3) (by exact congrArg (fun z_ => Value.slice z_ L.length c) ((fun (_ : 0 < 1) => hp9) (by omega))) rfl el_83 (by omega) rfl rfl ?_
   refine r_cons (r_take rfl rfl ?_)
   refine s_fieldAddr 101 1 1 (0 + (s.acked + n) * 3 + 1) 4 rfl fi_101_1 rfl rfl ?_
   refine r_cons (r_take rfl rfl ?_)
   refine s_load (.bool ((L.getD (s.acked + n) default).v.sent)) ag_4 rfl (H15.blk_at (i := 0) rfl) (elem_cell (L := L) (i := s.acked + n) bodCell_len (by rw [(rfl : L.length = L.length)]; exact h13) (by have hh : L.length = L.length := (rfl : L.length = L.length); omega) default 1 (by decide) _ rfl) rfl ?_
   refine r_cons (s_pick_t (.bool ((L.getD (s.acked + n) default).v.sent)) rfl rfl rfl ?_)
   refine r_nil ?_
   by_cases hb16 : ((L.getD (s.acked + n) default).v.sent) = true
   ·skip
    refine g_true (congrArg Value.bool hb16) ?_
    refine g_skip ?_
    refine g_block ?_
    refine g_region ?_
    refine r_cons (s_move (.int .i64 ((s.acked + n : Nat) : Int)) rfl rfl ?_)
    refine r_cons (s_add (((s.acked + n : Nat) : Int) + 1) rfl rfl (wi64 (by omega)) rfl ?_)
    refine r_cons (s_assign (.int .i64 (((s.acked + n : Nat) : Int) + 1)) rfl rfl ?_)
    refine r_nil ?_
    refine g_inBlock ?_
    have H17 := Row.shut2 (p := p) (n := L.length) (c := c) (size := 3) (xs := L.flatMap bodCell) H15 (i := 0) rfl hp9 h10 h11 h12 (by have hh : (cur8.toList.drop 0).take (L.length * 3) = L.flatMap bodCell := (by rw [(rfl : L.length = L.length)]; exact h13); have hk : L.length = L.length := (rfl : L.length = L.length); rw [hk] at hh; exact hh) (fun x_ hx_ => by obtain ⟨a_, _, ha_⟩ := List.mem_flatMap.1 hx_; exact one_bod a_ x_ ha_)
    have hs9 : (s.l.getD n default).sent = true := by rw [← refAt hL hA n]; assumption
    have H18 : St W w3 (Row 101 3 (.slice p L.length c) L.length (L.flatMap bodCell) :: blk g (rfC s (.slice p L.length c) (.slice p2 n2 c2)) :: ((F.set i emp).set j emp)) := ((H17.move 1 rfl).move 1 rfl)
    exact nx5 (n + 1) _ _ ⟨(by omega), (fun j hj => (Nat.lt_succ_iff_lt_or_eq.1 hj).elim (hs j) (fun e => by rw [e]; exact hs9)), H18⟩ (by first | (dsimp only; omega) | omega) ⟨by first | rfl | exact vint (by omega), by first | rfl | exact vint (by omega), by first | rfl | exact vint (by omega), trivial⟩
   ·have hb16 := eq_false_of_ne_true hb16
    refine g_false (congrArg Value.bool hb16) ?_
    refine g_exit (by rfl) ?_
    refine g_seq ?_
    refine g_region ?_
    refine r_cons (s_move (.int .i64 ((s.acked + n : Nat) : Int)) rfl rfl ?_)
    refine r_cons (s_assign (.int .i64 ((s.acked + n : Nat) : Int)) rfl rfl ?_)
    refine r_nil ?_
    refine g_ret' [.int .i64 ((s.acked + n : Nat) : Int)] Try.func58 Try.results58 ⟨rfl, trivial⟩ ?_
    have H19 := Row.shut2 (p := p) (n := L.length) (c := c) (size := 3) (xs := L.flatMap bodCell) H15 (i := 0) rfl hp9 h10 h11 h12 (by have hh : (cur8.toList.drop 0).take (L.length * 3) = L.flatMap bodCell := (by rw [(rfl : L.length = L.length)]; exact h13); have hk : L.length = L.length := (rfl : L.length = L.length); rw [hk] at hh; exact hh) (fun x_ hx_ => by obtain ⟨a_, _, ha_⟩ := List.mem_flatMap.1 hx_; exact one_bod a_ x_ ha_)
    have hu := under_eq hs hn (fun hlt => by rw [← refAt hL hA n]; first | exact hb16 | simpa using hb16)
    have H21 : St W w3 (Row 101 3 (.slice p L.length c) L.length (L.flatMap bodCell) :: blk g (rfC s (.slice p L.length c) (.slice p2 n2 c2)) :: ((F.set i emp).set j emp)) := ((H19.move 1 rfl).move 1 rfl)
    have H20 : St W w3 (Row 101 3 (.slice p L.length c) L.length (L.flatMap bodCell) :: (blk g (rfC s (.slice p L.length c) (.slice p2 n2 c2)) :: F.set i emp).set (j + 1) emp) := H21
    exact ⟨by rw [hu]; rfl, St.back_same hi (St.back_same (i := j + 1) (by exact hj) H20)⟩
  ·skip
   refine r_cons (s_lss false rfl rfl (dfalse hc6) rfl ?_)
   refine r_cons (s_move (.bool false) rfl rfl ?_)
   refine r_cons (r_pass rfl rfl rfl rfl rfl ?_)
   refine r_cons (r_pass rfl rfl rfl rfl rfl ?_)
   refine r_cons (r_pass rfl rfl rfl rfl rfl ?_)
   refine r_cons (r_pass rfl rfl rfl rfl rfl ?_)
   refine r_cons (r_pass rfl rfl rfl rfl rfl ?_)
   refine r_cons (r_pass rfl rfl rfl rfl rfl ?_)
   refine r_cons (r_pass rfl rfl rfl rfl rfl ?_)
   refine r_cons (r_pass rfl rfl rfl rfl rfl ?_)
   refine r_cons (s_pick_f (.bool false) rfl rfl rfl ?_)
   refine r_nil ?_
   refine g_false rfl ?_
   refine g_exit (by rfl) ?_
   refine g_seq ?_
   refine g_region ?_
   refine r_cons (s_move (.int .i64 ((s.acked + n : Nat) : Int)) rfl rfl ?_)
   refine r_cons (s_assign (.int .i64 ((s.acked + n : Nat) : Int)) rfl rfl ?_)
   refine r_nil ?_
   refine g_ret' [.int .i64 ((s.acked + n : Nat) : Int)] Try.func58 Try.results58 ⟨rfl, trivial⟩ ?_
   have hu := under_eq hs hn (fun hlt => by omega)
   have H23 : St W w3 (Row 101 3 (.slice p L.length c) L.length (L.flatMap bodCell) :: blk g (rfC s (.slice p L.length c) (.slice p2 n2 c2)) :: ((F.set i emp).set j emp)) := ((H4.move 1 rfl).move 1 rfl)
   have H22 : St W w3 (Row 101 3 (.slice p L.length c) L.length (L.flatMap bodCell) :: (blk g (rfC s (.slice p L.length c) (.slice p2 n2 c2)) :: F.set i emp).set (j + 1) emp) := H23
   exact ⟨by rw [hu]; rfl, St.back_same hi (St.back_same (i := j + 1) (by exact hj) H22)⟩
set_option maxHeartbeats 4000000 in
set_option maxRecDepth 100000 in
theorem Ref_New {W w : World} {F : List Atom} (f t : I64) (n : Nat) (hf : brB f.v = true) (ht : brB t.v = true) (hne : ¬ f.v = t.v) (hn : 1 ≤ n) (hn2 : n ≤ 64) (H : St W w F) : Calls Try.prog 18 #[.agg #[.int .i64 f.v, .int .i64 t.v], .int .i64 (n : Int)] w (Ret fun v w' => ∃ g, v = .tuple #[.pointer (some ⟨g, 0, none⟩), .int .i64 0] ∧ St W w' (RfA g (newS f t n) :: F)) := by
 refine calls_of_go (n := 35) Try.func18 rfl Try.ntmps18 rfl ?_
 refine g_seq ?_
 refine g_region ?_
 refine r_cons (s_box H 46 (.agg #[.int .i64 f.v, .int .i64 t.v]) rfl (cs := #[.int .i64 f.v, .int .i64 t.v]) rfl rfl ?_); intro bk1 w2 H3
 refine r_cons (s_assign (.pointer none) rfl rfl ?_)
 refine r_cons (s_assign (.int .i64 0) rfl rfl ?_)
 refine r_nil ?_
 refine g_seq ?_
 refine g_seq ?_
 refine g_region ?_
 refine r_cons (s_fieldAddr 46 0 0 0 3 rfl fi_46_0 rfl rfl ?_)
 refine r_cons (s_load (.int .i64 f.v) ag_3 rfl (H3.blk_at (i := 0) rfl) rfl rfl ?_)
 refine r_cons (s_call [.int .i64 f.v] pl_36 rfl rfl (ref21_broker f.v H3) ?_)
 rintro _ w4 ⟨rfl, H5⟩
 refine r_cons (s_not (brB f.v) rfl false (by rw [hf]; rfl) rfl ?_)
 refine r_cons (s_move (.bool false) rfl rfl ?_)
 refine r_cons (r_take rfl rfl ?_)
 refine s_fieldAddr 46 1 1 1 3 rfl fi_46_1 rfl rfl ?_
 refine r_cons (r_take rfl rfl ?_)
 refine s_load (.int .i64 t.v) ag_3 rfl (H5.blk_at (i := 0) rfl) rfl rfl ?_
 refine r_cons (r_take rfl rfl ?_)
 refine s_call [.int .i64 t.v] pl_36 rfl rfl (ref21_broker t.v H5) ?_
 rintro _ w6 ⟨rfl, H7⟩
 refine r_cons (r_take rfl rfl ?_)
 refine s_not (brB t.v) rfl false (by rw [ht]; rfl) rfl ?_
 refine r_cons (s_pick_f (.bool false) rfl rfl rfl ?_)
 refine r_cons (s_move (.bool false) rfl rfl ?_)
 refine r_cons (r_take rfl rfl ?_)
 refine s_fieldAddr 46 0 0 0 3 rfl fi_46_0 rfl rfl ?_
 refine r_cons (r_take rfl rfl ?_)
 refine s_load (.int .i64 f.v) ag_3 rfl (H7.blk_at (i := 0) rfl) rfl rfl ?_
 refine r_cons (r_take rfl rfl ?_)
 refine s_fieldAddr 46 1 1 1 3 rfl fi_46_1 rfl rfl ?_
 refine r_cons (r_take rfl rfl ?_)
 refine s_load (.int .i64 t.v) ag_3 rfl (H7.blk_at (i := 0) rfl) rfl rfl ?_
 refine r_cons (r_take rfl rfl ?_)
 refine s_eql false rfl rfl (dfalse hne) rfl ?_
 refine r_cons (s_pick_f (.bool false) rfl rfl rfl ?_)
 refine r_cons (s_move (.bool false) rfl rfl ?_)
 refine r_cons (r_take rfl rfl ?_)
 refine s_move (.int .i64 (n : Int)) rfl rfl ?_
 refine r_cons (r_take rfl rfl ?_)
 refine s_lss false rfl rfl (dfalse (by omega)) rfl ?_
 refine r_cons (s_pick_f (.bool false) rfl rfl rfl ?_)
 refine r_cons (s_move (.bool false) rfl rfl ?_)
 refine r_cons (r_take rfl rfl ?_)
 refine s_move (.int .i64 (n : Int)) rfl rfl ?_
 refine r_cons (r_take rfl rfl ?_)
 refine s_gtr false rfl rfl (dfalse (by omega)) rfl ?_
 refine r_cons (s_pick_f (.bool false) rfl rfl rfl ?_)
 refine r_nil ?_
 refine g_false rfl ?_
 refine g_skip ?_
 refine g_seq ?_
 refine g_region ?_
 refine r_cons (s_loadAgg [.int .i64 f.v, .int .i64 t.v] 2 ag_46 rfl (H7.blk_at (i := 0) rfl) (nbl rfl) rfl rfl ?_)
 refine r_cons (s_move (.int .i64 (n : Int)) rfl rfl ?_)
 refine r_cons (s_build (cs := #[.int .i64 f.v, .int .i64 t.v, .int .i64 (n : Int), .slice none 0 0, .int .i64 0, .int .i64 0, .slice none 0 0, .int .i64 0, .bool false]) (by kernel_rfl) rfl ?_)
 refine r_cons (s_box H7 86 (.agg #[.int .i64 f.v, .int .i64 t.v, .int .i64 (n : Int), .slice none 0 0, .int .i64 0, .int .i64 0, .slice none 0 0, .int .i64 0, .bool false]) rfl (cs := #[.int .i64 f.v, .int .i64 t.v, .int .i64 (n : Int), .slice none 0 0, .int .i64 0, .int .i64 0, .slice none 0 0, .int .i64 0, .bool false]) rfl rfl ?_); intro bk8 w9 H10
 refine r_cons (s_assign (.pointer (some ⟨bk8, 0, none⟩)) rfl rfl ?_)
 refine r_cons (s_assign (.int .i64 0) rfl rfl ?_)
 refine r_nil ?_
 refine g_ret' [.pointer (some ⟨bk8, 0, none⟩), .int .i64 0] Try.func18 Try.results18 ⟨rfl, rfl, trivial⟩ ?_
 have H11 : St W w9 (blk bk8 (.cells #[.int .i64 f.v, .int .i64 t.v, .int .i64 (n : Int), .slice none 0 0, .int .i64 0, .int .i64 0, .slice none 0 0, .int .i64 0, .bool false] 86 (0, 0)) :: F) := (H10.drop 1 rfl)
 have H12 := Row.nil_intro H11 105 2
 have H13 := byA_nil H12
 have H14 := Row.nil_intro H13 101 3
 have H15 := byA_nil H14
 have H16 : St W w9 (blk bk8 (.cells #[.int .i64 f.v, .int .i64 t.v, .int .i64 (n : Int), .slice none 0 0, .int .i64 0, .int .i64 0, .slice none 0 0, .int .i64 0, .bool false] 86 (0, 0)) :: Row 101 3 (.slice none 0 0) 0 [] :: byA [] :: Row 105 2 (.slice none 0 0) 0 [] :: byA [] :: F) := (((((H15.move 2 rfl).move 3 rfl).move 2 rfl).move 3 rfl).move 4 rfl)
 exact ⟨bk8, rfl, St.shut_ex ⟨⟨none, 0, [], none, 0, [], []⟩, rfl, rfl, HR.nil⟩ (St.shut_star (ls := [_, _, _, _, _]) H16)⟩
end Sl
