/- Walks of the program's functions. Printed by a program of this claim's author. No condition. -/
import Derived.Test.YthggoibbkloefaaSlBF
import Derived.Test.YthggoibbkloefaaSlQ
import Derived.Test.YthggoibbkloefaaSlP
import Derived.Test.YthggoibbkloefaaSlDB
import Derived.Test.YthggoibbkloefaaSlDC
import Derived.Test.YthggoibbkloefaaSlDJ
import Derived.Test.YthggoibbkloefaaSlEC
import Derived.Test.YthggoibbkloefaaSlED
import Derived.Test.YthggoibbkloefaaProg
import Derived.Test.YthggoibbkloefaaWalkLinkComes0
namespace Sl
open _root_.Go _root_.Go.RowKit _root_.Go.Proofs
set_option linter.all false
set_option maxHeartbeats 4000000 in
set_option maxRecDepth 100000 in
theorem Lk_Tick {W w : World} {F : List Atom} (g : Nat) (s : EndV) (hok : endOk s) (hck : s.clock + 1 ≤ 4611686018427387904) {i : Nat} (hi : F[i]? = some (LkA g s)) (H : St W w F) : Calls Try.prog 11 #[.pointer (some ⟨g, 0, none⟩)] w (Ret fun v w' => ∃ p c, v = .slice p ((tickT s).length) c ∧ St W w' (DgsA p c (tickT s) :: F.set i (LkA g (tickS s)))) := by
  have H0 := H.front hi
  obtain ⟨o1, o2, o3, o4, o5, o6, o8⟩ := id hok; have o7 := i64N_0 (Nat.le_trans o4 (by decide))
  refine calls_of_go (n := 20) Try.func11 rfl Try.ntmps11 rfl ?_
  refine g_seq ?_
  refine g_region ?_
  refine r_cons (s_box H0 30 (.pointer (some ⟨g, 0, none⟩)) rfl (cs := #[.pointer (some ⟨g, 0, none⟩)]) rfl rfl ?_); intro bk1 w2 H3
  refine r_cons (s_assign (.slice none 0 0) rfl rfl ?_)
  refine r_nil ?_
  refine g_seq ?_
  refine g_seq ?_
  refine g_region ?_
  refine r_cons (s_load (.pointer (some ⟨g, 0, none⟩)) ag_30 rfl (H3.blk_at (i := 0) rfl) rfl rfl ?_)
  refine r_cons (s_call [.pointer (some ⟨g, 0, none⟩)] pl_31 rfl rfl (Lk_none g s hok (i := 1) rfl H3) ?_)
  rintro _ w4 ⟨rfl, H5⟩
  refine r_nil ?_
  refine g_false rfl ?_
  refine g_skip ?_
  refine g_seq ?_
  refine g_region ?_
  refine r_cons (s_load (.pointer (some ⟨g, 0, none⟩)) ag_30 rfl (H5.blk_at (i := 0) rfl) rfl rfl ?_)
  refine r_cons (s_nilCheck (.pointer (some ⟨g, 0, none⟩)) rfl ⟨_, rfl⟩ rfl ?_)
  refine r_cons (s_fieldAddr 62 6 7 7 2 rfl fi_62_6 rfl rfl ?_)
  have H6 := H5.move 1 rfl
  obtain ⟨⟨⟨m7, pp8, cc9, L10, E11⟩, hL12, hE13⟩, H14⟩ := St.open_ex H6
  have H15 := St.open_star H14
  change L10.map BodD.v = s.l at hL12; change mapB E11 = s.held at hE13
  have hl16 := lenOf hL12; have he17 := mapB_len hE13
  have H18 : St W w4 (blk g (.cells #[.int .i64 s.frm.v, .int .i64 s.to_.v, .int .i64 (s.slide : Int), .slice pp8 L10.length cc9, .int .i64 (s.acked : Int), .int .i64 ((i64N s.came).v), .map (some m7), .int .i64 (s.clock : Int), .bool s.owes] 62 (0, 0)) :: Row 79 3 (.slice pp8 L10.length cc9) L10.length (L10.flatMap bodCell) :: byA (L10.map BodD.by) :: MapA m7 (ents (kI .i64) evD E11) :: byA (mby E11) :: blk bk1 (.cells #[.pointer (some ⟨g, 0, none⟩)] 30 (0, 0)) :: (F.set i emp)) := H15
  refine r_cons (s_load (.int .i64 (s.clock : Int)) ag_2 rfl (H18.blk_at (i := 0) rfl) rfl rfl ?_)
  refine r_cons (s_add ((s.clock + 1 : Nat) : Int) rfl rfl ((wi64 (by omega)).trans (by omega)) rfl ?_)
  refine r_cons (s_nilCheck (.pointer (some ⟨g, 0, none⟩)) rfl ⟨_, rfl⟩ rfl ?_)
  refine r_cons (s_fieldAddr 62 6 7 7 2 rfl fi_62_6 rfl rfl ?_)
  refine r_cons (s_store H18 0 (.int .i64 ((s.clock + 1 : Nat) : Int)) rfl rfl rfl sz_2 rfl (Nat.le_of_ble_eq_true rfl) rfl (cs' := #[.int .i64 s.frm.v, .int .i64 s.to_.v, .int .i64 (s.slide : Int), .slice pp8 L10.length cc9, .int .i64 (s.acked : Int), .int .i64 ((i64N s.came).v), .map (some m7), .int .i64 ((s.clock + 1 : Nat) : Int), .bool s.owes]) rfl ?_); intro w19 H20
  refine r_nil ?_
  refine g_seq ?_
  refine g_region ?_
  refine r_cons (s_load (.pointer (some ⟨g, 0, none⟩)) ag_30 rfl (H20.blk_at (i := 5) rfl) rfl rfl ?_)
  have H21 : St W w19 (LkA g (tick1 s) :: blk bk1 (.cells #[.pointer (some ⟨g, 0, none⟩)] 30 (0, 0)) :: (F.set i emp)) := St.shut_ex ⟨(m7, pp8, cc9, L10, E11), hL12, hE13⟩ (St.shut_star (ls := [blk g (.cells #[.int .i64 s.frm.v, .int .i64 s.to_.v, .int .i64 (s.slide : Int), .slice pp8 L10.length cc9, .int .i64 (s.acked : Int), .int .i64 ((i64N s.came).v), .map (some m7), .int .i64 ((s.clock + 1 : Nat) : Int), .bool s.owes] 62 (0, 0)), Row 79 3 (.slice pp8 L10.length cc9) L10.length (L10.flatMap bodCell), byA (L10.map BodD.by), MapA m7 (ents (kI .i64) evD E11), byA (mby E11)]) H20)
  refine r_cons (s_makeFunc (.func (.func 33) #[] #[.pointer (some ⟨bk1, 0, none⟩)]) rfl rfl ?_)
  refine r_cons (s_call [.pointer (some ⟨g, 0, none⟩), .func (.func 33) #[] #[.pointer (some ⟨bk1, 0, none⟩)]] pl_32 rfl rfl (these_2 g bk1 (tick1 s) (endOk_tick1 hok hck) H21) ?_)
  rintro _ w24 ⟨pp22, cc23, rfl, H25⟩
  refine r_cons (s_assign (.slice pp22 ((thT (rs (tick1 s).clock) (tick1 s)).length) cc23) rfl rfl ?_)
  refine r_nil ?_
  refine g_seq ?_
  refine g_region ?_
  refine r_cons (s_move (.slice pp22 ((thT (rs (tick1 s).clock) (tick1 s)).length) cc23) rfl rfl ?_)
  refine r_cons (s_load (.pointer (some ⟨g, 0, none⟩)) ag_30 rfl (H25.blk_at (i := 2) rfl) rfl rfl ?_)
  refine r_cons (s_call [.pointer (some ⟨g, 0, none⟩)] pl_23 rfl rfl (Lk_Out g (thS (rs (tick1 s).clock) (tick1 s)) (endOk_th (endOk_tick1 hok hck)) (i := 1) rfl H25) ?_)
  rintro _ w28 ⟨pp26, cc27, rfl, H29⟩
  have hn1 := thT_len (rs (tick1 s).clock) (tick1 s) (endOk_tick1 hok hck); have hn2 := outT_len (thS (rs (tick1 s).clock) (tick1 s)) (endOk_th (endOk_tick1 hok hck))
  have H30 := H29.move 0 rfl
  obtain ⟨⟨D31, hD32⟩, H33⟩ := St.open_ex H30
  have H34 := St.open_star H33
  change D31.map DgD.d = (outT (thS (rs (tick1 s).clock) (tick1 s))) at hD32
  have H35 : St W w28 (Row 41 6 (.slice pp26 ((outT (thS (rs (tick1 s).clock) (tick1 s))).length) cc27) ((outT (thS (rs (tick1 s).clock) (tick1 s))).length) (D31.flatMap dgdCell) :: byA (D31.map DgD.by) :: DgsA pp22 cc23 (thT (rs (tick1 s).clock) (tick1 s)) :: LkA g (outS (thS (rs (tick1 s).clock) (tick1 s))) :: blk bk1 (.cells #[.pointer (some ⟨g, 0, none⟩)] 30 (0, 0)) :: (F.set i emp)) := H34
  have H36 := H35.move 2 rfl
  obtain ⟨⟨D37, hD38⟩, H39⟩ := St.open_ex H36
  have H40 := St.open_star H39
  change D37.map DgD.d = (thT (rs (tick1 s).clock) (tick1 s)) at hD38
  have H41 : St W w28 (Row 41 6 (.slice pp22 ((thT (rs (tick1 s).clock) (tick1 s)).length) cc23) ((thT (rs (tick1 s).clock) (tick1 s)).length) (D37.flatMap dgdCell) :: byA (D37.map DgD.by) :: Row 41 6 (.slice pp26 ((outT (thS (rs (tick1 s).clock) (tick1 s))).length) cc27) ((outT (thS (rs (tick1 s).clock) (tick1 s))).length) (D31.flatMap dgdCell) :: byA (D31.map DgD.by) :: LkA g (outS (thS (rs (tick1 s).clock) (tick1 s))) :: blk bk1 (.cells #[.pointer (some ⟨g, 0, none⟩)] 30 (0, 0)) :: (F.set i emp)) := H40
  refine r_cons (s_append H41 0 rfl rfl rfl (Row.rd H41 (i := 2) rfl) ap_34 (by decide) (by unfold maxLen; omega) (by omega) (n' := (thT (rs (tick1 s).clock) (tick1 s)).length + (outT (thS (rs (tick1 s).clock) (tick1 s))).length) (xs' := D37.flatMap dgdCell ++ D31.flatMap dgdCell) (by omega) (by first | rfl | simp) rfl ?_); intro vv42 w43 H44 hn45
  obtain ⟨pp46, cc47, rfl⟩ := Row.slice H44 (i := 0) rfl
  refine r_cons (s_assign (.slice pp46 ((thT (rs (tick1 s).clock) (tick1 s)).length + (outT (thS (rs (tick1 s).clock) (tick1 s))).length) cc47) rfl rfl ?_)
  refine r_nil ?_
  refine g_ret' [.slice pp46 ((thT (rs (tick1 s).clock) (tick1 s)).length + (outT (thS (rs (tick1 s).clock) (tick1 s))).length) cc47] Try.func11 Try.results11 ⟨rfl, trivial⟩ ?_
  have H48 := byA_app (M := (D37 ++ D31).map DgD.by) H44 (i := 1) (j := 3) rfl rfl app_dg
  have H49 : St W w43 (Row 41 6 (.slice pp46 ((thT (rs (tick1 s).clock) (tick1 s)).length + (outT (thS (rs (tick1 s).clock) (tick1 s))).length) cc47) ((thT (rs (tick1 s).clock) (tick1 s)).length + (outT (thS (rs (tick1 s).clock) (tick1 s))).length) (D37.flatMap dgdCell ++ D31.flatMap dgdCell) :: byA ((D37 ++ D31).map DgD.by) :: byA (D37.map DgD.by) :: Row 41 6 (.slice pp26 ((outT (thS (rs (tick1 s).clock) (tick1 s))).length) cc27) ((outT (thS (rs (tick1 s).clock) (tick1 s))).length) (D31.flatMap dgdCell) :: byA (D31.map DgD.by) :: LkA g (outS (thS (rs (tick1 s).clock) (tick1 s))) :: blk bk1 (.cells #[.pointer (some ⟨g, 0, none⟩)] 30 (0, 0)) :: (F.set i emp)) := (H48.move 1 rfl)
  have hn50 : (tickT s).length = (thT (rs (tick1 s).clock) (tick1 s)).length + (outT (thS (rs (tick1 s).clock) (tick1 s))).length := (List.length_append ..)
  have H51 : St W w43 (Row 41 6 (.slice pp46 ((tickT s).length) cc47) ((tickT s).length) ((D37 ++ D31).flatMap dgdCell) :: byA ((D37 ++ D31).map DgD.by) :: byA (D37.map DgD.by) :: Row 41 6 (.slice pp26 ((outT (thS (rs (tick1 s).clock) (tick1 s))).length) cc27) ((outT (thS (rs (tick1 s).clock) (tick1 s))).length) (D31.flatMap dgdCell) :: byA (D31.map DgD.by) :: LkA g (outS (thS (rs (tick1 s).clock) (tick1 s))) :: blk bk1 (.cells #[.pointer (some ⟨g, 0, none⟩)] 30 (0, 0)) :: (F.set i emp)) := by rw [hn50]; rw [flat_app]; exact H49
  have H52 : St W w43 (DgsA pp46 cc47 (tickT s) :: byA (D37.map DgD.by) :: Row 41 6 (.slice pp26 ((outT (thS (rs (tick1 s).clock) (tick1 s))).length) cc27) ((outT (thS (rs (tick1 s).clock) (tick1 s))).length) (D31.flatMap dgdCell) :: byA (D31.map DgD.by) :: LkA g (outS (thS (rs (tick1 s).clock) (tick1 s))) :: blk bk1 (.cells #[.pointer (some ⟨g, 0, none⟩)] 30 (0, 0)) :: (F.set i emp)) := St.shut_ex ⟨(D37 ++ D31), (show (D37 ++ D31).map DgD.d = tickT s from app_map hD38 hD32)⟩ (St.shut_star (ls := [Row 41 6 (.slice pp46 ((tickT s).length) cc47) ((tickT s).length) ((D37 ++ D31).flatMap dgdCell), byA ((D37 ++ D31).map DgD.by)]) H51)
  have H53 : St W w43 (DgsA pp46 cc47 (tickT s) :: byA (D37.map DgD.by) :: Row 41 6 (.slice pp26 ((outT (thS (rs (tick1 s).clock) (tick1 s))).length) cc27) ((outT (thS (rs (tick1 s).clock) (tick1 s))).length) (D31.flatMap dgdCell) :: byA (D31.map DgD.by) :: LkA g (tickS s) :: blk bk1 (.cells #[.pointer (some ⟨g, 0, none⟩)] 30 (0, 0)) :: (F.set i emp)) := H52
  have H54 : St W w43 (DgsA pp46 cc47 (tickT s) :: LkA g (tickS s) :: (F.set i emp)) := ((((((H53.move 4 rfl).move 1 rfl).drop 2 rfl).drop 2 rfl).drop 2 rfl).drop 2 rfl)
  have H55 : St W w43 (LkA g (tickS s) :: (DgsA pp46 cc47 (tickT s) :: F).set (i + 1) emp) := (H54.move 1 rfl)
  exact ⟨_, _, by rw [hn50]; rfl, St.back (i := i + 1) (by exact hi) H55⟩
set_option maxHeartbeats 4000000 in
set_option maxRecDepth 100000 in
theorem New_1 {W w : World} {F : List Atom} (n : Int) (H : St W w F) : Calls Try.prog 35 #[.int .i64 n] w (Ret fun v w' => v = .bool (brB n) ∧ St W w' F) := by
  refine calls_of_go (n := 9) Try.func35 rfl Try.ntmps35 rfl ?_
  refine g_seq ?_
  refine g_region ?_
  refine r_cons (s_assign (.bool false) rfl rfl ?_)
  refine r_nil ?_
  refine g_seq ?_
  refine g_region ?_
  refine r_cons (s_move (.int .i64 n) rfl rfl ?_)
  by_cases hc1 : (0 : Int) ≤ n
  · skip
    refine r_cons (s_geq true rfl rfl (dtrue hc1) rfl ?_)
    refine r_cons (s_move (.bool true) rfl rfl ?_)
    refine r_cons (r_take rfl rfl ?_)
    refine s_move (.int .i64 n) rfl rfl ?_
    refine r_cons (r_take rfl rfl ?_)
    by_cases hc2 : n < 16
    · skip
      refine s_lss true rfl rfl (dtrue hc2) rfl ?_
      refine r_cons (s_pick_t (.bool true) rfl rfl rfl ?_)
      refine r_cons (s_assign (.bool true) rfl rfl ?_)
      refine r_nil ?_
      refine g_ret' [.bool true] Try.func35 Try.results35 ⟨rfl, trivial⟩ ?_
      exact ⟨congrArg Value.bool (by simp only [brB]; first | (exact (decide_eq_true (by omega)).symm) | (exact (decide_eq_false (by omega)).symm)), H⟩
    · skip
      refine s_lss false rfl rfl (dfalse hc2) rfl ?_
      refine r_cons (s_pick_t (.bool false) rfl rfl rfl ?_)
      refine r_cons (s_assign (.bool false) rfl rfl ?_)
      refine r_nil ?_
      refine g_ret' [.bool false] Try.func35 Try.results35 ⟨rfl, trivial⟩ ?_
      exact ⟨congrArg Value.bool (by simp only [brB]; first | (exact (decide_eq_true (by omega)).symm) | (exact (decide_eq_false (by omega)).symm)), H⟩
  · skip
    refine r_cons (s_geq false rfl rfl (dfalse hc1) rfl ?_)
    refine r_cons (s_move (.bool false) rfl rfl ?_)
    refine r_cons (r_pass rfl rfl rfl rfl rfl ?_)
    refine r_cons (r_pass rfl rfl rfl rfl rfl ?_)
    refine r_cons (s_pick_f (.bool false) rfl rfl rfl ?_)
    refine r_cons (s_assign (.bool false) rfl rfl ?_)
    refine r_nil ?_
    refine g_ret' [.bool false] Try.func35 Try.results35 ⟨rfl, trivial⟩ ?_
    exact ⟨congrArg Value.bool (by simp only [brB]; first | (exact (decide_eq_true (by omega)).symm) | (exact (decide_eq_false (by omega)).symm)), H⟩
set_option maxHeartbeats 4000000 in
set_option maxRecDepth 100000 in
theorem Link_New {W w : World} {F : List Atom} (f t : I64) (n : Nat) (hf : brB f.v = true) (ht : brB t.v = true) (hne : ¬ f.v = t.v) (hn : 1 ≤ n) (hn2 : n ≤ 64) (H : St W w F) : Calls Try.prog 17 #[.agg #[.int .i64 f.v, .int .i64 t.v], .int .i64 (n : Int)] w (Ret fun v w' => ∃ g, v = .tuple #[.pointer (some ⟨g, 0, none⟩), .int .i64 0] ∧ St W w' (LkA g (newS f t n) :: F)) := by
  refine calls_of_go (n := 39) Try.func17 rfl Try.ntmps17 rfl ?_
  refine g_seq ?_
  refine g_region ?_
  refine r_cons (s_box H 46 (.agg #[.int .i64 f.v, .int .i64 t.v]) rfl (cs := #[.int .i64 f.v, .int .i64 t.v]) rfl rfl ?_); intro bk1 w2 H3
  refine r_cons (s_assign (.pointer none) rfl rfl ?_)
  refine r_cons (s_assign (.int .i64 0) rfl rfl ?_)
  refine r_nil ?_
  refine g_seq ?_
  refine g_region ?_
  refine r_cons (s_assign (.func (.func 35) #[] #[]) rfl rfl ?_)
  refine r_nil ?_
  refine g_seq ?_
  refine g_seq ?_
  refine g_region ?_
  refine r_cons (s_move (.func (.func 35) #[] #[]) rfl rfl ?_)
  refine r_cons (s_fieldAddr 46 0 0 0 3 rfl fi_46_0 rfl rfl ?_)
  refine r_cons (s_load (.int .i64 f.v) ag_3 rfl (H3.blk_at (i := 0) rfl) rfl rfl ?_)
  refine r_cons (s_callv [] [.int .i64 f.v] rfl pl_35 rfl rfl (New_1 f.v H3) ?_)
  rintro _ w4 ⟨rfl, H5⟩
  refine r_cons (s_not (brB f.v) rfl false (by rw [hf]; rfl) rfl ?_)
  refine r_cons (s_move (.bool false) rfl rfl ?_)
  refine r_cons (r_take rfl rfl ?_)
  refine s_move (.func (.func 35) #[] #[]) rfl rfl ?_
  refine r_cons (r_take rfl rfl ?_)
  refine s_fieldAddr 46 1 1 1 3 rfl fi_46_1 rfl rfl ?_
  refine r_cons (r_take rfl rfl ?_)
  refine s_load (.int .i64 t.v) ag_3 rfl (H5.blk_at (i := 0) rfl) rfl rfl ?_
  refine r_cons (r_take rfl rfl ?_)
  refine s_callv [] [.int .i64 t.v] rfl pl_35 rfl rfl (New_1 t.v H5) ?_
  rintro _ w6 ⟨rfl, H7⟩
  refine r_cons (r_take rfl rfl ?_)
  refine s_not (brB t.v) rfl false (by rw [ht]; rfl) rfl ?_
  refine r_cons (s_pick_f (.bool false) rfl rfl rfl ?_)
  refine r_cons (s_move (.bool false) rfl rfl ?_)
  refine r_cons (r_take rfl rfl ?_)
  refine s_fieldAddr 46 0 0 0 3 rfl fi_46_0 rfl rfl ?_
  refine r_cons (r_take rfl rfl ?_)
  refine s_load (.int .i64 f.v) ag_3 rfl (H7.blk_at (i := 0) rfl) rfl rfl ?_
  refine r_cons (r_take rfl rfl ?_)
  refine s_fieldAddr 46 1 1 1 3 rfl fi_46_1 rfl rfl ?_
  refine r_cons (r_take rfl rfl ?_)
  refine s_load (.int .i64 t.v) ag_3 rfl (H7.blk_at (i := 0) rfl) rfl rfl ?_
  refine r_cons (r_take rfl rfl ?_)
  refine s_eql false rfl rfl (dfalse hne) rfl ?_
  refine r_cons (s_pick_f (.bool false) rfl rfl rfl ?_)
  refine r_cons (s_move (.bool false) rfl rfl ?_)
  refine r_cons (r_take rfl rfl ?_)
  refine s_move (.int .i64 (n : Int)) rfl rfl ?_
  refine r_cons (r_take rfl rfl ?_)
  refine s_lss false rfl rfl (dfalse (by omega)) rfl ?_
  refine r_cons (s_pick_f (.bool false) rfl rfl rfl ?_)
  refine r_cons (s_move (.bool false) rfl rfl ?_)
  refine r_cons (r_take rfl rfl ?_)
  refine s_move (.int .i64 (n : Int)) rfl rfl ?_
  refine r_cons (r_take rfl rfl ?_)
  refine s_gtr false rfl rfl (dfalse (by omega)) rfl ?_
  refine r_cons (s_pick_f (.bool false) rfl rfl rfl ?_)
  refine r_nil ?_
  refine g_false rfl ?_
  refine g_skip ?_
  refine g_seq ?_
  refine g_region ?_
  refine r_cons (s_loadAgg [.int .i64 f.v, .int .i64 t.v] 2 ag_46 rfl (H7.blk_at (i := 0) rfl) (Nat.le_of_ble_eq_true rfl) rfl rfl ?_)
  refine r_cons (s_move (.int .i64 (n : Int)) rfl rfl ?_)
  refine r_cons (s_makeMap H7 rfl ?_); intro mp8 w9 H10
  have H11 : St W w9 (MapA mp8 (ents (kI .i64) evD ([] : List (I64 × BytesD))) :: blk bk1 (.cells #[.int .i64 f.v, .int .i64 t.v] 46 (0, 0)) :: F) := H10
  refine r_cons (s_build (cs := #[.int .i64 f.v, .int .i64 t.v, .int .i64 (n : Int), .slice none 0 0, .int .i64 0, .int .i64 0, .map (some mp8), .int .i64 0, .bool false]) (by kernel_rfl) rfl ?_)
  refine r_cons (s_box H11 62 (.agg #[.int .i64 f.v, .int .i64 t.v, .int .i64 (n : Int), .slice none 0 0, .int .i64 0, .int .i64 0, .map (some mp8), .int .i64 0, .bool false]) rfl (cs := #[.int .i64 f.v, .int .i64 t.v, .int .i64 (n : Int), .slice none 0 0, .int .i64 0, .int .i64 0, .map (some mp8), .int .i64 0, .bool false]) rfl rfl ?_); intro bk12 w13 H14
  refine r_cons (s_assign (.pointer (some ⟨bk12, 0, none⟩)) rfl rfl ?_)
  refine r_cons (s_assign (.int .i64 0) rfl rfl ?_)
  refine r_nil ?_
  refine g_ret' [.pointer (some ⟨bk12, 0, none⟩), .int .i64 0] Try.func17 Try.results17 ⟨rfl, rfl, trivial⟩ ?_
  have H15 : St W w13 (blk bk12 (.cells #[.int .i64 f.v, .int .i64 t.v, .int .i64 (n : Int), .slice none 0 0, .int .i64 0, .int .i64 0, .map (some mp8), .int .i64 0, .bool false] 62 (0, 0)) :: MapA mp8 (ents (kI .i64) evD ([] : List (I64 × BytesD))) :: F) := (((H14.move 1 rfl).move 1 rfl).drop 2 rfl)
  have H16 := Row.nil_intro H15 79 3
  have H17 := byA_nil H16
  have H18 := byA_nil H17
  have H19 : St W w13 (blk bk12 (.cells #[.int .i64 f.v, .int .i64 t.v, .int .i64 (n : Int), .slice none 0 0, .int .i64 0, .int .i64 0, .map (some mp8), .int .i64 0, .bool false] 62 (0, 0)) :: Row 79 3 (.slice none 0 0) 0 [] :: byA [] :: MapA mp8 (ents (kI .i64) evD ([] : List (I64 × BytesD))) :: byA [] :: F) := (((((H18.move 1 rfl).move 4 rfl).move 2 rfl).move 3 rfl).move 4 rfl)
  exact ⟨bk12, rfl, St.shut_ex ⟨(mp8, none, 0, [], []), rfl, rfl⟩ (St.shut_star (ls := [blk bk12 (.cells #[.int .i64 f.v, .int .i64 t.v, .int .i64 (n : Int), .slice none 0 0, .int .i64 0, .int .i64 0, .map (some mp8), .int .i64 0, .bool false] 62 (0, 0)), Row 79 3 (.slice none 0 0) 0 [], byA [], MapA mp8 (ents (kI .i64) evD ([] : List (I64 × BytesD))), byA []]) H19)⟩
set_option maxHeartbeats 4000000 in
set_option maxRecDepth 100000 in
theorem clone_bodies {W w : World} {F : List Atom} (A : Atom) (v0 : Value) (n : Nat) (xs : List Value) (hA : RdA A 3 v0 n xs) (hn : n ≤ 1099511627776) {j : Nat} (hj : F[j]? = some A) (H : St W w F) : Calls Try.prog 47 #[v0] w (Ret fun v w' => ∃ p c, v = .slice p n c ∧ St W w' (Row 79 3 (.slice p n c) n xs :: F)) := by
  have hml := (hA _ _ _ j H hj).2
  obtain ⟨pp1, cc2, rfl, hn3⟩ := Rd.shape (hA _ _ _ j H hj).1
  refine calls_of_go (n := 8) Try.func47 rfl Try.ntmps47 rfl ?_
  refine g_seq ?_
  refine g_region ?_
  refine r_cons (s_assign (.slice none 0 0) rfl rfl ?_)
  refine r_nil ?_
  refine g_seq ?_
  refine g_seq ?_
  refine g_region ?_
  refine r_cons (s_move (.slice pp1 n cc2) rfl rfl ?_)
  by_cases hc4 : pp1 = none
  · skip
    refine r_cons (s_sleql true un_59 rfl rfl (isNone_t hc4) rfl ?_)
    refine r_nil ?_
    refine g_true rfl ?_
    refine g_seq ?_
    refine g_region ?_
    refine r_cons (s_assign (.slice none 0 0) rfl rfl ?_)
    refine r_nil ?_
    refine g_ret' [.slice none 0 0] Try.func47 Try.results47 ⟨rfl, trivial⟩ ?_
    have H5 : St W w F := H
    obtain ⟨h1, h2, h3⟩ := hn3 ‹_›
    subst h1 h3
    exact ⟨none, 0, rfl, Row.nil_intro H5 79 3⟩
  · skip
    refine r_cons (s_sleql false un_59 rfl rfl (isNone_f hc4) rfl ?_)
    refine r_nil ?_
    refine g_false rfl ?_
    refine g_skip ?_
    refine g_seq ?_
    refine g_region ?_
    refine r_cons (s_buildSlice0 H 3 el_59 rfl ?_); intro bk6 w7 H8
    have H9 := Row.of_blk (n := 0) (size := 3) H8 (i := 0) rfl (by unfold maxLen; omega) (by simp) (by simp)
    refine r_cons (s_move (.slice pp1 n cc2) rfl rfl ?_)
    refine r_cons (s_append H9 0 rfl rfl rfl (hA _ _ _ (j + 1) H9 (by exact hj)).1 ap_59 (by decide) (by unfold maxLen; omega) (by omega) (n' := n) (xs' := xs) (by omega) (by first | rfl | simp) rfl ?_); intro vv10 w11 H12 hn13
    obtain ⟨pp14, cc15, rfl⟩ := Row.slice H12 (i := 0) rfl
    refine r_cons (s_assign (.slice pp14 n cc15) rfl rfl ?_)
    refine r_nil ?_
    refine g_ret' [.slice pp14 n cc15] Try.func47 Try.results47 ⟨rfl, trivial⟩ ?_
    have H16 : St W w11 (Row 79 3 (.slice pp14 n cc15) n xs :: F) := H12
    exact ⟨_, _, rfl, H16⟩
set_option maxHeartbeats 4000000 in
set_option maxRecDepth 100000 in
theorem Lo_none {W w : World} {F : List Atom} (g m : Nat) (s : EndV) (p : Option Addr) (c : Nat) (L : List BodD) {i : Nat} (hi : F[i]? = some (blk g (.cells #[.int .i64 s.frm.v, .int .i64 s.to_.v, .int .i64 (s.slide : Int), .slice p L.length c, .int .i64 (s.acked : Int), .int .i64 ((i64N s.came).v), .map (some m), .int .i64 (s.clock : Int), .bool s.owes] 62 (0, 0)))) (H : St W w F) : Calls Try.prog 31 #[.pointer (some ⟨g, 0, none⟩)] w (Ret fun v w' => v = .bool false ∧ St W w' F) := by
  have H0 := H.front hi
  refine calls_of_go (n := 12) Try.func31 rfl Try.ntmps31 rfl ?_
  refine g_seq ?_
  refine g_region ?_
  refine r_cons (s_assign (.bool false) rfl rfl ?_)
  refine r_nil ?_
  refine g_seq ?_
  refine g_region ?_
  refine r_cons (s_move (.pointer (some ⟨g, 0, none⟩)) rfl rfl ?_)
  refine r_cons (s_peql false un_30 rfl rfl rfl rfl ?_)
  refine r_cons (s_move (.bool false) rfl rfl ?_)
  refine r_cons (r_take rfl rfl ?_)
  refine s_move (.pointer (some ⟨g, 0, none⟩)) rfl rfl ?_
  refine r_cons (r_take rfl rfl ?_)
  refine s_nilCheck (.pointer (some ⟨g, 0, none⟩)) rfl ⟨_, rfl⟩ rfl ?_
  refine r_cons (r_take rfl rfl ?_)
  refine s_fieldAddr 62 5 6 6 60 rfl fi_62_5 rfl rfl ?_
  refine r_cons (r_take rfl rfl ?_)
  refine s_load (.map (some m)) ag_60 rfl (H0.blk_at (i := 0) rfl) rfl rfl ?_
  refine r_cons (r_take rfl rfl ?_)
  refine s_meql false un_60 rfl rfl rfl rfl ?_
  refine r_cons (s_pick_f (.bool false) rfl rfl rfl ?_)
  refine r_cons (s_assign (.bool false) rfl rfl ?_)
  refine r_nil ?_
  refine g_ret' [.bool false] Try.func31 Try.results31 ⟨rfl, trivial⟩ ?_
  have H1 : St W w (blk g (.cells #[.int .i64 s.frm.v, .int .i64 s.to_.v, .int .i64 (s.slide : Int), .slice p L.length c, .int .i64 (s.acked : Int), .int .i64 ((i64N s.came).v), .map (some m), .int .i64 (s.clock : Int), .bool s.owes] 62 (0, 0)) :: (F.set i emp)) := H0
  exact ⟨rfl, St.back_same hi H1⟩
set_option maxHeartbeats 4000000 in
set_option maxRecDepth 100000 in
theorem Lo_Waiting {W w : World} {F : List Atom} (g m : Nat) (s : EndV) (p : Option Addr) (c : Nat) (L : List BodD) {i : Nat} (hi : F[i]? = some (blk g (.cells #[.int .i64 s.frm.v, .int .i64 s.to_.v, .int .i64 (s.slide : Int), .slice p L.length c, .int .i64 (s.acked : Int), .int .i64 ((i64N s.came).v), .map (some m), .int .i64 (s.clock : Int), .bool s.owes] 62 (0, 0)))) (H : St W w F) : Calls Try.prog 10 #[.pointer (some ⟨g, 0, none⟩)] w (Ret fun v w' => v = .int .i64 (L.length : Int) ∧ St W w' F) := by
  have H0 := H.front hi
  refine calls_of_go (n := 10) Try.func10 rfl Try.ntmps10 rfl ?_
  refine g_seq ?_
  refine g_region ?_
  refine r_cons (s_assign (.int .i64 0) rfl rfl ?_)
  refine r_nil ?_
  refine g_seq ?_
  refine g_seq ?_
  refine g_region ?_
  refine r_cons (s_move (.pointer (some ⟨g, 0, none⟩)) rfl rfl ?_)
  refine r_cons (s_call [.pointer (some ⟨g, 0, none⟩)] pl_31 rfl rfl (Lo_none g m s p c L (i := 0) rfl H0) ?_)
  rintro _ w1 ⟨rfl, H2⟩
  refine r_nil ?_
  refine g_false rfl ?_
  refine g_skip ?_
  refine g_seq ?_
  refine g_region ?_
  refine r_cons (s_move (.pointer (some ⟨g, 0, none⟩)) rfl rfl ?_)
  refine r_cons (s_nilCheck (.pointer (some ⟨g, 0, none⟩)) rfl ⟨_, rfl⟩ rfl ?_)
  refine r_cons (s_fieldAddr 62 2 3 3 59 rfl fi_62_2 rfl rfl ?_)
  refine r_cons (s_load (.slice p L.length c) ag_59 rfl (H2.blk_at (i := 0) rfl) rfl rfl ?_)
  refine r_cons (s_len L.length rfl ⟨_, un_59⟩ rfl ?_)
  refine r_cons (s_assign (.int .i64 (L.length : Int)) rfl rfl ?_)
  refine r_nil ?_
  refine g_ret' [.int .i64 (L.length : Int)] Try.func10 Try.results10 ⟨rfl, trivial⟩ ?_
  have H3 : St W w1 (blk g (.cells #[.int .i64 s.frm.v, .int .i64 s.to_.v, .int .i64 (s.slide : Int), .slice p L.length c, .int .i64 (s.acked : Int), .int .i64 ((i64N s.came).v), .map (some m), .int .i64 (s.clock : Int), .bool s.owes] 62 (0, 0)) :: (F.set i emp)) := H2
  exact ⟨rfl, St.back_same hi H3⟩
set_option maxHeartbeats 4000000 in
set_option maxRecDepth 100000 in
theorem Lo_Under {W w : World} {F : List Atom} (g m : Nat) (s : EndV) (p : Option Addr) (c : Nat) (L : List BodD) (hL : L.map BodD.v = s.l) (hc : s.l.length ≤ 1099511627776) {i j : Nat} (hi : F[i]? = some (blk g (.cells #[.int .i64 s.frm.v, .int .i64 s.to_.v, .int .i64 (s.slide : Int), .slice p L.length c, .int .i64 (s.acked : Int), .int .i64 ((i64N s.came).v), .map (some m), .int .i64 (s.clock : Int), .bool s.owes] 62 (0, 0)))) (hj : (F.set i emp)[j]? = some (Row 79 3 (.slice p L.length c) L.length (L.flatMap bodCell))) (H : St W w F) : Calls Try.prog 16 #[.pointer (some ⟨g, 0, none⟩)] w (Ret fun v w' => v = .int .i64 (under s : Int) ∧ St W w' F) := by
  have H0 := (H.front hi).front (i := j + 1) (by exact hj)
  have H1 : St W w (Row 79 3 (.slice p L.length c) L.length (L.flatMap bodCell) :: blk g (.cells #[.int .i64 s.frm.v, .int .i64 s.to_.v, .int .i64 (s.slide : Int), .slice p L.length c, .int .i64 (s.acked : Int), .int .i64 ((i64N s.came).v), .map (some m), .int .i64 (s.clock : Int), .bool s.owes] 62 (0, 0)) :: ((F.set i emp).set j emp)) := H0
  have hl := lenOf hL
  refine calls_of_go (n := 21) Try.func16 rfl Try.ntmps16 rfl ?_
  refine g_seq ?_
  refine g_region ?_
  refine r_cons (s_assign (.int .i64 0) rfl rfl ?_)
  refine r_nil ?_
  refine g_seq ?_
  refine g_region ?_
  refine r_cons (s_assign (.int .i64 0) rfl rfl ?_)
  refine r_nil ?_
  refine g_seq ?_
  refine g_block ?_
  refine g_loop_inv (fun (x_ : Nat) => match x_ with | n => [(0, .pointer (some ⟨g, 0, none⟩)), (2, .int .i64 0), (3, .int .i64 (n : Int))]) (fun (x_ : Nat) w => match x_ with | n => (n ≤ s.l.length) ∧ (∀ j, j < n → (s.l.getD j default).sent = true) ∧ St W w (Row 79 3 (.slice p L.length c) L.length (L.flatMap bodCell) :: blk g (.cells #[.int .i64 s.frm.v, .int .i64 s.to_.v, .int .i64 (s.slide : Int), .slice p L.length c, .int .i64 (s.acked : Int), .int .i64 ((i64N s.came).v), .map (some m), .int .i64 (s.clock : Int), .bool s.owes] 62 (0, 0)) :: ((F.set i emp).set j emp))) (fun (x_ : Nat) => match x_ with | n => s.l.length - n) (0) ?_ ?_ ?_
  · exact ⟨by first | rfl | exact vint (by omega), by first | rfl | exact vint (by omega), by first | rfl | exact vint (by omega), trivial⟩
  · exact ⟨(by omega), (fun j hj => absurd hj (by omega)), H1⟩
  · rintro n ρ2 w3 ⟨hn, hs, H4⟩ nx5
    change Ends _ _ (upds ρ2 [(0, .pointer (some ⟨g, 0, none⟩)), (2, .int .i64 0), (3, .int .i64 (n : Int))]) w3
    refine g_seq ?_
    refine g_seq ?_
    refine g_region ?_
    refine r_cons (s_move (.int .i64 (n : Int)) rfl rfl ?_)
    refine r_cons (s_move (.pointer (some ⟨g, 0, none⟩)) rfl rfl ?_)
    refine r_cons (s_call [.pointer (some ⟨g, 0, none⟩)] pl_10 rfl rfl (Lo_Waiting g m s p c L (i := 1) rfl H4) ?_)
    rintro _ w6 ⟨rfl, H7⟩
    by_cases hc8 : (n : Int) < (L.length : Int)
    · skip
      refine r_cons (s_lss true rfl rfl (dtrue hc8) rfl ?_)
      refine r_cons (s_move (.bool true) rfl rfl ?_)
      refine r_cons (r_take rfl rfl ?_)
      refine s_move (.pointer (some ⟨g, 0, none⟩)) rfl rfl ?_
      refine r_cons (r_take rfl rfl ?_)
      refine s_nilCheck (.pointer (some ⟨g, 0, none⟩)) rfl ⟨_, rfl⟩ rfl ?_
      refine r_cons (r_take rfl rfl ?_)
      obtain ⟨bk9, cur10, hp11, h12, h13, h14, h15, h16, H17⟩ := Row.open2 H7 (i := 0) rfl (by omega)
      refine s_fieldAddr 62 2 3 3 59 rfl fi_62_2 rfl rfl ?_
      refine r_cons (r_take rfl rfl ?_)
      refine s_load (.slice p L.length c) ag_59 rfl (H17.blk_at (i := 1) rfl) rfl rfl ?_
      refine r_cons (r_take rfl rfl ?_)
      refine s_move (.int .i64 (n : Int)) rfl rfl ?_
      refine r_cons (r_take rfl rfl ?_)
      refine s_indexAddr bk9 (off := 0) (n : Int) 3 (0 + n * 3) (by exact congrArg (fun z_ => Value.slice z_ L.length c) ((fun (_ : 0 < 1) => hp11) (by omega))) rfl el_59 (by omega) rfl rfl ?_
      refine r_cons (r_take rfl rfl ?_)
      refine s_fieldAddr 79 1 1 (0 + n * 3 + 1) 4 rfl fi_79_1 rfl rfl ?_
      refine r_cons (r_take rfl rfl ?_)
      refine s_load (.bool ((L.getD n default).v.sent)) ag_4 rfl (H17.blk_at (i := 0) rfl) (elem_cell (L := L) (i := n) bodCell_len (by rw [(rfl : L.length = L.length)]; exact h15) (by have hh : L.length = L.length := (rfl : L.length = L.length); omega) default 1 (by decide) _ rfl) rfl ?_
      refine r_cons (s_pick_t (.bool ((L.getD n default).v.sent)) rfl rfl rfl ?_)
      refine r_nil ?_
      by_cases hb18 : ((L.getD n default).v.sent) = true
      · skip
        refine g_true (congrArg Value.bool hb18) ?_
        refine g_skip ?_
        refine g_block ?_
        refine g_region ?_
        refine r_cons (s_move (.int .i64 (n : Int)) rfl rfl ?_)
        refine r_cons (s_add ((n : Int) + 1) rfl rfl (wi64 (by omega)) rfl ?_)
        refine r_cons (s_assign (.int .i64 ((n : Int) + 1)) rfl rfl ?_)
        refine r_nil ?_
        refine g_inBlock ?_
        have H19 := Row.shut2 (p := p) (n := L.length) (c := c) (size := 3) (xs := L.flatMap bodCell) H17 (i := 0) rfl hp11 h12 h13 h14 (by have hh : (cur10.toList.drop 0).take (L.length * 3) = L.flatMap bodCell := (by rw [(rfl : L.length = L.length)]; exact h15); have hk : L.length = L.length := (rfl : L.length = L.length); rw [hk] at hh; exact hh) (fun x_ hx_ => by obtain ⟨a_, _, ha_⟩ := List.mem_flatMap.1 hx_; exact one_bod a_ x_ ha_)
        have hs9 : (s.l.getD n default).sent = true := by rw [← bodAt hL n]; assumption
        have H20 : St W w6 (Row 79 3 (.slice p L.length c) L.length (L.flatMap bodCell) :: blk g (.cells #[.int .i64 s.frm.v, .int .i64 s.to_.v, .int .i64 (s.slide : Int), .slice p L.length c, .int .i64 (s.acked : Int), .int .i64 ((i64N s.came).v), .map (some m), .int .i64 (s.clock : Int), .bool s.owes] 62 (0, 0)) :: ((F.set i emp).set j emp)) := ((H19.move 1 rfl).move 1 rfl)
        exact nx5 (n + 1) _ _ ⟨(by omega), (fun j hj => (Nat.lt_succ_iff_lt_or_eq.1 hj).elim (hs j) (fun e => by rw [e]; exact hs9)), H20⟩ (by first | (dsimp only; omega) | omega) ⟨by first | rfl | exact vint (by omega), by first | rfl | exact vint (by omega), by first | rfl | exact vint (by omega), trivial⟩
      · have hb18 := eq_false_of_ne_true hb18
        refine g_false (congrArg Value.bool hb18) ?_
        refine g_exit (by rfl) ?_
        refine g_seq ?_
        refine g_region ?_
        refine r_cons (s_move (.int .i64 (n : Int)) rfl rfl ?_)
        refine r_cons (s_assign (.int .i64 (n : Int)) rfl rfl ?_)
        refine r_nil ?_
        refine g_ret' [.int .i64 (n : Int)] Try.func16 Try.results16 ⟨rfl, trivial⟩ ?_
        have H21 := Row.shut2 (p := p) (n := L.length) (c := c) (size := 3) (xs := L.flatMap bodCell) H17 (i := 0) rfl hp11 h12 h13 h14 (by have hh : (cur10.toList.drop 0).take (L.length * 3) = L.flatMap bodCell := (by rw [(rfl : L.length = L.length)]; exact h15); have hk : L.length = L.length := (rfl : L.length = L.length); rw [hk] at hh; exact hh) (fun x_ hx_ => by obtain ⟨a_, _, ha_⟩ := List.mem_flatMap.1 hx_; exact one_bod a_ x_ ha_)
        have hu := under_eq hs hn (fun hlt => by rw [← bodAt hL n]; first | exact hb18 | simpa using hb18)
        have H23 : St W w6 (Row 79 3 (.slice p L.length c) L.length (L.flatMap bodCell) :: blk g (.cells #[.int .i64 s.frm.v, .int .i64 s.to_.v, .int .i64 (s.slide : Int), .slice p L.length c, .int .i64 (s.acked : Int), .int .i64 ((i64N s.came).v), .map (some m), .int .i64 (s.clock : Int), .bool s.owes] 62 (0, 0)) :: ((F.set i emp).set j emp)) := ((H21.move 1 rfl).move 1 rfl)
        have H22 : St W w6 (Row 79 3 (.slice p L.length c) L.length (L.flatMap bodCell) :: (blk g (.cells #[.int .i64 s.frm.v, .int .i64 s.to_.v, .int .i64 (s.slide : Int), .slice p L.length c, .int .i64 (s.acked : Int), .int .i64 ((i64N s.came).v), .map (some m), .int .i64 (s.clock : Int), .bool s.owes] 62 (0, 0)) :: F.set i emp).set (j + 1) emp) := H23
        exact ⟨by rw [hu]; rfl, St.back_same hi (St.back_same (i := j + 1) (by exact hj) H22)⟩
    · skip
      refine r_cons (s_lss false rfl rfl (dfalse hc8) rfl ?_)
      refine r_cons (s_move (.bool false) rfl rfl ?_)
      refine r_cons (r_pass rfl rfl rfl rfl rfl ?_)
      refine r_cons (r_pass rfl rfl rfl rfl rfl ?_)
      refine r_cons (r_pass rfl rfl rfl rfl rfl ?_)
      refine r_cons (r_pass rfl rfl rfl rfl rfl ?_)
      refine r_cons (r_pass rfl rfl rfl rfl rfl ?_)
      refine r_cons (r_pass rfl rfl rfl rfl rfl ?_)
      refine r_cons (r_pass rfl rfl rfl rfl rfl ?_)
      refine r_cons (r_pass rfl rfl rfl rfl rfl ?_)
      refine r_cons (s_pick_f (.bool false) rfl rfl rfl ?_)
      refine r_nil ?_
      refine g_false rfl ?_
      refine g_exit (by rfl) ?_
      refine g_seq ?_
      refine g_region ?_
      refine r_cons (s_move (.int .i64 (n : Int)) rfl rfl ?_)
      refine r_cons (s_assign (.int .i64 (n : Int)) rfl rfl ?_)
      refine r_nil ?_
      refine g_ret' [.int .i64 (n : Int)] Try.func16 Try.results16 ⟨rfl, trivial⟩ ?_
      have hu := under_eq hs hn (fun hlt => by omega)
      have H25 : St W w6 (Row 79 3 (.slice p L.length c) L.length (L.flatMap bodCell) :: blk g (.cells #[.int .i64 s.frm.v, .int .i64 s.to_.v, .int .i64 (s.slide : Int), .slice p L.length c, .int .i64 (s.acked : Int), .int .i64 ((i64N s.came).v), .map (some m), .int .i64 (s.clock : Int), .bool s.owes] 62 (0, 0)) :: ((F.set i emp).set j emp)) := ((H7.move 1 rfl).move 1 rfl)
      have H24 : St W w6 (Row 79 3 (.slice p L.length c) L.length (L.flatMap bodCell) :: (blk g (.cells #[.int .i64 s.frm.v, .int .i64 s.to_.v, .int .i64 (s.slide : Int), .slice p L.length c, .int .i64 (s.acked : Int), .int .i64 ((i64N s.came).v), .map (some m), .int .i64 (s.clock : Int), .bool s.owes] 62 (0, 0)) :: F.set i emp).set (j + 1) emp) := H25
      exact ⟨by rw [hu]; rfl, St.back_same hi (St.back_same (i := j + 1) (by exact hj) H24)⟩
set_option maxHeartbeats 4000000 in
set_option maxRecDepth 100000 in
theorem Lk_Take {W w : World} {F : List Atom} (g : Nat) (s : EndV) (hok : endOk s) (d : DgM) (v0 : Value) (hN : s.held.length ≤ 1099511627776) {j : Nat} (hj : F[j]? = some (Im 1 v0 d.body.length (d.body.flatMap u8c))) {i : Nat} (hi : F[i]? = some (LkA g s)) (H : St W w F) : Calls Try.prog 21 #[.pointer (some ⟨g, 0, none⟩), .agg #[.int .i64 d.frm.v, .int .i64 d.to_.v, .int .i64 d.kind.v, .int .i64 d.seq.v, .int .i64 d.ack.v, v0]] w (Ret fun v w' => ∃ p c, v = .tuple #[.slice p ((takeT s d).length) c, .int .i64 (takeE s d)] ∧ St W w' (BysA p c (takeT s d) :: F.set i (LkA g (takeS s d)))) := by
  obtain ⟨pp1, cc2, rfl, hsh3⟩ := Rd.shape (Im.rd H (i := j) hj)
  have H4 := H.dup (i := j) hj (Im_pers _ _ _ _)
  have hmlH4 := Im.len H4 (i := 0) rfl
  have H5 := H4.front (i := i + 1) (by exact hi)
  have H6 : St W w (LkA g s :: Im 1 (.slice pp1 d.body.length cc2) d.body.length (d.body.flatMap u8c) :: (F.set i emp)) := H5
  obtain ⟨o1, o2, o3, o4, o5, o6, o8⟩ := id hok; have o7 := i64N_0 (Nat.le_trans o4 (by decide))
  refine calls_of_go (n := 158) Try.func21 rfl Try.ntmps21 rfl ?_
  refine g_seq ?_
  refine g_region ?_
  refine r_cons (s_box H6 41 (.agg #[.int .i64 d.frm.v, .int .i64 d.to_.v, .int .i64 d.kind.v, .int .i64 d.seq.v, .int .i64 d.ack.v, .slice pp1 d.body.length cc2]) rfl (cs := #[.int .i64 d.frm.v, .int .i64 d.to_.v, .int .i64 d.kind.v, .int .i64 d.seq.v, .int .i64 d.ack.v, .slice pp1 d.body.length cc2]) rfl rfl ?_); intro bk7 w8 H9
  refine r_cons (s_assign (.slice none 0 0) rfl rfl ?_)
  refine r_cons (s_assign (.int .i64 0) rfl rfl ?_)
  refine r_nil ?_
  refine g_seq ?_
  refine g_seq ?_
  refine g_region ?_
  refine r_cons (s_move (.pointer (some ⟨g, 0, none⟩)) rfl rfl ?_)
  refine r_cons (s_call [.pointer (some ⟨g, 0, none⟩)] pl_31 rfl rfl (Lk_none g s hok (i := 1) rfl H9) ?_)
  rintro _ w10 ⟨rfl, H11⟩
  refine r_nil ?_
  refine g_false rfl ?_
  refine g_skip ?_
  refine g_seq ?_
  refine g_seq ?_
  refine g_region ?_
  refine r_cons (s_loadAgg [.int .i64 d.frm.v, .int .i64 d.to_.v, .int .i64 d.kind.v, .int .i64 d.seq.v, .int .i64 d.ack.v, .slice pp1 d.body.length cc2] 6 ag_41 rfl (H11.blk_at (i := 0) rfl) (Nat.le_of_ble_eq_true rfl) rfl rfl ?_)
  refine r_cons (s_call [.agg #[.int .i64 d.frm.v, .int .i64 d.to_.v, .int .i64 d.kind.v, .int .i64 d.seq.v, .int .i64 d.ack.v, .slice pp1 d.body.length cc2]] pl_46 rfl rfl (frame_Check d _ RdA.im (j := 2) rfl H11) ?_)
  rintro _ w12 ⟨rfl, H13⟩
  refine r_cons (s_assign (.int .i64 (dgE d)) rfl rfl ?_)
  refine r_nil ?_
  refine g_seq ?_
  refine g_region ?_
  refine r_cons (s_move (.int .i64 (dgE d)) rfl rfl ?_)
  by_cases hc14 : dgE d = 0
  · skip
    refine r_cons (s_neq false rfl rfl (ntrue hc14) rfl ?_)
    refine r_nil ?_
    refine g_false rfl ?_
    refine g_skip ?_
    refine g_seq ?_
    refine g_seq ?_
    have hd0 : dgE d = 0 := by omega
    obtain ⟨q1, q2, q3, q4, q5, q6⟩ := dgE_seq hd0
    have H15 := H13.move 1 rfl
    obtain ⟨⟨⟨m16, pp17, cc18, L19, E20⟩, hL21, hE22⟩, H23⟩ := St.open_ex H15
    have H24 := St.open_star H23
    change L19.map BodD.v = s.l at hL21; change mapB E20 = s.held at hE22
    have hl25 := lenOf hL21; have he26 := mapB_len hE22
    have H27 : St W w12 (blk g (.cells #[.int .i64 s.frm.v, .int .i64 s.to_.v, .int .i64 (s.slide : Int), .slice pp17 L19.length cc18, .int .i64 (s.acked : Int), .int .i64 ((i64N s.came).v), .map (some m16), .int .i64 (s.clock : Int), .bool s.owes] 62 (0, 0)) :: Row 79 3 (.slice pp17 L19.length cc18) L19.length (L19.flatMap bodCell) :: byA (L19.map BodD.by) :: MapA m16 (ents (kI .i64) evD E20) :: byA (mby E20) :: blk bk7 (.cells #[.int .i64 d.frm.v, .int .i64 d.to_.v, .int .i64 d.kind.v, .int .i64 d.seq.v, .int .i64 d.ack.v, .slice pp1 d.body.length cc2] 41 (0, 0)) :: Im 1 (.slice pp1 d.body.length cc2) d.body.length (d.body.flatMap u8c) :: (F.set i emp)) := H24
    have hu0 := under_le s
    refine g_quiet (fun w' => St W w' (blk g (.cells #[.int .i64 s.frm.v, .int .i64 s.to_.v, .int .i64 (s.slide : Int), .slice pp17 L19.length cc18, .int .i64 (s.acked : Int), .int .i64 ((i64N s.came).v), .map (some m16), .int .i64 (s.clock : Int), .bool s.owes] 62 (0, 0)) :: Row 79 3 (.slice pp17 L19.length cc18) L19.length (L19.flatMap bodCell) :: byA (L19.map BodD.by) :: MapA m16 (ents (kI .i64) evD E20) :: byA (mby E20) :: blk bk7 (.cells #[.int .i64 d.frm.v, .int .i64 d.to_.v, .int .i64 d.kind.v, .int .i64 d.seq.v, .int .i64 d.ack.v, .slice pp1 d.body.length cc2] 41 (0, 0)) :: Im 1 (.slice pp1 d.body.length cc2) d.body.length (d.body.flatMap u8c) :: (F.set i emp))) mixed (by kernel_rfl) H27.drew ?_
    refine q_cons (q_val rfl rfl rfl (by intro w hw; exact x_fieldAddr 41 0 0 0 3 rfl fi_41_0 rfl w) ?_)
    refine q_cons (q_val rfl rfl rfl (by intro w hw; exact x_load (.int .i64 d.frm.v) ag_3 rfl (hw.blk_at (i := 5) rfl) rfl) ?_)
    refine q_cons (q_val rfl rfl rfl (by intro w hw; exact x_move (.pointer (some ⟨g, 0, none⟩)) rfl w) ?_)
    refine q_cons (q_val rfl rfl rfl (by intro w hw; exact x_nilCheck (.pointer (some ⟨g, 0, none⟩)) rfl ⟨_, rfl⟩ w) ?_)
    refine q_cons (q_val rfl rfl rfl (by intro w hw; exact x_fieldAddr 62 0 0 0 46 rfl fi_62_0 rfl w) ?_)
    refine q_cons (q_val rfl rfl rfl (by intro w hw; exact x_fieldAddr 46 1 1 1 3 rfl fi_46_1 rfl w) ?_)
    refine q_cons (q_val rfl rfl rfl (by intro w hw; exact x_load (.int .i64 s.to_.v) ag_3 rfl (hw.blk_at (i := 0) rfl) rfl) ?_)
    by_cases hc28 : d.frm.v = s.to_.v
    · skip
      refine q_cons (q_val rfl rfl rfl (by intro w hw; exact x_neq false rfl rfl (ntrue hc28) w) ?_)
      refine q_cons (q_val rfl rfl rfl (by intro w hw; exact x_move (.bool false) rfl w) ?_)
      refine q_cons (q_take rfl rfl ?_)
      refine q_val rfl rfl rfl (by intro w hw; exact x_fieldAddr 41 1 1 1 3 rfl fi_41_1 rfl w) ?_
      refine q_cons (q_take rfl rfl ?_)
      refine q_val rfl rfl rfl (by intro w hw; exact x_load (.int .i64 d.to_.v) ag_3 rfl (hw.blk_at (i := 5) rfl) rfl) ?_
      refine q_cons (q_take rfl rfl ?_)
      refine q_val rfl rfl rfl (by intro w hw; exact x_move (.pointer (some ⟨g, 0, none⟩)) rfl w) ?_
      refine q_cons (q_take rfl rfl ?_)
      refine q_val rfl rfl rfl (by intro w hw; exact x_nilCheck (.pointer (some ⟨g, 0, none⟩)) rfl ⟨_, rfl⟩ w) ?_
      refine q_cons (q_take rfl rfl ?_)
      refine q_val rfl rfl rfl (by intro w hw; exact x_fieldAddr 62 0 0 0 46 rfl fi_62_0 rfl w) ?_
      refine q_cons (q_take rfl rfl ?_)
      refine q_val rfl rfl rfl (by intro w hw; exact x_fieldAddr 46 0 0 0 3 rfl fi_46_0 rfl w) ?_
      refine q_cons (q_take rfl rfl ?_)
      refine q_val rfl rfl rfl (by intro w hw; exact x_load (.int .i64 s.frm.v) ag_3 rfl (hw.blk_at (i := 0) rfl) rfl) ?_
      refine q_cons (q_take rfl rfl ?_)
      by_cases hc29 : d.to_.v = s.frm.v
      · skip
        refine q_val rfl rfl rfl (by intro w hw; exact x_neq false rfl rfl (ntrue hc29) w) ?_
        refine q_cons (q_val rfl rfl rfl (by intro w hw; exact x_pick_f (.bool false) rfl rfl w) ?_)
        refine q_cons (q_val rfl rfl rfl (by intro w hw; exact x_move (.bool false) rfl w) ?_)
        refine q_cons (q_take rfl rfl ?_)
        refine q_val rfl rfl rfl (by intro w hw; exact x_fieldAddr 41 4 4 4 2 rfl fi_41_4 rfl w) ?_
        refine q_cons (q_take rfl rfl ?_)
        refine q_val rfl rfl rfl (by intro w hw; exact x_load (.int .i64 d.ack.v) ag_2 rfl (hw.blk_at (i := 5) rfl) rfl) ?_
        refine q_cons (q_take rfl rfl ?_)
        refine q_val rfl rfl rfl (by intro w hw; exact x_move (.pointer (some ⟨g, 0, none⟩)) rfl w) ?_
        refine q_cons (q_take rfl rfl ?_)
        refine q_val rfl rfl rfl (by intro w hw; exact x_nilCheck (.pointer (some ⟨g, 0, none⟩)) rfl ⟨_, rfl⟩ w) ?_
        refine q_cons (q_take rfl rfl ?_)
        refine q_val rfl rfl rfl (by intro w hw; exact x_fieldAddr 62 3 4 4 2 rfl fi_62_3 rfl w) ?_
        refine q_cons (q_take rfl rfl ?_)
        refine q_val rfl rfl rfl (by intro w hw; exact x_load (.int .i64 (s.acked : Int)) ag_2 rfl (hw.blk_at (i := 0) rfl) rfl) ?_
        refine q_cons (q_take rfl rfl ?_)
        refine q_val rfl rfl rfl (by intro w hw; exact x_move (.pointer (some ⟨g, 0, none⟩)) rfl w) ?_
        refine q_cons (q_take rfl rfl ?_)
        refine q_enter (args := #[.pointer (some ⟨g, 0, none⟩)]) (v := .int .i64 (under s : Int)) rfl rfl rfl (x_call pl_16 [.pointer (some ⟨g, 0, none⟩)] rfl) (fun w hw => Lo_Under g m16 s pp17 cc18 L19 hL21 (Nat.le_trans (Nat.le_add_left _ _) hok.2.2.1) (i := 0) (j := 1) rfl rfl hw) ?_
        refine q_cons (q_take rfl rfl ?_)
        refine q_val rfl rfl rfl (by intro w hw; exact x_add ((s.acked : Int) + (under s : Int)) rfl rfl (wi64 (by omega)) w) ?_
        refine q_cons (q_take rfl rfl ?_)
        by_cases hc30 : (s.acked : Int) + (under s : Int) < d.ack.v
        · skip
          refine q_val rfl rfl rfl (by intro w hw; exact x_gtr true rfl rfl (dtrue hc30) w) ?_
          refine q_cons (q_val rfl rfl rfl (by intro w hw; exact x_pick_f (.bool true) rfl rfl w) ?_)
          refine q_cons (q_val rfl rfl rfl (by intro w hw; exact x_move (.bool true) rfl w) ?_)
          refine q_cons (q_pass rfl rfl rfl rfl rfl ?_)
          refine q_cons (q_pass rfl rfl rfl rfl rfl ?_)
          refine q_cons (q_pass rfl rfl rfl rfl rfl ?_)
          refine q_cons (q_pass rfl rfl rfl rfl rfl ?_)
          refine q_cons (q_passN rfl rfl rfl rfl ?_)
          refine q_cons (q_passN rfl rfl rfl rfl ?_)
          refine q_cons (q_passN rfl rfl rfl rfl ?_)
          refine q_cons (q_passN rfl rfl rfl rfl ?_)
          refine q_cons (q_passN rfl rfl rfl rfl ?_)
          refine q_cons (q_passN rfl rfl rfl rfl ?_)
          refine q_cons (q_passN rfl rfl rfl rfl ?_)
          refine q_cons (q_passN rfl rfl rfl rfl ?_)
          refine q_cons (q_pass rfl rfl rfl rfl rfl ?_)
          refine q_cons (q_val rfl rfl rfl (by intro w hw; exact x_pick_t (.bool true) rfl rfl w) ?_)
          refine q_nil ?_
          intro w31 H32
          refine g_true rfl ?_
          refine g_seq ?_
          refine g_region ?_
          refine r_cons (s_assign (.slice none 0 0) rfl rfl ?_)
          refine r_cons (s_assign (.int .i64 210) rfl rfl ?_)
          refine r_nil ?_
          refine g_ret' [.slice none 0 0, .int .i64 210] Try.func21 Try.results21 ⟨rfl, rfl, trivial⟩ ?_
          have H33 : St W w31 (LkA g s :: blk bk7 (.cells #[.int .i64 d.frm.v, .int .i64 d.to_.v, .int .i64 d.kind.v, .int .i64 d.seq.v, .int .i64 d.ack.v, .slice pp1 d.body.length cc2] 41 (0, 0)) :: Im 1 (.slice pp1 d.body.length cc2) d.body.length (d.body.flatMap u8c) :: (F.set i emp)) := St.shut_ex ⟨(m16, pp17, cc18, L19, E20), hL21, hE22⟩ (St.shut_star (ls := [blk g (.cells #[.int .i64 s.frm.v, .int .i64 s.to_.v, .int .i64 (s.slide : Int), .slice pp17 L19.length cc18, .int .i64 (s.acked : Int), .int .i64 ((i64N s.came).v), .map (some m16), .int .i64 (s.clock : Int), .bool s.owes] 62 (0, 0)), Row 79 3 (.slice pp17 L19.length cc18) L19.length (L19.flatMap bodCell), byA (L19.map BodD.by), MapA m16 (ents (kI .i64) evD E20), byA (mby E20)]) H32)
          have hE : takeE s d = 210 := takeE_210 hd0 (decide_eq_true (by omega))
          have hE0 : ¬ takeE s d = 0 := by omega
          have H34 := Row.nil_intro H33 26 1
          have H35 := byA_nil H34
          have H36 : St W w31 (Row 26 1 (.slice none 0 0) 0 [] :: byA ([] : List BytesD) :: LkA g s :: blk bk7 (.cells #[.int .i64 d.frm.v, .int .i64 d.to_.v, .int .i64 d.kind.v, .int .i64 d.seq.v, .int .i64 d.ack.v, .slice pp1 d.body.length cc2] 41 (0, 0)) :: Im 1 (.slice pp1 d.body.length cc2) d.body.length (d.body.flatMap u8c) :: (F.set i emp)) := (H35.move 1 rfl)
          have hT9 : takeT s d = [] := takeT_no (fun h => hE0 h.1)
          have H37 : St W w31 (BysA none 0 (takeT s d) :: LkA g s :: blk bk7 (.cells #[.int .i64 d.frm.v, .int .i64 d.to_.v, .int .i64 d.kind.v, .int .i64 d.seq.v, .int .i64 d.ack.v, .slice pp1 d.body.length cc2] 41 (0, 0)) :: Im 1 (.slice pp1 d.body.length cc2) d.body.length (d.body.flatMap u8c) :: (F.set i emp)) := by rw [hT9]; exact St.shut_ex ⟨[], rfl⟩ (St.shut_star (ls := [Row 26 1 (.slice none 0 0) 0 [], byA ([] : List BytesD)]) H36)
          have H38 : St W w31 (BysA none 0 (takeT s d) :: LkA g (takeS s d) :: blk bk7 (.cells #[.int .i64 d.frm.v, .int .i64 d.to_.v, .int .i64 d.kind.v, .int .i64 d.seq.v, .int .i64 d.ack.v, .slice pp1 d.body.length cc2] 41 (0, 0)) :: Im 1 (.slice pp1 d.body.length cc2) d.body.length (d.body.flatMap u8c) :: (F.set i emp)) := by rw [takeS_no hE0]; exact H37
          have H39 : St W w31 (BysA none 0 (takeT s d) :: LkA g (takeS s d) :: (F.set i emp)) := ((((H38.move 1 rfl).move 1 rfl).drop 2 rfl).drop 2 rfl)
          have H40 : St W w31 (LkA g (takeS s d) :: (BysA none 0 (takeT s d) :: F).set (i + 1) emp) := (H39.move 1 rfl)
          exact ⟨none, 0, by rw [hE, hT9]; rfl, St.back (i := i + 1) (by exact hi) H40⟩
        · skip
          refine q_val rfl rfl rfl (by intro w hw; exact x_gtr false rfl rfl (dfalse hc30) w) ?_
          refine q_cons (q_val rfl rfl rfl (by intro w hw; exact x_pick_f (.bool false) rfl rfl w) ?_)
          refine q_cons (q_val rfl rfl rfl (by intro w hw; exact x_move (.bool false) rfl w) ?_)
          refine q_cons (q_take rfl rfl ?_)
          refine q_val rfl rfl rfl (by intro w hw; exact x_fieldAddr 41 2 2 2 3 rfl fi_41_2 rfl w) ?_
          refine q_cons (q_take rfl rfl ?_)
          refine q_val rfl rfl rfl (by intro w hw; exact x_load (.int .i64 d.kind.v) ag_3 rfl (hw.blk_at (i := 5) rfl) rfl) ?_
          refine q_cons (q_take rfl rfl ?_)
          by_cases hc41 : d.kind.v = 1
          · skip
            refine q_val rfl rfl rfl (by intro w hw; exact x_eql true rfl rfl (dtrue hc41) w) ?_
            refine q_cons (q_take rfl rfl ?_)
            refine q_val rfl rfl rfl (by intro w hw; exact x_move (.bool true) rfl w) ?_
            refine q_cons (q_take rfl rfl ?_)
            refine q_val rfl rfl rfl (by intro w hw; exact x_fieldAddr 41 3 3 3 2 rfl fi_41_3 rfl w) ?_
            refine q_cons (q_take rfl rfl ?_)
            refine q_val rfl rfl rfl (by intro w hw; exact x_load (.int .i64 d.seq.v) ag_2 rfl (hw.blk_at (i := 5) rfl) rfl) ?_
            refine q_cons (q_take rfl rfl ?_)
            refine q_val rfl rfl rfl (by intro w hw; exact x_move (.pointer (some ⟨g, 0, none⟩)) rfl w) ?_
            refine q_cons (q_take rfl rfl ?_)
            refine q_val rfl rfl rfl (by intro w hw; exact x_nilCheck (.pointer (some ⟨g, 0, none⟩)) rfl ⟨_, rfl⟩ w) ?_
            refine q_cons (q_take rfl rfl ?_)
            refine q_val rfl rfl rfl (by intro w hw; exact x_fieldAddr 62 4 5 5 2 rfl fi_62_4 rfl w) ?_
            refine q_cons (q_take rfl rfl ?_)
            refine q_val rfl rfl rfl (by intro w hw; exact x_load (.int .i64 ((i64N s.came).v)) ag_2 rfl (hw.blk_at (i := 0) rfl) rfl) ?_
            refine q_cons (q_take rfl rfl ?_)
            refine q_val rfl rfl rfl (by intro w hw; exact x_add ((i64N s.came).v + 64) rfl rfl (wi64 (by omega)) w) ?_
            refine q_cons (q_take rfl rfl ?_)
            by_cases hc42 : (i64N s.came).v + 64 ≤ d.seq.v
            · skip
              refine q_val rfl rfl rfl (by intro w hw; exact x_geq true rfl rfl (dtrue hc42) w) ?_
              refine q_cons (q_take rfl rfl ?_)
              refine q_val rfl rfl rfl (by intro w hw; exact x_pick_t (.bool true) rfl rfl w) ?_
              refine q_cons (q_val rfl rfl rfl (by intro w hw; exact x_pick_f (.bool true) rfl rfl w) ?_)
              refine q_nil ?_
              intro w43 H44
              refine g_true rfl ?_
              refine g_seq ?_
              refine g_region ?_
              refine r_cons (s_assign (.slice none 0 0) rfl rfl ?_)
              refine r_cons (s_assign (.int .i64 210) rfl rfl ?_)
              refine r_nil ?_
              refine g_ret' [.slice none 0 0, .int .i64 210] Try.func21 Try.results21 ⟨rfl, rfl, trivial⟩ ?_
              have H45 : St W w43 (LkA g s :: blk bk7 (.cells #[.int .i64 d.frm.v, .int .i64 d.to_.v, .int .i64 d.kind.v, .int .i64 d.seq.v, .int .i64 d.ack.v, .slice pp1 d.body.length cc2] 41 (0, 0)) :: Im 1 (.slice pp1 d.body.length cc2) d.body.length (d.body.flatMap u8c) :: (F.set i emp)) := St.shut_ex ⟨(m16, pp17, cc18, L19, E20), hL21, hE22⟩ (St.shut_star (ls := [blk g (.cells #[.int .i64 s.frm.v, .int .i64 s.to_.v, .int .i64 (s.slide : Int), .slice pp17 L19.length cc18, .int .i64 (s.acked : Int), .int .i64 ((i64N s.came).v), .map (some m16), .int .i64 (s.clock : Int), .bool s.owes] 62 (0, 0)), Row 79 3 (.slice pp17 L19.length cc18) L19.length (L19.flatMap bodCell), byA (L19.map BodD.by), MapA m16 (ents (kI .i64) evD E20), byA (mby E20)]) H44)
              have hE : takeE s d = 210 := takeE_210 hd0 (decide_eq_true (by omega))
              have hE0 : ¬ takeE s d = 0 := by omega
              have H46 := Row.nil_intro H45 26 1
              have H47 := byA_nil H46
              have H48 : St W w43 (Row 26 1 (.slice none 0 0) 0 [] :: byA ([] : List BytesD) :: LkA g s :: blk bk7 (.cells #[.int .i64 d.frm.v, .int .i64 d.to_.v, .int .i64 d.kind.v, .int .i64 d.seq.v, .int .i64 d.ack.v, .slice pp1 d.body.length cc2] 41 (0, 0)) :: Im 1 (.slice pp1 d.body.length cc2) d.body.length (d.body.flatMap u8c) :: (F.set i emp)) := (H47.move 1 rfl)
              have hT9 : takeT s d = [] := takeT_no (fun h => hE0 h.1)
              have H49 : St W w43 (BysA none 0 (takeT s d) :: LkA g s :: blk bk7 (.cells #[.int .i64 d.frm.v, .int .i64 d.to_.v, .int .i64 d.kind.v, .int .i64 d.seq.v, .int .i64 d.ack.v, .slice pp1 d.body.length cc2] 41 (0, 0)) :: Im 1 (.slice pp1 d.body.length cc2) d.body.length (d.body.flatMap u8c) :: (F.set i emp)) := by rw [hT9]; exact St.shut_ex ⟨[], rfl⟩ (St.shut_star (ls := [Row 26 1 (.slice none 0 0) 0 [], byA ([] : List BytesD)]) H48)
              have H50 : St W w43 (BysA none 0 (takeT s d) :: LkA g (takeS s d) :: blk bk7 (.cells #[.int .i64 d.frm.v, .int .i64 d.to_.v, .int .i64 d.kind.v, .int .i64 d.seq.v, .int .i64 d.ack.v, .slice pp1 d.body.length cc2] 41 (0, 0)) :: Im 1 (.slice pp1 d.body.length cc2) d.body.length (d.body.flatMap u8c) :: (F.set i emp)) := by rw [takeS_no hE0]; exact H49
              have H51 : St W w43 (BysA none 0 (takeT s d) :: LkA g (takeS s d) :: (F.set i emp)) := ((((H50.move 1 rfl).move 1 rfl).drop 2 rfl).drop 2 rfl)
              have H52 : St W w43 (LkA g (takeS s d) :: (BysA none 0 (takeT s d) :: F).set (i + 1) emp) := (H51.move 1 rfl)
              exact ⟨none, 0, by rw [hE, hT9]; rfl, St.back (i := i + 1) (by exact hi) H52⟩
            · skip
              refine q_val rfl rfl rfl (by intro w hw; exact x_geq false rfl rfl (dfalse hc42) w) ?_
              refine q_cons (q_take rfl rfl ?_)
              refine q_val rfl rfl rfl (by intro w hw; exact x_pick_t (.bool false) rfl rfl w) ?_
              refine q_cons (q_val rfl rfl rfl (by intro w hw; exact x_pick_f (.bool false) rfl rfl w) ?_)
              refine q_nil ?_
              intro w53 H54
              refine g_false rfl ?_
              refine g_skip ?_
              refine g_seq ?_
              refine g_seq ?_
              have hst : stray s d = false := decide_eq_false (by omega)
              have hE : takeE s d = 0 := takeE_is hd0 hst
              have hs9 := stray_not hst
              refine g_quiet (fun w' => St W w' (blk g (.cells #[.int .i64 s.frm.v, .int .i64 s.to_.v, .int .i64 (s.slide : Int), .slice pp17 L19.length cc18, .int .i64 (s.acked : Int), .int .i64 ((i64N s.came).v), .map (some m16), .int .i64 (s.clock : Int), .bool s.owes] 62 (0, 0)) :: Row 79 3 (.slice pp17 L19.length cc18) L19.length (L19.flatMap bodCell) :: byA (L19.map BodD.by) :: MapA m16 (ents (kI .i64) evD E20) :: byA (mby E20) :: blk bk7 (.cells #[.int .i64 d.frm.v, .int .i64 d.to_.v, .int .i64 d.kind.v, .int .i64 d.seq.v, .int .i64 d.ack.v, .slice pp1 d.body.length cc2] 41 (0, 0)) :: Im 1 (.slice pp1 d.body.length cc2) d.body.length (d.body.flatMap u8c) :: (F.set i emp))) mixed (by kernel_rfl) H54.drew ?_
              refine q_cons (q_val rfl rfl rfl (by intro w hw; exact x_fieldAddr 41 4 4 4 2 rfl fi_41_4 rfl w) ?_)
              refine q_cons (q_val rfl rfl rfl (by intro w hw; exact x_load (.int .i64 d.ack.v) ag_2 rfl (hw.blk_at (i := 5) rfl) rfl) ?_)
              refine q_cons (q_val rfl rfl rfl (by intro w hw; exact x_move (.pointer (some ⟨g, 0, none⟩)) rfl w) ?_)
              refine q_cons (q_val rfl rfl rfl (by intro w hw; exact x_nilCheck (.pointer (some ⟨g, 0, none⟩)) rfl ⟨_, rfl⟩ w) ?_)
              refine q_cons (q_val rfl rfl rfl (by intro w hw; exact x_fieldAddr 62 3 4 4 2 rfl fi_62_3 rfl w) ?_)
              refine q_cons (q_val rfl rfl rfl (by intro w hw; exact x_load (.int .i64 (s.acked : Int)) ag_2 rfl (hw.blk_at (i := 0) rfl) rfl) ?_)
              refine q_cons (q_val rfl rfl rfl (by intro w hw; exact x_sub (d.ack.v - (s.acked : Int)) rfl rfl (wi64 (by omega)) w) ?_)
              refine q_cons (q_val rfl rfl rfl (by intro w hw; exact x_assign (.int .i64 (d.ack.v - (s.acked : Int))) rfl w) ?_)
              refine q_nil ?_
              intro w55 H56
              refine g_seq ?_
              refine g_region ?_
              refine r_cons (s_move (.int .i64 (d.ack.v - (s.acked : Int))) rfl rfl ?_)
              by_cases hc57 : (0 : Int) < d.ack.v - (s.acked : Int)
              · skip
                refine r_cons (s_gtr true rfl rfl (dtrue hc57) rfl ?_)
                refine r_nil ?_
                refine g_cut (fun (x_ : Unit) => match x_ with | z_ => [(0, .pointer (some ⟨g, 0, none⟩)), (3, .pointer (some ⟨bk7, 0, none⟩)), (4, .slice none 0 0), (5, .int .i64 0)]) (fun (x_ : Unit) w => match x_ with | z_ => (True) ∧ St W w (LkA g (ackS s d.ack.v) :: blk bk7 (.cells #[.int .i64 d.frm.v, .int .i64 d.to_.v, .int .i64 d.kind.v, .int .i64 d.seq.v, .int .i64 d.ack.v, .slice pp1 d.body.length cc2] 41 (0, 0)) :: Im 1 (.slice pp1 d.body.length cc2) d.body.length (d.body.flatMap u8c) :: (F.set i emp))) ?_ ?_
                · rintro z_ ρ61 w59 ⟨hz_, H60⟩
                  change Ends _ _ (upds ρ61 [(0, .pointer (some ⟨g, 0, none⟩)), (3, .pointer (some ⟨bk7, 0, none⟩)), (4, .slice none 0 0), (5, .int .i64 0)]) w59
                  have hca := ackS_came s d.ack.v; have hhe := ackS_held s d.ack.v; have hcy : (i64N (ackS s d.ack.v).came).v = (s.came : Int) := by rw [hca]; exact o7
                  refine g_seq ?_
                  refine g_seq ?_
                  refine g_region ?_
                  refine r_cons (s_fieldAddr 41 2 2 2 3 rfl fi_41_2 rfl rfl ?_)
                  refine r_cons (s_load (.int .i64 d.kind.v) ag_3 rfl (H60.blk_at (i := 1) rfl) rfl rfl ?_)
                  refine r_cons (s_neq false rfl rfl (ntrue (by omega)) rfl ?_)
                  refine r_nil ?_
                  refine g_false rfl ?_
                  refine g_skip ?_
                  refine g_seq ?_
                  refine g_region ?_
                  refine r_cons (s_move (.pointer (some ⟨g, 0, none⟩)) rfl rfl ?_)
                  have hk1 : d.kind.v = 1 := by omega
                  have H62 := H60.move 0 rfl
                  obtain ⟨⟨⟨m63, pp64, cc65, L66, E67⟩, hL68, hE69⟩, H70⟩ := St.open_ex H62
                  have H71 := St.open_star H70
                  change L66.map BodD.v = (ackS s d.ack.v).l at hL68; change mapB E67 = (ackS s d.ack.v).held at hE69
                  have hl72 := lenOf hL68; have he73 := mapB_len hE69
                  have H74 : St W w59 (blk g (.cells #[.int .i64 ((ackS s d.ack.v).frm.v), .int .i64 ((ackS s d.ack.v).to_.v), .int .i64 ((ackS s d.ack.v).slide : Int), .slice pp64 L66.length cc65, .int .i64 ((ackS s d.ack.v).acked : Int), .int .i64 ((i64N (ackS s d.ack.v).came).v), .map (some m63), .int .i64 ((ackS s d.ack.v).clock : Int), .bool ((ackS s d.ack.v).owes)] 62 (0, 0)) :: Row 79 3 (.slice pp64 L66.length cc65) L66.length (L66.flatMap bodCell) :: byA (L66.map BodD.by) :: MapA m63 (ents (kI .i64) evD E67) :: byA (mby E67) :: blk bk7 (.cells #[.int .i64 d.frm.v, .int .i64 d.to_.v, .int .i64 d.kind.v, .int .i64 d.seq.v, .int .i64 d.ack.v, .slice pp1 d.body.length cc2] 41 (0, 0)) :: Im 1 (.slice pp1 d.body.length cc2) d.body.length (d.body.flatMap u8c) :: (F.set i emp)) := H71
                  refine r_cons (s_nilCheck (.pointer (some ⟨g, 0, none⟩)) rfl ⟨_, rfl⟩ rfl ?_)
                  refine r_cons (s_fieldAddr 62 7 8 8 4 rfl fi_62_7 rfl rfl ?_)
                  refine r_cons (s_store H74 0 (.bool true) rfl rfl rfl sz_4 rfl (Nat.le_of_ble_eq_true rfl) rfl (cs' := #[.int .i64 ((ackS s d.ack.v).frm.v), .int .i64 ((ackS s d.ack.v).to_.v), .int .i64 ((ackS s d.ack.v).slide : Int), .slice pp64 L66.length cc65, .int .i64 ((ackS s d.ack.v).acked : Int), .int .i64 ((i64N (ackS s d.ack.v).came).v), .map (some m63), .int .i64 ((ackS s d.ack.v).clock : Int), .bool true]) rfl ?_); intro w75 H76
                  refine r_nil ?_
                  refine g_seq ?_
                  refine g_seq ?_
                  refine g_quiet (fun w' => St W w' (blk g (.cells #[.int .i64 ((ackS s d.ack.v).frm.v), .int .i64 ((ackS s d.ack.v).to_.v), .int .i64 ((ackS s d.ack.v).slide : Int), .slice pp64 L66.length cc65, .int .i64 ((ackS s d.ack.v).acked : Int), .int .i64 ((i64N (ackS s d.ack.v).came).v), .map (some m63), .int .i64 ((ackS s d.ack.v).clock : Int), .bool true] 62 (0, 0)) :: Row 79 3 (.slice pp64 L66.length cc65) L66.length (L66.flatMap bodCell) :: byA (L66.map BodD.by) :: MapA m63 (ents (kI .i64) evD E67) :: byA (mby E67) :: blk bk7 (.cells #[.int .i64 d.frm.v, .int .i64 d.to_.v, .int .i64 d.kind.v, .int .i64 d.seq.v, .int .i64 d.ack.v, .slice pp1 d.body.length cc2] 41 (0, 0)) :: Im 1 (.slice pp1 d.body.length cc2) d.body.length (d.body.flatMap u8c) :: (F.set i emp))) mixed (by kernel_rfl) H76.drew ?_
                  refine q_cons (q_val rfl rfl rfl (by intro w hw; exact x_move (.pointer (some ⟨g, 0, none⟩)) rfl w) ?_)
                  refine q_cons (q_val rfl rfl rfl (by intro w hw; exact x_nilCheck (.pointer (some ⟨g, 0, none⟩)) rfl ⟨_, rfl⟩ w) ?_)
                  refine q_cons (q_val rfl rfl rfl (by intro w hw; exact x_fieldAddr 62 5 6 6 60 rfl fi_62_5 rfl w) ?_)
                  refine q_cons (q_val rfl rfl rfl (by intro w hw; exact x_load (.map (some m63)) ag_60 rfl (hw.blk_at (i := 0) rfl) rfl) ?_)
                  refine q_cons (q_val rfl rfl rfl (by intro w hw; exact x_fieldAddr 41 3 3 3 2 rfl fi_41_3 rfl w) ?_)
                  refine q_cons (q_val rfl rfl rfl (by intro w hw; exact x_load (.int .i64 d.seq.v) ag_2 rfl (hw.blk_at (i := 5) rfl) rfl) ?_)
                  refine q_cons (q_val rfl rfl rfl (by intro w hw; exact x_lookup2 (ek := (kI .i64)) (ev := evD) (L := E67) d.seq ((lookV evD (.slice none 0 0) E67 d.seq)) (ahas E67 d.seq) (MapA.at hw (i := 3) rfl) (KeyLaw.I un_2) un_60 zv_26 rfl rfl (rfl) rfl) ?_)
                  refine q_cons (q_val rfl rfl rfl (by intro w hw; exact x_move (.tuple #[(lookV evD (.slice none 0 0) E67 d.seq), .bool (ahas E67 d.seq)]) rfl w) ?_)
                  refine q_cons (q_val rfl rfl rfl (by intro w hw; exact x_extract ((lookV evD (.slice none 0 0) E67 d.seq)) #[(lookV evD (.slice none 0 0) E67 d.seq), .bool (ahas E67 d.seq)] rfl rfl w) ?_)
                  refine q_cons (q_val rfl rfl rfl (by intro w hw; exact x_extract (.bool (ahas E67 d.seq)) #[(lookV evD (.slice none 0 0) E67 d.seq), .bool (ahas E67 d.seq)] rfl rfl w) ?_)
                  refine q_cons (q_val rfl rfl rfl (by intro w hw; exact x_assign ((lookV evD (.slice none 0 0) E67 d.seq)) rfl w) ?_)
                  refine q_cons (q_val rfl rfl rfl (by intro w hw; exact x_assign (.bool (ahas E67 d.seq)) rfl w) ?_)
                  refine q_nil ?_
                  intro w77 H78
                  refine g_seq ?_
                  refine g_quiet (fun w' => St W w' (blk g (.cells #[.int .i64 ((ackS s d.ack.v).frm.v), .int .i64 ((ackS s d.ack.v).to_.v), .int .i64 ((ackS s d.ack.v).slide : Int), .slice pp64 L66.length cc65, .int .i64 ((ackS s d.ack.v).acked : Int), .int .i64 ((i64N (ackS s d.ack.v).came).v), .map (some m63), .int .i64 ((ackS s d.ack.v).clock : Int), .bool true] 62 (0, 0)) :: Row 79 3 (.slice pp64 L66.length cc65) L66.length (L66.flatMap bodCell) :: byA (L66.map BodD.by) :: MapA m63 (ents (kI .i64) evD E67) :: byA (mby E67) :: blk bk7 (.cells #[.int .i64 d.frm.v, .int .i64 d.to_.v, .int .i64 d.kind.v, .int .i64 d.seq.v, .int .i64 d.ack.v, .slice pp1 d.body.length cc2] 41 (0, 0)) :: Im 1 (.slice pp1 d.body.length cc2) d.body.length (d.body.flatMap u8c) :: (F.set i emp))) mixed (by kernel_rfl) H78.drew ?_
                  refine q_cons (q_val rfl rfl rfl (by intro w hw; exact x_fieldAddr 41 3 3 3 2 rfl fi_41_3 rfl w) ?_)
                  refine q_cons (q_val rfl rfl rfl (by intro w hw; exact x_load (.int .i64 d.seq.v) ag_2 rfl (hw.blk_at (i := 5) rfl) rfl) ?_)
                  refine q_cons (q_val rfl rfl rfl (by intro w hw; exact x_move (.pointer (some ⟨g, 0, none⟩)) rfl w) ?_)
                  refine q_cons (q_val rfl rfl rfl (by intro w hw; exact x_nilCheck (.pointer (some ⟨g, 0, none⟩)) rfl ⟨_, rfl⟩ w) ?_)
                  refine q_cons (q_val rfl rfl rfl (by intro w hw; exact x_fieldAddr 62 4 5 5 2 rfl fi_62_4 rfl w) ?_)
                  refine q_cons (q_val rfl rfl rfl (by intro w hw; exact x_load (.int .i64 ((i64N (ackS s d.ack.v).came).v)) ag_2 rfl (hw.blk_at (i := 0) rfl) rfl) ?_)
                  by_cases hc79 : d.seq.v < (i64N (ackS s d.ack.v).came).v
                  · skip
                    refine q_cons (q_val rfl rfl rfl (by intro w hw; exact x_lss true rfl rfl (dtrue hc79) w) ?_)
                    refine q_cons (q_val rfl rfl rfl (by intro w hw; exact x_move (.bool true) rfl w) ?_)
                    refine q_cons (q_pass rfl rfl rfl rfl rfl ?_)
                    refine q_cons (q_val rfl rfl rfl (by intro w hw; exact x_pick_t (.bool true) rfl rfl w) ?_)
                    refine q_nil ?_
                    intro w80 H81
                    refine g_true rfl ?_
                    refine g_seq ?_
                    refine g_region ?_
                    refine r_cons (s_assign (.slice none 0 0) rfl rfl ?_)
                    refine r_cons (s_assign (.int .i64 0) rfl rfl ?_)
                    refine r_nil ?_
                    refine g_ret' [.slice none 0 0, .int .i64 0] Try.func21 Try.results21 ⟨rfl, rfl, trivial⟩ ?_
                    have H82 : St W w80 (LkA g ({ ackS s d.ack.v with owes := true } : EndV) :: blk bk7 (.cells #[.int .i64 d.frm.v, .int .i64 d.to_.v, .int .i64 d.kind.v, .int .i64 d.seq.v, .int .i64 d.ack.v, .slice pp1 d.body.length cc2] 41 (0, 0)) :: Im 1 (.slice pp1 d.body.length cc2) d.body.length (d.body.flatMap u8c) :: (F.set i emp)) := St.shut_ex ⟨(m63, pp64, cc65, L66, E67), hL68, hE69⟩ (St.shut_star (ls := [blk g (.cells #[.int .i64 ((ackS s d.ack.v).frm.v), .int .i64 ((ackS s d.ack.v).to_.v), .int .i64 ((ackS s d.ack.v).slide : Int), .slice pp64 L66.length cc65, .int .i64 ((ackS s d.ack.v).acked : Int), .int .i64 ((i64N (ackS s d.ack.v).came).v), .map (some m63), .int .i64 ((ackS s d.ack.v).clock : Int), .bool true] 62 (0, 0)), Row 79 3 (.slice pp64 L66.length cc65) L66.length (L66.flatMap bodCell), byA (L66.map BodD.by), MapA m63 (ents (kI .i64) evD E67), byA (mby E67)]) H81)
                    have hC : takeC s d = ([], s.came, s.held) := takeC_no (by first | exact .inl (by omega) | (right; rw [← hhe, mapB_has hE69]; assumption))
                    have H83 := Row.nil_intro H82 26 1
                    have H84 := byA_nil H83
                    have H85 : St W w80 (Row 26 1 (.slice none 0 0) 0 [] :: byA ([] : List BytesD) :: LkA g ({ ackS s d.ack.v with owes := true } : EndV) :: blk bk7 (.cells #[.int .i64 d.frm.v, .int .i64 d.to_.v, .int .i64 d.kind.v, .int .i64 d.seq.v, .int .i64 d.ack.v, .slice pp1 d.body.length cc2] 41 (0, 0)) :: Im 1 (.slice pp1 d.body.length cc2) d.body.length (d.body.flatMap u8c) :: (F.set i emp)) := (H84.move 1 rfl)
                    have hT9 : takeT s d = [] := by rw [takeT_yes hE hk1, hC]
                    have H86 : St W w80 (BysA none 0 (takeT s d) :: LkA g ({ ackS s d.ack.v with owes := true } : EndV) :: blk bk7 (.cells #[.int .i64 d.frm.v, .int .i64 d.to_.v, .int .i64 d.kind.v, .int .i64 d.seq.v, .int .i64 d.ack.v, .slice pp1 d.body.length cc2] 41 (0, 0)) :: Im 1 (.slice pp1 d.body.length cc2) d.body.length (d.body.flatMap u8c) :: (F.set i emp)) := by rw [hT9]; exact St.shut_ex ⟨[], rfl⟩ (St.shut_star (ls := [Row 26 1 (.slice none 0 0) 0 [], byA ([] : List BytesD)]) H85)
                    have H87 : St W w80 (BysA none 0 (takeT s d) :: LkA g (takeS s d) :: blk bk7 (.cells #[.int .i64 d.frm.v, .int .i64 d.to_.v, .int .i64 d.kind.v, .int .i64 d.seq.v, .int .i64 d.ack.v, .slice pp1 d.body.length cc2] 41 (0, 0)) :: Im 1 (.slice pp1 d.body.length cc2) d.body.length (d.body.flatMap u8c) :: (F.set i emp)) := by rw [takeS_data hE hk1, hC, ← hca, ← hhe]; exact H86
                    have H88 : St W w80 (BysA none 0 (takeT s d) :: LkA g (takeS s d) :: (F.set i emp)) := ((((H87.move 1 rfl).move 1 rfl).drop 2 rfl).drop 2 rfl)
                    have H89 : St W w80 (LkA g (takeS s d) :: (BysA none 0 (takeT s d) :: F).set (i + 1) emp) := (H88.move 1 rfl)
                    exact ⟨none, 0, by rw [hE, hT9]; rfl, St.back (i := i + 1) (by exact hi) H89⟩
                  · skip
                    refine q_cons (q_val rfl rfl rfl (by intro w hw; exact x_lss false rfl rfl (dfalse hc79) w) ?_)
                    refine q_cons (q_val rfl rfl rfl (by intro w hw; exact x_move (.bool false) rfl w) ?_)
                    refine q_cons (q_take rfl rfl ?_)
                    refine q_val rfl rfl rfl (by intro w hw; exact x_move (.bool (ahas E67 d.seq)) rfl w) ?_
                    refine q_cons (q_val rfl rfl rfl (by intro w hw; exact x_pick_f (.bool (ahas E67 d.seq)) rfl rfl w) ?_)
                    refine q_nil ?_
                    intro w90 H91
                    by_cases hb92 : (ahas E67 d.seq) = true
                    · skip
                      refine g_true (congrArg Value.bool hb92) ?_
                      refine g_seq ?_
                      refine g_region ?_
                      refine r_cons (s_assign (.slice none 0 0) rfl rfl ?_)
                      refine r_cons (s_assign (.int .i64 0) rfl rfl ?_)
                      refine r_nil ?_
                      refine g_ret' [.slice none 0 0, .int .i64 0] Try.func21 Try.results21 ⟨rfl, rfl, trivial⟩ ?_
                      have H93 : St W w90 (LkA g ({ ackS s d.ack.v with owes := true } : EndV) :: blk bk7 (.cells #[.int .i64 d.frm.v, .int .i64 d.to_.v, .int .i64 d.kind.v, .int .i64 d.seq.v, .int .i64 d.ack.v, .slice pp1 d.body.length cc2] 41 (0, 0)) :: Im 1 (.slice pp1 d.body.length cc2) d.body.length (d.body.flatMap u8c) :: (F.set i emp)) := St.shut_ex ⟨(m63, pp64, cc65, L66, E67), hL68, hE69⟩ (St.shut_star (ls := [blk g (.cells #[.int .i64 ((ackS s d.ack.v).frm.v), .int .i64 ((ackS s d.ack.v).to_.v), .int .i64 ((ackS s d.ack.v).slide : Int), .slice pp64 L66.length cc65, .int .i64 ((ackS s d.ack.v).acked : Int), .int .i64 ((i64N (ackS s d.ack.v).came).v), .map (some m63), .int .i64 ((ackS s d.ack.v).clock : Int), .bool true] 62 (0, 0)), Row 79 3 (.slice pp64 L66.length cc65) L66.length (L66.flatMap bodCell), byA (L66.map BodD.by), MapA m63 (ents (kI .i64) evD E67), byA (mby E67)]) H91)
                      have hC : takeC s d = ([], s.came, s.held) := takeC_no (by first | exact .inl (by omega) | (right; rw [← hhe, mapB_has hE69]; assumption))
                      have H94 := Row.nil_intro H93 26 1
                      have H95 := byA_nil H94
                      have H96 : St W w90 (Row 26 1 (.slice none 0 0) 0 [] :: byA ([] : List BytesD) :: LkA g ({ ackS s d.ack.v with owes := true } : EndV) :: blk bk7 (.cells #[.int .i64 d.frm.v, .int .i64 d.to_.v, .int .i64 d.kind.v, .int .i64 d.seq.v, .int .i64 d.ack.v, .slice pp1 d.body.length cc2] 41 (0, 0)) :: Im 1 (.slice pp1 d.body.length cc2) d.body.length (d.body.flatMap u8c) :: (F.set i emp)) := (H95.move 1 rfl)
                      have hT9 : takeT s d = [] := by rw [takeT_yes hE hk1, hC]
                      have H97 : St W w90 (BysA none 0 (takeT s d) :: LkA g ({ ackS s d.ack.v with owes := true } : EndV) :: blk bk7 (.cells #[.int .i64 d.frm.v, .int .i64 d.to_.v, .int .i64 d.kind.v, .int .i64 d.seq.v, .int .i64 d.ack.v, .slice pp1 d.body.length cc2] 41 (0, 0)) :: Im 1 (.slice pp1 d.body.length cc2) d.body.length (d.body.flatMap u8c) :: (F.set i emp)) := by rw [hT9]; exact St.shut_ex ⟨[], rfl⟩ (St.shut_star (ls := [Row 26 1 (.slice none 0 0) 0 [], byA ([] : List BytesD)]) H96)
                      have H98 : St W w90 (BysA none 0 (takeT s d) :: LkA g (takeS s d) :: blk bk7 (.cells #[.int .i64 d.frm.v, .int .i64 d.to_.v, .int .i64 d.kind.v, .int .i64 d.seq.v, .int .i64 d.ack.v, .slice pp1 d.body.length cc2] 41 (0, 0)) :: Im 1 (.slice pp1 d.body.length cc2) d.body.length (d.body.flatMap u8c) :: (F.set i emp)) := by rw [takeS_data hE hk1, hC, ← hca, ← hhe]; exact H97
                      have H99 : St W w90 (BysA none 0 (takeT s d) :: LkA g (takeS s d) :: (F.set i emp)) := ((((H98.move 1 rfl).move 1 rfl).drop 2 rfl).drop 2 rfl)
                      have H100 : St W w90 (LkA g (takeS s d) :: (BysA none 0 (takeT s d) :: F).set (i + 1) emp) := (H99.move 1 rfl)
                      exact ⟨none, 0, by rw [hE, hT9]; rfl, St.back (i := i + 1) (by exact hi) H100⟩
                    · have hb92 := eq_false_of_ne_true hb92
                      refine g_false (congrArg Value.bool hb92) ?_
                      refine g_skip ?_
                      refine g_seq ?_
                      have hno0 : ahas s.held d.seq = false := by rw [← hhe, mapB_has hE69]; assumption
                      have hC := takeC_yes (s := s) (d := d) (by rw [hno0]; simp only [Bool.false_eq_true, or_false]; omega)
                      have H101 : St W w90 (blk g (.cells #[.int .i64 ((ackS s d.ack.v).frm.v), .int .i64 ((ackS s d.ack.v).to_.v), .int .i64 ((ackS s d.ack.v).slide : Int), .slice pp64 L66.length cc65, .int .i64 ((ackS s d.ack.v).acked : Int), .int .i64 ((i64N (ackS s d.ack.v).came).v), .map (some m63), .int .i64 ((ackS s d.ack.v).clock : Int), .bool true] 62 (0, 0)) :: Row 79 3 (.slice pp64 L66.length cc65) L66.length (L66.flatMap bodCell) :: byA (L66.map BodD.by) :: byA (mby E67) :: blk bk7 (.cells #[.int .i64 d.frm.v, .int .i64 d.to_.v, .int .i64 d.kind.v, .int .i64 d.seq.v, .int .i64 d.ack.v, .slice pp1 d.body.length cc2] 41 (0, 0)) :: Im 1 (.slice pp1 d.body.length cc2) d.body.length (d.body.flatMap u8c) :: MapA m63 (ents (kI .i64) evD E67) :: (F.set i emp)) := (((((((H91.move 3 rfl).move 6 rfl).move 6 rfl).move 6 rfl).move 6 rfl).move 6 rfl).move 6 rfl)
                      refine g_mix (fun t_ w => St W w (blk g (.cells #[.int .i64 ((ackS s d.ack.v).frm.v), .int .i64 ((ackS s d.ack.v).to_.v), .int .i64 ((ackS s d.ack.v).slide : Int), .slice pp64 L66.length cc65, .int .i64 ((ackS s d.ack.v).acked : Int), .int .i64 ((i64N (ackS s d.ack.v).came).v), .map (some m63), .int .i64 ((ackS s d.ack.v).clock : Int), .bool true] 62 (0, 0)) :: Row 79 3 (.slice pp64 L66.length cc65) L66.length (L66.flatMap bodCell) :: byA (L66.map BodD.by) :: byA (mby E67) :: blk bk7 (.cells #[.int .i64 d.frm.v, .int .i64 d.to_.v, .int .i64 d.kind.v, .int .i64 d.seq.v, .int .i64 d.ack.v, .slice pp1 d.body.length cc2] 41 (0, 0)) :: Im 1 (.slice pp1 d.body.length cc2) d.body.length (d.body.flatMap u8c) :: t_)) (MapA m63 (ents (kI .i64) evD E67) :: (F.set i emp)) mixed 10 rfl H101.drew ?_
                      refine f_first 0 (listed' := #[true, false, false, false, false, false, false, false, false, false]) rfl (by kernel_rfl) (by kernel_rfl) (by kernel_rfl) rfl ?_
                      refine f_val rfl rfl rfl (by intro t_ w hw; exact x_move (.pointer (some ⟨g, 0, none⟩)) rfl w) ?_
                      refine f_first 1 (listed' := #[true, true, false, false, false, false, false, false, false, false]) rfl (by kernel_rfl) (by kernel_rfl) (by kernel_rfl) rfl ?_
                      refine f_val rfl rfl rfl (by intro t_ w hw; exact x_nilCheck (.pointer (some ⟨g, 0, none⟩)) rfl ⟨_, rfl⟩ w) ?_
                      refine f_first 2 (listed' := #[true, true, true, false, false, false, false, false, false, false]) rfl (by kernel_rfl) (by kernel_rfl) (by kernel_rfl) rfl ?_
                      refine f_val rfl rfl rfl (by intro t_ w hw; exact x_fieldAddr 62 5 6 6 60 rfl fi_62_5 rfl w) ?_
                      refine f_first 3 (listed' := #[true, true, true, true, false, false, false, false, false, false]) rfl (by kernel_rfl) (by kernel_rfl) (by kernel_rfl) rfl ?_
                      refine f_val rfl rfl rfl (by intro t_ w hw; exact x_load (.map (some m63)) ag_60 rfl (hw.blk_at (i := 0) rfl) rfl) ?_
                      refine f_first 4 (listed' := #[true, true, true, true, true, false, false, false, false, false]) rfl (by kernel_rfl) (by kernel_rfl) (by kernel_rfl) rfl ?_
                      refine f_val rfl rfl rfl (by intro t_ w hw; exact x_fieldAddr 41 3 3 3 2 rfl fi_41_3 rfl w) ?_
                      refine f_first 5 (listed' := #[true, true, true, true, true, true, false, false, false, false]) rfl (by kernel_rfl) (by kernel_rfl) (by kernel_rfl) rfl ?_
                      refine f_val rfl rfl rfl (by intro t_ w hw; exact x_load (.int .i64 d.seq.v) ag_2 rfl (hw.blk_at (i := 4) rfl) rfl) ?_
                      refine f_first 6 (listed' := #[true, true, true, true, true, true, true, false, false, false]) rfl (by kernel_rfl) (by kernel_rfl) (by kernel_rfl) rfl ?_
                      refine f_val rfl rfl rfl (by intro t_ w hw; exact x_fieldAddr 41 5 5 5 26 rfl fi_41_5 rfl w) ?_
                      refine f_first 7 (listed' := #[true, true, true, true, true, true, true, true, false, false]) rfl (by kernel_rfl) (by kernel_rfl) (by kernel_rfl) rfl ?_
                      refine f_val rfl rfl rfl (by intro t_ w hw; exact x_load (.slice pp1 d.body.length cc2) ag_26 rfl (hw.blk_at (i := 4) rfl) rfl) ?_
                      refine f_all (rs := [8]) (by kernel_rfl) (by simp) ?_
                      refine a_cons ⟨_, rfl, ?_⟩ (fun x hx => absurd hx (by simp))
                      intro w102 H103
                      try dsimp only at H103
                      refine s_call [.slice pp1 d.body.length cc2] pl_48 rfl rfl (clone_bytes _ _ d.body.length (d.body.flatMap u8c) RdA.im (by first | omega | (have hlp := Nat.le_refl 0; omega)) (j := 5) rfl H103) ?_
                      rintro _ w106 ⟨pp104, cc105, rfl, H107⟩
                      have H108 : St W w106 (blk g (.cells #[.int .i64 ((ackS s d.ack.v).frm.v), .int .i64 ((ackS s d.ack.v).to_.v), .int .i64 ((ackS s d.ack.v).slide : Int), .slice pp64 L66.length cc65, .int .i64 ((ackS s d.ack.v).acked : Int), .int .i64 ((i64N (ackS s d.ack.v).came).v), .map (some m63), .int .i64 ((ackS s d.ack.v).clock : Int), .bool true] 62 (0, 0)) :: Row 79 3 (.slice pp64 L66.length cc65) L66.length (L66.flatMap bodCell) :: byA (L66.map BodD.by) :: byA (mby E67) :: blk bk7 (.cells #[.int .i64 d.frm.v, .int .i64 d.to_.v, .int .i64 d.kind.v, .int .i64 d.seq.v, .int .i64 d.ack.v, .slice pp1 d.body.length cc2] 41 (0, 0)) :: Im 1 (.slice pp1 d.body.length cc2) d.body.length (d.body.flatMap u8c) :: Row 5 1 (.slice pp104 d.body.length cc105) d.body.length (d.body.flatMap u8c) :: MapA m63 (ents (kI .i64) evD E67) :: (F.set i emp)) := ((((((((H107.move 7 rfl).move 1 rfl).move 7 rfl).move 7 rfl).move 7 rfl).move 7 rfl).move 7 rfl).move 7 rfl)
                      refine ⟨Row 5 1 (.slice pp104 d.body.length cc105) d.body.length (d.body.flatMap u8c) :: MapA m63 (ents (kI .i64) evD E67) :: (F.set i emp), ?_, H108⟩
                      change FReg _ _ _ _ _ #[true, true, true, true, true, true, true, true, true, false] _ _
                      refine f_all (rs := [9]) (by kernel_rfl) (by simp) ?_
                      refine a_cons ⟨_, rfl, ?_⟩ (fun x hx => absurd hx (by simp))
                      intro w109 H110
                      try dsimp only at H110
                      refine s_mapUpdate (ek := (kI .i64)) (ev := evD) (L := E67) d.seq (⟨d.body, pp104, cc105⟩ : BytesD) H110 (i := 7) rfl (KeyLaw.I un_2) un_60 rfl rfl rfl ?_; intro w111 H112
                      have H113 : St W w111 (blk g (.cells #[.int .i64 ((ackS s d.ack.v).frm.v), .int .i64 ((ackS s d.ack.v).to_.v), .int .i64 ((ackS s d.ack.v).slide : Int), .slice pp64 L66.length cc65, .int .i64 ((ackS s d.ack.v).acked : Int), .int .i64 ((i64N (ackS s d.ack.v).came).v), .map (some m63), .int .i64 ((ackS s d.ack.v).clock : Int), .bool true] 62 (0, 0)) :: Row 79 3 (.slice pp64 L66.length cc65) L66.length (L66.flatMap bodCell) :: byA (L66.map BodD.by) :: byA (mby E67) :: blk bk7 (.cells #[.int .i64 d.frm.v, .int .i64 d.to_.v, .int .i64 d.kind.v, .int .i64 d.seq.v, .int .i64 d.ack.v, .slice pp1 d.body.length cc2] 41 (0, 0)) :: Im 1 (.slice pp1 d.body.length cc2) d.body.length (d.body.flatMap u8c) :: Row 5 1 (.slice pp104 d.body.length cc105) d.body.length (d.body.flatMap u8c) :: MapA m63 (ents (kI .i64) evD (aset E67 d.seq (⟨d.body, pp104, cc105⟩ : BytesD))) :: (F.set i emp)) := H112
                      refine ⟨Row 5 1 (.slice pp104 d.body.length cc105) d.body.length (d.body.flatMap u8c) :: MapA m63 (ents (kI .i64) evD (aset E67 d.seq (⟨d.body, pp104, cc105⟩ : BytesD))) :: (F.set i emp), ?_, H113⟩
                      change FReg _ _ _ _ _ #[true, true, true, true, true, true, true, true, true, true] _ _
                      refine f_done (by kernel_rfl) ?_
                      intro w114 H115
                      refine g_seq ?_
                      refine g_region ?_
                      refine r_cons (s_assign (.slice none 0 0) rfl rfl ?_)
                      refine r_nil ?_
                      refine g_block ?_
                      have H116 : St W w114 (blk g (.cells #[.int .i64 ((ackS s d.ack.v).frm.v), .int .i64 ((ackS s d.ack.v).to_.v), .int .i64 ((ackS s d.ack.v).slide : Int), .slice pp64 L66.length cc65, .int .i64 ((ackS s d.ack.v).acked : Int), .int .i64 ((i64N (ackS s d.ack.v).came).v), .map (some m63), .int .i64 ((ackS s d.ack.v).clock : Int), .bool true] 62 (0, 0)) :: Row 79 3 (.slice pp64 L66.length cc65) L66.length (L66.flatMap bodCell) :: byA (L66.map BodD.by) :: byA (mby E67) :: blk bk7 (.cells #[.int .i64 d.frm.v, .int .i64 d.to_.v, .int .i64 d.kind.v, .int .i64 d.seq.v, .int .i64 d.ack.v, .slice pp1 d.body.length cc2] 41 (0, 0)) :: Im 1 (.slice pp1 d.body.length cc2) d.body.length (d.body.flatMap u8c) :: Im 1 (.slice pp104 d.body.length cc105) d.body.length (d.body.flatMap u8c) :: MapA m63 (ents (kI .i64) evD (aset E67 d.seq (⟨d.body, pp104, cc105⟩ : BytesD))) :: (F.set i emp)) := Row.im H115 (i := 6) rfl
                      have H117 := byA_add (x := (⟨d.body, pp104, cc105⟩ : BytesD)) (M := mby (aset E67 d.seq (⟨d.body, pp104, cc105⟩ : BytesD))) H116 (i := 3) (j := 6) rfl rfl (mby_set (by rw [← mapB_has hE69, hhe]; exact hno0))
                      have H118 : St W w114 (byA (mby (aset E67 d.seq (⟨d.body, pp104, cc105⟩ : BytesD))) :: blk g (.cells #[.int .i64 ((ackS s d.ack.v).frm.v), .int .i64 ((ackS s d.ack.v).to_.v), .int .i64 ((ackS s d.ack.v).slide : Int), .slice pp64 L66.length cc65, .int .i64 ((ackS s d.ack.v).acked : Int), .int .i64 ((i64N s.came).v), .map (some m63), .int .i64 ((ackS s d.ack.v).clock : Int), .bool true] 62 (0, 0)) :: Row 79 3 (.slice pp64 L66.length cc65) L66.length (L66.flatMap bodCell) :: byA (L66.map BodD.by) :: byA (mby E67) :: blk bk7 (.cells #[.int .i64 d.frm.v, .int .i64 d.to_.v, .int .i64 d.kind.v, .int .i64 d.seq.v, .int .i64 d.ack.v, .slice pp1 d.body.length cc2] 41 (0, 0)) :: Im 1 (.slice pp1 d.body.length cc2) d.body.length (d.body.flatMap u8c) :: Im 1 (.slice pp104 d.body.length cc105) d.body.length (d.body.flatMap u8c) :: MapA m63 (ents (kI .i64) evD (aset E67 d.seq (⟨d.body, pp104, cc105⟩ : BytesD))) :: (F.set i emp)) := by rw [← hca]; exact H117
                      have H119 : St W w114 (blk g (.cells #[.int .i64 ((ackS s d.ack.v).frm.v), .int .i64 ((ackS s d.ack.v).to_.v), .int .i64 ((ackS s d.ack.v).slide : Int), .slice pp64 L66.length cc65, .int .i64 ((ackS s d.ack.v).acked : Int), .int .i64 ((i64N s.came).v), .map (some m63), .int .i64 ((ackS s d.ack.v).clock : Int), .bool true] 62 (0, 0)) :: Row 79 3 (.slice pp64 L66.length cc65) L66.length (L66.flatMap bodCell) :: byA (L66.map BodD.by) :: MapA m63 (ents (kI .i64) evD (aset E67 d.seq (⟨d.body, pp104, cc105⟩ : BytesD))) :: byA (mby (aset E67 d.seq (⟨d.body, pp104, cc105⟩ : BytesD))) :: byA (mby E67) :: blk bk7 (.cells #[.int .i64 d.frm.v, .int .i64 d.to_.v, .int .i64 d.kind.v, .int .i64 d.seq.v, .int .i64 d.ack.v, .slice pp1 d.body.length cc2] 41 (0, 0)) :: Im 1 (.slice pp1 d.body.length cc2) d.body.length (d.body.flatMap u8c) :: Im 1 (.slice pp104 d.body.length cc105) d.body.length (d.body.flatMap u8c) :: (F.set i emp)) := ((((H118.move 8 rfl).move 4 rfl).move 4 rfl).move 4 rfl)
                      have H120 : St W w114 (LkA g (drS (ackS s d.ack.v) s.came (s.held ++ [(d.seq, d.body)])) :: byA (mby E67) :: blk bk7 (.cells #[.int .i64 d.frm.v, .int .i64 d.to_.v, .int .i64 d.kind.v, .int .i64 d.seq.v, .int .i64 d.ack.v, .slice pp1 d.body.length cc2] 41 (0, 0)) :: Im 1 (.slice pp1 d.body.length cc2) d.body.length (d.body.flatMap u8c) :: Im 1 (.slice pp104 d.body.length cc105) d.body.length (d.body.flatMap u8c) :: (F.set i emp)) := St.shut_ex ⟨(m63, pp64, cc65, L66, (aset E67 d.seq (⟨d.body, pp104, cc105⟩ : BytesD))), hL68, (show mapB (aset E67 d.seq (⟨d.body, pp104, cc105⟩ : BytesD)) = s.held ++ [(d.seq, d.body)] from by rw [mapB_set hE69 (⟨d.body, pp104, cc105⟩ : BytesD) (by rw [hhe]; exact hno0), hhe])⟩ (St.shut_star (ls := [blk g (.cells #[.int .i64 ((ackS s d.ack.v).frm.v), .int .i64 ((ackS s d.ack.v).to_.v), .int .i64 ((ackS s d.ack.v).slide : Int), .slice pp64 L66.length cc65, .int .i64 ((ackS s d.ack.v).acked : Int), .int .i64 ((i64N s.came).v), .map (some m63), .int .i64 ((ackS s d.ack.v).clock : Int), .bool true] 62 (0, 0)), Row 79 3 (.slice pp64 L66.length cc65) L66.length (L66.flatMap bodCell), byA (L66.map BodD.by), MapA m63 (ents (kI .i64) evD (aset E67 d.seq (⟨d.body, pp104, cc105⟩ : BytesD))), byA (mby (aset E67 d.seq (⟨d.body, pp104, cc105⟩ : BytesD)))]) H119)
                      have H121 := Row.nil_intro H120 26 1
                      have H122 := byA_nil H121
                      have H123 : St W w114 (Row 26 1 (.slice none 0 0) 0 [] :: byA ([] : List BytesD) :: LkA g (drS (ackS s d.ack.v) s.came (s.held ++ [(d.seq, d.body)])) :: (F.set i emp)) := (((((((H122.move 2 rfl).move 1 rfl).move 2 rfl).drop 3 rfl).drop 3 rfl).drop 3 rfl).drop 3 rfl)
                      have H124 : St W w114 (Row 26 1 (.slice none 0 0) 0 [] :: byA ([] : List BytesD) :: LkA g (drS (ackS s d.ack.v) s.came (s.held ++ [(d.seq, d.body)])) :: (F.set i emp)) := H123
                      refine g_loop_inv (fun (x_ : Nat × (List (I64 × List UInt8)) × (List BytesD) × (Option Addr) × Nat) => match x_ with | (c9, h9, O, p, c) => [(0, .pointer (some ⟨g, 0, none⟩)), (4, .slice none 0 0), (5, .int .i64 0), (10, .slice p O.length c)]) (fun (x_ : Nat × (List (I64 × List UInt8)) × (List BytesD) × (Option Addr) × Nat) w => match x_ with | (c9, h9, O, p, c) => (DrI (drain (s.held ++ [(d.seq, d.body)]).length s.came (s.held ++ [(d.seq, d.body)])) (O.map BytesD.data) c9 h9) ∧ (c9 ≤ 1099511627777) ∧ (∀ x ∈ h9, x.1.v ≤ 1099511627776) ∧ (O.length + h9.length ≤ s.held.length + 1) ∧ St W w (Row 26 1 (.slice p O.length c) O.length (O.flatMap byCell) :: byA O :: LkA g (drS (ackS s d.ack.v) c9 h9) :: (F.set i emp))) (fun (x_ : Nat × (List (I64 × List UInt8)) × (List BytesD) × (Option Addr) × Nat) => match x_ with | (c9, h9, O, p, c) => h9.length) (s.came, s.held ++ [(d.seq, d.body)], [], none, 0) ?_ ?_ ?_
                      · exact ⟨by first | rfl | exact vint (by omega), by first | rfl | exact vint (by omega), by first | rfl | exact vint (by omega), by first | rfl | exact vint (by omega), trivial⟩
                      · exact ⟨(DrI.start _ _), (by omega), (fun x hx => (List.mem_append.1 hx).elim (o8 x) (fun h => by rw [List.mem_singleton] at h; subst h; exact q2)), (by simp), H124⟩
                      · rintro ⟨c9, h9, O, p, c⟩ ρ125 w126 ⟨hDr, hc9, hh9, hl9, H127⟩ nx128
                        change Ends _ _ (upds ρ125 [(0, .pointer (some ⟨g, 0, none⟩)), (4, .slice none 0 0), (5, .int .i64 0), (10, .slice p O.length c)]) w126
                        refine g_block ?_
                        refine g_seq ?_
                        have H129 := H127.move 2 rfl
                        obtain ⟨⟨⟨m130, pp131, cc132, L133, E134⟩, hL135, hE136⟩, H137⟩ := St.open_ex H129
                        have H138 := St.open_star H137
                        change L133.map BodD.v = (drS (ackS s d.ack.v) c9 h9).l at hL135; change mapB E134 = (drS (ackS s d.ack.v) c9 h9).held at hE136
                        have hl139 := lenOf hL135; have he140 := mapB_len hE136
                        have H141 : St W w126 (blk g (.cells #[.int .i64 ((drS (ackS s d.ack.v) c9 h9).frm.v), .int .i64 ((drS (ackS s d.ack.v) c9 h9).to_.v), .int .i64 ((drS (ackS s d.ack.v) c9 h9).slide : Int), .slice pp131 L133.length cc132, .int .i64 ((drS (ackS s d.ack.v) c9 h9).acked : Int), .int .i64 ((i64N (drS (ackS s d.ack.v) c9 h9).came).v), .map (some m130), .int .i64 ((drS (ackS s d.ack.v) c9 h9).clock : Int), .bool ((drS (ackS s d.ack.v) c9 h9).owes)] 62 (0, 0)) :: Row 79 3 (.slice pp131 L133.length cc132) L133.length (L133.flatMap bodCell) :: byA (L133.map BodD.by) :: MapA m130 (ents (kI .i64) evD E134) :: byA (mby E134) :: Row 26 1 (.slice p O.length c) O.length (O.flatMap byCell) :: byA O :: (F.set i emp)) := H138
                        have hcv : (i64N (drS (ackS s d.ack.v) c9 h9).came).v = (c9 : Int) := i64N_v (n := c9) (by omega); have hcw := i64N_v (n := c9) (by omega)
                        refine g_quiet (fun w' => St W w' (blk g (.cells #[.int .i64 ((drS (ackS s d.ack.v) c9 h9).frm.v), .int .i64 ((drS (ackS s d.ack.v) c9 h9).to_.v), .int .i64 ((drS (ackS s d.ack.v) c9 h9).slide : Int), .slice pp131 L133.length cc132, .int .i64 ((drS (ackS s d.ack.v) c9 h9).acked : Int), .int .i64 ((i64N (drS (ackS s d.ack.v) c9 h9).came).v), .map (some m130), .int .i64 ((drS (ackS s d.ack.v) c9 h9).clock : Int), .bool ((drS (ackS s d.ack.v) c9 h9).owes)] 62 (0, 0)) :: Row 79 3 (.slice pp131 L133.length cc132) L133.length (L133.flatMap bodCell) :: byA (L133.map BodD.by) :: MapA m130 (ents (kI .i64) evD E134) :: byA (mby E134) :: Row 26 1 (.slice p O.length c) O.length (O.flatMap byCell) :: byA O :: (F.set i emp))) mixed (by kernel_rfl) H141.drew ?_
                        refine q_cons (q_val rfl rfl rfl (by intro w hw; exact x_move (.pointer (some ⟨g, 0, none⟩)) rfl w) ?_)
                        refine q_cons (q_val rfl rfl rfl (by intro w hw; exact x_nilCheck (.pointer (some ⟨g, 0, none⟩)) rfl ⟨_, rfl⟩ w) ?_)
                        refine q_cons (q_val rfl rfl rfl (by intro w hw; exact x_fieldAddr 62 5 6 6 60 rfl fi_62_5 rfl w) ?_)
                        refine q_cons (q_val rfl rfl rfl (by intro w hw; exact x_load (.map (some m130)) ag_60 rfl (hw.blk_at (i := 0) rfl) rfl) ?_)
                        refine q_cons (q_val rfl rfl rfl (by intro w hw; exact x_move (.pointer (some ⟨g, 0, none⟩)) rfl w) ?_)
                        refine q_cons (q_val rfl rfl rfl (by intro w hw; exact x_nilCheck (.pointer (some ⟨g, 0, none⟩)) rfl ⟨_, rfl⟩ w) ?_)
                        refine q_cons (q_val rfl rfl rfl (by intro w hw; exact x_fieldAddr 62 4 5 5 2 rfl fi_62_4 rfl w) ?_)
                        refine q_cons (q_val rfl rfl rfl (by intro w hw; exact x_load (.int .i64 ((i64N (drS (ackS s d.ack.v) c9 h9).came).v)) ag_2 rfl (hw.blk_at (i := 0) rfl) rfl) ?_)
                        refine q_cons (q_val rfl rfl rfl (by intro w hw; exact x_lookup2 (ek := (kI .i64)) (ev := evD) (L := E134) (i64N (drS (ackS s d.ack.v) c9 h9).came) ((lookV evD (.slice none 0 0) E134 (i64N (drS (ackS s d.ack.v) c9 h9).came))) (ahas E134 (i64N (drS (ackS s d.ack.v) c9 h9).came)) (MapA.at hw (i := 3) rfl) (KeyLaw.I un_2) un_60 zv_26 rfl rfl (rfl) rfl) ?_)
                        refine q_cons (q_val rfl rfl rfl (by intro w hw; exact x_move (.tuple #[(lookV evD (.slice none 0 0) E134 (i64N (drS (ackS s d.ack.v) c9 h9).came)), .bool (ahas E134 (i64N (drS (ackS s d.ack.v) c9 h9).came))]) rfl w) ?_)
                        refine q_cons (q_val rfl rfl rfl (by intro w hw; exact x_extract ((lookV evD (.slice none 0 0) E134 (i64N (drS (ackS s d.ack.v) c9 h9).came))) #[(lookV evD (.slice none 0 0) E134 (i64N (drS (ackS s d.ack.v) c9 h9).came)), .bool (ahas E134 (i64N (drS (ackS s d.ack.v) c9 h9).came))] rfl rfl w) ?_)
                        refine q_cons (q_val rfl rfl rfl (by intro w hw; exact x_extract (.bool (ahas E134 (i64N (drS (ackS s d.ack.v) c9 h9).came))) #[(lookV evD (.slice none 0 0) E134 (i64N (drS (ackS s d.ack.v) c9 h9).came)), .bool (ahas E134 (i64N (drS (ackS s d.ack.v) c9 h9).came))] rfl rfl w) ?_)
                        refine q_cons (q_val rfl rfl rfl (by intro w hw; exact x_assign ((lookV evD (.slice none 0 0) E134 (i64N (drS (ackS s d.ack.v) c9 h9).came))) rfl w) ?_)
                        refine q_cons (q_val rfl rfl rfl (by intro w hw; exact x_assign (.bool (ahas E134 (i64N (drS (ackS s d.ack.v) c9 h9).came))) rfl w) ?_)
                        refine q_nil ?_
                        intro w142 H143
                        refine g_seq ?_
                        refine g_seq ?_
                        refine g_region ?_
                        refine r_cons (s_move (.bool (ahas E134 (i64N (drS (ackS s d.ack.v) c9 h9).came))) rfl rfl ?_)
                        refine r_cons (s_not (ahas E134 (i64N (drS (ackS s d.ack.v) c9 h9).came)) rfl (!(ahas E134 (i64N (drS (ackS s d.ack.v) c9 h9).came))) rfl rfl ?_)
                        refine r_nil ?_
                        by_cases hb144 : (!(ahas E134 (i64N (drS (ackS s d.ack.v) c9 h9).came))) = true
                        · skip
                          refine g_true (congrArg Value.bool hb144) ?_
                          refine g_seq ?_
                          refine g_region ?_
                          have hno : ahas h9 (i64N c9) = false := by rw [mapB_has (show mapB E134 = h9 from hE136)]; show ahas E134 (i64N (drS (ackS s d.ack.v) c9 h9).came) = false; simpa using hb144
                          refine r_cons (s_move (.slice p O.length c) rfl rfl ?_)
                          refine r_cons (s_assign (.slice p O.length c) rfl rfl ?_)
                          refine r_cons (s_assign (.int .i64 0) rfl rfl ?_)
                          refine r_nil ?_
                          refine g_ret' [.slice p O.length c, .int .i64 0] Try.func21 Try.results21 ⟨rfl, rfl, trivial⟩ ?_
                          have H145 : St W w142 (LkA g (drS (ackS s d.ack.v) c9 h9) :: Row 26 1 (.slice p O.length c) O.length (O.flatMap byCell) :: byA O :: (F.set i emp)) := St.shut_ex ⟨(m130, pp131, cc132, L133, E134), hL135, hE136⟩ (St.shut_star (ls := [blk g (.cells #[.int .i64 ((drS (ackS s d.ack.v) c9 h9).frm.v), .int .i64 ((drS (ackS s d.ack.v) c9 h9).to_.v), .int .i64 ((drS (ackS s d.ack.v) c9 h9).slide : Int), .slice pp131 L133.length cc132, .int .i64 ((drS (ackS s d.ack.v) c9 h9).acked : Int), .int .i64 ((i64N (drS (ackS s d.ack.v) c9 h9).came).v), .map (some m130), .int .i64 ((drS (ackS s d.ack.v) c9 h9).clock : Int), .bool ((drS (ackS s d.ack.v) c9 h9).owes)] 62 (0, 0)), Row 79 3 (.slice pp131 L133.length cc132) L133.length (L133.flatMap bodCell), byA (L133.map BodD.by), MapA m130 (ents (kI .i64) evD E134), byA (mby E134)]) H143)
                          have hd9 := hDr.stop hno
                          have hT9 : takeT s d = O.map BytesD.data := by rw [takeT_yes hE hk1, hC, hd9]
                          have H146 : St W w142 (Row 26 1 (.slice p O.length c) O.length (O.flatMap byCell) :: byA O :: LkA g (drS (ackS s d.ack.v) c9 h9) :: (F.set i emp)) := ((H145.move 2 rfl).move 2 rfl)
                          have hn147 : (takeT s d).length = O.length := (by rw [hT9, List.length_map])
                          have H148 : St W w142 (Row 26 1 (.slice p ((takeT s d).length) c) ((takeT s d).length) (O.flatMap byCell) :: byA O :: LkA g (drS (ackS s d.ack.v) c9 h9) :: (F.set i emp)) := by rw [hn147]; exact H146
                          have H149 : St W w142 (BysA p c (takeT s d) :: LkA g (drS (ackS s d.ack.v) c9 h9) :: (F.set i emp)) := St.shut_ex ⟨O, hT9.symm⟩ (St.shut_star (ls := [Row 26 1 (.slice p ((takeT s d).length) c) ((takeT s d).length) (O.flatMap byCell), byA O]) H148)
                          have H150 : St W w142 (BysA p c (takeT s d) :: LkA g (takeS s d) :: (F.set i emp)) := by rw [takeS_data hE hk1, hC, hd9]; exact H149
                          have H151 : St W w142 (BysA p c (takeT s d) :: LkA g (takeS s d) :: (F.set i emp)) := ((H150.move 1 rfl).move 1 rfl)
                          have H152 : St W w142 (LkA g (takeS s d) :: (BysA p c (takeT s d) :: F).set (i + 1) emp) := (H151.move 1 rfl)
                          exact ⟨_, _, by rw [hE, hn147]; rfl, St.back (i := i + 1) (by exact hi) H152⟩
                        · have hb144 := eq_false_of_ne_true hb144
                          refine g_false (congrArg Value.bool hb144) ?_
                          refine g_skip ?_
                          refine g_seq ?_
                          obtain ⟨x9, hx9⟩ : ∃ x, aget E134 (i64N (drS (ackS s d.ack.v) c9 h9).came) = some x := Option.isSome_iff_exists.1 (by rw [aget_has]; simpa using hb144)
                          have hg9 : aget h9 (i64N c9) = some x9.data := by rw [mapB_get (show mapB E134 = h9 from hE136)]; exact congrArg (Option.map BytesD.data) hx9
                          have hk9 := hh9 _ (aget_mem hg9); simp only at hk9
                          have hhl := adel_len (has_of_get hg9)
                          rw [look_some hx9]
                          have H153 : St W w142 (blk g (.cells #[.int .i64 ((drS (ackS s d.ack.v) c9 h9).frm.v), .int .i64 ((drS (ackS s d.ack.v) c9 h9).to_.v), .int .i64 ((drS (ackS s d.ack.v) c9 h9).slide : Int), .slice pp131 L133.length cc132, .int .i64 ((drS (ackS s d.ack.v) c9 h9).acked : Int), .int .i64 ((i64N (drS (ackS s d.ack.v) c9 h9).came).v), .map (some m130), .int .i64 ((drS (ackS s d.ack.v) c9 h9).clock : Int), .bool ((drS (ackS s d.ack.v) c9 h9).owes)] 62 (0, 0)) :: Row 79 3 (.slice pp131 L133.length cc132) L133.length (L133.flatMap bodCell) :: byA (L133.map BodD.by) :: byA (mby E134) :: Row 26 1 (.slice p O.length c) O.length (O.flatMap byCell) :: byA O :: MapA m130 (ents (kI .i64) evD E134) :: (F.set i emp)) := (((((((H143.move 3 rfl).move 6 rfl).move 6 rfl).move 6 rfl).move 6 rfl).move 6 rfl).move 6 rfl)
                          refine g_mix (fun t_ w => St W w (blk g (.cells #[.int .i64 ((drS (ackS s d.ack.v) c9 h9).frm.v), .int .i64 ((drS (ackS s d.ack.v) c9 h9).to_.v), .int .i64 ((drS (ackS s d.ack.v) c9 h9).slide : Int), .slice pp131 L133.length cc132, .int .i64 ((drS (ackS s d.ack.v) c9 h9).acked : Int), .int .i64 ((i64N (drS (ackS s d.ack.v) c9 h9).came).v), .map (some m130), .int .i64 ((drS (ackS s d.ack.v) c9 h9).clock : Int), .bool ((drS (ackS s d.ack.v) c9 h9).owes)] 62 (0, 0)) :: Row 79 3 (.slice pp131 L133.length cc132) L133.length (L133.flatMap bodCell) :: byA (L133.map BodD.by) :: byA (mby E134) :: Row 26 1 (.slice p O.length c) O.length (O.flatMap byCell) :: byA O :: t_)) (MapA m130 (ents (kI .i64) evD E134) :: (F.set i emp)) mixed 9 rfl H153.drew ?_
                          refine f_first 0 (listed' := #[true, false, false, false, false, false, false, false, false]) rfl (by kernel_rfl) (by kernel_rfl) (by kernel_rfl) rfl ?_
                          refine f_val rfl rfl rfl (by intro t_ w hw; exact x_move (.pointer (some ⟨g, 0, none⟩)) rfl w) ?_
                          refine f_first 1 (listed' := #[true, true, false, false, false, false, false, false, false]) rfl (by kernel_rfl) (by kernel_rfl) (by kernel_rfl) rfl ?_
                          refine f_val rfl rfl rfl (by intro t_ w hw; exact x_nilCheck (.pointer (some ⟨g, 0, none⟩)) rfl ⟨_, rfl⟩ w) ?_
                          refine f_first 2 (listed' := #[true, true, true, false, false, false, false, false, false]) rfl (by kernel_rfl) (by kernel_rfl) (by kernel_rfl) rfl ?_
                          refine f_val rfl rfl rfl (by intro t_ w hw; exact x_fieldAddr 62 5 6 6 60 rfl fi_62_5 rfl w) ?_
                          refine f_first 3 (listed' := #[true, true, true, true, false, false, false, false, false]) rfl (by kernel_rfl) (by kernel_rfl) (by kernel_rfl) rfl ?_
                          refine f_val rfl rfl rfl (by intro t_ w hw; exact x_load (.map (some m130)) ag_60 rfl (hw.blk_at (i := 0) rfl) rfl) ?_
                          refine f_first 4 (listed' := #[true, true, true, true, true, false, false, false, false]) rfl (by kernel_rfl) (by kernel_rfl) (by kernel_rfl) rfl ?_
                          refine f_val rfl rfl rfl (by intro t_ w hw; exact x_move (.pointer (some ⟨g, 0, none⟩)) rfl w) ?_
                          refine f_first 5 (listed' := #[true, true, true, true, true, true, false, false, false]) rfl (by kernel_rfl) (by kernel_rfl) (by kernel_rfl) rfl ?_
                          refine f_val rfl rfl rfl (by intro t_ w hw; exact x_nilCheck (.pointer (some ⟨g, 0, none⟩)) rfl ⟨_, rfl⟩ w) ?_
                          refine f_first 6 (listed' := #[true, true, true, true, true, true, true, false, false]) rfl (by kernel_rfl) (by kernel_rfl) (by kernel_rfl) rfl ?_
                          refine f_val rfl rfl rfl (by intro t_ w hw; exact x_fieldAddr 62 4 5 5 2 rfl fi_62_4 rfl w) ?_
                          refine f_first 7 (listed' := #[true, true, true, true, true, true, true, true, false]) rfl (by kernel_rfl) (by kernel_rfl) (by kernel_rfl) rfl ?_
                          refine f_val rfl rfl rfl (by intro t_ w hw; exact x_load (.int .i64 ((i64N (drS (ackS s d.ack.v) c9 h9).came).v)) ag_2 rfl (hw.blk_at (i := 0) rfl) rfl) ?_
                          refine f_all (rs := [8]) (by kernel_rfl) (by simp) ?_
                          refine a_cons ⟨_, rfl, ?_⟩ (fun x hx => absurd hx (by simp))
                          intro w154 H155
                          try dsimp only at H155
                          refine s_delete (ek := (kI .i64)) (ev := evD) (L := E134) (i64N (drS (ackS s d.ack.v) c9 h9).came) H155 (i := 6) rfl (KeyLaw.I un_2) un_60 rfl rfl ?_; intro w156 H157
                          have H158 : St W w156 (blk g (.cells #[.int .i64 ((drS (ackS s d.ack.v) c9 h9).frm.v), .int .i64 ((drS (ackS s d.ack.v) c9 h9).to_.v), .int .i64 ((drS (ackS s d.ack.v) c9 h9).slide : Int), .slice pp131 L133.length cc132, .int .i64 ((drS (ackS s d.ack.v) c9 h9).acked : Int), .int .i64 ((i64N (drS (ackS s d.ack.v) c9 h9).came).v), .map (some m130), .int .i64 ((drS (ackS s d.ack.v) c9 h9).clock : Int), .bool ((drS (ackS s d.ack.v) c9 h9).owes)] 62 (0, 0)) :: Row 79 3 (.slice pp131 L133.length cc132) L133.length (L133.flatMap bodCell) :: byA (L133.map BodD.by) :: byA (mby E134) :: Row 26 1 (.slice p O.length c) O.length (O.flatMap byCell) :: byA O :: MapA m130 (ents (kI .i64) evD (adel E134 (i64N (drS (ackS s d.ack.v) c9 h9).came))) :: (F.set i emp)) := H157
                          refine ⟨MapA m130 (ents (kI .i64) evD (adel E134 (i64N (drS (ackS s d.ack.v) c9 h9).came))) :: (F.set i emp), ?_, H158⟩
                          change FReg _ _ _ _ _ #[true, true, true, true, true, true, true, true, true] _ _
                          refine f_done (by kernel_rfl) ?_
                          intro w159 H160
                          refine g_seq ?_
                          refine g_region ?_
                          refine r_cons (s_move (.pointer (some ⟨g, 0, none⟩)) rfl rfl ?_)
                          refine r_cons (s_nilCheck (.pointer (some ⟨g, 0, none⟩)) rfl ⟨_, rfl⟩ rfl ?_)
                          refine r_cons (s_fieldAddr 62 4 5 5 2 rfl fi_62_4 rfl rfl ?_)
                          refine r_cons (s_load (.int .i64 ((i64N (drS (ackS s d.ack.v) c9 h9).came).v)) ag_2 rfl (H160.blk_at (i := 0) rfl) rfl rfl ?_)
                          refine r_cons (s_add ((c9 + 1 : Nat) : Int) rfl rfl ((wi64 (by omega)).trans (by omega)) rfl ?_)
                          refine r_cons (s_nilCheck (.pointer (some ⟨g, 0, none⟩)) rfl ⟨_, rfl⟩ rfl ?_)
                          refine r_cons (s_fieldAddr 62 4 5 5 2 rfl fi_62_4 rfl rfl ?_)
                          refine r_cons (s_store H160 0 (.int .i64 ((c9 + 1 : Nat) : Int)) rfl rfl rfl sz_2 rfl (Nat.le_of_ble_eq_true rfl) rfl (cs' := #[.int .i64 ((drS (ackS s d.ack.v) c9 h9).frm.v), .int .i64 ((drS (ackS s d.ack.v) c9 h9).to_.v), .int .i64 ((drS (ackS s d.ack.v) c9 h9).slide : Int), .slice pp131 L133.length cc132, .int .i64 ((drS (ackS s d.ack.v) c9 h9).acked : Int), .int .i64 ((c9 + 1 : Nat) : Int), .map (some m130), .int .i64 ((drS (ackS s d.ack.v) c9 h9).clock : Int), .bool ((drS (ackS s d.ack.v) c9 h9).owes)]) rfl ?_); intro w161 H162
                          refine r_nil ?_
                          refine g_region ?_
                          refine r_cons (s_move (.slice p O.length c) rfl rfl ?_)
                          refine r_cons (s_move (.slice x9.p x9.data.length x9.c) rfl rfl ?_)
                          refine r_cons (s_buildSlice H162 1 1 (cs := #[.slice x9.p x9.data.length x9.c]) #[.slice none 0 0] el_32 ze_26 (by decide) (by decide) (by kernel_rfl) rfl ?_); intro bk163 w164 H165
                          refine r_cons (s_append H165 5 rfl rfl rfl (rd_blk (H165.blk_at (i := 0) rfl) rfl (Nat.le_of_ble_eq_true rfl) (by simp [Value.oneCell'])) ap_32 (by decide) (by unfold maxLen; omega) (by omega) (n' := O.length + 1) (xs' := O.flatMap byCell ++ ([.slice x9.p x9.data.length x9.c] : List Value)) (by omega) (by first | rfl | simp) rfl ?_); intro vv166 w167 H168 hn169
                          obtain ⟨pp170, cc171, rfl⟩ := Row.slice H168 (i := 5) rfl
                          refine r_cons (s_assign (.slice pp170 (O.length + 1) cc171) rfl rfl ?_)
                          refine r_nil ?_
                          refine g_inBlock ?_
                          have H172 : St W w167 (blk bk163 (.cells #[.slice x9.p x9.data.length x9.c] 26 (0, 0)) :: blk g (.cells #[.int .i64 ((drS (ackS s d.ack.v) c9 h9).frm.v), .int .i64 ((drS (ackS s d.ack.v) c9 h9).to_.v), .int .i64 ((drS (ackS s d.ack.v) c9 h9).slide : Int), .slice pp131 L133.length cc132, .int .i64 ((drS (ackS s d.ack.v) c9 h9).acked : Int), .int .i64 ((i64N (c9 + 1)).v), .map (some m130), .int .i64 ((drS (ackS s d.ack.v) c9 h9).clock : Int), .bool ((drS (ackS s d.ack.v) c9 h9).owes)] 62 (0, 0)) :: Row 79 3 (.slice pp131 L133.length cc132) L133.length (L133.flatMap bodCell) :: byA (L133.map BodD.by) :: byA (mby E134) :: Row 26 1 (.slice pp170 ((O ++ [x9]).length) cc171) ((O ++ [x9]).length) ((O ++ [x9]).flatMap byCell) :: byA O :: MapA m130 (ents (kI .i64) evD (adel E134 (i64N (drS (ackS s d.ack.v) c9 h9).came))) :: (F.set i emp)) := by rw [i64N_v (n := c9 + 1) (by omega), flat_app, flat_one, List.length_append]; exact H168
                          have H173 : St W w167 (Im 1 (.slice x9.p x9.data.length x9.c) x9.data.length (x9.data.flatMap u8c) :: blk bk163 (.cells #[.slice x9.p x9.data.length x9.c] 26 (0, 0)) :: blk g (.cells #[.int .i64 ((drS (ackS s d.ack.v) c9 h9).frm.v), .int .i64 ((drS (ackS s d.ack.v) c9 h9).to_.v), .int .i64 ((drS (ackS s d.ack.v) c9 h9).slide : Int), .slice pp131 L133.length cc132, .int .i64 ((drS (ackS s d.ack.v) c9 h9).acked : Int), .int .i64 ((i64N (c9 + 1)).v), .map (some m130), .int .i64 ((drS (ackS s d.ack.v) c9 h9).clock : Int), .bool ((drS (ackS s d.ack.v) c9 h9).owes)] 62 (0, 0)) :: Row 79 3 (.slice pp131 L133.length cc132) L133.length (L133.flatMap bodCell) :: byA (L133.map BodD.by) :: byA (mby E134) :: Row 26 1 (.slice pp170 ((O ++ [x9]).length) cc171) ((O ++ [x9]).length) ((O ++ [x9]).flatMap byCell) :: byA O :: MapA m130 (ents (kI .i64) evD (adel E134 (i64N (drS (ackS s d.ack.v) c9 h9).came))) :: (F.set i emp)) := byA_at H172 (i := 4) rfl (mby_get hx9)
                          have H174 := byA_add (x := x9) H173 (i := 7) (j := 0) rfl rfl snoc_b
                          have H175 := byA_sub (M := mby (adel E134 (i64N (drS (ackS s d.ack.v) c9 h9).came))) H174 (i := 6) rfl mby_del
                          have H176 : St W w167 (blk g (.cells #[.int .i64 ((drS (ackS s d.ack.v) c9 h9).frm.v), .int .i64 ((drS (ackS s d.ack.v) c9 h9).to_.v), .int .i64 ((drS (ackS s d.ack.v) c9 h9).slide : Int), .slice pp131 L133.length cc132, .int .i64 ((drS (ackS s d.ack.v) c9 h9).acked : Int), .int .i64 ((i64N (c9 + 1)).v), .map (some m130), .int .i64 ((drS (ackS s d.ack.v) c9 h9).clock : Int), .bool ((drS (ackS s d.ack.v) c9 h9).owes)] 62 (0, 0)) :: Row 79 3 (.slice pp131 L133.length cc132) L133.length (L133.flatMap bodCell) :: byA (L133.map BodD.by) :: MapA m130 (ents (kI .i64) evD (adel E134 (i64N (drS (ackS s d.ack.v) c9 h9).came))) :: byA (mby (adel E134 (i64N (drS (ackS s d.ack.v) c9 h9).came))) :: byA (O ++ [x9]) :: Im 1 (.slice x9.p x9.data.length x9.c) x9.data.length (x9.data.flatMap u8c) :: blk bk163 (.cells #[.slice x9.p x9.data.length x9.c] 26 (0, 0)) :: byA (mby E134) :: Row 26 1 (.slice pp170 ((O ++ [x9]).length) cc171) ((O ++ [x9]).length) ((O ++ [x9]).flatMap byCell) :: byA O :: (F.set i emp)) := ((((H175.move 10 rfl).move 7 rfl).move 7 rfl).move 7 rfl)
                          have H177 : St W w167 (LkA g (drS (ackS s d.ack.v) (c9 + 1) (adel h9 (i64N c9))) :: byA (O ++ [x9]) :: Im 1 (.slice x9.p x9.data.length x9.c) x9.data.length (x9.data.flatMap u8c) :: blk bk163 (.cells #[.slice x9.p x9.data.length x9.c] 26 (0, 0)) :: byA (mby E134) :: Row 26 1 (.slice pp170 ((O ++ [x9]).length) cc171) ((O ++ [x9]).length) ((O ++ [x9]).flatMap byCell) :: byA O :: (F.set i emp)) := St.shut_ex ⟨(m130, pp131, cc132, L133, (adel E134 (i64N (drS (ackS s d.ack.v) c9 h9).came))), hL135, (show mapB (adel E134 (i64N (drS (ackS s d.ack.v) c9 h9).came)) = adel h9 (i64N c9) from mapB_del hE136 _)⟩ (St.shut_star (ls := [blk g (.cells #[.int .i64 ((drS (ackS s d.ack.v) c9 h9).frm.v), .int .i64 ((drS (ackS s d.ack.v) c9 h9).to_.v), .int .i64 ((drS (ackS s d.ack.v) c9 h9).slide : Int), .slice pp131 L133.length cc132, .int .i64 ((drS (ackS s d.ack.v) c9 h9).acked : Int), .int .i64 ((i64N (c9 + 1)).v), .map (some m130), .int .i64 ((drS (ackS s d.ack.v) c9 h9).clock : Int), .bool ((drS (ackS s d.ack.v) c9 h9).owes)] 62 (0, 0)), Row 79 3 (.slice pp131 L133.length cc132) L133.length (L133.flatMap bodCell), byA (L133.map BodD.by), MapA m130 (ents (kI .i64) evD (adel E134 (i64N (drS (ackS s d.ack.v) c9 h9).came))), byA (mby (adel E134 (i64N (drS (ackS s d.ack.v) c9 h9).came)))]) H176)
                          have H178 : St W w167 (Row 26 1 (.slice pp170 ((O ++ [x9]).length) cc171) ((O ++ [x9]).length) ((O ++ [x9]).flatMap byCell) :: byA (O ++ [x9]) :: LkA g (drS (ackS s d.ack.v) (c9 + 1) (adel h9 (i64N c9))) :: (F.set i emp)) := ((((((H177.move 1 rfl).move 5 rfl).drop 3 rfl).drop 3 rfl).drop 3 rfl).drop 3 rfl)
                          exact nx128 (c9 + 1, adel h9 (i64N c9), (O ++ [x9]), pp170, cc171) _ _ ⟨(by rw [List.map_append]; exact hDr.step hg9), (by omega), (fun x hx => hh9 x (adel_sub hx)), (by rw [List.length_append]; have := adel_len (has_of_get hg9); simp only [List.length_cons, List.length_nil]; omega), H178⟩ (by first | (dsimp only; (have := adel_len (has_of_get hg9); omega)) | (have := adel_len (has_of_get hg9); omega)) ⟨by first | rfl | exact vint (by omega), by first | rfl | exact vint (by omega), by first | rfl | exact vint (by omega), by first | rfl | (show Value.slice _ _ _ = _; rw [List.length_append]; rfl), trivial⟩
                · intro join58
                  refine g_true rfl ?_
                  refine g_seq ?_
                  refine g_region ?_
                  refine r_cons (s_move (.pointer (some ⟨g, 0, none⟩)) rfl rfl ?_)
                  refine r_cons (s_move (.pointer (some ⟨g, 0, none⟩)) rfl rfl ?_)
                  refine r_cons (s_nilCheck (.pointer (some ⟨g, 0, none⟩)) rfl ⟨_, rfl⟩ rfl ?_)
                  refine r_cons (s_fieldAddr 62 2 3 3 59 rfl fi_62_2 rfl rfl ?_)
                  have H179 : St W w55 (blk g (.cells #[.int .i64 s.frm.v, .int .i64 s.to_.v, .int .i64 (s.slide : Int), .slice pp17 L19.length cc18, .int .i64 (s.acked : Int), .int .i64 ((i64N s.came).v), .map (some m16), .int .i64 (s.clock : Int), .bool s.owes] 62 (0, 0)) :: Im 3 (.slice pp17 L19.length cc18) L19.length (L19.flatMap bodCell) :: byA (L19.map BodD.by) :: MapA m16 (ents (kI .i64) evD E20) :: byA (mby E20) :: blk bk7 (.cells #[.int .i64 d.frm.v, .int .i64 d.to_.v, .int .i64 d.kind.v, .int .i64 d.seq.v, .int .i64 d.ack.v, .slice pp1 d.body.length cc2] 41 (0, 0)) :: Im 1 (.slice pp1 d.body.length cc2) d.body.length (d.body.flatMap u8c) :: (F.set i emp)) := Row.im H56 (i := 1) rfl
                  refine r_cons (s_load (.slice pp17 L19.length cc18) ag_59 rfl (H179.blk_at (i := 0) rfl) rfl rfl ?_)
                  refine r_cons (s_move (.int .i64 (d.ack.v - (s.acked : Int))) rfl rfl ?_)
                  have hc180 := Im.cap H179 (i := 1) rfl
                  refine r_cons (s_slice_l pp17 (d.ack.v - (s.acked : Int)) 3 (.slice (cutAt pp17 ((d.ack.v - (s.acked : Int)).toNat) cc18 3) (L19.length - ((d.ack.v - (s.acked : Int)).toNat)) (cc18 - ((d.ack.v - (s.acked : Int)).toNat))) rfl rfl el_59 (by omega) (by first | rfl | (congr 1; omega)) rfl ?_)
                  have H181 : St W w55 (Im 3 (.slice (cutAt pp17 ((d.ack.v - (s.acked : Int)).toNat) cc18 3) (L19.length - ((d.ack.v - (s.acked : Int)).toNat)) (cc18 - ((d.ack.v - (s.acked : Int)).toNat))) (L19.length - ((d.ack.v - (s.acked : Int)).toNat)) ((L19.drop ((d.ack.v - (s.acked : Int)).toNat)).flatMap bodCell) :: blk g (.cells #[.int .i64 s.frm.v, .int .i64 s.to_.v, .int .i64 (s.slide : Int), .slice pp17 L19.length cc18, .int .i64 (s.acked : Int), .int .i64 ((i64N s.came).v), .map (some m16), .int .i64 (s.clock : Int), .bool s.owes] 62 (0, 0)) :: Im 3 (.slice pp17 L19.length cc18) L19.length (L19.flatMap bodCell) :: byA (L19.map BodD.by) :: MapA m16 (ents (kI .i64) evD E20) :: byA (mby E20) :: blk bk7 (.cells #[.int .i64 d.frm.v, .int .i64 d.to_.v, .int .i64 d.kind.v, .int .i64 d.seq.v, .int .i64 d.ack.v, .slice pp1 d.body.length cc2] 41 (0, 0)) :: Im 1 (.slice pp1 d.body.length cc2) d.body.length (d.body.flatMap u8c) :: (F.set i emp)) := Im.cutN_l bodCell_len (by decide) ((d.ack.v - (s.acked : Int)).toNat) H179 (i := 1) rfl (by omega)
                  refine r_cons (s_call [.slice (cutAt pp17 ((d.ack.v - (s.acked : Int)).toNat) cc18 3) (L19.length - ((d.ack.v - (s.acked : Int)).toNat)) (cc18 - ((d.ack.v - (s.acked : Int)).toNat))] pl_47 rfl rfl (clone_bodies _ _ (L19.length - ((d.ack.v - (s.acked : Int)).toNat)) ((L19.drop ((d.ack.v - (s.acked : Int)).toNat)).flatMap bodCell) RdA.im (by omega) (j := 0) rfl H181) ?_)
                  rintro _ w184 ⟨pp182, cc183, rfl, H185⟩
                  refine r_cons (s_nilCheck (.pointer (some ⟨g, 0, none⟩)) rfl ⟨_, rfl⟩ rfl ?_)
                  refine r_cons (s_fieldAddr 62 2 3 3 59 rfl fi_62_2 rfl rfl ?_)
                  refine r_cons (s_store H185 2 (.slice pp182 (L19.length - ((d.ack.v - (s.acked : Int)).toNat)) cc183) rfl rfl rfl sz_59 rfl (Nat.le_of_ble_eq_true rfl) rfl (cs' := #[.int .i64 s.frm.v, .int .i64 s.to_.v, .int .i64 (s.slide : Int), .slice pp182 (L19.length - ((d.ack.v - (s.acked : Int)).toNat)) cc183, .int .i64 (s.acked : Int), .int .i64 ((i64N s.came).v), .map (some m16), .int .i64 (s.clock : Int), .bool s.owes]) rfl ?_); intro w186 H187
                  refine r_nil ?_
                  refine g_region ?_
                  refine r_cons (s_move (.pointer (some ⟨g, 0, none⟩)) rfl rfl ?_)
                  refine r_cons (s_fieldAddr 41 4 4 4 2 rfl fi_41_4 rfl rfl ?_)
                  refine r_cons (s_load (.int .i64 d.ack.v) ag_2 rfl (H187.blk_at (i := 7) rfl) rfl rfl ?_)
                  refine r_cons (s_nilCheck (.pointer (some ⟨g, 0, none⟩)) rfl ⟨_, rfl⟩ rfl ?_)
                  refine r_cons (s_fieldAddr 62 3 4 4 2 rfl fi_62_3 rfl rfl ?_)
                  refine r_cons (s_store H187 2 (.int .i64 d.ack.v) rfl rfl rfl sz_2 rfl (Nat.le_of_ble_eq_true rfl) rfl (cs' := #[.int .i64 s.frm.v, .int .i64 s.to_.v, .int .i64 (s.slide : Int), .slice pp182 (L19.length - ((d.ack.v - (s.acked : Int)).toNat)) cc183, .int .i64 d.ack.v, .int .i64 ((i64N s.came).v), .map (some m16), .int .i64 (s.clock : Int), .bool s.owes]) rfl ?_); intro w188 H189
                  refine r_nil ?_
                  have ha9 : ((d.ack.v.toNat : Nat) : Int) = d.ack.v := by omega
                  have ha8 := ackS_pos (s := s) (d := d) (by omega)
                  have H190 : St W w188 (Row 79 3 (.slice pp182 ((L19.drop (d.ack.v - (s.acked : Int)).toNat).length) cc183) ((L19.drop (d.ack.v - (s.acked : Int)).toNat).length) ((L19.drop (d.ack.v - (s.acked : Int)).toNat).flatMap bodCell) :: Im 3 (.slice (cutAt pp17 ((d.ack.v - (s.acked : Int)).toNat) cc18 3) (L19.length - ((d.ack.v - (s.acked : Int)).toNat)) (cc18 - ((d.ack.v - (s.acked : Int)).toNat))) (L19.length - ((d.ack.v - (s.acked : Int)).toNat)) ((L19.drop ((d.ack.v - (s.acked : Int)).toNat)).flatMap bodCell) :: blk g (.cells #[.int .i64 s.frm.v, .int .i64 s.to_.v, .int .i64 (s.slide : Int), .slice pp182 ((L19.drop (d.ack.v - (s.acked : Int)).toNat).length) cc183, .int .i64 ((d.ack.v.toNat : Nat) : Int), .int .i64 ((i64N s.came).v), .map (some m16), .int .i64 (s.clock : Int), .bool s.owes] 62 (0, 0)) :: Im 3 (.slice pp17 L19.length cc18) L19.length (L19.flatMap bodCell) :: byA (L19.map BodD.by) :: MapA m16 (ents (kI .i64) evD E20) :: byA (mby E20) :: blk bk7 (.cells #[.int .i64 d.frm.v, .int .i64 d.to_.v, .int .i64 d.kind.v, .int .i64 d.seq.v, .int .i64 d.ack.v, .slice pp1 d.body.length cc2] 41 (0, 0)) :: Im 1 (.slice pp1 d.body.length cc2) d.body.length (d.body.flatMap u8c) :: (F.set i emp)) := by rw [List.length_drop, ha9]; exact H189
                  have H191 := byA_sub (M := (L19.drop (d.ack.v - (s.acked : Int)).toNat).map BodD.by) H190 (i := 4) rfl drop_by
                  have H192 : St W w188 (blk g (.cells #[.int .i64 s.frm.v, .int .i64 s.to_.v, .int .i64 (s.slide : Int), .slice pp182 ((L19.drop (d.ack.v - (s.acked : Int)).toNat).length) cc183, .int .i64 ((d.ack.v.toNat : Nat) : Int), .int .i64 ((i64N s.came).v), .map (some m16), .int .i64 (s.clock : Int), .bool s.owes] 62 (0, 0)) :: Row 79 3 (.slice pp182 ((L19.drop (d.ack.v - (s.acked : Int)).toNat).length) cc183) ((L19.drop (d.ack.v - (s.acked : Int)).toNat).length) ((L19.drop (d.ack.v - (s.acked : Int)).toNat).flatMap bodCell) :: byA ((L19.drop (d.ack.v - (s.acked : Int)).toNat).map BodD.by) :: MapA m16 (ents (kI .i64) evD E20) :: byA (mby E20) :: Im 3 (.slice (cutAt pp17 ((d.ack.v - (s.acked : Int)).toNat) cc18 3) (L19.length - ((d.ack.v - (s.acked : Int)).toNat)) (cc18 - ((d.ack.v - (s.acked : Int)).toNat))) (L19.length - ((d.ack.v - (s.acked : Int)).toNat)) ((L19.drop ((d.ack.v - (s.acked : Int)).toNat)).flatMap bodCell) :: Im 3 (.slice pp17 L19.length cc18) L19.length (L19.flatMap bodCell) :: byA (L19.map BodD.by) :: blk bk7 (.cells #[.int .i64 d.frm.v, .int .i64 d.to_.v, .int .i64 d.kind.v, .int .i64 d.seq.v, .int .i64 d.ack.v, .slice pp1 d.body.length cc2] 41 (0, 0)) :: Im 1 (.slice pp1 d.body.length cc2) d.body.length (d.body.flatMap u8c) :: (F.set i emp)) := (((((H191.move 7 rfl).move 7 rfl).move 2 rfl).move 3 rfl).move 5 rfl)
                  have H193 : St W w188 (LkA g ({ s with l := s.l.drop (d.ack.v - (s.acked : Int)).toNat, acked := d.ack.v.toNat } : EndV) :: Im 3 (.slice (cutAt pp17 ((d.ack.v - (s.acked : Int)).toNat) cc18 3) (L19.length - ((d.ack.v - (s.acked : Int)).toNat)) (cc18 - ((d.ack.v - (s.acked : Int)).toNat))) (L19.length - ((d.ack.v - (s.acked : Int)).toNat)) ((L19.drop ((d.ack.v - (s.acked : Int)).toNat)).flatMap bodCell) :: Im 3 (.slice pp17 L19.length cc18) L19.length (L19.flatMap bodCell) :: byA (L19.map BodD.by) :: blk bk7 (.cells #[.int .i64 d.frm.v, .int .i64 d.to_.v, .int .i64 d.kind.v, .int .i64 d.seq.v, .int .i64 d.ack.v, .slice pp1 d.body.length cc2] 41 (0, 0)) :: Im 1 (.slice pp1 d.body.length cc2) d.body.length (d.body.flatMap u8c) :: (F.set i emp)) := St.shut_ex ⟨(m16, pp182, cc183, (L19.drop (d.ack.v - (s.acked : Int)).toNat), E20), (show (L19.drop (d.ack.v - (s.acked : Int)).toNat).map BodD.v = s.l.drop (d.ack.v - (s.acked : Int)).toNat from by rw [List.map_drop, hL21]), hE22⟩ (St.shut_star (ls := [blk g (.cells #[.int .i64 s.frm.v, .int .i64 s.to_.v, .int .i64 (s.slide : Int), .slice pp182 ((L19.drop (d.ack.v - (s.acked : Int)).toNat).length) cc183, .int .i64 ((d.ack.v.toNat : Nat) : Int), .int .i64 ((i64N s.came).v), .map (some m16), .int .i64 (s.clock : Int), .bool s.owes] 62 (0, 0)), Row 79 3 (.slice pp182 ((L19.drop (d.ack.v - (s.acked : Int)).toNat).length) cc183) ((L19.drop (d.ack.v - (s.acked : Int)).toNat).length) ((L19.drop (d.ack.v - (s.acked : Int)).toNat).flatMap bodCell), byA ((L19.drop (d.ack.v - (s.acked : Int)).toNat).map BodD.by), MapA m16 (ents (kI .i64) evD E20), byA (mby E20)]) H192)
                  have H194 : St W w188 (LkA g (ackS s d.ack.v) :: Im 3 (.slice (cutAt pp17 ((d.ack.v - (s.acked : Int)).toNat) cc18 3) (L19.length - ((d.ack.v - (s.acked : Int)).toNat)) (cc18 - ((d.ack.v - (s.acked : Int)).toNat))) (L19.length - ((d.ack.v - (s.acked : Int)).toNat)) ((L19.drop ((d.ack.v - (s.acked : Int)).toNat)).flatMap bodCell) :: Im 3 (.slice pp17 L19.length cc18) L19.length (L19.flatMap bodCell) :: byA (L19.map BodD.by) :: blk bk7 (.cells #[.int .i64 d.frm.v, .int .i64 d.to_.v, .int .i64 d.kind.v, .int .i64 d.seq.v, .int .i64 d.ack.v, .slice pp1 d.body.length cc2] 41 (0, 0)) :: Im 1 (.slice pp1 d.body.length cc2) d.body.length (d.body.flatMap u8c) :: (F.set i emp)) := by rw [ha8]; exact H193
                  have H195 : St W w188 (LkA g (ackS s d.ack.v) :: blk bk7 (.cells #[.int .i64 d.frm.v, .int .i64 d.to_.v, .int .i64 d.kind.v, .int .i64 d.seq.v, .int .i64 d.ack.v, .slice pp1 d.body.length cc2] 41 (0, 0)) :: Im 1 (.slice pp1 d.body.length cc2) d.body.length (d.body.flatMap u8c) :: (F.set i emp)) := ((((((H194.move 5 rfl).move 5 rfl).move 2 rfl).drop 3 rfl).drop 3 rfl).drop 3 rfl)
                  exact join58 (()) _ _ ⟨trivial, H195⟩ ⟨by first | rfl | exact vint (by omega), by first | rfl | exact vint (by omega), by first | rfl | exact vint (by omega), by first | rfl | exact vint (by omega), trivial⟩
              · skip
                refine r_cons (s_gtr false rfl rfl (dfalse hc57) rfl ?_)
                refine r_nil ?_
                refine g_cut (fun (x_ : Unit) => match x_ with | z_ => [(0, .pointer (some ⟨g, 0, none⟩)), (3, .pointer (some ⟨bk7, 0, none⟩)), (4, .slice none 0 0), (5, .int .i64 0)]) (fun (x_ : Unit) w => match x_ with | z_ => (True) ∧ St W w (LkA g (ackS s d.ack.v) :: blk bk7 (.cells #[.int .i64 d.frm.v, .int .i64 d.to_.v, .int .i64 d.kind.v, .int .i64 d.seq.v, .int .i64 d.ack.v, .slice pp1 d.body.length cc2] 41 (0, 0)) :: Im 1 (.slice pp1 d.body.length cc2) d.body.length (d.body.flatMap u8c) :: (F.set i emp))) ?_ ?_
                · rintro z_ ρ199 w197 ⟨hz_, H198⟩
                  change Ends _ _ (upds ρ199 [(0, .pointer (some ⟨g, 0, none⟩)), (3, .pointer (some ⟨bk7, 0, none⟩)), (4, .slice none 0 0), (5, .int .i64 0)]) w197
                  have hca := ackS_came s d.ack.v; have hhe := ackS_held s d.ack.v; have hcy : (i64N (ackS s d.ack.v).came).v = (s.came : Int) := by rw [hca]; exact o7
                  refine g_seq ?_
                  refine g_seq ?_
                  refine g_region ?_
                  refine r_cons (s_fieldAddr 41 2 2 2 3 rfl fi_41_2 rfl rfl ?_)
                  refine r_cons (s_load (.int .i64 d.kind.v) ag_3 rfl (H198.blk_at (i := 1) rfl) rfl rfl ?_)
                  refine r_cons (s_neq false rfl rfl (ntrue (by omega)) rfl ?_)
                  refine r_nil ?_
                  refine g_false rfl ?_
                  refine g_skip ?_
                  refine g_seq ?_
                  refine g_region ?_
                  refine r_cons (s_move (.pointer (some ⟨g, 0, none⟩)) rfl rfl ?_)
                  have hk1 : d.kind.v = 1 := by omega
                  have H200 := H198.move 0 rfl
                  obtain ⟨⟨⟨m201, pp202, cc203, L204, E205⟩, hL206, hE207⟩, H208⟩ := St.open_ex H200
                  have H209 := St.open_star H208
                  change L204.map BodD.v = (ackS s d.ack.v).l at hL206; change mapB E205 = (ackS s d.ack.v).held at hE207
                  have hl210 := lenOf hL206; have he211 := mapB_len hE207
                  have H212 : St W w197 (blk g (.cells #[.int .i64 ((ackS s d.ack.v).frm.v), .int .i64 ((ackS s d.ack.v).to_.v), .int .i64 ((ackS s d.ack.v).slide : Int), .slice pp202 L204.length cc203, .int .i64 ((ackS s d.ack.v).acked : Int), .int .i64 ((i64N (ackS s d.ack.v).came).v), .map (some m201), .int .i64 ((ackS s d.ack.v).clock : Int), .bool ((ackS s d.ack.v).owes)] 62 (0, 0)) :: Row 79 3 (.slice pp202 L204.length cc203) L204.length (L204.flatMap bodCell) :: byA (L204.map BodD.by) :: MapA m201 (ents (kI .i64) evD E205) :: byA (mby E205) :: blk bk7 (.cells #[.int .i64 d.frm.v, .int .i64 d.to_.v, .int .i64 d.kind.v, .int .i64 d.seq.v, .int .i64 d.ack.v, .slice pp1 d.body.length cc2] 41 (0, 0)) :: Im 1 (.slice pp1 d.body.length cc2) d.body.length (d.body.flatMap u8c) :: (F.set i emp)) := H209
                  refine r_cons (s_nilCheck (.pointer (some ⟨g, 0, none⟩)) rfl ⟨_, rfl⟩ rfl ?_)
                  refine r_cons (s_fieldAddr 62 7 8 8 4 rfl fi_62_7 rfl rfl ?_)
                  refine r_cons (s_store H212 0 (.bool true) rfl rfl rfl sz_4 rfl (Nat.le_of_ble_eq_true rfl) rfl (cs' := #[.int .i64 ((ackS s d.ack.v).frm.v), .int .i64 ((ackS s d.ack.v).to_.v), .int .i64 ((ackS s d.ack.v).slide : Int), .slice pp202 L204.length cc203, .int .i64 ((ackS s d.ack.v).acked : Int), .int .i64 ((i64N (ackS s d.ack.v).came).v), .map (some m201), .int .i64 ((ackS s d.ack.v).clock : Int), .bool true]) rfl ?_); intro w213 H214
                  refine r_nil ?_
                  refine g_seq ?_
                  refine g_seq ?_
                  refine g_quiet (fun w' => St W w' (blk g (.cells #[.int .i64 ((ackS s d.ack.v).frm.v), .int .i64 ((ackS s d.ack.v).to_.v), .int .i64 ((ackS s d.ack.v).slide : Int), .slice pp202 L204.length cc203, .int .i64 ((ackS s d.ack.v).acked : Int), .int .i64 ((i64N (ackS s d.ack.v).came).v), .map (some m201), .int .i64 ((ackS s d.ack.v).clock : Int), .bool true] 62 (0, 0)) :: Row 79 3 (.slice pp202 L204.length cc203) L204.length (L204.flatMap bodCell) :: byA (L204.map BodD.by) :: MapA m201 (ents (kI .i64) evD E205) :: byA (mby E205) :: blk bk7 (.cells #[.int .i64 d.frm.v, .int .i64 d.to_.v, .int .i64 d.kind.v, .int .i64 d.seq.v, .int .i64 d.ack.v, .slice pp1 d.body.length cc2] 41 (0, 0)) :: Im 1 (.slice pp1 d.body.length cc2) d.body.length (d.body.flatMap u8c) :: (F.set i emp))) mixed (by kernel_rfl) H214.drew ?_
                  refine q_cons (q_val rfl rfl rfl (by intro w hw; exact x_move (.pointer (some ⟨g, 0, none⟩)) rfl w) ?_)
                  refine q_cons (q_val rfl rfl rfl (by intro w hw; exact x_nilCheck (.pointer (some ⟨g, 0, none⟩)) rfl ⟨_, rfl⟩ w) ?_)
                  refine q_cons (q_val rfl rfl rfl (by intro w hw; exact x_fieldAddr 62 5 6 6 60 rfl fi_62_5 rfl w) ?_)
                  refine q_cons (q_val rfl rfl rfl (by intro w hw; exact x_load (.map (some m201)) ag_60 rfl (hw.blk_at (i := 0) rfl) rfl) ?_)
                  refine q_cons (q_val rfl rfl rfl (by intro w hw; exact x_fieldAddr 41 3 3 3 2 rfl fi_41_3 rfl w) ?_)
                  refine q_cons (q_val rfl rfl rfl (by intro w hw; exact x_load (.int .i64 d.seq.v) ag_2 rfl (hw.blk_at (i := 5) rfl) rfl) ?_)
                  refine q_cons (q_val rfl rfl rfl (by intro w hw; exact x_lookup2 (ek := (kI .i64)) (ev := evD) (L := E205) d.seq ((lookV evD (.slice none 0 0) E205 d.seq)) (ahas E205 d.seq) (MapA.at hw (i := 3) rfl) (KeyLaw.I un_2) un_60 zv_26 rfl rfl (rfl) rfl) ?_)
                  refine q_cons (q_val rfl rfl rfl (by intro w hw; exact x_move (.tuple #[(lookV evD (.slice none 0 0) E205 d.seq), .bool (ahas E205 d.seq)]) rfl w) ?_)
                  refine q_cons (q_val rfl rfl rfl (by intro w hw; exact x_extract ((lookV evD (.slice none 0 0) E205 d.seq)) #[(lookV evD (.slice none 0 0) E205 d.seq), .bool (ahas E205 d.seq)] rfl rfl w) ?_)
                  refine q_cons (q_val rfl rfl rfl (by intro w hw; exact x_extract (.bool (ahas E205 d.seq)) #[(lookV evD (.slice none 0 0) E205 d.seq), .bool (ahas E205 d.seq)] rfl rfl w) ?_)
                  refine q_cons (q_val rfl rfl rfl (by intro w hw; exact x_assign ((lookV evD (.slice none 0 0) E205 d.seq)) rfl w) ?_)
                  refine q_cons (q_val rfl rfl rfl (by intro w hw; exact x_assign (.bool (ahas E205 d.seq)) rfl w) ?_)
                  refine q_nil ?_
                  intro w215 H216
                  refine g_seq ?_
                  refine g_quiet (fun w' => St W w' (blk g (.cells #[.int .i64 ((ackS s d.ack.v).frm.v), .int .i64 ((ackS s d.ack.v).to_.v), .int .i64 ((ackS s d.ack.v).slide : Int), .slice pp202 L204.length cc203, .int .i64 ((ackS s d.ack.v).acked : Int), .int .i64 ((i64N (ackS s d.ack.v).came).v), .map (some m201), .int .i64 ((ackS s d.ack.v).clock : Int), .bool true] 62 (0, 0)) :: Row 79 3 (.slice pp202 L204.length cc203) L204.length (L204.flatMap bodCell) :: byA (L204.map BodD.by) :: MapA m201 (ents (kI .i64) evD E205) :: byA (mby E205) :: blk bk7 (.cells #[.int .i64 d.frm.v, .int .i64 d.to_.v, .int .i64 d.kind.v, .int .i64 d.seq.v, .int .i64 d.ack.v, .slice pp1 d.body.length cc2] 41 (0, 0)) :: Im 1 (.slice pp1 d.body.length cc2) d.body.length (d.body.flatMap u8c) :: (F.set i emp))) mixed (by kernel_rfl) H216.drew ?_
                  refine q_cons (q_val rfl rfl rfl (by intro w hw; exact x_fieldAddr 41 3 3 3 2 rfl fi_41_3 rfl w) ?_)
                  refine q_cons (q_val rfl rfl rfl (by intro w hw; exact x_load (.int .i64 d.seq.v) ag_2 rfl (hw.blk_at (i := 5) rfl) rfl) ?_)
                  refine q_cons (q_val rfl rfl rfl (by intro w hw; exact x_move (.pointer (some ⟨g, 0, none⟩)) rfl w) ?_)
                  refine q_cons (q_val rfl rfl rfl (by intro w hw; exact x_nilCheck (.pointer (some ⟨g, 0, none⟩)) rfl ⟨_, rfl⟩ w) ?_)
                  refine q_cons (q_val rfl rfl rfl (by intro w hw; exact x_fieldAddr 62 4 5 5 2 rfl fi_62_4 rfl w) ?_)
                  refine q_cons (q_val rfl rfl rfl (by intro w hw; exact x_load (.int .i64 ((i64N (ackS s d.ack.v).came).v)) ag_2 rfl (hw.blk_at (i := 0) rfl) rfl) ?_)
                  by_cases hc217 : d.seq.v < (i64N (ackS s d.ack.v).came).v
                  · skip
                    refine q_cons (q_val rfl rfl rfl (by intro w hw; exact x_lss true rfl rfl (dtrue hc217) w) ?_)
                    refine q_cons (q_val rfl rfl rfl (by intro w hw; exact x_move (.bool true) rfl w) ?_)
                    refine q_cons (q_pass rfl rfl rfl rfl rfl ?_)
                    refine q_cons (q_val rfl rfl rfl (by intro w hw; exact x_pick_t (.bool true) rfl rfl w) ?_)
                    refine q_nil ?_
                    intro w218 H219
                    refine g_true rfl ?_
                    refine g_seq ?_
                    refine g_region ?_
                    refine r_cons (s_assign (.slice none 0 0) rfl rfl ?_)
                    refine r_cons (s_assign (.int .i64 0) rfl rfl ?_)
                    refine r_nil ?_
                    refine g_ret' [.slice none 0 0, .int .i64 0] Try.func21 Try.results21 ⟨rfl, rfl, trivial⟩ ?_
                    have H220 : St W w218 (LkA g ({ ackS s d.ack.v with owes := true } : EndV) :: blk bk7 (.cells #[.int .i64 d.frm.v, .int .i64 d.to_.v, .int .i64 d.kind.v, .int .i64 d.seq.v, .int .i64 d.ack.v, .slice pp1 d.body.length cc2] 41 (0, 0)) :: Im 1 (.slice pp1 d.body.length cc2) d.body.length (d.body.flatMap u8c) :: (F.set i emp)) := St.shut_ex ⟨(m201, pp202, cc203, L204, E205), hL206, hE207⟩ (St.shut_star (ls := [blk g (.cells #[.int .i64 ((ackS s d.ack.v).frm.v), .int .i64 ((ackS s d.ack.v).to_.v), .int .i64 ((ackS s d.ack.v).slide : Int), .slice pp202 L204.length cc203, .int .i64 ((ackS s d.ack.v).acked : Int), .int .i64 ((i64N (ackS s d.ack.v).came).v), .map (some m201), .int .i64 ((ackS s d.ack.v).clock : Int), .bool true] 62 (0, 0)), Row 79 3 (.slice pp202 L204.length cc203) L204.length (L204.flatMap bodCell), byA (L204.map BodD.by), MapA m201 (ents (kI .i64) evD E205), byA (mby E205)]) H219)
                    have hC : takeC s d = ([], s.came, s.held) := takeC_no (by first | exact .inl (by omega) | (right; rw [← hhe, mapB_has hE207]; assumption))
                    have H221 := Row.nil_intro H220 26 1
                    have H222 := byA_nil H221
                    have H223 : St W w218 (Row 26 1 (.slice none 0 0) 0 [] :: byA ([] : List BytesD) :: LkA g ({ ackS s d.ack.v with owes := true } : EndV) :: blk bk7 (.cells #[.int .i64 d.frm.v, .int .i64 d.to_.v, .int .i64 d.kind.v, .int .i64 d.seq.v, .int .i64 d.ack.v, .slice pp1 d.body.length cc2] 41 (0, 0)) :: Im 1 (.slice pp1 d.body.length cc2) d.body.length (d.body.flatMap u8c) :: (F.set i emp)) := (H222.move 1 rfl)
                    have hT9 : takeT s d = [] := by rw [takeT_yes hE hk1, hC]
                    have H224 : St W w218 (BysA none 0 (takeT s d) :: LkA g ({ ackS s d.ack.v with owes := true } : EndV) :: blk bk7 (.cells #[.int .i64 d.frm.v, .int .i64 d.to_.v, .int .i64 d.kind.v, .int .i64 d.seq.v, .int .i64 d.ack.v, .slice pp1 d.body.length cc2] 41 (0, 0)) :: Im 1 (.slice pp1 d.body.length cc2) d.body.length (d.body.flatMap u8c) :: (F.set i emp)) := by rw [hT9]; exact St.shut_ex ⟨[], rfl⟩ (St.shut_star (ls := [Row 26 1 (.slice none 0 0) 0 [], byA ([] : List BytesD)]) H223)
                    have H225 : St W w218 (BysA none 0 (takeT s d) :: LkA g (takeS s d) :: blk bk7 (.cells #[.int .i64 d.frm.v, .int .i64 d.to_.v, .int .i64 d.kind.v, .int .i64 d.seq.v, .int .i64 d.ack.v, .slice pp1 d.body.length cc2] 41 (0, 0)) :: Im 1 (.slice pp1 d.body.length cc2) d.body.length (d.body.flatMap u8c) :: (F.set i emp)) := by rw [takeS_data hE hk1, hC, ← hca, ← hhe]; exact H224
                    have H226 : St W w218 (BysA none 0 (takeT s d) :: LkA g (takeS s d) :: (F.set i emp)) := ((((H225.move 1 rfl).move 1 rfl).drop 2 rfl).drop 2 rfl)
                    have H227 : St W w218 (LkA g (takeS s d) :: (BysA none 0 (takeT s d) :: F).set (i + 1) emp) := (H226.move 1 rfl)
                    exact ⟨none, 0, by rw [hE, hT9]; rfl, St.back (i := i + 1) (by exact hi) H227⟩
                  · skip
                    refine q_cons (q_val rfl rfl rfl (by intro w hw; exact x_lss false rfl rfl (dfalse hc217) w) ?_)
                    refine q_cons (q_val rfl rfl rfl (by intro w hw; exact x_move (.bool false) rfl w) ?_)
                    refine q_cons (q_take rfl rfl ?_)
                    refine q_val rfl rfl rfl (by intro w hw; exact x_move (.bool (ahas E205 d.seq)) rfl w) ?_
                    refine q_cons (q_val rfl rfl rfl (by intro w hw; exact x_pick_f (.bool (ahas E205 d.seq)) rfl rfl w) ?_)
                    refine q_nil ?_
                    intro w228 H229
                    by_cases hb230 : (ahas E205 d.seq) = true
                    · skip
                      refine g_true (congrArg Value.bool hb230) ?_
                      refine g_seq ?_
                      refine g_region ?_
                      refine r_cons (s_assign (.slice none 0 0) rfl rfl ?_)
                      refine r_cons (s_assign (.int .i64 0) rfl rfl ?_)
                      refine r_nil ?_
                      refine g_ret' [.slice none 0 0, .int .i64 0] Try.func21 Try.results21 ⟨rfl, rfl, trivial⟩ ?_
                      have H231 : St W w228 (LkA g ({ ackS s d.ack.v with owes := true } : EndV) :: blk bk7 (.cells #[.int .i64 d.frm.v, .int .i64 d.to_.v, .int .i64 d.kind.v, .int .i64 d.seq.v, .int .i64 d.ack.v, .slice pp1 d.body.length cc2] 41 (0, 0)) :: Im 1 (.slice pp1 d.body.length cc2) d.body.length (d.body.flatMap u8c) :: (F.set i emp)) := St.shut_ex ⟨(m201, pp202, cc203, L204, E205), hL206, hE207⟩ (St.shut_star (ls := [blk g (.cells #[.int .i64 ((ackS s d.ack.v).frm.v), .int .i64 ((ackS s d.ack.v).to_.v), .int .i64 ((ackS s d.ack.v).slide : Int), .slice pp202 L204.length cc203, .int .i64 ((ackS s d.ack.v).acked : Int), .int .i64 ((i64N (ackS s d.ack.v).came).v), .map (some m201), .int .i64 ((ackS s d.ack.v).clock : Int), .bool true] 62 (0, 0)), Row 79 3 (.slice pp202 L204.length cc203) L204.length (L204.flatMap bodCell), byA (L204.map BodD.by), MapA m201 (ents (kI .i64) evD E205), byA (mby E205)]) H229)
                      have hC : takeC s d = ([], s.came, s.held) := takeC_no (by first | exact .inl (by omega) | (right; rw [← hhe, mapB_has hE207]; assumption))
                      have H232 := Row.nil_intro H231 26 1
                      have H233 := byA_nil H232
                      have H234 : St W w228 (Row 26 1 (.slice none 0 0) 0 [] :: byA ([] : List BytesD) :: LkA g ({ ackS s d.ack.v with owes := true } : EndV) :: blk bk7 (.cells #[.int .i64 d.frm.v, .int .i64 d.to_.v, .int .i64 d.kind.v, .int .i64 d.seq.v, .int .i64 d.ack.v, .slice pp1 d.body.length cc2] 41 (0, 0)) :: Im 1 (.slice pp1 d.body.length cc2) d.body.length (d.body.flatMap u8c) :: (F.set i emp)) := (H233.move 1 rfl)
                      have hT9 : takeT s d = [] := by rw [takeT_yes hE hk1, hC]
                      have H235 : St W w228 (BysA none 0 (takeT s d) :: LkA g ({ ackS s d.ack.v with owes := true } : EndV) :: blk bk7 (.cells #[.int .i64 d.frm.v, .int .i64 d.to_.v, .int .i64 d.kind.v, .int .i64 d.seq.v, .int .i64 d.ack.v, .slice pp1 d.body.length cc2] 41 (0, 0)) :: Im 1 (.slice pp1 d.body.length cc2) d.body.length (d.body.flatMap u8c) :: (F.set i emp)) := by rw [hT9]; exact St.shut_ex ⟨[], rfl⟩ (St.shut_star (ls := [Row 26 1 (.slice none 0 0) 0 [], byA ([] : List BytesD)]) H234)
                      have H236 : St W w228 (BysA none 0 (takeT s d) :: LkA g (takeS s d) :: blk bk7 (.cells #[.int .i64 d.frm.v, .int .i64 d.to_.v, .int .i64 d.kind.v, .int .i64 d.seq.v, .int .i64 d.ack.v, .slice pp1 d.body.length cc2] 41 (0, 0)) :: Im 1 (.slice pp1 d.body.length cc2) d.body.length (d.body.flatMap u8c) :: (F.set i emp)) := by rw [takeS_data hE hk1, hC, ← hca, ← hhe]; exact H235
                      have H237 : St W w228 (BysA none 0 (takeT s d) :: LkA g (takeS s d) :: (F.set i emp)) := ((((H236.move 1 rfl).move 1 rfl).drop 2 rfl).drop 2 rfl)
                      have H238 : St W w228 (LkA g (takeS s d) :: (BysA none 0 (takeT s d) :: F).set (i + 1) emp) := (H237.move 1 rfl)
                      exact ⟨none, 0, by rw [hE, hT9]; rfl, St.back (i := i + 1) (by exact hi) H238⟩
                    · have hb230 := eq_false_of_ne_true hb230
                      refine g_false (congrArg Value.bool hb230) ?_
                      refine g_skip ?_
                      refine g_seq ?_
                      have hno0 : ahas s.held d.seq = false := by rw [← hhe, mapB_has hE207]; assumption
                      have hC := takeC_yes (s := s) (d := d) (by rw [hno0]; simp only [Bool.false_eq_true, or_false]; omega)
                      have H239 : St W w228 (blk g (.cells #[.int .i64 ((ackS s d.ack.v).frm.v), .int .i64 ((ackS s d.ack.v).to_.v), .int .i64 ((ackS s d.ack.v).slide : Int), .slice pp202 L204.length cc203, .int .i64 ((ackS s d.ack.v).acked : Int), .int .i64 ((i64N (ackS s d.ack.v).came).v), .map (some m201), .int .i64 ((ackS s d.ack.v).clock : Int), .bool true] 62 (0, 0)) :: Row 79 3 (.slice pp202 L204.length cc203) L204.length (L204.flatMap bodCell) :: byA (L204.map BodD.by) :: byA (mby E205) :: blk bk7 (.cells #[.int .i64 d.frm.v, .int .i64 d.to_.v, .int .i64 d.kind.v, .int .i64 d.seq.v, .int .i64 d.ack.v, .slice pp1 d.body.length cc2] 41 (0, 0)) :: Im 1 (.slice pp1 d.body.length cc2) d.body.length (d.body.flatMap u8c) :: MapA m201 (ents (kI .i64) evD E205) :: (F.set i emp)) := (((((((H229.move 3 rfl).move 6 rfl).move 6 rfl).move 6 rfl).move 6 rfl).move 6 rfl).move 6 rfl)
                      refine g_mix (fun t_ w => St W w (blk g (.cells #[.int .i64 ((ackS s d.ack.v).frm.v), .int .i64 ((ackS s d.ack.v).to_.v), .int .i64 ((ackS s d.ack.v).slide : Int), .slice pp202 L204.length cc203, .int .i64 ((ackS s d.ack.v).acked : Int), .int .i64 ((i64N (ackS s d.ack.v).came).v), .map (some m201), .int .i64 ((ackS s d.ack.v).clock : Int), .bool true] 62 (0, 0)) :: Row 79 3 (.slice pp202 L204.length cc203) L204.length (L204.flatMap bodCell) :: byA (L204.map BodD.by) :: byA (mby E205) :: blk bk7 (.cells #[.int .i64 d.frm.v, .int .i64 d.to_.v, .int .i64 d.kind.v, .int .i64 d.seq.v, .int .i64 d.ack.v, .slice pp1 d.body.length cc2] 41 (0, 0)) :: Im 1 (.slice pp1 d.body.length cc2) d.body.length (d.body.flatMap u8c) :: t_)) (MapA m201 (ents (kI .i64) evD E205) :: (F.set i emp)) mixed 10 rfl H239.drew ?_
                      refine f_first 0 (listed' := #[true, false, false, false, false, false, false, false, false, false]) rfl (by kernel_rfl) (by kernel_rfl) (by kernel_rfl) rfl ?_
                      refine f_val rfl rfl rfl (by intro t_ w hw; exact x_move (.pointer (some ⟨g, 0, none⟩)) rfl w) ?_
                      refine f_first 1 (listed' := #[true, true, false, false, false, false, false, false, false, false]) rfl (by kernel_rfl) (by kernel_rfl) (by kernel_rfl) rfl ?_
                      refine f_val rfl rfl rfl (by intro t_ w hw; exact x_nilCheck (.pointer (some ⟨g, 0, none⟩)) rfl ⟨_, rfl⟩ w) ?_
                      refine f_first 2 (listed' := #[true, true, true, false, false, false, false, false, false, false]) rfl (by kernel_rfl) (by kernel_rfl) (by kernel_rfl) rfl ?_
                      refine f_val rfl rfl rfl (by intro t_ w hw; exact x_fieldAddr 62 5 6 6 60 rfl fi_62_5 rfl w) ?_
                      refine f_first 3 (listed' := #[true, true, true, true, false, false, false, false, false, false]) rfl (by kernel_rfl) (by kernel_rfl) (by kernel_rfl) rfl ?_
                      refine f_val rfl rfl rfl (by intro t_ w hw; exact x_load (.map (some m201)) ag_60 rfl (hw.blk_at (i := 0) rfl) rfl) ?_
                      refine f_first 4 (listed' := #[true, true, true, true, true, false, false, false, false, false]) rfl (by kernel_rfl) (by kernel_rfl) (by kernel_rfl) rfl ?_
                      refine f_val rfl rfl rfl (by intro t_ w hw; exact x_fieldAddr 41 3 3 3 2 rfl fi_41_3 rfl w) ?_
                      refine f_first 5 (listed' := #[true, true, true, true, true, true, false, false, false, false]) rfl (by kernel_rfl) (by kernel_rfl) (by kernel_rfl) rfl ?_
                      refine f_val rfl rfl rfl (by intro t_ w hw; exact x_load (.int .i64 d.seq.v) ag_2 rfl (hw.blk_at (i := 4) rfl) rfl) ?_
                      refine f_first 6 (listed' := #[true, true, true, true, true, true, true, false, false, false]) rfl (by kernel_rfl) (by kernel_rfl) (by kernel_rfl) rfl ?_
                      refine f_val rfl rfl rfl (by intro t_ w hw; exact x_fieldAddr 41 5 5 5 26 rfl fi_41_5 rfl w) ?_
                      refine f_first 7 (listed' := #[true, true, true, true, true, true, true, true, false, false]) rfl (by kernel_rfl) (by kernel_rfl) (by kernel_rfl) rfl ?_
                      refine f_val rfl rfl rfl (by intro t_ w hw; exact x_load (.slice pp1 d.body.length cc2) ag_26 rfl (hw.blk_at (i := 4) rfl) rfl) ?_
                      refine f_all (rs := [8]) (by kernel_rfl) (by simp) ?_
                      refine a_cons ⟨_, rfl, ?_⟩ (fun x hx => absurd hx (by simp))
                      intro w240 H241
                      try dsimp only at H241
                      refine s_call [.slice pp1 d.body.length cc2] pl_48 rfl rfl (clone_bytes _ _ d.body.length (d.body.flatMap u8c) RdA.im (by first | omega | (have hlp := Nat.le_refl 0; omega)) (j := 5) rfl H241) ?_
                      rintro _ w244 ⟨pp242, cc243, rfl, H245⟩
                      have H246 : St W w244 (blk g (.cells #[.int .i64 ((ackS s d.ack.v).frm.v), .int .i64 ((ackS s d.ack.v).to_.v), .int .i64 ((ackS s d.ack.v).slide : Int), .slice pp202 L204.length cc203, .int .i64 ((ackS s d.ack.v).acked : Int), .int .i64 ((i64N (ackS s d.ack.v).came).v), .map (some m201), .int .i64 ((ackS s d.ack.v).clock : Int), .bool true] 62 (0, 0)) :: Row 79 3 (.slice pp202 L204.length cc203) L204.length (L204.flatMap bodCell) :: byA (L204.map BodD.by) :: byA (mby E205) :: blk bk7 (.cells #[.int .i64 d.frm.v, .int .i64 d.to_.v, .int .i64 d.kind.v, .int .i64 d.seq.v, .int .i64 d.ack.v, .slice pp1 d.body.length cc2] 41 (0, 0)) :: Im 1 (.slice pp1 d.body.length cc2) d.body.length (d.body.flatMap u8c) :: Row 5 1 (.slice pp242 d.body.length cc243) d.body.length (d.body.flatMap u8c) :: MapA m201 (ents (kI .i64) evD E205) :: (F.set i emp)) := ((((((((H245.move 7 rfl).move 1 rfl).move 7 rfl).move 7 rfl).move 7 rfl).move 7 rfl).move 7 rfl).move 7 rfl)
                      refine ⟨Row 5 1 (.slice pp242 d.body.length cc243) d.body.length (d.body.flatMap u8c) :: MapA m201 (ents (kI .i64) evD E205) :: (F.set i emp), ?_, H246⟩
                      change FReg _ _ _ _ _ #[true, true, true, true, true, true, true, true, true, false] _ _
                      refine f_all (rs := [9]) (by kernel_rfl) (by simp) ?_
                      refine a_cons ⟨_, rfl, ?_⟩ (fun x hx => absurd hx (by simp))
                      intro w247 H248
                      try dsimp only at H248
                      refine s_mapUpdate (ek := (kI .i64)) (ev := evD) (L := E205) d.seq (⟨d.body, pp242, cc243⟩ : BytesD) H248 (i := 7) rfl (KeyLaw.I un_2) un_60 rfl rfl rfl ?_; intro w249 H250
                      have H251 : St W w249 (blk g (.cells #[.int .i64 ((ackS s d.ack.v).frm.v), .int .i64 ((ackS s d.ack.v).to_.v), .int .i64 ((ackS s d.ack.v).slide : Int), .slice pp202 L204.length cc203, .int .i64 ((ackS s d.ack.v).acked : Int), .int .i64 ((i64N (ackS s d.ack.v).came).v), .map (some m201), .int .i64 ((ackS s d.ack.v).clock : Int), .bool true] 62 (0, 0)) :: Row 79 3 (.slice pp202 L204.length cc203) L204.length (L204.flatMap bodCell) :: byA (L204.map BodD.by) :: byA (mby E205) :: blk bk7 (.cells #[.int .i64 d.frm.v, .int .i64 d.to_.v, .int .i64 d.kind.v, .int .i64 d.seq.v, .int .i64 d.ack.v, .slice pp1 d.body.length cc2] 41 (0, 0)) :: Im 1 (.slice pp1 d.body.length cc2) d.body.length (d.body.flatMap u8c) :: Row 5 1 (.slice pp242 d.body.length cc243) d.body.length (d.body.flatMap u8c) :: MapA m201 (ents (kI .i64) evD (aset E205 d.seq (⟨d.body, pp242, cc243⟩ : BytesD))) :: (F.set i emp)) := H250
                      refine ⟨Row 5 1 (.slice pp242 d.body.length cc243) d.body.length (d.body.flatMap u8c) :: MapA m201 (ents (kI .i64) evD (aset E205 d.seq (⟨d.body, pp242, cc243⟩ : BytesD))) :: (F.set i emp), ?_, H251⟩
                      change FReg _ _ _ _ _ #[true, true, true, true, true, true, true, true, true, true] _ _
                      refine f_done (by kernel_rfl) ?_
                      intro w252 H253
                      refine g_seq ?_
                      refine g_region ?_
                      refine r_cons (s_assign (.slice none 0 0) rfl rfl ?_)
                      refine r_nil ?_
                      refine g_block ?_
                      have H254 : St W w252 (blk g (.cells #[.int .i64 ((ackS s d.ack.v).frm.v), .int .i64 ((ackS s d.ack.v).to_.v), .int .i64 ((ackS s d.ack.v).slide : Int), .slice pp202 L204.length cc203, .int .i64 ((ackS s d.ack.v).acked : Int), .int .i64 ((i64N (ackS s d.ack.v).came).v), .map (some m201), .int .i64 ((ackS s d.ack.v).clock : Int), .bool true] 62 (0, 0)) :: Row 79 3 (.slice pp202 L204.length cc203) L204.length (L204.flatMap bodCell) :: byA (L204.map BodD.by) :: byA (mby E205) :: blk bk7 (.cells #[.int .i64 d.frm.v, .int .i64 d.to_.v, .int .i64 d.kind.v, .int .i64 d.seq.v, .int .i64 d.ack.v, .slice pp1 d.body.length cc2] 41 (0, 0)) :: Im 1 (.slice pp1 d.body.length cc2) d.body.length (d.body.flatMap u8c) :: Im 1 (.slice pp242 d.body.length cc243) d.body.length (d.body.flatMap u8c) :: MapA m201 (ents (kI .i64) evD (aset E205 d.seq (⟨d.body, pp242, cc243⟩ : BytesD))) :: (F.set i emp)) := Row.im H253 (i := 6) rfl
                      have H255 := byA_add (x := (⟨d.body, pp242, cc243⟩ : BytesD)) (M := mby (aset E205 d.seq (⟨d.body, pp242, cc243⟩ : BytesD))) H254 (i := 3) (j := 6) rfl rfl (mby_set (by rw [← mapB_has hE207, hhe]; exact hno0))
                      have H256 : St W w252 (byA (mby (aset E205 d.seq (⟨d.body, pp242, cc243⟩ : BytesD))) :: blk g (.cells #[.int .i64 ((ackS s d.ack.v).frm.v), .int .i64 ((ackS s d.ack.v).to_.v), .int .i64 ((ackS s d.ack.v).slide : Int), .slice pp202 L204.length cc203, .int .i64 ((ackS s d.ack.v).acked : Int), .int .i64 ((i64N s.came).v), .map (some m201), .int .i64 ((ackS s d.ack.v).clock : Int), .bool true] 62 (0, 0)) :: Row 79 3 (.slice pp202 L204.length cc203) L204.length (L204.flatMap bodCell) :: byA (L204.map BodD.by) :: byA (mby E205) :: blk bk7 (.cells #[.int .i64 d.frm.v, .int .i64 d.to_.v, .int .i64 d.kind.v, .int .i64 d.seq.v, .int .i64 d.ack.v, .slice pp1 d.body.length cc2] 41 (0, 0)) :: Im 1 (.slice pp1 d.body.length cc2) d.body.length (d.body.flatMap u8c) :: Im 1 (.slice pp242 d.body.length cc243) d.body.length (d.body.flatMap u8c) :: MapA m201 (ents (kI .i64) evD (aset E205 d.seq (⟨d.body, pp242, cc243⟩ : BytesD))) :: (F.set i emp)) := by rw [← hca]; exact H255
                      have H257 : St W w252 (blk g (.cells #[.int .i64 ((ackS s d.ack.v).frm.v), .int .i64 ((ackS s d.ack.v).to_.v), .int .i64 ((ackS s d.ack.v).slide : Int), .slice pp202 L204.length cc203, .int .i64 ((ackS s d.ack.v).acked : Int), .int .i64 ((i64N s.came).v), .map (some m201), .int .i64 ((ackS s d.ack.v).clock : Int), .bool true] 62 (0, 0)) :: Row 79 3 (.slice pp202 L204.length cc203) L204.length (L204.flatMap bodCell) :: byA (L204.map BodD.by) :: MapA m201 (ents (kI .i64) evD (aset E205 d.seq (⟨d.body, pp242, cc243⟩ : BytesD))) :: byA (mby (aset E205 d.seq (⟨d.body, pp242, cc243⟩ : BytesD))) :: byA (mby E205) :: blk bk7 (.cells #[.int .i64 d.frm.v, .int .i64 d.to_.v, .int .i64 d.kind.v, .int .i64 d.seq.v, .int .i64 d.ack.v, .slice pp1 d.body.length cc2] 41 (0, 0)) :: Im 1 (.slice pp1 d.body.length cc2) d.body.length (d.body.flatMap u8c) :: Im 1 (.slice pp242 d.body.length cc243) d.body.length (d.body.flatMap u8c) :: (F.set i emp)) := ((((H256.move 8 rfl).move 4 rfl).move 4 rfl).move 4 rfl)
                      have H258 : St W w252 (LkA g (drS (ackS s d.ack.v) s.came (s.held ++ [(d.seq, d.body)])) :: byA (mby E205) :: blk bk7 (.cells #[.int .i64 d.frm.v, .int .i64 d.to_.v, .int .i64 d.kind.v, .int .i64 d.seq.v, .int .i64 d.ack.v, .slice pp1 d.body.length cc2] 41 (0, 0)) :: Im 1 (.slice pp1 d.body.length cc2) d.body.length (d.body.flatMap u8c) :: Im 1 (.slice pp242 d.body.length cc243) d.body.length (d.body.flatMap u8c) :: (F.set i emp)) := St.shut_ex ⟨(m201, pp202, cc203, L204, (aset E205 d.seq (⟨d.body, pp242, cc243⟩ : BytesD))), hL206, (show mapB (aset E205 d.seq (⟨d.body, pp242, cc243⟩ : BytesD)) = s.held ++ [(d.seq, d.body)] from by rw [mapB_set hE207 (⟨d.body, pp242, cc243⟩ : BytesD) (by rw [hhe]; exact hno0), hhe])⟩ (St.shut_star (ls := [blk g (.cells #[.int .i64 ((ackS s d.ack.v).frm.v), .int .i64 ((ackS s d.ack.v).to_.v), .int .i64 ((ackS s d.ack.v).slide : Int), .slice pp202 L204.length cc203, .int .i64 ((ackS s d.ack.v).acked : Int), .int .i64 ((i64N s.came).v), .map (some m201), .int .i64 ((ackS s d.ack.v).clock : Int), .bool true] 62 (0, 0)), Row 79 3 (.slice pp202 L204.length cc203) L204.length (L204.flatMap bodCell), byA (L204.map BodD.by), MapA m201 (ents (kI .i64) evD (aset E205 d.seq (⟨d.body, pp242, cc243⟩ : BytesD))), byA (mby (aset E205 d.seq (⟨d.body, pp242, cc243⟩ : BytesD)))]) H257)
                      have H259 := Row.nil_intro H258 26 1
                      have H260 := byA_nil H259
                      have H261 : St W w252 (Row 26 1 (.slice none 0 0) 0 [] :: byA ([] : List BytesD) :: LkA g (drS (ackS s d.ack.v) s.came (s.held ++ [(d.seq, d.body)])) :: (F.set i emp)) := (((((((H260.move 2 rfl).move 1 rfl).move 2 rfl).drop 3 rfl).drop 3 rfl).drop 3 rfl).drop 3 rfl)
                      have H262 : St W w252 (Row 26 1 (.slice none 0 0) 0 [] :: byA ([] : List BytesD) :: LkA g (drS (ackS s d.ack.v) s.came (s.held ++ [(d.seq, d.body)])) :: (F.set i emp)) := H261
                      refine g_loop_inv (fun (x_ : Nat × (List (I64 × List UInt8)) × (List BytesD) × (Option Addr) × Nat) => match x_ with | (c9, h9, O, p, c) => [(0, .pointer (some ⟨g, 0, none⟩)), (4, .slice none 0 0), (5, .int .i64 0), (10, .slice p O.length c)]) (fun (x_ : Nat × (List (I64 × List UInt8)) × (List BytesD) × (Option Addr) × Nat) w => match x_ with | (c9, h9, O, p, c) => (DrI (drain (s.held ++ [(d.seq, d.body)]).length s.came (s.held ++ [(d.seq, d.body)])) (O.map BytesD.data) c9 h9) ∧ (c9 ≤ 1099511627777) ∧ (∀ x ∈ h9, x.1.v ≤ 1099511627776) ∧ (O.length + h9.length ≤ s.held.length + 1) ∧ St W w (Row 26 1 (.slice p O.length c) O.length (O.flatMap byCell) :: byA O :: LkA g (drS (ackS s d.ack.v) c9 h9) :: (F.set i emp))) (fun (x_ : Nat × (List (I64 × List UInt8)) × (List BytesD) × (Option Addr) × Nat) => match x_ with | (c9, h9, O, p, c) => h9.length) (s.came, s.held ++ [(d.seq, d.body)], [], none, 0) ?_ ?_ ?_
                      · exact ⟨by first | rfl | exact vint (by omega), by first | rfl | exact vint (by omega), by first | rfl | exact vint (by omega), by first | rfl | exact vint (by omega), trivial⟩
                      · exact ⟨(DrI.start _ _), (by omega), (fun x hx => (List.mem_append.1 hx).elim (o8 x) (fun h => by rw [List.mem_singleton] at h; subst h; exact q2)), (by simp), H262⟩
                      · rintro ⟨c9, h9, O, p, c⟩ ρ263 w264 ⟨hDr, hc9, hh9, hl9, H265⟩ nx266
                        change Ends _ _ (upds ρ263 [(0, .pointer (some ⟨g, 0, none⟩)), (4, .slice none 0 0), (5, .int .i64 0), (10, .slice p O.length c)]) w264
                        refine g_block ?_
                        refine g_seq ?_
                        have H267 := H265.move 2 rfl
                        obtain ⟨⟨⟨m268, pp269, cc270, L271, E272⟩, hL273, hE274⟩, H275⟩ := St.open_ex H267
                        have H276 := St.open_star H275
                        change L271.map BodD.v = (drS (ackS s d.ack.v) c9 h9).l at hL273; change mapB E272 = (drS (ackS s d.ack.v) c9 h9).held at hE274
                        have hl277 := lenOf hL273; have he278 := mapB_len hE274
                        have H279 : St W w264 (blk g (.cells #[.int .i64 ((drS (ackS s d.ack.v) c9 h9).frm.v), .int .i64 ((drS (ackS s d.ack.v) c9 h9).to_.v), .int .i64 ((drS (ackS s d.ack.v) c9 h9).slide : Int), .slice pp269 L271.length cc270, .int .i64 ((drS (ackS s d.ack.v) c9 h9).acked : Int), .int .i64 ((i64N (drS (ackS s d.ack.v) c9 h9).came).v), .map (some m268), .int .i64 ((drS (ackS s d.ack.v) c9 h9).clock : Int), .bool ((drS (ackS s d.ack.v) c9 h9).owes)] 62 (0, 0)) :: Row 79 3 (.slice pp269 L271.length cc270) L271.length (L271.flatMap bodCell) :: byA (L271.map BodD.by) :: MapA m268 (ents (kI .i64) evD E272) :: byA (mby E272) :: Row 26 1 (.slice p O.length c) O.length (O.flatMap byCell) :: byA O :: (F.set i emp)) := H276
                        have hcv : (i64N (drS (ackS s d.ack.v) c9 h9).came).v = (c9 : Int) := i64N_v (n := c9) (by omega); have hcw := i64N_v (n := c9) (by omega)
                        refine g_quiet (fun w' => St W w' (blk g (.cells #[.int .i64 ((drS (ackS s d.ack.v) c9 h9).frm.v), .int .i64 ((drS (ackS s d.ack.v) c9 h9).to_.v), .int .i64 ((drS (ackS s d.ack.v) c9 h9).slide : Int), .slice pp269 L271.length cc270, .int .i64 ((drS (ackS s d.ack.v) c9 h9).acked : Int), .int .i64 ((i64N (drS (ackS s d.ack.v) c9 h9).came).v), .map (some m268), .int .i64 ((drS (ackS s d.ack.v) c9 h9).clock : Int), .bool ((drS (ackS s d.ack.v) c9 h9).owes)] 62 (0, 0)) :: Row 79 3 (.slice pp269 L271.length cc270) L271.length (L271.flatMap bodCell) :: byA (L271.map BodD.by) :: MapA m268 (ents (kI .i64) evD E272) :: byA (mby E272) :: Row 26 1 (.slice p O.length c) O.length (O.flatMap byCell) :: byA O :: (F.set i emp))) mixed (by kernel_rfl) H279.drew ?_
                        refine q_cons (q_val rfl rfl rfl (by intro w hw; exact x_move (.pointer (some ⟨g, 0, none⟩)) rfl w) ?_)
                        refine q_cons (q_val rfl rfl rfl (by intro w hw; exact x_nilCheck (.pointer (some ⟨g, 0, none⟩)) rfl ⟨_, rfl⟩ w) ?_)
                        refine q_cons (q_val rfl rfl rfl (by intro w hw; exact x_fieldAddr 62 5 6 6 60 rfl fi_62_5 rfl w) ?_)
                        refine q_cons (q_val rfl rfl rfl (by intro w hw; exact x_load (.map (some m268)) ag_60 rfl (hw.blk_at (i := 0) rfl) rfl) ?_)
                        refine q_cons (q_val rfl rfl rfl (by intro w hw; exact x_move (.pointer (some ⟨g, 0, none⟩)) rfl w) ?_)
                        refine q_cons (q_val rfl rfl rfl (by intro w hw; exact x_nilCheck (.pointer (some ⟨g, 0, none⟩)) rfl ⟨_, rfl⟩ w) ?_)
                        refine q_cons (q_val rfl rfl rfl (by intro w hw; exact x_fieldAddr 62 4 5 5 2 rfl fi_62_4 rfl w) ?_)
                        refine q_cons (q_val rfl rfl rfl (by intro w hw; exact x_load (.int .i64 ((i64N (drS (ackS s d.ack.v) c9 h9).came).v)) ag_2 rfl (hw.blk_at (i := 0) rfl) rfl) ?_)
                        refine q_cons (q_val rfl rfl rfl (by intro w hw; exact x_lookup2 (ek := (kI .i64)) (ev := evD) (L := E272) (i64N (drS (ackS s d.ack.v) c9 h9).came) ((lookV evD (.slice none 0 0) E272 (i64N (drS (ackS s d.ack.v) c9 h9).came))) (ahas E272 (i64N (drS (ackS s d.ack.v) c9 h9).came)) (MapA.at hw (i := 3) rfl) (KeyLaw.I un_2) un_60 zv_26 rfl rfl (rfl) rfl) ?_)
                        refine q_cons (q_val rfl rfl rfl (by intro w hw; exact x_move (.tuple #[(lookV evD (.slice none 0 0) E272 (i64N (drS (ackS s d.ack.v) c9 h9).came)), .bool (ahas E272 (i64N (drS (ackS s d.ack.v) c9 h9).came))]) rfl w) ?_)
                        refine q_cons (q_val rfl rfl rfl (by intro w hw; exact x_extract ((lookV evD (.slice none 0 0) E272 (i64N (drS (ackS s d.ack.v) c9 h9).came))) #[(lookV evD (.slice none 0 0) E272 (i64N (drS (ackS s d.ack.v) c9 h9).came)), .bool (ahas E272 (i64N (drS (ackS s d.ack.v) c9 h9).came))] rfl rfl w) ?_)
                        refine q_cons (q_val rfl rfl rfl (by intro w hw; exact x_extract (.bool (ahas E272 (i64N (drS (ackS s d.ack.v) c9 h9).came))) #[(lookV evD (.slice none 0 0) E272 (i64N (drS (ackS s d.ack.v) c9 h9).came)), .bool (ahas E272 (i64N (drS (ackS s d.ack.v) c9 h9).came))] rfl rfl w) ?_)
                        refine q_cons (q_val rfl rfl rfl (by intro w hw; exact x_assign ((lookV evD (.slice none 0 0) E272 (i64N (drS (ackS s d.ack.v) c9 h9).came))) rfl w) ?_)
                        refine q_cons (q_val rfl rfl rfl (by intro w hw; exact x_assign (.bool (ahas E272 (i64N (drS (ackS s d.ack.v) c9 h9).came))) rfl w) ?_)
                        refine q_nil ?_
                        intro w280 H281
                        refine g_seq ?_
                        refine g_seq ?_
                        refine g_region ?_
                        refine r_cons (s_move (.bool (ahas E272 (i64N (drS (ackS s d.ack.v) c9 h9).came))) rfl rfl ?_)
                        refine r_cons (s_not (ahas E272 (i64N (drS (ackS s d.ack.v) c9 h9).came)) rfl (!(ahas E272 (i64N (drS (ackS s d.ack.v) c9 h9).came))) rfl rfl ?_)
                        refine r_nil ?_
                        by_cases hb282 : (!(ahas E272 (i64N (drS (ackS s d.ack.v) c9 h9).came))) = true
                        · skip
                          refine g_true (congrArg Value.bool hb282) ?_
                          refine g_seq ?_
                          refine g_region ?_
                          have hno : ahas h9 (i64N c9) = false := by rw [mapB_has (show mapB E272 = h9 from hE274)]; show ahas E272 (i64N (drS (ackS s d.ack.v) c9 h9).came) = false; simpa using hb282
                          refine r_cons (s_move (.slice p O.length c) rfl rfl ?_)
                          refine r_cons (s_assign (.slice p O.length c) rfl rfl ?_)
                          refine r_cons (s_assign (.int .i64 0) rfl rfl ?_)
                          refine r_nil ?_
                          refine g_ret' [.slice p O.length c, .int .i64 0] Try.func21 Try.results21 ⟨rfl, rfl, trivial⟩ ?_
                          have H283 : St W w280 (LkA g (drS (ackS s d.ack.v) c9 h9) :: Row 26 1 (.slice p O.length c) O.length (O.flatMap byCell) :: byA O :: (F.set i emp)) := St.shut_ex ⟨(m268, pp269, cc270, L271, E272), hL273, hE274⟩ (St.shut_star (ls := [blk g (.cells #[.int .i64 ((drS (ackS s d.ack.v) c9 h9).frm.v), .int .i64 ((drS (ackS s d.ack.v) c9 h9).to_.v), .int .i64 ((drS (ackS s d.ack.v) c9 h9).slide : Int), .slice pp269 L271.length cc270, .int .i64 ((drS (ackS s d.ack.v) c9 h9).acked : Int), .int .i64 ((i64N (drS (ackS s d.ack.v) c9 h9).came).v), .map (some m268), .int .i64 ((drS (ackS s d.ack.v) c9 h9).clock : Int), .bool ((drS (ackS s d.ack.v) c9 h9).owes)] 62 (0, 0)), Row 79 3 (.slice pp269 L271.length cc270) L271.length (L271.flatMap bodCell), byA (L271.map BodD.by), MapA m268 (ents (kI .i64) evD E272), byA (mby E272)]) H281)
                          have hd9 := hDr.stop hno
                          have hT9 : takeT s d = O.map BytesD.data := by rw [takeT_yes hE hk1, hC, hd9]
                          have H284 : St W w280 (Row 26 1 (.slice p O.length c) O.length (O.flatMap byCell) :: byA O :: LkA g (drS (ackS s d.ack.v) c9 h9) :: (F.set i emp)) := ((H283.move 2 rfl).move 2 rfl)
                          have hn285 : (takeT s d).length = O.length := (by rw [hT9, List.length_map])
                          have H286 : St W w280 (Row 26 1 (.slice p ((takeT s d).length) c) ((takeT s d).length) (O.flatMap byCell) :: byA O :: LkA g (drS (ackS s d.ack.v) c9 h9) :: (F.set i emp)) := by rw [hn285]; exact H284
                          have H287 : St W w280 (BysA p c (takeT s d) :: LkA g (drS (ackS s d.ack.v) c9 h9) :: (F.set i emp)) := St.shut_ex ⟨O, hT9.symm⟩ (St.shut_star (ls := [Row 26 1 (.slice p ((takeT s d).length) c) ((takeT s d).length) (O.flatMap byCell), byA O]) H286)
                          have H288 : St W w280 (BysA p c (takeT s d) :: LkA g (takeS s d) :: (F.set i emp)) := by rw [takeS_data hE hk1, hC, hd9]; exact H287
                          have H289 : St W w280 (BysA p c (takeT s d) :: LkA g (takeS s d) :: (F.set i emp)) := ((H288.move 1 rfl).move 1 rfl)
                          have H290 : St W w280 (LkA g (takeS s d) :: (BysA p c (takeT s d) :: F).set (i + 1) emp) := (H289.move 1 rfl)
                          exact ⟨_, _, by rw [hE, hn285]; rfl, St.back (i := i + 1) (by exact hi) H290⟩
                        · have hb282 := eq_false_of_ne_true hb282
                          refine g_false (congrArg Value.bool hb282) ?_
                          refine g_skip ?_
                          refine g_seq ?_
                          obtain ⟨x9, hx9⟩ : ∃ x, aget E272 (i64N (drS (ackS s d.ack.v) c9 h9).came) = some x := Option.isSome_iff_exists.1 (by rw [aget_has]; simpa using hb282)
                          have hg9 : aget h9 (i64N c9) = some x9.data := by rw [mapB_get (show mapB E272 = h9 from hE274)]; exact congrArg (Option.map BytesD.data) hx9
                          have hk9 := hh9 _ (aget_mem hg9); simp only at hk9
                          have hhl := adel_len (has_of_get hg9)
                          rw [look_some hx9]
                          have H291 : St W w280 (blk g (.cells #[.int .i64 ((drS (ackS s d.ack.v) c9 h9).frm.v), .int .i64 ((drS (ackS s d.ack.v) c9 h9).to_.v), .int .i64 ((drS (ackS s d.ack.v) c9 h9).slide : Int), .slice pp269 L271.length cc270, .int .i64 ((drS (ackS s d.ack.v) c9 h9).acked : Int), .int .i64 ((i64N (drS (ackS s d.ack.v) c9 h9).came).v), .map (some m268), .int .i64 ((drS (ackS s d.ack.v) c9 h9).clock : Int), .bool ((drS (ackS s d.ack.v) c9 h9).owes)] 62 (0, 0)) :: Row 79 3 (.slice pp269 L271.length cc270) L271.length (L271.flatMap bodCell) :: byA (L271.map BodD.by) :: byA (mby E272) :: Row 26 1 (.slice p O.length c) O.length (O.flatMap byCell) :: byA O :: MapA m268 (ents (kI .i64) evD E272) :: (F.set i emp)) := (((((((H281.move 3 rfl).move 6 rfl).move 6 rfl).move 6 rfl).move 6 rfl).move 6 rfl).move 6 rfl)
                          refine g_mix (fun t_ w => St W w (blk g (.cells #[.int .i64 ((drS (ackS s d.ack.v) c9 h9).frm.v), .int .i64 ((drS (ackS s d.ack.v) c9 h9).to_.v), .int .i64 ((drS (ackS s d.ack.v) c9 h9).slide : Int), .slice pp269 L271.length cc270, .int .i64 ((drS (ackS s d.ack.v) c9 h9).acked : Int), .int .i64 ((i64N (drS (ackS s d.ack.v) c9 h9).came).v), .map (some m268), .int .i64 ((drS (ackS s d.ack.v) c9 h9).clock : Int), .bool ((drS (ackS s d.ack.v) c9 h9).owes)] 62 (0, 0)) :: Row 79 3 (.slice pp269 L271.length cc270) L271.length (L271.flatMap bodCell) :: byA (L271.map BodD.by) :: byA (mby E272) :: Row 26 1 (.slice p O.length c) O.length (O.flatMap byCell) :: byA O :: t_)) (MapA m268 (ents (kI .i64) evD E272) :: (F.set i emp)) mixed 9 rfl H291.drew ?_
                          refine f_first 0 (listed' := #[true, false, false, false, false, false, false, false, false]) rfl (by kernel_rfl) (by kernel_rfl) (by kernel_rfl) rfl ?_
                          refine f_val rfl rfl rfl (by intro t_ w hw; exact x_move (.pointer (some ⟨g, 0, none⟩)) rfl w) ?_
                          refine f_first 1 (listed' := #[true, true, false, false, false, false, false, false, false]) rfl (by kernel_rfl) (by kernel_rfl) (by kernel_rfl) rfl ?_
                          refine f_val rfl rfl rfl (by intro t_ w hw; exact x_nilCheck (.pointer (some ⟨g, 0, none⟩)) rfl ⟨_, rfl⟩ w) ?_
                          refine f_first 2 (listed' := #[true, true, true, false, false, false, false, false, false]) rfl (by kernel_rfl) (by kernel_rfl) (by kernel_rfl) rfl ?_
                          refine f_val rfl rfl rfl (by intro t_ w hw; exact x_fieldAddr 62 5 6 6 60 rfl fi_62_5 rfl w) ?_
                          refine f_first 3 (listed' := #[true, true, true, true, false, false, false, false, false]) rfl (by kernel_rfl) (by kernel_rfl) (by kernel_rfl) rfl ?_
                          refine f_val rfl rfl rfl (by intro t_ w hw; exact x_load (.map (some m268)) ag_60 rfl (hw.blk_at (i := 0) rfl) rfl) ?_
                          refine f_first 4 (listed' := #[true, true, true, true, true, false, false, false, false]) rfl (by kernel_rfl) (by kernel_rfl) (by kernel_rfl) rfl ?_
                          refine f_val rfl rfl rfl (by intro t_ w hw; exact x_move (.pointer (some ⟨g, 0, none⟩)) rfl w) ?_
                          refine f_first 5 (listed' := #[true, true, true, true, true, true, false, false, false]) rfl (by kernel_rfl) (by kernel_rfl) (by kernel_rfl) rfl ?_
                          refine f_val rfl rfl rfl (by intro t_ w hw; exact x_nilCheck (.pointer (some ⟨g, 0, none⟩)) rfl ⟨_, rfl⟩ w) ?_
                          refine f_first 6 (listed' := #[true, true, true, true, true, true, true, false, false]) rfl (by kernel_rfl) (by kernel_rfl) (by kernel_rfl) rfl ?_
                          refine f_val rfl rfl rfl (by intro t_ w hw; exact x_fieldAddr 62 4 5 5 2 rfl fi_62_4 rfl w) ?_
                          refine f_first 7 (listed' := #[true, true, true, true, true, true, true, true, false]) rfl (by kernel_rfl) (by kernel_rfl) (by kernel_rfl) rfl ?_
                          refine f_val rfl rfl rfl (by intro t_ w hw; exact x_load (.int .i64 ((i64N (drS (ackS s d.ack.v) c9 h9).came).v)) ag_2 rfl (hw.blk_at (i := 0) rfl) rfl) ?_
                          refine f_all (rs := [8]) (by kernel_rfl) (by simp) ?_
                          refine a_cons ⟨_, rfl, ?_⟩ (fun x hx => absurd hx (by simp))
                          intro w292 H293
                          try dsimp only at H293
                          refine s_delete (ek := (kI .i64)) (ev := evD) (L := E272) (i64N (drS (ackS s d.ack.v) c9 h9).came) H293 (i := 6) rfl (KeyLaw.I un_2) un_60 rfl rfl ?_; intro w294 H295
                          have H296 : St W w294 (blk g (.cells #[.int .i64 ((drS (ackS s d.ack.v) c9 h9).frm.v), .int .i64 ((drS (ackS s d.ack.v) c9 h9).to_.v), .int .i64 ((drS (ackS s d.ack.v) c9 h9).slide : Int), .slice pp269 L271.length cc270, .int .i64 ((drS (ackS s d.ack.v) c9 h9).acked : Int), .int .i64 ((i64N (drS (ackS s d.ack.v) c9 h9).came).v), .map (some m268), .int .i64 ((drS (ackS s d.ack.v) c9 h9).clock : Int), .bool ((drS (ackS s d.ack.v) c9 h9).owes)] 62 (0, 0)) :: Row 79 3 (.slice pp269 L271.length cc270) L271.length (L271.flatMap bodCell) :: byA (L271.map BodD.by) :: byA (mby E272) :: Row 26 1 (.slice p O.length c) O.length (O.flatMap byCell) :: byA O :: MapA m268 (ents (kI .i64) evD (adel E272 (i64N (drS (ackS s d.ack.v) c9 h9).came))) :: (F.set i emp)) := H295
                          refine ⟨MapA m268 (ents (kI .i64) evD (adel E272 (i64N (drS (ackS s d.ack.v) c9 h9).came))) :: (F.set i emp), ?_, H296⟩
                          change FReg _ _ _ _ _ #[true, true, true, true, true, true, true, true, true] _ _
                          refine f_done (by kernel_rfl) ?_
                          intro w297 H298
                          refine g_seq ?_
                          refine g_region ?_
                          refine r_cons (s_move (.pointer (some ⟨g, 0, none⟩)) rfl rfl ?_)
                          refine r_cons (s_nilCheck (.pointer (some ⟨g, 0, none⟩)) rfl ⟨_, rfl⟩ rfl ?_)
                          refine r_cons (s_fieldAddr 62 4 5 5 2 rfl fi_62_4 rfl rfl ?_)
                          refine r_cons (s_load (.int .i64 ((i64N (drS (ackS s d.ack.v) c9 h9).came).v)) ag_2 rfl (H298.blk_at (i := 0) rfl) rfl rfl ?_)
                          refine r_cons (s_add ((c9 + 1 : Nat) : Int) rfl rfl ((wi64 (by omega)).trans (by omega)) rfl ?_)
                          refine r_cons (s_nilCheck (.pointer (some ⟨g, 0, none⟩)) rfl ⟨_, rfl⟩ rfl ?_)
                          refine r_cons (s_fieldAddr 62 4 5 5 2 rfl fi_62_4 rfl rfl ?_)
                          refine r_cons (s_store H298 0 (.int .i64 ((c9 + 1 : Nat) : Int)) rfl rfl rfl sz_2 rfl (Nat.le_of_ble_eq_true rfl) rfl (cs' := #[.int .i64 ((drS (ackS s d.ack.v) c9 h9).frm.v), .int .i64 ((drS (ackS s d.ack.v) c9 h9).to_.v), .int .i64 ((drS (ackS s d.ack.v) c9 h9).slide : Int), .slice pp269 L271.length cc270, .int .i64 ((drS (ackS s d.ack.v) c9 h9).acked : Int), .int .i64 ((c9 + 1 : Nat) : Int), .map (some m268), .int .i64 ((drS (ackS s d.ack.v) c9 h9).clock : Int), .bool ((drS (ackS s d.ack.v) c9 h9).owes)]) rfl ?_); intro w299 H300
                          refine r_nil ?_
                          refine g_region ?_
                          refine r_cons (s_move (.slice p O.length c) rfl rfl ?_)
                          refine r_cons (s_move (.slice x9.p x9.data.length x9.c) rfl rfl ?_)
                          refine r_cons (s_buildSlice H300 1 1 (cs := #[.slice x9.p x9.data.length x9.c]) #[.slice none 0 0] el_32 ze_26 (by decide) (by decide) (by kernel_rfl) rfl ?_); intro bk301 w302 H303
                          refine r_cons (s_append H303 5 rfl rfl rfl (rd_blk (H303.blk_at (i := 0) rfl) rfl (Nat.le_of_ble_eq_true rfl) (by simp [Value.oneCell'])) ap_32 (by decide) (by unfold maxLen; omega) (by omega) (n' := O.length + 1) (xs' := O.flatMap byCell ++ ([.slice x9.p x9.data.length x9.c] : List Value)) (by omega) (by first | rfl | simp) rfl ?_); intro vv304 w305 H306 hn307
                          obtain ⟨pp308, cc309, rfl⟩ := Row.slice H306 (i := 5) rfl
                          refine r_cons (s_assign (.slice pp308 (O.length + 1) cc309) rfl rfl ?_)
                          refine r_nil ?_
                          refine g_inBlock ?_
                          have H310 : St W w305 (blk bk301 (.cells #[.slice x9.p x9.data.length x9.c] 26 (0, 0)) :: blk g (.cells #[.int .i64 ((drS (ackS s d.ack.v) c9 h9).frm.v), .int .i64 ((drS (ackS s d.ack.v) c9 h9).to_.v), .int .i64 ((drS (ackS s d.ack.v) c9 h9).slide : Int), .slice pp269 L271.length cc270, .int .i64 ((drS (ackS s d.ack.v) c9 h9).acked : Int), .int .i64 ((i64N (c9 + 1)).v), .map (some m268), .int .i64 ((drS (ackS s d.ack.v) c9 h9).clock : Int), .bool ((drS (ackS s d.ack.v) c9 h9).owes)] 62 (0, 0)) :: Row 79 3 (.slice pp269 L271.length cc270) L271.length (L271.flatMap bodCell) :: byA (L271.map BodD.by) :: byA (mby E272) :: Row 26 1 (.slice pp308 ((O ++ [x9]).length) cc309) ((O ++ [x9]).length) ((O ++ [x9]).flatMap byCell) :: byA O :: MapA m268 (ents (kI .i64) evD (adel E272 (i64N (drS (ackS s d.ack.v) c9 h9).came))) :: (F.set i emp)) := by rw [i64N_v (n := c9 + 1) (by omega), flat_app, flat_one, List.length_append]; exact H306
                          have H311 : St W w305 (Im 1 (.slice x9.p x9.data.length x9.c) x9.data.length (x9.data.flatMap u8c) :: blk bk301 (.cells #[.slice x9.p x9.data.length x9.c] 26 (0, 0)) :: blk g (.cells #[.int .i64 ((drS (ackS s d.ack.v) c9 h9).frm.v), .int .i64 ((drS (ackS s d.ack.v) c9 h9).to_.v), .int .i64 ((drS (ackS s d.ack.v) c9 h9).slide : Int), .slice pp269 L271.length cc270, .int .i64 ((drS (ackS s d.ack.v) c9 h9).acked : Int), .int .i64 ((i64N (c9 + 1)).v), .map (some m268), .int .i64 ((drS (ackS s d.ack.v) c9 h9).clock : Int), .bool ((drS (ackS s d.ack.v) c9 h9).owes)] 62 (0, 0)) :: Row 79 3 (.slice pp269 L271.length cc270) L271.length (L271.flatMap bodCell) :: byA (L271.map BodD.by) :: byA (mby E272) :: Row 26 1 (.slice pp308 ((O ++ [x9]).length) cc309) ((O ++ [x9]).length) ((O ++ [x9]).flatMap byCell) :: byA O :: MapA m268 (ents (kI .i64) evD (adel E272 (i64N (drS (ackS s d.ack.v) c9 h9).came))) :: (F.set i emp)) := byA_at H310 (i := 4) rfl (mby_get hx9)
                          have H312 := byA_add (x := x9) H311 (i := 7) (j := 0) rfl rfl snoc_b
                          have H313 := byA_sub (M := mby (adel E272 (i64N (drS (ackS s d.ack.v) c9 h9).came))) H312 (i := 6) rfl mby_del
                          have H314 : St W w305 (blk g (.cells #[.int .i64 ((drS (ackS s d.ack.v) c9 h9).frm.v), .int .i64 ((drS (ackS s d.ack.v) c9 h9).to_.v), .int .i64 ((drS (ackS s d.ack.v) c9 h9).slide : Int), .slice pp269 L271.length cc270, .int .i64 ((drS (ackS s d.ack.v) c9 h9).acked : Int), .int .i64 ((i64N (c9 + 1)).v), .map (some m268), .int .i64 ((drS (ackS s d.ack.v) c9 h9).clock : Int), .bool ((drS (ackS s d.ack.v) c9 h9).owes)] 62 (0, 0)) :: Row 79 3 (.slice pp269 L271.length cc270) L271.length (L271.flatMap bodCell) :: byA (L271.map BodD.by) :: MapA m268 (ents (kI .i64) evD (adel E272 (i64N (drS (ackS s d.ack.v) c9 h9).came))) :: byA (mby (adel E272 (i64N (drS (ackS s d.ack.v) c9 h9).came))) :: byA (O ++ [x9]) :: Im 1 (.slice x9.p x9.data.length x9.c) x9.data.length (x9.data.flatMap u8c) :: blk bk301 (.cells #[.slice x9.p x9.data.length x9.c] 26 (0, 0)) :: byA (mby E272) :: Row 26 1 (.slice pp308 ((O ++ [x9]).length) cc309) ((O ++ [x9]).length) ((O ++ [x9]).flatMap byCell) :: byA O :: (F.set i emp)) := ((((H313.move 10 rfl).move 7 rfl).move 7 rfl).move 7 rfl)
                          have H315 : St W w305 (LkA g (drS (ackS s d.ack.v) (c9 + 1) (adel h9 (i64N c9))) :: byA (O ++ [x9]) :: Im 1 (.slice x9.p x9.data.length x9.c) x9.data.length (x9.data.flatMap u8c) :: blk bk301 (.cells #[.slice x9.p x9.data.length x9.c] 26 (0, 0)) :: byA (mby E272) :: Row 26 1 (.slice pp308 ((O ++ [x9]).length) cc309) ((O ++ [x9]).length) ((O ++ [x9]).flatMap byCell) :: byA O :: (F.set i emp)) := St.shut_ex ⟨(m268, pp269, cc270, L271, (adel E272 (i64N (drS (ackS s d.ack.v) c9 h9).came))), hL273, (show mapB (adel E272 (i64N (drS (ackS s d.ack.v) c9 h9).came)) = adel h9 (i64N c9) from mapB_del hE274 _)⟩ (St.shut_star (ls := [blk g (.cells #[.int .i64 ((drS (ackS s d.ack.v) c9 h9).frm.v), .int .i64 ((drS (ackS s d.ack.v) c9 h9).to_.v), .int .i64 ((drS (ackS s d.ack.v) c9 h9).slide : Int), .slice pp269 L271.length cc270, .int .i64 ((drS (ackS s d.ack.v) c9 h9).acked : Int), .int .i64 ((i64N (c9 + 1)).v), .map (some m268), .int .i64 ((drS (ackS s d.ack.v) c9 h9).clock : Int), .bool ((drS (ackS s d.ack.v) c9 h9).owes)] 62 (0, 0)), Row 79 3 (.slice pp269 L271.length cc270) L271.length (L271.flatMap bodCell), byA (L271.map BodD.by), MapA m268 (ents (kI .i64) evD (adel E272 (i64N (drS (ackS s d.ack.v) c9 h9).came))), byA (mby (adel E272 (i64N (drS (ackS s d.ack.v) c9 h9).came)))]) H314)
                          have H316 : St W w305 (Row 26 1 (.slice pp308 ((O ++ [x9]).length) cc309) ((O ++ [x9]).length) ((O ++ [x9]).flatMap byCell) :: byA (O ++ [x9]) :: LkA g (drS (ackS s d.ack.v) (c9 + 1) (adel h9 (i64N c9))) :: (F.set i emp)) := ((((((H315.move 1 rfl).move 5 rfl).drop 3 rfl).drop 3 rfl).drop 3 rfl).drop 3 rfl)
                          exact nx266 (c9 + 1, adel h9 (i64N c9), (O ++ [x9]), pp308, cc309) _ _ ⟨(by rw [List.map_append]; exact hDr.step hg9), (by omega), (fun x hx => hh9 x (adel_sub hx)), (by rw [List.length_append]; have := adel_len (has_of_get hg9); simp only [List.length_cons, List.length_nil]; omega), H316⟩ (by first | (dsimp only; (have := adel_len (has_of_get hg9); omega)) | (have := adel_len (has_of_get hg9); omega)) ⟨by first | rfl | exact vint (by omega), by first | rfl | exact vint (by omega), by first | rfl | exact vint (by omega), by first | rfl | (show Value.slice _ _ _ = _; rw [List.length_append]; rfl), trivial⟩
                · intro join196
                  refine g_false rfl ?_
                  refine g_skip ?_
                  have ha9 : ¬ (s.acked : Int) < d.ack.v := by omega
                  have H317 : St W w55 (LkA g s :: blk bk7 (.cells #[.int .i64 d.frm.v, .int .i64 d.to_.v, .int .i64 d.kind.v, .int .i64 d.seq.v, .int .i64 d.ack.v, .slice pp1 d.body.length cc2] 41 (0, 0)) :: Im 1 (.slice pp1 d.body.length cc2) d.body.length (d.body.flatMap u8c) :: (F.set i emp)) := St.shut_ex ⟨(m16, pp17, cc18, L19, E20), hL21, hE22⟩ (St.shut_star (ls := [blk g (.cells #[.int .i64 s.frm.v, .int .i64 s.to_.v, .int .i64 (s.slide : Int), .slice pp17 L19.length cc18, .int .i64 (s.acked : Int), .int .i64 ((i64N s.came).v), .map (some m16), .int .i64 (s.clock : Int), .bool s.owes] 62 (0, 0)), Row 79 3 (.slice pp17 L19.length cc18) L19.length (L19.flatMap bodCell), byA (L19.map BodD.by), MapA m16 (ents (kI .i64) evD E20), byA (mby E20)]) H56)
                  have H318 : St W w55 (LkA g (ackS s d.ack.v) :: blk bk7 (.cells #[.int .i64 d.frm.v, .int .i64 d.to_.v, .int .i64 d.kind.v, .int .i64 d.seq.v, .int .i64 d.ack.v, .slice pp1 d.body.length cc2] 41 (0, 0)) :: Im 1 (.slice pp1 d.body.length cc2) d.body.length (d.body.flatMap u8c) :: (F.set i emp)) := by rw [ackS_no ha9]; exact H317
                  have H319 : St W w55 (LkA g (ackS s d.ack.v) :: blk bk7 (.cells #[.int .i64 d.frm.v, .int .i64 d.to_.v, .int .i64 d.kind.v, .int .i64 d.seq.v, .int .i64 d.ack.v, .slice pp1 d.body.length cc2] 41 (0, 0)) :: Im 1 (.slice pp1 d.body.length cc2) d.body.length (d.body.flatMap u8c) :: (F.set i emp)) := (((H318.move 2 rfl).move 2 rfl).move 2 rfl)
                  exact join196 (()) _ _ ⟨trivial, H319⟩ ⟨by first | rfl | exact vint (by omega), by first | rfl | exact vint (by omega), by first | rfl | exact vint (by omega), by first | rfl | exact vint (by omega), trivial⟩
          · skip
            refine q_val rfl rfl rfl (by intro w hw; exact x_eql false rfl rfl (dfalse hc41) w) ?_
            refine q_cons (q_take rfl rfl ?_)
            refine q_val rfl rfl rfl (by intro w hw; exact x_move (.bool false) rfl w) ?_
            refine q_cons (q_pass rfl rfl rfl rfl rfl ?_)
            refine q_cons (q_pass rfl rfl rfl rfl rfl ?_)
            refine q_cons (q_pass rfl rfl rfl rfl rfl ?_)
            refine q_cons (q_pass rfl rfl rfl rfl rfl ?_)
            refine q_cons (q_pass rfl rfl rfl rfl rfl ?_)
            refine q_cons (q_pass rfl rfl rfl rfl rfl ?_)
            refine q_cons (q_pass rfl rfl rfl rfl rfl ?_)
            refine q_cons (q_pass rfl rfl rfl rfl rfl ?_)
            refine q_cons (q_take rfl rfl ?_)
            refine q_val rfl rfl rfl (by intro w hw; exact x_pick_f (.bool false) rfl rfl w) ?_
            refine q_cons (q_val rfl rfl rfl (by intro w hw; exact x_pick_f (.bool false) rfl rfl w) ?_)
            refine q_nil ?_
            intro w320 H321
            refine g_false rfl ?_
            refine g_skip ?_
            refine g_seq ?_
            refine g_seq ?_
            have hst : stray s d = false := decide_eq_false (by omega)
            have hE : takeE s d = 0 := takeE_is hd0 hst
            have hs9 := stray_not hst
            refine g_quiet (fun w' => St W w' (blk g (.cells #[.int .i64 s.frm.v, .int .i64 s.to_.v, .int .i64 (s.slide : Int), .slice pp17 L19.length cc18, .int .i64 (s.acked : Int), .int .i64 ((i64N s.came).v), .map (some m16), .int .i64 (s.clock : Int), .bool s.owes] 62 (0, 0)) :: Row 79 3 (.slice pp17 L19.length cc18) L19.length (L19.flatMap bodCell) :: byA (L19.map BodD.by) :: MapA m16 (ents (kI .i64) evD E20) :: byA (mby E20) :: blk bk7 (.cells #[.int .i64 d.frm.v, .int .i64 d.to_.v, .int .i64 d.kind.v, .int .i64 d.seq.v, .int .i64 d.ack.v, .slice pp1 d.body.length cc2] 41 (0, 0)) :: Im 1 (.slice pp1 d.body.length cc2) d.body.length (d.body.flatMap u8c) :: (F.set i emp))) mixed (by kernel_rfl) H321.drew ?_
            refine q_cons (q_val rfl rfl rfl (by intro w hw; exact x_fieldAddr 41 4 4 4 2 rfl fi_41_4 rfl w) ?_)
            refine q_cons (q_val rfl rfl rfl (by intro w hw; exact x_load (.int .i64 d.ack.v) ag_2 rfl (hw.blk_at (i := 5) rfl) rfl) ?_)
            refine q_cons (q_val rfl rfl rfl (by intro w hw; exact x_move (.pointer (some ⟨g, 0, none⟩)) rfl w) ?_)
            refine q_cons (q_val rfl rfl rfl (by intro w hw; exact x_nilCheck (.pointer (some ⟨g, 0, none⟩)) rfl ⟨_, rfl⟩ w) ?_)
            refine q_cons (q_val rfl rfl rfl (by intro w hw; exact x_fieldAddr 62 3 4 4 2 rfl fi_62_3 rfl w) ?_)
            refine q_cons (q_val rfl rfl rfl (by intro w hw; exact x_load (.int .i64 (s.acked : Int)) ag_2 rfl (hw.blk_at (i := 0) rfl) rfl) ?_)
            refine q_cons (q_val rfl rfl rfl (by intro w hw; exact x_sub (d.ack.v - (s.acked : Int)) rfl rfl (wi64 (by omega)) w) ?_)
            refine q_cons (q_val rfl rfl rfl (by intro w hw; exact x_assign (.int .i64 (d.ack.v - (s.acked : Int))) rfl w) ?_)
            refine q_nil ?_
            intro w322 H323
            refine g_seq ?_
            refine g_region ?_
            refine r_cons (s_move (.int .i64 (d.ack.v - (s.acked : Int))) rfl rfl ?_)
            by_cases hc324 : (0 : Int) < d.ack.v - (s.acked : Int)
            · skip
              refine r_cons (s_gtr true rfl rfl (dtrue hc324) rfl ?_)
              refine r_nil ?_
              refine g_cut (fun (x_ : Unit) => match x_ with | z_ => [(0, .pointer (some ⟨g, 0, none⟩)), (3, .pointer (some ⟨bk7, 0, none⟩)), (4, .slice none 0 0), (5, .int .i64 0)]) (fun (x_ : Unit) w => match x_ with | z_ => (True) ∧ St W w (LkA g (ackS s d.ack.v) :: blk bk7 (.cells #[.int .i64 d.frm.v, .int .i64 d.to_.v, .int .i64 d.kind.v, .int .i64 d.seq.v, .int .i64 d.ack.v, .slice pp1 d.body.length cc2] 41 (0, 0)) :: Im 1 (.slice pp1 d.body.length cc2) d.body.length (d.body.flatMap u8c) :: (F.set i emp))) ?_ ?_
              · rintro z_ ρ328 w326 ⟨hz_, H327⟩
                change Ends _ _ (upds ρ328 [(0, .pointer (some ⟨g, 0, none⟩)), (3, .pointer (some ⟨bk7, 0, none⟩)), (4, .slice none 0 0), (5, .int .i64 0)]) w326
                have hca := ackS_came s d.ack.v; have hhe := ackS_held s d.ack.v; have hcy : (i64N (ackS s d.ack.v).came).v = (s.came : Int) := by rw [hca]; exact o7
                refine g_seq ?_
                refine g_seq ?_
                refine g_region ?_
                refine r_cons (s_fieldAddr 41 2 2 2 3 rfl fi_41_2 rfl rfl ?_)
                refine r_cons (s_load (.int .i64 d.kind.v) ag_3 rfl (H327.blk_at (i := 1) rfl) rfl rfl ?_)
                refine r_cons (s_neq true rfl rfl (nfalse (by omega)) rfl ?_)
                refine r_nil ?_
                refine g_true rfl ?_
                refine g_seq ?_
                refine g_region ?_
                refine r_cons (s_assign (.slice none 0 0) rfl rfl ?_)
                refine r_cons (s_assign (.int .i64 0) rfl rfl ?_)
                refine r_nil ?_
                refine g_ret' [.slice none 0 0, .int .i64 0] Try.func21 Try.results21 ⟨rfl, rfl, trivial⟩ ?_
                have H329 := Row.nil_intro H327 26 1
                have H330 := byA_nil H329
                have H331 : St W w326 (Row 26 1 (.slice none 0 0) 0 [] :: byA ([] : List BytesD) :: LkA g (ackS s d.ack.v) :: blk bk7 (.cells #[.int .i64 d.frm.v, .int .i64 d.to_.v, .int .i64 d.kind.v, .int .i64 d.seq.v, .int .i64 d.ack.v, .slice pp1 d.body.length cc2] 41 (0, 0)) :: Im 1 (.slice pp1 d.body.length cc2) d.body.length (d.body.flatMap u8c) :: (F.set i emp)) := (H330.move 1 rfl)
                have hT9 : takeT s d = [] := takeT_no (fun h => by omega)
                have H332 : St W w326 (BysA none 0 (takeT s d) :: LkA g (ackS s d.ack.v) :: blk bk7 (.cells #[.int .i64 d.frm.v, .int .i64 d.to_.v, .int .i64 d.kind.v, .int .i64 d.seq.v, .int .i64 d.ack.v, .slice pp1 d.body.length cc2] 41 (0, 0)) :: Im 1 (.slice pp1 d.body.length cc2) d.body.length (d.body.flatMap u8c) :: (F.set i emp)) := by rw [hT9]; exact St.shut_ex ⟨[], rfl⟩ (St.shut_star (ls := [Row 26 1 (.slice none 0 0) 0 [], byA ([] : List BytesD)]) H331)
                have H333 : St W w326 (BysA none 0 (takeT s d) :: LkA g (takeS s d) :: blk bk7 (.cells #[.int .i64 d.frm.v, .int .i64 d.to_.v, .int .i64 d.kind.v, .int .i64 d.seq.v, .int .i64 d.ack.v, .slice pp1 d.body.length cc2] 41 (0, 0)) :: Im 1 (.slice pp1 d.body.length cc2) d.body.length (d.body.flatMap u8c) :: (F.set i emp)) := by rw [takeS_ack hE (by omega)]; exact H332
                have H334 : St W w326 (BysA none 0 (takeT s d) :: LkA g (takeS s d) :: (F.set i emp)) := ((((H333.move 1 rfl).move 1 rfl).drop 2 rfl).drop 2 rfl)
                have H335 : St W w326 (LkA g (takeS s d) :: (BysA none 0 (takeT s d) :: F).set (i + 1) emp) := (H334.move 1 rfl)
                exact ⟨none, 0, by rw [hE, hT9]; rfl, St.back (i := i + 1) (by exact hi) H335⟩
              · intro join325
                refine g_true rfl ?_
                refine g_seq ?_
                refine g_region ?_
                refine r_cons (s_move (.pointer (some ⟨g, 0, none⟩)) rfl rfl ?_)
                refine r_cons (s_move (.pointer (some ⟨g, 0, none⟩)) rfl rfl ?_)
                refine r_cons (s_nilCheck (.pointer (some ⟨g, 0, none⟩)) rfl ⟨_, rfl⟩ rfl ?_)
                refine r_cons (s_fieldAddr 62 2 3 3 59 rfl fi_62_2 rfl rfl ?_)
                have H336 : St W w322 (blk g (.cells #[.int .i64 s.frm.v, .int .i64 s.to_.v, .int .i64 (s.slide : Int), .slice pp17 L19.length cc18, .int .i64 (s.acked : Int), .int .i64 ((i64N s.came).v), .map (some m16), .int .i64 (s.clock : Int), .bool s.owes] 62 (0, 0)) :: Im 3 (.slice pp17 L19.length cc18) L19.length (L19.flatMap bodCell) :: byA (L19.map BodD.by) :: MapA m16 (ents (kI .i64) evD E20) :: byA (mby E20) :: blk bk7 (.cells #[.int .i64 d.frm.v, .int .i64 d.to_.v, .int .i64 d.kind.v, .int .i64 d.seq.v, .int .i64 d.ack.v, .slice pp1 d.body.length cc2] 41 (0, 0)) :: Im 1 (.slice pp1 d.body.length cc2) d.body.length (d.body.flatMap u8c) :: (F.set i emp)) := Row.im H323 (i := 1) rfl
                refine r_cons (s_load (.slice pp17 L19.length cc18) ag_59 rfl (H336.blk_at (i := 0) rfl) rfl rfl ?_)
                refine r_cons (s_move (.int .i64 (d.ack.v - (s.acked : Int))) rfl rfl ?_)
                have hc337 := Im.cap H336 (i := 1) rfl
                refine r_cons (s_slice_l pp17 (d.ack.v - (s.acked : Int)) 3 (.slice (cutAt pp17 ((d.ack.v - (s.acked : Int)).toNat) cc18 3) (L19.length - ((d.ack.v - (s.acked : Int)).toNat)) (cc18 - ((d.ack.v - (s.acked : Int)).toNat))) rfl rfl el_59 (by omega) (by first | rfl | (congr 1; omega)) rfl ?_)
                have H338 : St W w322 (Im 3 (.slice (cutAt pp17 ((d.ack.v - (s.acked : Int)).toNat) cc18 3) (L19.length - ((d.ack.v - (s.acked : Int)).toNat)) (cc18 - ((d.ack.v - (s.acked : Int)).toNat))) (L19.length - ((d.ack.v - (s.acked : Int)).toNat)) ((L19.drop ((d.ack.v - (s.acked : Int)).toNat)).flatMap bodCell) :: blk g (.cells #[.int .i64 s.frm.v, .int .i64 s.to_.v, .int .i64 (s.slide : Int), .slice pp17 L19.length cc18, .int .i64 (s.acked : Int), .int .i64 ((i64N s.came).v), .map (some m16), .int .i64 (s.clock : Int), .bool s.owes] 62 (0, 0)) :: Im 3 (.slice pp17 L19.length cc18) L19.length (L19.flatMap bodCell) :: byA (L19.map BodD.by) :: MapA m16 (ents (kI .i64) evD E20) :: byA (mby E20) :: blk bk7 (.cells #[.int .i64 d.frm.v, .int .i64 d.to_.v, .int .i64 d.kind.v, .int .i64 d.seq.v, .int .i64 d.ack.v, .slice pp1 d.body.length cc2] 41 (0, 0)) :: Im 1 (.slice pp1 d.body.length cc2) d.body.length (d.body.flatMap u8c) :: (F.set i emp)) := Im.cutN_l bodCell_len (by decide) ((d.ack.v - (s.acked : Int)).toNat) H336 (i := 1) rfl (by omega)
                refine r_cons (s_call [.slice (cutAt pp17 ((d.ack.v - (s.acked : Int)).toNat) cc18 3) (L19.length - ((d.ack.v - (s.acked : Int)).toNat)) (cc18 - ((d.ack.v - (s.acked : Int)).toNat))] pl_47 rfl rfl (clone_bodies _ _ (L19.length - ((d.ack.v - (s.acked : Int)).toNat)) ((L19.drop ((d.ack.v - (s.acked : Int)).toNat)).flatMap bodCell) RdA.im (by omega) (j := 0) rfl H338) ?_)
                rintro _ w341 ⟨pp339, cc340, rfl, H342⟩
                refine r_cons (s_nilCheck (.pointer (some ⟨g, 0, none⟩)) rfl ⟨_, rfl⟩ rfl ?_)
                refine r_cons (s_fieldAddr 62 2 3 3 59 rfl fi_62_2 rfl rfl ?_)
                refine r_cons (s_store H342 2 (.slice pp339 (L19.length - ((d.ack.v - (s.acked : Int)).toNat)) cc340) rfl rfl rfl sz_59 rfl (Nat.le_of_ble_eq_true rfl) rfl (cs' := #[.int .i64 s.frm.v, .int .i64 s.to_.v, .int .i64 (s.slide : Int), .slice pp339 (L19.length - ((d.ack.v - (s.acked : Int)).toNat)) cc340, .int .i64 (s.acked : Int), .int .i64 ((i64N s.came).v), .map (some m16), .int .i64 (s.clock : Int), .bool s.owes]) rfl ?_); intro w343 H344
                refine r_nil ?_
                refine g_region ?_
                refine r_cons (s_move (.pointer (some ⟨g, 0, none⟩)) rfl rfl ?_)
                refine r_cons (s_fieldAddr 41 4 4 4 2 rfl fi_41_4 rfl rfl ?_)
                refine r_cons (s_load (.int .i64 d.ack.v) ag_2 rfl (H344.blk_at (i := 7) rfl) rfl rfl ?_)
                refine r_cons (s_nilCheck (.pointer (some ⟨g, 0, none⟩)) rfl ⟨_, rfl⟩ rfl ?_)
                refine r_cons (s_fieldAddr 62 3 4 4 2 rfl fi_62_3 rfl rfl ?_)
                refine r_cons (s_store H344 2 (.int .i64 d.ack.v) rfl rfl rfl sz_2 rfl (Nat.le_of_ble_eq_true rfl) rfl (cs' := #[.int .i64 s.frm.v, .int .i64 s.to_.v, .int .i64 (s.slide : Int), .slice pp339 (L19.length - ((d.ack.v - (s.acked : Int)).toNat)) cc340, .int .i64 d.ack.v, .int .i64 ((i64N s.came).v), .map (some m16), .int .i64 (s.clock : Int), .bool s.owes]) rfl ?_); intro w345 H346
                refine r_nil ?_
                have ha9 : ((d.ack.v.toNat : Nat) : Int) = d.ack.v := by omega
                have ha8 := ackS_pos (s := s) (d := d) (by omega)
                have H347 : St W w345 (Row 79 3 (.slice pp339 ((L19.drop (d.ack.v - (s.acked : Int)).toNat).length) cc340) ((L19.drop (d.ack.v - (s.acked : Int)).toNat).length) ((L19.drop (d.ack.v - (s.acked : Int)).toNat).flatMap bodCell) :: Im 3 (.slice (cutAt pp17 ((d.ack.v - (s.acked : Int)).toNat) cc18 3) (L19.length - ((d.ack.v - (s.acked : Int)).toNat)) (cc18 - ((d.ack.v - (s.acked : Int)).toNat))) (L19.length - ((d.ack.v - (s.acked : Int)).toNat)) ((L19.drop ((d.ack.v - (s.acked : Int)).toNat)).flatMap bodCell) :: blk g (.cells #[.int .i64 s.frm.v, .int .i64 s.to_.v, .int .i64 (s.slide : Int), .slice pp339 ((L19.drop (d.ack.v - (s.acked : Int)).toNat).length) cc340, .int .i64 ((d.ack.v.toNat : Nat) : Int), .int .i64 ((i64N s.came).v), .map (some m16), .int .i64 (s.clock : Int), .bool s.owes] 62 (0, 0)) :: Im 3 (.slice pp17 L19.length cc18) L19.length (L19.flatMap bodCell) :: byA (L19.map BodD.by) :: MapA m16 (ents (kI .i64) evD E20) :: byA (mby E20) :: blk bk7 (.cells #[.int .i64 d.frm.v, .int .i64 d.to_.v, .int .i64 d.kind.v, .int .i64 d.seq.v, .int .i64 d.ack.v, .slice pp1 d.body.length cc2] 41 (0, 0)) :: Im 1 (.slice pp1 d.body.length cc2) d.body.length (d.body.flatMap u8c) :: (F.set i emp)) := by rw [List.length_drop, ha9]; exact H346
                have H348 := byA_sub (M := (L19.drop (d.ack.v - (s.acked : Int)).toNat).map BodD.by) H347 (i := 4) rfl drop_by
                have H349 : St W w345 (blk g (.cells #[.int .i64 s.frm.v, .int .i64 s.to_.v, .int .i64 (s.slide : Int), .slice pp339 ((L19.drop (d.ack.v - (s.acked : Int)).toNat).length) cc340, .int .i64 ((d.ack.v.toNat : Nat) : Int), .int .i64 ((i64N s.came).v), .map (some m16), .int .i64 (s.clock : Int), .bool s.owes] 62 (0, 0)) :: Row 79 3 (.slice pp339 ((L19.drop (d.ack.v - (s.acked : Int)).toNat).length) cc340) ((L19.drop (d.ack.v - (s.acked : Int)).toNat).length) ((L19.drop (d.ack.v - (s.acked : Int)).toNat).flatMap bodCell) :: byA ((L19.drop (d.ack.v - (s.acked : Int)).toNat).map BodD.by) :: MapA m16 (ents (kI .i64) evD E20) :: byA (mby E20) :: Im 3 (.slice (cutAt pp17 ((d.ack.v - (s.acked : Int)).toNat) cc18 3) (L19.length - ((d.ack.v - (s.acked : Int)).toNat)) (cc18 - ((d.ack.v - (s.acked : Int)).toNat))) (L19.length - ((d.ack.v - (s.acked : Int)).toNat)) ((L19.drop ((d.ack.v - (s.acked : Int)).toNat)).flatMap bodCell) :: Im 3 (.slice pp17 L19.length cc18) L19.length (L19.flatMap bodCell) :: byA (L19.map BodD.by) :: blk bk7 (.cells #[.int .i64 d.frm.v, .int .i64 d.to_.v, .int .i64 d.kind.v, .int .i64 d.seq.v, .int .i64 d.ack.v, .slice pp1 d.body.length cc2] 41 (0, 0)) :: Im 1 (.slice pp1 d.body.length cc2) d.body.length (d.body.flatMap u8c) :: (F.set i emp)) := (((((H348.move 7 rfl).move 7 rfl).move 2 rfl).move 3 rfl).move 5 rfl)
                have H350 : St W w345 (LkA g ({ s with l := s.l.drop (d.ack.v - (s.acked : Int)).toNat, acked := d.ack.v.toNat } : EndV) :: Im 3 (.slice (cutAt pp17 ((d.ack.v - (s.acked : Int)).toNat) cc18 3) (L19.length - ((d.ack.v - (s.acked : Int)).toNat)) (cc18 - ((d.ack.v - (s.acked : Int)).toNat))) (L19.length - ((d.ack.v - (s.acked : Int)).toNat)) ((L19.drop ((d.ack.v - (s.acked : Int)).toNat)).flatMap bodCell) :: Im 3 (.slice pp17 L19.length cc18) L19.length (L19.flatMap bodCell) :: byA (L19.map BodD.by) :: blk bk7 (.cells #[.int .i64 d.frm.v, .int .i64 d.to_.v, .int .i64 d.kind.v, .int .i64 d.seq.v, .int .i64 d.ack.v, .slice pp1 d.body.length cc2] 41 (0, 0)) :: Im 1 (.slice pp1 d.body.length cc2) d.body.length (d.body.flatMap u8c) :: (F.set i emp)) := St.shut_ex ⟨(m16, pp339, cc340, (L19.drop (d.ack.v - (s.acked : Int)).toNat), E20), (show (L19.drop (d.ack.v - (s.acked : Int)).toNat).map BodD.v = s.l.drop (d.ack.v - (s.acked : Int)).toNat from by rw [List.map_drop, hL21]), hE22⟩ (St.shut_star (ls := [blk g (.cells #[.int .i64 s.frm.v, .int .i64 s.to_.v, .int .i64 (s.slide : Int), .slice pp339 ((L19.drop (d.ack.v - (s.acked : Int)).toNat).length) cc340, .int .i64 ((d.ack.v.toNat : Nat) : Int), .int .i64 ((i64N s.came).v), .map (some m16), .int .i64 (s.clock : Int), .bool s.owes] 62 (0, 0)), Row 79 3 (.slice pp339 ((L19.drop (d.ack.v - (s.acked : Int)).toNat).length) cc340) ((L19.drop (d.ack.v - (s.acked : Int)).toNat).length) ((L19.drop (d.ack.v - (s.acked : Int)).toNat).flatMap bodCell), byA ((L19.drop (d.ack.v - (s.acked : Int)).toNat).map BodD.by), MapA m16 (ents (kI .i64) evD E20), byA (mby E20)]) H349)
                have H351 : St W w345 (LkA g (ackS s d.ack.v) :: Im 3 (.slice (cutAt pp17 ((d.ack.v - (s.acked : Int)).toNat) cc18 3) (L19.length - ((d.ack.v - (s.acked : Int)).toNat)) (cc18 - ((d.ack.v - (s.acked : Int)).toNat))) (L19.length - ((d.ack.v - (s.acked : Int)).toNat)) ((L19.drop ((d.ack.v - (s.acked : Int)).toNat)).flatMap bodCell) :: Im 3 (.slice pp17 L19.length cc18) L19.length (L19.flatMap bodCell) :: byA (L19.map BodD.by) :: blk bk7 (.cells #[.int .i64 d.frm.v, .int .i64 d.to_.v, .int .i64 d.kind.v, .int .i64 d.seq.v, .int .i64 d.ack.v, .slice pp1 d.body.length cc2] 41 (0, 0)) :: Im 1 (.slice pp1 d.body.length cc2) d.body.length (d.body.flatMap u8c) :: (F.set i emp)) := by rw [ha8]; exact H350
                have H352 : St W w345 (LkA g (ackS s d.ack.v) :: blk bk7 (.cells #[.int .i64 d.frm.v, .int .i64 d.to_.v, .int .i64 d.kind.v, .int .i64 d.seq.v, .int .i64 d.ack.v, .slice pp1 d.body.length cc2] 41 (0, 0)) :: Im 1 (.slice pp1 d.body.length cc2) d.body.length (d.body.flatMap u8c) :: (F.set i emp)) := ((((((H351.move 5 rfl).move 5 rfl).move 2 rfl).drop 3 rfl).drop 3 rfl).drop 3 rfl)
                exact join325 (()) _ _ ⟨trivial, H352⟩ ⟨by first | rfl | exact vint (by omega), by first | rfl | exact vint (by omega), by first | rfl | exact vint (by omega), by first | rfl | exact vint (by omega), trivial⟩
            · skip
              refine r_cons (s_gtr false rfl rfl (dfalse hc324) rfl ?_)
              refine r_nil ?_
              refine g_cut (fun (x_ : Unit) => match x_ with | z_ => [(0, .pointer (some ⟨g, 0, none⟩)), (3, .pointer (some ⟨bk7, 0, none⟩)), (4, .slice none 0 0), (5, .int .i64 0)]) (fun (x_ : Unit) w => match x_ with | z_ => (True) ∧ St W w (LkA g (ackS s d.ack.v) :: blk bk7 (.cells #[.int .i64 d.frm.v, .int .i64 d.to_.v, .int .i64 d.kind.v, .int .i64 d.seq.v, .int .i64 d.ack.v, .slice pp1 d.body.length cc2] 41 (0, 0)) :: Im 1 (.slice pp1 d.body.length cc2) d.body.length (d.body.flatMap u8c) :: (F.set i emp))) ?_ ?_
              · rintro z_ ρ356 w354 ⟨hz_, H355⟩
                change Ends _ _ (upds ρ356 [(0, .pointer (some ⟨g, 0, none⟩)), (3, .pointer (some ⟨bk7, 0, none⟩)), (4, .slice none 0 0), (5, .int .i64 0)]) w354
                have hca := ackS_came s d.ack.v; have hhe := ackS_held s d.ack.v; have hcy : (i64N (ackS s d.ack.v).came).v = (s.came : Int) := by rw [hca]; exact o7
                refine g_seq ?_
                refine g_seq ?_
                refine g_region ?_
                refine r_cons (s_fieldAddr 41 2 2 2 3 rfl fi_41_2 rfl rfl ?_)
                refine r_cons (s_load (.int .i64 d.kind.v) ag_3 rfl (H355.blk_at (i := 1) rfl) rfl rfl ?_)
                refine r_cons (s_neq true rfl rfl (nfalse (by omega)) rfl ?_)
                refine r_nil ?_
                refine g_true rfl ?_
                refine g_seq ?_
                refine g_region ?_
                refine r_cons (s_assign (.slice none 0 0) rfl rfl ?_)
                refine r_cons (s_assign (.int .i64 0) rfl rfl ?_)
                refine r_nil ?_
                refine g_ret' [.slice none 0 0, .int .i64 0] Try.func21 Try.results21 ⟨rfl, rfl, trivial⟩ ?_
                have H357 := Row.nil_intro H355 26 1
                have H358 := byA_nil H357
                have H359 : St W w354 (Row 26 1 (.slice none 0 0) 0 [] :: byA ([] : List BytesD) :: LkA g (ackS s d.ack.v) :: blk bk7 (.cells #[.int .i64 d.frm.v, .int .i64 d.to_.v, .int .i64 d.kind.v, .int .i64 d.seq.v, .int .i64 d.ack.v, .slice pp1 d.body.length cc2] 41 (0, 0)) :: Im 1 (.slice pp1 d.body.length cc2) d.body.length (d.body.flatMap u8c) :: (F.set i emp)) := (H358.move 1 rfl)
                have hT9 : takeT s d = [] := takeT_no (fun h => by omega)
                have H360 : St W w354 (BysA none 0 (takeT s d) :: LkA g (ackS s d.ack.v) :: blk bk7 (.cells #[.int .i64 d.frm.v, .int .i64 d.to_.v, .int .i64 d.kind.v, .int .i64 d.seq.v, .int .i64 d.ack.v, .slice pp1 d.body.length cc2] 41 (0, 0)) :: Im 1 (.slice pp1 d.body.length cc2) d.body.length (d.body.flatMap u8c) :: (F.set i emp)) := by rw [hT9]; exact St.shut_ex ⟨[], rfl⟩ (St.shut_star (ls := [Row 26 1 (.slice none 0 0) 0 [], byA ([] : List BytesD)]) H359)
                have H361 : St W w354 (BysA none 0 (takeT s d) :: LkA g (takeS s d) :: blk bk7 (.cells #[.int .i64 d.frm.v, .int .i64 d.to_.v, .int .i64 d.kind.v, .int .i64 d.seq.v, .int .i64 d.ack.v, .slice pp1 d.body.length cc2] 41 (0, 0)) :: Im 1 (.slice pp1 d.body.length cc2) d.body.length (d.body.flatMap u8c) :: (F.set i emp)) := by rw [takeS_ack hE (by omega)]; exact H360
                have H362 : St W w354 (BysA none 0 (takeT s d) :: LkA g (takeS s d) :: (F.set i emp)) := ((((H361.move 1 rfl).move 1 rfl).drop 2 rfl).drop 2 rfl)
                have H363 : St W w354 (LkA g (takeS s d) :: (BysA none 0 (takeT s d) :: F).set (i + 1) emp) := (H362.move 1 rfl)
                exact ⟨none, 0, by rw [hE, hT9]; rfl, St.back (i := i + 1) (by exact hi) H363⟩
              · intro join353
                refine g_false rfl ?_
                refine g_skip ?_
                have ha9 : ¬ (s.acked : Int) < d.ack.v := by omega
                have H364 : St W w322 (LkA g s :: blk bk7 (.cells #[.int .i64 d.frm.v, .int .i64 d.to_.v, .int .i64 d.kind.v, .int .i64 d.seq.v, .int .i64 d.ack.v, .slice pp1 d.body.length cc2] 41 (0, 0)) :: Im 1 (.slice pp1 d.body.length cc2) d.body.length (d.body.flatMap u8c) :: (F.set i emp)) := St.shut_ex ⟨(m16, pp17, cc18, L19, E20), hL21, hE22⟩ (St.shut_star (ls := [blk g (.cells #[.int .i64 s.frm.v, .int .i64 s.to_.v, .int .i64 (s.slide : Int), .slice pp17 L19.length cc18, .int .i64 (s.acked : Int), .int .i64 ((i64N s.came).v), .map (some m16), .int .i64 (s.clock : Int), .bool s.owes] 62 (0, 0)), Row 79 3 (.slice pp17 L19.length cc18) L19.length (L19.flatMap bodCell), byA (L19.map BodD.by), MapA m16 (ents (kI .i64) evD E20), byA (mby E20)]) H323)
                have H365 : St W w322 (LkA g (ackS s d.ack.v) :: blk bk7 (.cells #[.int .i64 d.frm.v, .int .i64 d.to_.v, .int .i64 d.kind.v, .int .i64 d.seq.v, .int .i64 d.ack.v, .slice pp1 d.body.length cc2] 41 (0, 0)) :: Im 1 (.slice pp1 d.body.length cc2) d.body.length (d.body.flatMap u8c) :: (F.set i emp)) := by rw [ackS_no ha9]; exact H364
                have H366 : St W w322 (LkA g (ackS s d.ack.v) :: blk bk7 (.cells #[.int .i64 d.frm.v, .int .i64 d.to_.v, .int .i64 d.kind.v, .int .i64 d.seq.v, .int .i64 d.ack.v, .slice pp1 d.body.length cc2] 41 (0, 0)) :: Im 1 (.slice pp1 d.body.length cc2) d.body.length (d.body.flatMap u8c) :: (F.set i emp)) := (((H365.move 2 rfl).move 2 rfl).move 2 rfl)
                exact join353 (()) _ _ ⟨trivial, H366⟩ ⟨by first | rfl | exact vint (by omega), by first | rfl | exact vint (by omega), by first | rfl | exact vint (by omega), by first | rfl | exact vint (by omega), trivial⟩
      · skip
        refine q_val rfl rfl rfl (by intro w hw; exact x_neq true rfl rfl (nfalse hc29) w) ?_
        refine q_cons (q_val rfl rfl rfl (by intro w hw; exact x_pick_f (.bool true) rfl rfl w) ?_)
        refine q_cons (q_val rfl rfl rfl (by intro w hw; exact x_move (.bool true) rfl w) ?_)
        refine q_cons (q_pass rfl rfl rfl rfl rfl ?_)
        refine q_cons (q_pass rfl rfl rfl rfl rfl ?_)
        refine q_cons (q_pass rfl rfl rfl rfl rfl ?_)
        refine q_cons (q_pass rfl rfl rfl rfl rfl ?_)
        refine q_cons (q_pass rfl rfl rfl rfl rfl ?_)
        refine q_cons (q_pass rfl rfl rfl rfl rfl ?_)
        refine q_cons (q_pass rfl rfl rfl rfl rfl ?_)
        refine q_cons (q_pass rfl rfl rfl rfl rfl ?_)
        refine q_cons (q_pass rfl rfl rfl rfl rfl ?_)
        refine q_cons (q_pass rfl rfl rfl rfl rfl ?_)
        refine q_cons (q_val rfl rfl rfl (by intro w hw; exact x_pick_t (.bool true) rfl rfl w) ?_)
        refine q_cons (q_val rfl rfl rfl (by intro w hw; exact x_move (.bool true) rfl w) ?_)
        refine q_cons (q_pass rfl rfl rfl rfl rfl ?_)
        refine q_cons (q_pass rfl rfl rfl rfl rfl ?_)
        refine q_cons (q_pass rfl rfl rfl rfl rfl ?_)
        refine q_cons (q_pass rfl rfl rfl rfl rfl ?_)
        refine q_cons (q_passN rfl rfl rfl rfl ?_)
        refine q_cons (q_passN rfl rfl rfl rfl ?_)
        refine q_cons (q_passN rfl rfl rfl rfl ?_)
        refine q_cons (q_passN rfl rfl rfl rfl ?_)
        refine q_cons (q_passN rfl rfl rfl rfl ?_)
        refine q_cons (q_passN rfl rfl rfl rfl ?_)
        refine q_cons (q_passN rfl rfl rfl rfl ?_)
        refine q_cons (q_passN rfl rfl rfl rfl ?_)
        refine q_cons (q_pass rfl rfl rfl rfl rfl ?_)
        refine q_cons (q_val rfl rfl rfl (by intro w hw; exact x_pick_t (.bool true) rfl rfl w) ?_)
        refine q_nil ?_
        intro w367 H368
        refine g_true rfl ?_
        refine g_seq ?_
        refine g_region ?_
        refine r_cons (s_assign (.slice none 0 0) rfl rfl ?_)
        refine r_cons (s_assign (.int .i64 210) rfl rfl ?_)
        refine r_nil ?_
        refine g_ret' [.slice none 0 0, .int .i64 210] Try.func21 Try.results21 ⟨rfl, rfl, trivial⟩ ?_
        have H369 : St W w367 (LkA g s :: blk bk7 (.cells #[.int .i64 d.frm.v, .int .i64 d.to_.v, .int .i64 d.kind.v, .int .i64 d.seq.v, .int .i64 d.ack.v, .slice pp1 d.body.length cc2] 41 (0, 0)) :: Im 1 (.slice pp1 d.body.length cc2) d.body.length (d.body.flatMap u8c) :: (F.set i emp)) := St.shut_ex ⟨(m16, pp17, cc18, L19, E20), hL21, hE22⟩ (St.shut_star (ls := [blk g (.cells #[.int .i64 s.frm.v, .int .i64 s.to_.v, .int .i64 (s.slide : Int), .slice pp17 L19.length cc18, .int .i64 (s.acked : Int), .int .i64 ((i64N s.came).v), .map (some m16), .int .i64 (s.clock : Int), .bool s.owes] 62 (0, 0)), Row 79 3 (.slice pp17 L19.length cc18) L19.length (L19.flatMap bodCell), byA (L19.map BodD.by), MapA m16 (ents (kI .i64) evD E20), byA (mby E20)]) H368)
        have hE : takeE s d = 210 := takeE_210 hd0 (decide_eq_true (by omega))
        have hE0 : ¬ takeE s d = 0 := by omega
        have H370 := Row.nil_intro H369 26 1
        have H371 := byA_nil H370
        have H372 : St W w367 (Row 26 1 (.slice none 0 0) 0 [] :: byA ([] : List BytesD) :: LkA g s :: blk bk7 (.cells #[.int .i64 d.frm.v, .int .i64 d.to_.v, .int .i64 d.kind.v, .int .i64 d.seq.v, .int .i64 d.ack.v, .slice pp1 d.body.length cc2] 41 (0, 0)) :: Im 1 (.slice pp1 d.body.length cc2) d.body.length (d.body.flatMap u8c) :: (F.set i emp)) := (H371.move 1 rfl)
        have hT9 : takeT s d = [] := takeT_no (fun h => hE0 h.1)
        have H373 : St W w367 (BysA none 0 (takeT s d) :: LkA g s :: blk bk7 (.cells #[.int .i64 d.frm.v, .int .i64 d.to_.v, .int .i64 d.kind.v, .int .i64 d.seq.v, .int .i64 d.ack.v, .slice pp1 d.body.length cc2] 41 (0, 0)) :: Im 1 (.slice pp1 d.body.length cc2) d.body.length (d.body.flatMap u8c) :: (F.set i emp)) := by rw [hT9]; exact St.shut_ex ⟨[], rfl⟩ (St.shut_star (ls := [Row 26 1 (.slice none 0 0) 0 [], byA ([] : List BytesD)]) H372)
        have H374 : St W w367 (BysA none 0 (takeT s d) :: LkA g (takeS s d) :: blk bk7 (.cells #[.int .i64 d.frm.v, .int .i64 d.to_.v, .int .i64 d.kind.v, .int .i64 d.seq.v, .int .i64 d.ack.v, .slice pp1 d.body.length cc2] 41 (0, 0)) :: Im 1 (.slice pp1 d.body.length cc2) d.body.length (d.body.flatMap u8c) :: (F.set i emp)) := by rw [takeS_no hE0]; exact H373
        have H375 : St W w367 (BysA none 0 (takeT s d) :: LkA g (takeS s d) :: (F.set i emp)) := ((((H374.move 1 rfl).move 1 rfl).drop 2 rfl).drop 2 rfl)
        have H376 : St W w367 (LkA g (takeS s d) :: (BysA none 0 (takeT s d) :: F).set (i + 1) emp) := (H375.move 1 rfl)
        exact ⟨none, 0, by rw [hE, hT9]; rfl, St.back (i := i + 1) (by exact hi) H376⟩
    · skip
      refine q_cons (q_val rfl rfl rfl (by intro w hw; exact x_neq true rfl rfl (nfalse hc28) w) ?_)
      refine q_cons (q_val rfl rfl rfl (by intro w hw; exact x_move (.bool true) rfl w) ?_)
      refine q_cons (q_pass rfl rfl rfl rfl rfl ?_)
      refine q_cons (q_pass rfl rfl rfl rfl rfl ?_)
      refine q_cons (q_pass rfl rfl rfl rfl rfl ?_)
      refine q_cons (q_pass rfl rfl rfl rfl rfl ?_)
      refine q_cons (q_pass rfl rfl rfl rfl rfl ?_)
      refine q_cons (q_pass rfl rfl rfl rfl rfl ?_)
      refine q_cons (q_pass rfl rfl rfl rfl rfl ?_)
      refine q_cons (q_pass rfl rfl rfl rfl rfl ?_)
      refine q_cons (q_val rfl rfl rfl (by intro w hw; exact x_pick_t (.bool true) rfl rfl w) ?_)
      refine q_cons (q_val rfl rfl rfl (by intro w hw; exact x_move (.bool true) rfl w) ?_)
      refine q_cons (q_pass rfl rfl rfl rfl rfl ?_)
      refine q_cons (q_pass rfl rfl rfl rfl rfl ?_)
      refine q_cons (q_pass rfl rfl rfl rfl rfl ?_)
      refine q_cons (q_pass rfl rfl rfl rfl rfl ?_)
      refine q_cons (q_pass rfl rfl rfl rfl rfl ?_)
      refine q_cons (q_pass rfl rfl rfl rfl rfl ?_)
      refine q_cons (q_pass rfl rfl rfl rfl rfl ?_)
      refine q_cons (q_pass rfl rfl rfl rfl rfl ?_)
      refine q_cons (q_pass rfl rfl rfl rfl rfl ?_)
      refine q_cons (q_pass rfl rfl rfl rfl rfl ?_)
      refine q_cons (q_val rfl rfl rfl (by intro w hw; exact x_pick_t (.bool true) rfl rfl w) ?_)
      refine q_cons (q_val rfl rfl rfl (by intro w hw; exact x_move (.bool true) rfl w) ?_)
      refine q_cons (q_pass rfl rfl rfl rfl rfl ?_)
      refine q_cons (q_pass rfl rfl rfl rfl rfl ?_)
      refine q_cons (q_pass rfl rfl rfl rfl rfl ?_)
      refine q_cons (q_pass rfl rfl rfl rfl rfl ?_)
      refine q_cons (q_passN rfl rfl rfl rfl ?_)
      refine q_cons (q_passN rfl rfl rfl rfl ?_)
      refine q_cons (q_passN rfl rfl rfl rfl ?_)
      refine q_cons (q_passN rfl rfl rfl rfl ?_)
      refine q_cons (q_passN rfl rfl rfl rfl ?_)
      refine q_cons (q_passN rfl rfl rfl rfl ?_)
      refine q_cons (q_passN rfl rfl rfl rfl ?_)
      refine q_cons (q_passN rfl rfl rfl rfl ?_)
      refine q_cons (q_pass rfl rfl rfl rfl rfl ?_)
      refine q_cons (q_val rfl rfl rfl (by intro w hw; exact x_pick_t (.bool true) rfl rfl w) ?_)
      refine q_nil ?_
      intro w377 H378
      refine g_true rfl ?_
      refine g_seq ?_
      refine g_region ?_
      refine r_cons (s_assign (.slice none 0 0) rfl rfl ?_)
      refine r_cons (s_assign (.int .i64 210) rfl rfl ?_)
      refine r_nil ?_
      refine g_ret' [.slice none 0 0, .int .i64 210] Try.func21 Try.results21 ⟨rfl, rfl, trivial⟩ ?_
      have H379 : St W w377 (LkA g s :: blk bk7 (.cells #[.int .i64 d.frm.v, .int .i64 d.to_.v, .int .i64 d.kind.v, .int .i64 d.seq.v, .int .i64 d.ack.v, .slice pp1 d.body.length cc2] 41 (0, 0)) :: Im 1 (.slice pp1 d.body.length cc2) d.body.length (d.body.flatMap u8c) :: (F.set i emp)) := St.shut_ex ⟨(m16, pp17, cc18, L19, E20), hL21, hE22⟩ (St.shut_star (ls := [blk g (.cells #[.int .i64 s.frm.v, .int .i64 s.to_.v, .int .i64 (s.slide : Int), .slice pp17 L19.length cc18, .int .i64 (s.acked : Int), .int .i64 ((i64N s.came).v), .map (some m16), .int .i64 (s.clock : Int), .bool s.owes] 62 (0, 0)), Row 79 3 (.slice pp17 L19.length cc18) L19.length (L19.flatMap bodCell), byA (L19.map BodD.by), MapA m16 (ents (kI .i64) evD E20), byA (mby E20)]) H378)
      have hE : takeE s d = 210 := takeE_210 hd0 (decide_eq_true (by omega))
      have hE0 : ¬ takeE s d = 0 := by omega
      have H380 := Row.nil_intro H379 26 1
      have H381 := byA_nil H380
      have H382 : St W w377 (Row 26 1 (.slice none 0 0) 0 [] :: byA ([] : List BytesD) :: LkA g s :: blk bk7 (.cells #[.int .i64 d.frm.v, .int .i64 d.to_.v, .int .i64 d.kind.v, .int .i64 d.seq.v, .int .i64 d.ack.v, .slice pp1 d.body.length cc2] 41 (0, 0)) :: Im 1 (.slice pp1 d.body.length cc2) d.body.length (d.body.flatMap u8c) :: (F.set i emp)) := (H381.move 1 rfl)
      have hT9 : takeT s d = [] := takeT_no (fun h => hE0 h.1)
      have H383 : St W w377 (BysA none 0 (takeT s d) :: LkA g s :: blk bk7 (.cells #[.int .i64 d.frm.v, .int .i64 d.to_.v, .int .i64 d.kind.v, .int .i64 d.seq.v, .int .i64 d.ack.v, .slice pp1 d.body.length cc2] 41 (0, 0)) :: Im 1 (.slice pp1 d.body.length cc2) d.body.length (d.body.flatMap u8c) :: (F.set i emp)) := by rw [hT9]; exact St.shut_ex ⟨[], rfl⟩ (St.shut_star (ls := [Row 26 1 (.slice none 0 0) 0 [], byA ([] : List BytesD)]) H382)
      have H384 : St W w377 (BysA none 0 (takeT s d) :: LkA g (takeS s d) :: blk bk7 (.cells #[.int .i64 d.frm.v, .int .i64 d.to_.v, .int .i64 d.kind.v, .int .i64 d.seq.v, .int .i64 d.ack.v, .slice pp1 d.body.length cc2] 41 (0, 0)) :: Im 1 (.slice pp1 d.body.length cc2) d.body.length (d.body.flatMap u8c) :: (F.set i emp)) := by rw [takeS_no hE0]; exact H383
      have H385 : St W w377 (BysA none 0 (takeT s d) :: LkA g (takeS s d) :: (F.set i emp)) := ((((H384.move 1 rfl).move 1 rfl).drop 2 rfl).drop 2 rfl)
      have H386 : St W w377 (LkA g (takeS s d) :: (BysA none 0 (takeT s d) :: F).set (i + 1) emp) := (H385.move 1 rfl)
      exact ⟨none, 0, by rw [hE, hT9]; rfl, St.back (i := i + 1) (by exact hi) H386⟩
  · skip
    refine r_cons (s_neq true rfl rfl (nfalse hc14) rfl ?_)
    refine r_nil ?_
    refine g_true rfl ?_
    refine g_seq ?_
    refine g_region ?_
    refine r_cons (s_move (.int .i64 (dgE d)) rfl rfl ?_)
    refine r_cons (s_assign (.slice none 0 0) rfl rfl ?_)
    refine r_cons (s_assign (.int .i64 (dgE d)) rfl rfl ?_)
    refine r_nil ?_
    refine g_ret' [.slice none 0 0, .int .i64 (dgE d)] Try.func21 Try.results21 ⟨rfl, rfl, trivial⟩ ?_
    have hE : takeE s d = dgE d := takeE_no (by omega)
    have hE0 : ¬ takeE s d = 0 := by omega
    have H387 := Row.nil_intro H13 26 1
    have H388 := byA_nil H387
    have H389 : St W w12 (Row 26 1 (.slice none 0 0) 0 [] :: byA ([] : List BytesD) :: blk bk7 (.cells #[.int .i64 d.frm.v, .int .i64 d.to_.v, .int .i64 d.kind.v, .int .i64 d.seq.v, .int .i64 d.ack.v, .slice pp1 d.body.length cc2] 41 (0, 0)) :: LkA g s :: Im 1 (.slice pp1 d.body.length cc2) d.body.length (d.body.flatMap u8c) :: (F.set i emp)) := (H388.move 1 rfl)
    have hT9 : takeT s d = [] := takeT_no (fun h => hE0 h.1)
    have H390 : St W w12 (BysA none 0 (takeT s d) :: blk bk7 (.cells #[.int .i64 d.frm.v, .int .i64 d.to_.v, .int .i64 d.kind.v, .int .i64 d.seq.v, .int .i64 d.ack.v, .slice pp1 d.body.length cc2] 41 (0, 0)) :: LkA g s :: Im 1 (.slice pp1 d.body.length cc2) d.body.length (d.body.flatMap u8c) :: (F.set i emp)) := by rw [hT9]; exact St.shut_ex ⟨[], rfl⟩ (St.shut_star (ls := [Row 26 1 (.slice none 0 0) 0 [], byA ([] : List BytesD)]) H389)
    have H391 : St W w12 (BysA none 0 (takeT s d) :: blk bk7 (.cells #[.int .i64 d.frm.v, .int .i64 d.to_.v, .int .i64 d.kind.v, .int .i64 d.seq.v, .int .i64 d.ack.v, .slice pp1 d.body.length cc2] 41 (0, 0)) :: LkA g (takeS s d) :: Im 1 (.slice pp1 d.body.length cc2) d.body.length (d.body.flatMap u8c) :: (F.set i emp)) := by rw [takeS_no hE0]; exact H390
    have H392 : St W w12 (BysA none 0 (takeT s d) :: LkA g (takeS s d) :: (F.set i emp)) := ((((H391.move 2 rfl).move 1 rfl).drop 2 rfl).drop 2 rfl)
    have H393 : St W w12 (LkA g (takeS s d) :: (BysA none 0 (takeT s d) :: F).set (i + 1) emp) := (H392.move 1 rfl)
    exact ⟨none, 0, by rw [hE, hT9]; rfl, St.back (i := i + 1) (by exact hi) H393⟩
set_option maxHeartbeats 4000000 in
set_option maxRecDepth 100000 in
theorem bytes_Equal {W w : World} {F : List Atom} (A B : Atom) (u v : Value) (m n : Nat) (xs ys : List UInt8) (hA : RdA A 1 u m (xs.flatMap u8c)) (hB : RdA B 1 v n (ys.flatMap u8c)) {j k : Nat} (hj : F[j]? = some A) (hk : F[k]? = some B) (H : St W w F) : Calls Try.prog 34 #[u, v] w (Ret fun v w' => v = .bool (decide (xs = ys)) ∧ St W w' F) := by
  have hml := (hA _ _ _ j H hj).2
  obtain ⟨pp1, cc2, rfl, hn3⟩ := Rd.shape (hA _ _ _ j H hj).1
  have hml := (hB _ _ _ k H hk).2
  obtain ⟨pp4, cc5, rfl, hn6⟩ := Rd.shape (hB _ _ _ k H hk).1
  refine calls_of_go (n := 10) Try.func34 rfl Try.ntmps34 rfl ?_
  refine g_seq ?_
  refine g_region ?_
  refine r_cons (s_assign (.bool false) rfl rfl ?_)
  refine r_nil ?_
  refine g_seq ?_
  refine g_region ?_
  refine r_cons (s_move (.slice pp1 m cc2) rfl rfl ?_)
  refine r_cons (s_bytes_str (xs := xs) rfl (by rw [bytesV_flat]; exact (hA _ _ _ (j + 0) H (by exact hj)).1) un_26 un_5 un_9 rfl ?_)
  refine r_cons (s_move (.slice pp4 n cc5) rfl rfl ?_)
  refine r_cons (s_bytes_str (xs := ys) rfl (by rw [bytesV_flat]; exact (hB _ _ _ (k + 0) H (by exact hk)).1) un_26 un_5 un_9 rfl ?_)
  refine r_cons (s_seql (decide ((⟨(xs).toArray⟩ : ByteArray) = ⟨(ys).toArray⟩)) rfl rfl rfl rfl ?_)
  refine r_cons (s_assign (.bool (decide ((⟨(xs).toArray⟩ : ByteArray) = ⟨(ys).toArray⟩))) rfl rfl ?_)
  refine r_nil ?_
  refine g_ret' [.bool (decide ((⟨(xs).toArray⟩ : ByteArray) = ⟨(ys).toArray⟩))] Try.func34 Try.results34 ⟨rfl, trivial⟩ ?_
  have H7 : St W w F := H
  exact ⟨congrArg Value.bool lit_bytes, H7⟩
/-- Two ends, and what was given, came and was told. -/
def PairA (g : Nat) (P : PairV) : Atom := ex fun q : PairQ => star [blk g (.cells #[.pointer (some ⟨q.l0, 0, none⟩), .pointer (some ⟨q.l1, 0, none⟩), .slice q.p1 P.g0.length q.k1, .slice q.p2 P.g1.length q.k2, .slice q.p3 P.c0.length q.k3, .slice q.p4 P.c1.length q.k4, .slice q.p5 P.t0.length q.k5, .slice q.p6 P.t1.length q.k6] 37 (0, 0)), LkA q.l0 P.e0, LkA q.l1 P.e1, BysA q.p1 q.k1 P.g0, BysA q.p2 q.k2 P.g1, BysA q.p3 q.k3 P.c0, BysA q.p4 q.k4 P.c1, DgsA q.p5 q.k5 P.t0, DgsA q.p6 q.k6 P.t1]
theorem BysA_nil {W w : World} {F : List Atom} (H : St W w F) : St W w (BysA none 0 [] :: F) := St.shut_ex ⟨[], rfl⟩ (St.shut_star (ls := [_, _]) ((byA_nil (Row.nil_intro H 26 1)).move 1 rfl))
theorem DgsA_nil {W w : World} {F : List Atom} (H : St W w F) : St W w (DgsA none 0 [] :: F) := St.shut_ex ⟨[], rfl⟩ (St.shut_star (ls := [_, _]) ((byA_nil (Row.nil_intro H 41 6)).move 1 rfl))
set_option maxHeartbeats 4000000 in
set_option maxRecDepth 100000 in
theorem sameBodies_im {W w : World} {F : List Atom} (D M L : List BytesD) (p1 p2 : Option Addr) (d1 d2 : Nat) (heq : D.map BytesD.data = M.map BytesD.data) (hDL : ∀ x ∈ D, x ∈ L) (hML : ∀ x ∈ M, x ∈ L) {i j a : Nat} (hi : F[i]? = some (Im 1 (.slice p1 D.length d1) D.length (D.flatMap byCell))) (hj : F[j]? = some (Im 1 (.slice p2 M.length d2) M.length (M.flatMap byCell))) (ha : F[a]? = some (byA L)) (H : St W w F) : Calls Try.prog 14 #[.slice p1 D.length d1, .slice p2 M.length d2] w (Ret fun v w' => v = .bool true ∧ St W w' F) := by
  have H0 := ((H.dup hi (Im_pers _ _ _ _)).dup (i := j + 1) (by exact hj) (Im_pers _ _ _ _)).dup (i := a + 2) (by exact ha) (byA_pers _)
  have H1 : St W w (byA L :: Im 1 (.slice p2 M.length d2) M.length (M.flatMap byCell) :: Im 1 (.slice p1 D.length d1) D.length (D.flatMap byCell) :: F) := H0
  have hl : D.length = M.length := by have h9 := congrArg List.length heq; rw [List.length_map, List.length_map] at h9; exact h9
  refine calls_of_go (n := 27) Try.func14 rfl Try.ntmps14 rfl ?_
  refine g_seq ?_
  refine g_region ?_
  refine r_cons (s_assign (.bool false) rfl rfl ?_)
  refine r_nil ?_
  refine g_seq ?_
  refine g_seq ?_
  refine g_region ?_
  refine r_cons (s_move (.slice p1 D.length d1) rfl rfl ?_)
  refine r_cons (s_len D.length rfl ⟨_, un_32⟩ rfl ?_)
  refine r_cons (s_move (.slice p2 M.length d2) rfl rfl ?_)
  refine r_cons (s_len M.length rfl ⟨_, un_32⟩ rfl ?_)
  refine r_cons (s_neq false rfl rfl (ntrue (by omega)) rfl ?_)
  refine r_nil ?_
  refine g_false rfl ?_
  refine g_skip ?_
  refine g_seq ?_
  refine g_seq ?_
  refine g_region ?_
  refine r_cons (s_move (.slice p1 D.length d1) rfl rfl ?_)
  refine r_cons (s_len D.length rfl ⟨_, un_32⟩ rfl ?_)
  refine r_cons (s_move (.int .i64 0) rfl rfl ?_)
  refine r_nil ?_
  refine g_block ?_
  obtain ⟨pA2, cA3, gA4, oA5, kA6, eA7, zA8, he14, hn9, hp10, hx11, hs12, hml, H13⟩ := Im.open_ H1 (i := 2) rfl
  obtain ⟨rfl, rfl⟩ : p1 = pA2 ∧ d1 = cA3 := by injection he14 with a_ b_ c_; exact ⟨a_, c_⟩
  obtain ⟨pA15, cA16, gA17, oA18, kA19, eA20, zA21, he27, hn22, hp23, hx24, hs25, hml, H26⟩ := Im.open_ H13 (i := 2) rfl
  obtain ⟨rfl, rfl⟩ : p2 = pA15 ∧ d2 = cA16 := by injection he27 with a_ b_ c_; exact ⟨a_, c_⟩
  refine g_loop_inv (fun (x_ : Nat) => match x_ with | j2 => [(0, .slice p1 D.length d1), (1, .slice p2 M.length d2), (4, .bool false), (12, .int .i64 (D.length : Int)), (13, .int .i64 (j2 : Int))]) (fun (x_ : Nat) w => match x_ with | j2 => (j2 ≤ D.length) ∧ St W w (imi (0 < M.length) gA17 (.cells kA19 eA20 zA21) :: imi (0 < D.length) gA4 (.cells kA6 eA7 zA8) :: byA L :: Im 1 (.slice p2 M.length d2) M.length (M.flatMap byCell) :: Im 1 (.slice p1 D.length d1) D.length (D.flatMap byCell) :: F)) (fun (x_ : Nat) => match x_ with | j2 => D.length - j2) (0) ?_ ?_ ?_
  · exact ⟨by first | rfl | exact vint (by omega), by first | rfl | exact vint (by omega), by first | rfl | exact vint (by omega), by first | rfl | exact vint (by omega), by first | rfl | exact vint (by omega), trivial⟩
  · exact ⟨(by omega), H26⟩
  · rintro j2 ρ28 w29 ⟨hjn, H30⟩ nx31
    change Ends _ _ (upds ρ28 [(0, .slice p1 D.length d1), (1, .slice p2 M.length d2), (4, .bool false), (12, .int .i64 (D.length : Int)), (13, .int .i64 (j2 : Int))]) w29
    refine g_seq ?_
    refine g_region ?_
    by_cases hc32 : (j2 : Int) < (D.length : Int)
    · skip
      refine r_cons (s_lss true rfl rfl (dtrue hc32) rfl ?_)
      refine r_nil ?_
      refine g_seq ?_
      refine g_true rfl ?_
      refine g_skip ?_
      refine g_seq ?_
      refine g_block ?_
      refine g_seq ?_
      refine g_region ?_
      refine r_cons (s_move (.int .i64 (j2 : Int)) rfl rfl ?_)
      refine r_cons (s_assign (.int .i64 (j2 : Int)) rfl rfl ?_)
      refine r_nil ?_
      refine g_seq ?_
      have H33 : St W w29 (Im 1 (.slice ((D.getD j2 default).p) ((D.getD j2 default).data.length) ((D.getD j2 default).c)) (((D.getD j2 default).data).length) (((D.getD j2 default).data).flatMap u8c) :: imi (0 < M.length) gA17 (.cells kA19 eA20 zA21) :: imi (0 < D.length) gA4 (.cells kA6 eA7 zA8) :: byA L :: Im 1 (.slice p2 M.length d2) M.length (M.flatMap byCell) :: Im 1 (.slice p1 D.length d1) D.length (D.flatMap byCell) :: F) := byA_at H30 (i := 2) rfl (hDL _ (by_in (k := j2) (by omega)))
      have H34 : St W w29 (Im 1 (.slice ((M.getD j2 default).p) ((M.getD j2 default).data.length) ((M.getD j2 default).c)) (((M.getD j2 default).data).length) (((M.getD j2 default).data).flatMap u8c) :: Im 1 (.slice ((D.getD j2 default).p) ((D.getD j2 default).data.length) ((D.getD j2 default).c)) (((D.getD j2 default).data).length) (((D.getD j2 default).data).flatMap u8c) :: imi (0 < M.length) gA17 (.cells kA19 eA20 zA21) :: imi (0 < D.length) gA4 (.cells kA6 eA7 zA8) :: byA L :: Im 1 (.slice p2 M.length d2) M.length (M.flatMap byCell) :: Im 1 (.slice p1 D.length d1) D.length (D.flatMap byCell) :: F) := byA_at H33 (i := 3) rfl (hML _ (by_in (k := j2) (by omega)))
      have hsm : decide ((D.getD j2 default).data = (M.getD j2 default).data) = true := decide_eq_true (same_at heq j2)
      refine g_quiet (fun w' => St W w' (Im 1 (.slice ((M.getD j2 default).p) ((M.getD j2 default).data.length) ((M.getD j2 default).c)) (((M.getD j2 default).data).length) (((M.getD j2 default).data).flatMap u8c) :: Im 1 (.slice ((D.getD j2 default).p) ((D.getD j2 default).data.length) ((D.getD j2 default).c)) (((D.getD j2 default).data).length) (((D.getD j2 default).data).flatMap u8c) :: imi (0 < M.length) gA17 (.cells kA19 eA20 zA21) :: imi (0 < D.length) gA4 (.cells kA6 eA7 zA8) :: byA L :: Im 1 (.slice p2 M.length d2) M.length (M.flatMap byCell) :: Im 1 (.slice p1 D.length d1) D.length (D.flatMap byCell) :: F)) mixed (by kernel_rfl) H34.drew ?_
      refine q_cons (q_val rfl rfl rfl (by intro w hw; exact x_move (.slice p1 D.length d1) rfl w) ?_)
      refine q_cons (q_val rfl rfl rfl (by intro w hw; exact x_move (.int .i64 (j2 : Int)) rfl w) ?_)
      refine q_cons (q_val rfl rfl rfl (by intro w hw; exact x_indexAddr gA4 (off := oA5) (j2 : Int) 1 (oA5 + j2 * 1) (by exact congrArg (fun z_ => Value.slice z_ D.length d1) (hp10 (by omega))) rfl el_32 (by omega) rfl w) ?_)
      refine q_cons (q_val rfl rfl rfl (by intro w hw; exact x_load (.slice ((D.getD j2 default).p) ((D.getD j2 default).data.length) ((D.getD j2 default).c)) ag_26 rfl (hw.imi_at (i := 3) rfl (by omega)) (elem_cell (L := D) (i := j2) byCell_len (hx11 (by omega)) (by omega) default 0 (by decide) _ rfl)) ?_)
      refine q_cons (q_val rfl rfl rfl (by intro w hw; exact x_move (.slice p2 M.length d2) rfl w) ?_)
      refine q_cons (q_val rfl rfl rfl (by intro w hw; exact x_move (.int .i64 (j2 : Int)) rfl w) ?_)
      refine q_cons (q_val rfl rfl rfl (by intro w hw; exact x_indexAddr gA17 (off := oA18) (j2 : Int) 1 (oA18 + j2 * 1) (by exact congrArg (fun z_ => Value.slice z_ M.length d2) (hp23 (by omega))) rfl el_32 (by omega) rfl w) ?_)
      refine q_cons (q_val rfl rfl rfl (by intro w hw; exact x_load (.slice ((M.getD j2 default).p) ((M.getD j2 default).data.length) ((M.getD j2 default).c)) ag_26 rfl (hw.imi_at (i := 2) rfl (by omega)) (elem_cell (L := M) (i := j2) byCell_len (hx24 (by omega)) (by omega) default 0 (by decide) _ rfl)) ?_)
      refine q_cons (q_enter (args := #[.slice ((D.getD j2 default).p) ((D.getD j2 default).data.length) ((D.getD j2 default).c), .slice ((M.getD j2 default).p) ((M.getD j2 default).data.length) ((M.getD j2 default).c)]) (v := .bool (decide (((D.getD j2 default).data) = ((M.getD j2 default).data)))) rfl rfl rfl (x_call pl_34 [.slice ((D.getD j2 default).p) ((D.getD j2 default).data.length) ((D.getD j2 default).c), .slice ((M.getD j2 default).p) ((M.getD j2 default).data.length) ((M.getD j2 default).c)] rfl) (fun w hw => bytes_Equal _ _ _ _ _ _ ((D.getD j2 default).data) ((M.getD j2 default).data) RdA.im RdA.im (j := 1) rfl (k := 0) rfl hw) ?_)
      refine q_cons (q_val rfl rfl rfl (by intro w hw; exact x_not (decide (((D.getD j2 default).data) = ((M.getD j2 default).data))) rfl false (by rw [hsm]; rfl) w) ?_)
      refine q_nil ?_
      intro w35 H36
      refine g_false rfl ?_
      refine g_skip ?_
      refine g_inBlock ?_
      refine g_region ?_
      refine r_cons (s_add ((j2 : Int) + 1) rfl rfl (wi64 (by omega)) rfl ?_)
      refine r_cons (s_move (.int .i64 ((j2 : Int) + 1)) rfl rfl ?_)
      refine r_nil ?_
      have H37 : St W w35 (imi (0 < M.length) gA17 (.cells kA19 eA20 zA21) :: imi (0 < D.length) gA4 (.cells kA6 eA7 zA8) :: byA L :: Im 1 (.slice p2 M.length d2) M.length (M.flatMap byCell) :: Im 1 (.slice p1 D.length d1) D.length (D.flatMap byCell) :: F) := (((((((H36.move 6 rfl).move 6 rfl).move 6 rfl).move 6 rfl).move 6 rfl).drop 5 rfl).drop 5 rfl)
      exact nx31 (j2 + 1) _ _ ⟨(by omega), H37⟩ (by first | (dsimp only; omega) | omega) ⟨by first | rfl | exact vint (by omega), by first | rfl | exact vint (by omega), by first | rfl | exact vint (by omega), by first | rfl | exact vint (by omega), by first | rfl | exact vint (by omega), trivial⟩
    · skip
      refine r_cons (s_lss false rfl rfl (dfalse hc32) rfl ?_)
      refine r_nil ?_
      refine g_seq ?_
      refine g_false rfl ?_
      refine g_exit (by rfl) ?_
      refine g_seq ?_
      refine g_region ?_
      refine r_cons (s_assign (.bool true) rfl rfl ?_)
      refine r_nil ?_
      refine g_ret' [.bool true] Try.func14 Try.results14 ⟨rfl, trivial⟩ ?_
      have H38 : St W w29 F := (((((H30.drop 0 rfl).drop 0 rfl).drop 0 rfl).drop 0 rfl).drop 0 rfl)
      exact ⟨rfl, H38⟩
theorem sameBodies_rows {W w : World} {F : List Atom} (D E : List BytesD) (k n1 n2 : Nat) (p1 p2 : Option Addr) (d1 d2 : Nat) (h1 : D.length = n1) (h2 : E.length = n2) (hk : k ≤ n2) (hkD : k = n1) (heq : D.map BytesD.data = (E.map BytesD.data).take k) {i j a : Nat} (hi : F[i]? = some (Row 26 1 (.slice p1 n1 d1) n1 (D.flatMap byCell))) (hj : (F.set i emp)[j]? = some (Row 26 1 (.slice p2 n2 d2) n2 (E.flatMap byCell))) (ha : ((F.set i emp).set j emp)[a]? = some (byA (D ++ E))) (H : St W w F) : Calls Try.prog 14 #[.slice p1 n1 d1, .slice p2 k d2] w (Ret fun v w' => v = .bool true ∧ St W w' F) := by
  subst h1 h2 hkD
  refine rows_lend (q := fun v => v = .bool true) hi hj ha H fun G g0 g1 g2 HG => ?_
  have HG2 : St W w (Im 1 (.slice p2 D.length d2) D.length ((E.take D.length).flatMap byCell) :: G) := Im.cut_h byCell_len D.length HG (i := 1) g1 hk
  have hl : (E.take D.length).length = D.length := by rw [List.length_take]; omega
  have HG3 : St W w (Im 1 (.slice p2 (E.take D.length).length d2) (E.take D.length).length ((E.take D.length).flatMap byCell) :: G) := by rw [hl]; exact HG2
  have h := sameBodies_im D (E.take D.length) (D ++ E) p1 p2 d1 d2 (by rw [heq, List.map_take]) (fun x hx => List.mem_append_left _ hx) (fun x hx => List.mem_append_right _ (take_by x hx)) (i := 1) (j := 0) (a := 3) (by exact g0) rfl (by exact g2) HG3
  rw [hl] at h
  refine h.mono fun e w' hh => ?_
  cases e with
  | returned v => exact ⟨hh.1, hh.2.drop 0 rfl⟩
  | _ => exact hh.elim
set_option maxHeartbeats 4000000 in
set_option maxRecDepth 100000 in
theorem ends_ {W w : World} {F : List Atom} (n : Nat) (hn : 1 ≤ n) (hn2 : n ≤ 64) (H : St W w F) : Calls Try.prog 7 #[.int .i64 (n : Int)] w (Ret fun v w' => ∃ g, v = .pointer (some ⟨g, 0, none⟩) ∧ St W w' (PairA g (pairN n) :: F)) := by
  refine calls_of_go (n := 30) Try.func7 rfl Try.ntmps7 rfl ?_
  refine g_seq ?_
  refine g_region ?_
  refine r_cons (s_assign (.pointer none) rfl rfl ?_)
  refine r_nil ?_
  refine g_seq ?_
  refine g_region ?_
  refine r_cons (s_build (cs := #[.int .i64 0, .int .i64 1]) (by kernel_rfl) rfl ?_)
  refine r_cons (s_move (.int .i64 (n : Int)) rfl rfl ?_)
  refine r_cons (s_call [.agg #[.int .i64 0, .int .i64 1], .int .i64 (n : Int)] pl_17 rfl rfl (Link_New (i64' 0) (i64' 1) n (by decide) (by decide) (by decide) (by omega) (by omega) H) ?_)
  rintro _ w2 ⟨bk1, rfl, H3⟩
  refine r_cons (s_move (.tuple #[.pointer (some ⟨bk1, 0, none⟩), .int .i64 0]) rfl rfl ?_)
  refine r_cons (s_extract (.pointer (some ⟨bk1, 0, none⟩)) #[.pointer (some ⟨bk1, 0, none⟩), .int .i64 0] rfl rfl rfl ?_)
  refine r_cons (s_extract (.int .i64 0) #[.pointer (some ⟨bk1, 0, none⟩), .int .i64 0] rfl rfl rfl ?_)
  refine r_cons (s_assign (.pointer (some ⟨bk1, 0, none⟩)) rfl rfl ?_)
  refine r_cons (s_assign (.int .i64 0) rfl rfl ?_)
  refine r_nil ?_
  refine g_seq ?_
  refine g_region ?_
  refine r_cons (s_build (cs := #[.int .i64 1, .int .i64 0]) (by kernel_rfl) rfl ?_)
  refine r_cons (s_move (.int .i64 (n : Int)) rfl rfl ?_)
  refine r_cons (s_call [.agg #[.int .i64 1, .int .i64 0], .int .i64 (n : Int)] pl_17 rfl rfl (Link_New (i64' 1) (i64' 0) n (by decide) (by decide) (by decide) (by omega) (by omega) H3) ?_)
  rintro _ w5 ⟨bk4, rfl, H6⟩
  refine r_cons (s_move (.tuple #[.pointer (some ⟨bk4, 0, none⟩), .int .i64 0]) rfl rfl ?_)
  refine r_cons (s_extract (.pointer (some ⟨bk4, 0, none⟩)) #[.pointer (some ⟨bk4, 0, none⟩), .int .i64 0] rfl rfl rfl ?_)
  refine r_cons (s_extract (.int .i64 0) #[.pointer (some ⟨bk4, 0, none⟩), .int .i64 0] rfl rfl rfl ?_)
  refine r_cons (s_assign (.pointer (some ⟨bk4, 0, none⟩)) rfl rfl ?_)
  refine r_cons (s_assign (.int .i64 0) rfl rfl ?_)
  refine r_nil ?_
  refine g_seq ?_
  refine g_seq ?_
  refine g_region ?_
  refine r_cons (s_move (.int .i64 0) rfl rfl ?_)
  refine r_cons (s_neq false rfl rfl (ntrue (by decide)) rfl ?_)
  refine r_cons (s_move (.bool false) rfl rfl ?_)
  refine r_cons (r_take rfl rfl ?_)
  refine s_move (.int .i64 0) rfl rfl ?_
  refine r_cons (r_take rfl rfl ?_)
  refine s_neq false rfl rfl (ntrue (by decide)) rfl ?_
  refine r_cons (s_pick_f (.bool false) rfl rfl rfl ?_)
  refine r_nil ?_
  refine g_false rfl ?_
  refine g_skip ?_
  refine g_seq ?_
  refine g_region ?_
  refine r_cons (s_move (.pointer (some ⟨bk1, 0, none⟩)) rfl rfl ?_)
  refine r_cons (s_move (.pointer (some ⟨bk4, 0, none⟩)) rfl rfl ?_)
  refine r_cons (s_build (cs := #[.pointer (some ⟨bk1, 0, none⟩), .pointer (some ⟨bk4, 0, none⟩)]) (by kernel_rfl) rfl ?_)
  refine r_cons (s_build (cs := #[.pointer (some ⟨bk1, 0, none⟩), .pointer (some ⟨bk4, 0, none⟩), .slice none 0 0, .slice none 0 0, .slice none 0 0, .slice none 0 0, .slice none 0 0, .slice none 0 0]) (by kernel_rfl) rfl ?_)
  refine r_cons (s_box H6 37 (.agg #[.pointer (some ⟨bk1, 0, none⟩), .pointer (some ⟨bk4, 0, none⟩), .slice none 0 0, .slice none 0 0, .slice none 0 0, .slice none 0 0, .slice none 0 0, .slice none 0 0]) rfl (cs := #[.pointer (some ⟨bk1, 0, none⟩), .pointer (some ⟨bk4, 0, none⟩), .slice none 0 0, .slice none 0 0, .slice none 0 0, .slice none 0 0, .slice none 0 0, .slice none 0 0]) rfl rfl ?_); intro bk7 w8 H9
  refine r_cons (s_assign (.pointer (some ⟨bk7, 0, none⟩)) rfl rfl ?_)
  refine r_nil ?_
  refine g_ret' [.pointer (some ⟨bk7, 0, none⟩)] Try.func7 Try.results7 ⟨rfl, trivial⟩ ?_
  have H10 : St W w8 (blk bk7 (.cells #[.pointer (some ⟨bk1, 0, none⟩), .pointer (some ⟨bk4, 0, none⟩), .slice none 0 0, .slice none 0 0, .slice none 0 0, .slice none 0 0, .slice none 0 0, .slice none 0 0] 37 (0, 0)) :: LkA bk1 (newS (i64' 0) (i64' 1) n) :: LkA bk4 (newS (i64' 1) (i64' 0) n) :: F) := (((H9.move 1 rfl).move 2 rfl).move 2 rfl)
  have H11 := DgsA_nil H10
  have H12 := DgsA_nil H11
  have H13 := BysA_nil H12
  have H14 := BysA_nil H13
  have H15 := BysA_nil H14
  have H16 := BysA_nil H15
  have H17 : St W w8 (blk bk7 (.cells #[.pointer (some ⟨bk1, 0, none⟩), .pointer (some ⟨bk4, 0, none⟩), .slice none 0 0, .slice none 0 0, .slice none 0 0, .slice none 0 0, .slice none 0 0, .slice none 0 0] 37 (0, 0)) :: LkA bk1 (newS (i64' 0) (i64' 1) n) :: LkA bk4 (newS (i64' 1) (i64' 0) n) :: BysA none 0 [] :: BysA none 0 [] :: BysA none 0 [] :: BysA none 0 [] :: DgsA none 0 [] :: DgsA none 0 [] :: F) := (((H16.move 8 rfl).move 8 rfl).move 8 rfl)
  exact ⟨bk7, rfl, St.shut_ex (⟨bk1, bk4, none, 0, none, 0, none, 0, none, 0, none, 0, none, 0⟩ : PairQ) (St.shut_star (ls := [blk bk7 (.cells #[.pointer (some ⟨bk1, 0, none⟩), .pointer (some ⟨bk4, 0, none⟩), .slice none 0 0, .slice none 0 0, .slice none 0 0, .slice none 0 0, .slice none 0 0, .slice none 0 0] 37 (0, 0)), LkA bk1 (newS (i64' 0) (i64' 1) n), LkA bk4 (newS (i64' 1) (i64' 0) n), BysA none 0 [], BysA none 0 [], BysA none 0 [], BysA none 0 [], DgsA none 0 [], DgsA none 0 []]) H17)⟩
end Sl
