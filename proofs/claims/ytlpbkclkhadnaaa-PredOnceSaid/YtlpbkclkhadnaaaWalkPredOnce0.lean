/- Walks of the program's functions. Printed by a program of this claim's author. No condition. -/
import Derived.Test.YtlpbkclkhadnaaaSlBF
import Derived.Test.YtlpbkclkhadnaaaSlQ
import Derived.Test.YtlpbkclkhadnaaaProg
namespace Sl
open _root_.Go _root_.Go.RowKit _root_.Go.Proofs
set_option linter.all false
theorem ex_77 : extFn Try.prog 77 Extern.BytealgCompare.compare := ⟨_, Try.func77, by kernel_rfl, by kernel_rfl, by kernel_rfl, by kernel_rfl⟩
theorem pl_70 : plainFn Try.prog 70 = true := by kernel_rfl
theorem fi_23_0 : fieldOff Try.prog 23 0 = some (0, 3) := by kernel_rfl
theorem ag_3 : isAggB Try.prog 3 = false ∧ (Try.prog.underlying 3).isSome = true := ⟨by kernel_rfl, by kernel_rfl⟩
theorem fi_23_1 : fieldOff Try.prog 23 1 = some (1, 2) := by kernel_rfl
theorem ag_2 : isAggB Try.prog 2 = false ∧ (Try.prog.underlying 2).isSome = true := ⟨by kernel_rfl, by kernel_rfl⟩
theorem mixed : Try.prog.follows .mixedOrders = true := by kernel_rfl
theorem fi_23_2 : fieldOff Try.prog 23 2 = some (2, 9) := by kernel_rfl
theorem ag_9 : isAggB Try.prog 9 = false ∧ (Try.prog.underlying 9).isSome = true := ⟨by kernel_rfl, by kernel_rfl⟩
theorem pl_58 : plainFn Try.prog 58 = true := by kernel_rfl
theorem ag_23 : isAggB Try.prog 23 = true ∧ (Try.prog.info? 23).map (·.size) = some 3 := ⟨by kernel_rfl, by kernel_rfl⟩
theorem pl_48 : plainFn Try.prog 48 = true := by kernel_rfl
theorem pl_49 : plainFn Try.prog 49 = true := by kernel_rfl
theorem fi_65_0 : fieldOff Try.prog 65 0 = some (0, 9) := by kernel_rfl
theorem un_34 : Try.prog.underlying 34 = some (.slice 65) := by kernel_rfl
theorem el_34 : elemSize Try.prog 34 = some (65, 4) := by kernel_rfl
theorem ag_65 : isAggB Try.prog 65 = true ∧ (Try.prog.info? 65).map (·.size) = some 4 := ⟨by kernel_rfl, by kernel_rfl⟩
theorem pl_47 : plainFn Try.prog 47 = true := by kernel_rfl
theorem ze_23 : zeroOf Try.prog 23 = some #[.int .i64 0, .int .i64 0, .string ByteArray.empty] := by kernel_rfl
theorem pl_46 : plainFn Try.prog 46 = true := by kernel_rfl
theorem sz_23 : (Try.prog.info? 23).map (·.size) = some 3 := by kernel_rfl
theorem fi_65_1 : fieldOff Try.prog 65 1 = some (1, 23) := by kernel_rfl
theorem fi_25_1 : fieldOff Try.prog 25 1 = some (1, 9) := by kernel_rfl
theorem fi_25_2 : fieldOff Try.prog 25 2 = some (2, 23) := by kernel_rfl
theorem fi_36_3 : fieldOff Try.prog 36 3 = some (4, 34) := by kernel_rfl
theorem ag_34 : isAggB Try.prog 34 = false ∧ (Try.prog.underlying 34).isSome = true := ⟨by kernel_rfl, by kernel_rfl⟩
theorem pl_29 : plainFn Try.prog 29 = true := by kernel_rfl
theorem fi_27_1 : fieldOff Try.prog 27 1 = some (5, 3) := by kernel_rfl
theorem fi_27_0 : fieldOff Try.prog 27 0 = some (0, 25) := by kernel_rfl
theorem ag_25 : isAggB Try.prog 25 = true ∧ (Try.prog.info? 25).map (·.size) = some 5 := ⟨by kernel_rfl, by kernel_rfl⟩
theorem pl_28 : plainFn Try.prog 28 = true := by kernel_rfl
theorem fi_27_2 : fieldOff Try.prog 27 2 = some (6, 25) := by kernel_rfl
theorem pl_30 : plainFn Try.prog 30 = true := by kernel_rfl
theorem ag_36 : isAggB Try.prog 36 = true ∧ (Try.prog.info? 36).map (·.size) = some 5 := ⟨by kernel_rfl, by kernel_rfl⟩
theorem ag_27 : isAggB Try.prog 27 = true ∧ (Try.prog.info? 27).map (·.size) = some 11 := ⟨by kernel_rfl, by kernel_rfl⟩
theorem pl_9 : plainFn Try.prog 9 = true := by kernel_rfl
theorem un_28 : Try.prog.underlying 28 = some (.slice 27) := by kernel_rfl
theorem el_28 : elemSize Try.prog 28 = some (27, 11) := by kernel_rfl
theorem pl_34 : plainFn Try.prog 34 = true := by kernel_rfl
theorem pl_53 : plainFn Try.prog 53 = true := by kernel_rfl
theorem fi_31_0 : fieldOff Try.prog 31 0 = some (0, 3) := by kernel_rfl
theorem fi_31_2 : fieldOff Try.prog 31 2 = some (2, 9) := by kernel_rfl
theorem fi_36_2 : fieldOff Try.prog 36 2 = some (3, 9) := by kernel_rfl
theorem fi_31_3 : fieldOff Try.prog 31 3 = some (3, 28) := by kernel_rfl
theorem ag_28 : isAggB Try.prog 28 = false ∧ (Try.prog.underlying 28).isSome = true := ⟨by kernel_rfl, by kernel_rfl⟩
theorem pl_33 : plainFn Try.prog 33 = true := by kernel_rfl
theorem pl_76 : plainFn Try.prog 76 = true := by kernel_rfl
theorem us_105 : (Try.prog.underlying 105).isSome = true := by kernel_rfl
theorem ik_5 : intKind Try.prog 5 = some .u8 := by kernel_rfl
theorem st_9 : isStr Try.prog 9 = true := by kernel_rfl
theorem us_5 : (Try.prog.underlying 5).isSome = true := by kernel_rfl
theorem ik_3 : intKind Try.prog 3 = some .i64 := by kernel_rfl
theorem pl_69 : plainFn Try.prog 69 = true := by kernel_rfl
theorem pl_59 : plainFn Try.prog 59 = true := by kernel_rfl
theorem un_49 : Try.prog.underlying 49 = some (.slice 9) := by kernel_rfl
theorem us_3 : (Try.prog.underlying 3).isSome = true := by kernel_rfl
theorem ik_90 : intKind Try.prog 90 = some .u64 := by kernel_rfl
theorem pl_55 : plainFn Try.prog 55 = true := by kernel_rfl
theorem pl_54 : plainFn Try.prog 54 = true := by kernel_rfl
theorem el_49 : elemSize Try.prog 49 = some (9, 1) := by kernel_rfl
theorem pl_65 : plainFn Try.prog 65 = true := by kernel_rfl
theorem sz_9 : (Try.prog.info? 9).map (·.size) = some 1 := by kernel_rfl
theorem in_9 : (Try.prog.info? 9).map (fun i => (i.zero, i.size, i.bytes)) = some (some (.string ByteArray.empty), 1, 16) := by kernel_rfl
theorem el_44 : elemSize Try.prog 44 = some (25, 5) := by kernel_rfl
theorem ze_25 : zeroOf Try.prog 25 = some #[.string ByteArray.empty, .string ByteArray.empty, .int .i64 0, .int .i64 0, .string ByteArray.empty] := by kernel_rfl
theorem un_44 : Try.prog.underlying 44 = some (.slice 25) := by kernel_rfl
theorem sz_25 : (Try.prog.info? 25).map (·.size) = some 5 := by kernel_rfl
theorem pl_38 : plainFn Try.prog 38 = true := by kernel_rfl
theorem pl_39 : plainFn Try.prog 39 = true := by kernel_rfl
theorem fi_25_0 : fieldOff Try.prog 25 0 = some (0, 9) := by kernel_rfl
theorem ze_9 : zeroOf Try.prog 9 = some #[.string ByteArray.empty] := by kernel_rfl
theorem ap_49 : appInfo Try.prog 49 9 1 16 1 := appInfo_mk un_49 in_9 rfl
theorem pl_57 : plainFn Try.prog 57 = true := by kernel_rfl
theorem ag_49 : isAggB Try.prog 49 = false ∧ (Try.prog.underlying 49).isSome = true := ⟨by kernel_rfl, by kernel_rfl⟩
theorem pl_42 : plainFn Try.prog 42 = true := by kernel_rfl
theorem pl_41 : plainFn Try.prog 41 = true := by kernel_rfl
theorem pl_56 : plainFn Try.prog 56 = true := by kernel_rfl
theorem pl_20 : plainFn Try.prog 20 = true := by kernel_rfl
theorem pl_40 : plainFn Try.prog 40 = true := by kernel_rfl
theorem fi_61_0 : fieldOff Try.prog 61 0 = some (0, 9) := by kernel_rfl
theorem un_41 : Try.prog.underlying 41 = some (.slice 61) := by kernel_rfl
theorem el_41 : elemSize Try.prog 41 = some (61, 6) := by kernel_rfl
theorem ag_61 : isAggB Try.prog 61 = true ∧ (Try.prog.info? 61).map (·.size) = some 6 := ⟨by kernel_rfl, by kernel_rfl⟩
theorem pl_36 : plainFn Try.prog 36 = true := by kernel_rfl
theorem fi_43_0 : fieldOff Try.prog 43 0 = some (0, 41) := by kernel_rfl
theorem ag_41 : isAggB Try.prog 41 = false ∧ (Try.prog.underlying 41).isSome = true := ⟨by kernel_rfl, by kernel_rfl⟩
theorem pl_35 : plainFn Try.prog 35 = true := by kernel_rfl
theorem fi_61_1 : fieldOff Try.prog 61 1 = some (1, 36) := by kernel_rfl
theorem ag_43 : isAggB Try.prog 43 = true ∧ (Try.prog.info? 43).map (·.size) = some 1 := ⟨by kernel_rfl, by kernel_rfl⟩
theorem pl_13 : plainFn Try.prog 13 = true := by kernel_rfl
theorem pl_15 : plainFn Try.prog 15 = true := by kernel_rfl
theorem ze_27 : zeroOf Try.prog 27 = some #[.string ByteArray.empty, .string ByteArray.empty, .int .i64 0, .int .i64 0, .string ByteArray.empty, .int .i64 0, .string ByteArray.empty, .string ByteArray.empty, .int .i64 0, .int .i64 0, .string ByteArray.empty] := by kernel_rfl
theorem sz_27 : (Try.prog.info? 27).map (·.size) = some 11 := by kernel_rfl
theorem pl_22 : plainFn Try.prog 22 = true := by kernel_rfl
theorem un_4 : Try.prog.underlying 4 = some (.bool) := by kernel_rfl
theorem ze_65 : zeroOf Try.prog 65 = some #[.string ByteArray.empty, .int .i64 0, .int .i64 0, .string ByteArray.empty] := by kernel_rfl
theorem ze_36 : zeroOf Try.prog 36 = some #[.int .i64 0, .int .i64 0, .int .i64 0, .string ByteArray.empty, .slice none 0 0] := by kernel_rfl
theorem sz_36 : (Try.prog.info? 36).map (·.size) = some 5 := by kernel_rfl
theorem pl_11 : plainFn Try.prog 11 = true := by kernel_rfl
theorem pl_19 : plainFn Try.prog 19 = true := by kernel_rfl
theorem pl_8 : plainFn Try.prog 8 = true := by kernel_rfl
theorem un_3 : Try.prog.underlying 3 = some (.int .i64) := by kernel_rfl
theorem in_61 : (Try.prog.info? 61).map (fun i => (i.zero, i.size, i.bytes)) = some (some (.agg #[.string ByteArray.empty, .int .i64 0, .int .i64 0, .int .i64 0, .string ByteArray.empty, .slice none 0 0]), 6, 80) := by kernel_rfl
theorem un_80 : Try.prog.underlying 80 = some (.slice 41) := by kernel_rfl
theorem el_80 : elemSize Try.prog 80 = some (41, 1) := by kernel_rfl
theorem pl_45 : plainFn Try.prog 45 = true := by kernel_rfl
theorem ap_41 : appInfo Try.prog 41 61 6 80 6 := appInfo_mk un_41 in_61 rfl
theorem ze_61 : zeroOf Try.prog 61 = some #[.string ByteArray.empty, .int .i64 0, .int .i64 0, .int .i64 0, .string ByteArray.empty, .slice none 0 0] := by kernel_rfl
theorem sz_61 : (Try.prog.info? 61).map (·.size) = some 6 := by kernel_rfl
theorem ze_41 : zeroOf Try.prog 41 = some #[.slice none 0 0] := by kernel_rfl
theorem pl_27 : plainFn Try.prog 27 = true := by kernel_rfl
theorem ze_43 : zeroOf Try.prog 43 = some #[.slice none 0 0] := by kernel_rfl
theorem sz_43 : (Try.prog.info? 43).map (·.size) = some 1 := by kernel_rfl
set_option maxHeartbeats 4000000 in
set_option maxRecDepth 100000 in
theorem CompareString_ {W w : World} {F : List Atom} (s t : ByteArray) (H : St W w F) : Calls Try.prog 70 #[.string s, .string t] w (Ret fun v w' => v = .int .i64 (cmpSt s t) ∧ St W w' F) := by
  refine calls_of_go (n := 8) Try.func70 rfl Try.ntmps70 rfl ?_
  refine g_seq ?_
  refine g_region ?_
  refine r_cons (s_assign (.int .i64 0) rfl rfl ?_)
  refine r_nil ?_
  refine g_seq ?_
  refine g_region ?_
  refine r_cons (s_move (.string s) rfl rfl ?_)
  refine r_cons (s_move (.string t) rfl rfl ?_)
  refine r_cons (s_ext (v := .int .i64 (cmpSt s t)) ex_77 [.string s, .string t] rfl (fun w => cmp_run _ _ w) rfl ?_)
  refine r_cons (s_assign (.int .i64 (cmpSt s t)) rfl rfl ?_)
  refine r_nil ?_
  refine g_ret' [.int .i64 (cmpSt s t)] Try.func70 Try.results70 ⟨rfl, trivial⟩ ?_
  exact ⟨rfl, H⟩
set_option maxHeartbeats 4000000 in
set_option maxRecDepth 100000 in
theorem strings_Compare {W w : World} {F : List Atom} (s t : ByteArray) (H : St W w F) : Calls Try.prog 58 #[.string s, .string t] w (Ret fun v w' => v = .int .i64 (cmpSt s t) ∧ St W w' F) := by
  refine calls_of_go (n := 8) Try.func58 rfl Try.ntmps58 rfl ?_
  refine g_seq ?_
  refine g_region ?_
  refine r_cons (s_assign (.int .i64 0) rfl rfl ?_)
  refine r_nil ?_
  refine g_seq ?_
  refine g_region ?_
  refine r_cons (s_move (.string s) rfl rfl ?_)
  refine r_cons (s_move (.string t) rfl rfl ?_)
  refine r_cons (s_call [.string s, .string t] pl_70 rfl rfl (CompareString_ s t H) ?_)
  rintro _ w1 ⟨rfl, H2⟩
  refine r_cons (s_assign (.int .i64 (cmpSt s t)) rfl rfl ?_)
  refine r_nil ?_
  refine g_ret' [.int .i64 (cmpSt s t)] Try.func58 Try.results58 ⟨rfl, trivial⟩ ?_
  exact ⟨rfl, H2⟩
set_option maxHeartbeats 4000000 in
set_option maxRecDepth 100000 in
theorem value_Compare {W w : World} {F : List Atom} (a b : ValV) (H : St W w F) : Calls Try.prog 48 #[.agg #[.int .i64 a.kind.v, .int .i64 a.n.v, .string a.s.v], .agg #[.int .i64 b.kind.v, .int .i64 b.n.v, .string b.s.v]] w (Ret fun v w' => v = .tuple #[.int .i64 (vCmp a b), .bool (vOk a b)] ∧ St W w' F) := by
  refine calls_of_go (n := 40) Try.func48 rfl Try.ntmps48 rfl ?_
  refine g_seq ?_
  refine g_region ?_
  refine r_cons (s_box H 23 (.agg #[.int .i64 a.kind.v, .int .i64 a.n.v, .string a.s.v]) rfl (cs := #[.int .i64 a.kind.v, .int .i64 a.n.v, .string a.s.v]) rfl rfl ?_); intro bk1 w2 H3
  refine r_cons (s_box H3 23 (.agg #[.int .i64 b.kind.v, .int .i64 b.n.v, .string b.s.v]) rfl (cs := #[.int .i64 b.kind.v, .int .i64 b.n.v, .string b.s.v]) rfl rfl ?_); intro bk4 w5 H6
  refine r_cons (s_assign (.int .i64 0) rfl rfl ?_)
  refine r_cons (s_assign (.bool false) rfl rfl ?_)
  refine r_nil ?_
  refine g_seq ?_
  refine g_block ?_
  refine g_seq ?_
  refine g_region ?_
  refine r_cons (s_fieldAddr 23 0 0 0 3 rfl fi_23_0 rfl rfl ?_)
  refine r_cons (s_load (.int .i64 a.kind.v) ag_3 rfl (H6.blk_at (i := 1) rfl) rfl rfl ?_)
  refine r_cons (s_fieldAddr 23 0 0 0 3 rfl fi_23_0 rfl rfl ?_)
  refine r_cons (s_load (.int .i64 b.kind.v) ag_3 rfl (H6.blk_at (i := 0) rfl) rfl rfl ?_)
  by_cases hc7 : a.kind.v = b.kind.v
  · skip
    refine r_cons (s_neq false rfl rfl (ntrue hc7) rfl ?_)
    refine r_cons (s_assign (.bool false) rfl rfl ?_)
    refine r_nil ?_
    refine g_false rfl ?_
    refine g_seq ?_
    refine g_region ?_
    refine r_cons (s_fieldAddr 23 0 0 0 3 rfl fi_23_0 rfl rfl ?_)
    refine r_cons (s_load (.int .i64 a.kind.v) ag_3 rfl (H6.blk_at (i := 1) rfl) rfl rfl ?_)
    by_cases hc8 : a.kind.v = 1
    · skip
      refine r_cons (s_eql true rfl rfl (dtrue hc8) rfl ?_)
      refine r_cons (s_move (.bool true) rfl rfl ?_)
      refine r_cons (r_take rfl rfl ?_)
      refine s_fieldAddr 23 1 1 1 2 rfl fi_23_1 rfl rfl ?_
      refine r_cons (r_take rfl rfl ?_)
      refine s_load (.int .i64 a.n.v) ag_2 rfl (H6.blk_at (i := 1) rfl) rfl rfl ?_
      refine r_cons (r_take rfl rfl ?_)
      refine s_fieldAddr 23 1 1 1 2 rfl fi_23_1 rfl rfl ?_
      refine r_cons (r_take rfl rfl ?_)
      refine s_load (.int .i64 b.n.v) ag_2 rfl (H6.blk_at (i := 0) rfl) rfl rfl ?_
      refine r_cons (r_take rfl rfl ?_)
      by_cases hc9 : a.n.v = b.n.v
      · skip
        refine s_neq false rfl rfl (ntrue hc9) rfl ?_
        refine r_cons (s_pick_t (.bool false) rfl rfl rfl ?_)
        refine r_cons (s_assign (.bool false) rfl rfl ?_)
        refine r_nil ?_
        refine g_false rfl ?_
        refine g_seq ?_
        refine g_region ?_
        refine r_cons (s_fieldAddr 23 0 0 0 3 rfl fi_23_0 rfl rfl ?_)
        refine r_cons (s_load (.int .i64 a.kind.v) ag_3 rfl (H6.blk_at (i := 1) rfl) rfl rfl ?_)
        refine r_cons (s_eql false rfl rfl (dfalse (by omega)) rfl ?_)
        refine r_cons (s_assign (.bool false) rfl rfl ?_)
        refine r_nil ?_
        refine g_false rfl ?_
        refine g_skip ?_
        refine g_inBlock ?_
        refine g_seq ?_
        refine g_quiet (fun w' => St W w' (blk bk4 (.cells #[.int .i64 b.kind.v, .int .i64 b.n.v, .string b.s.v] 23 (0, 0)) :: blk bk1 (.cells #[.int .i64 a.kind.v, .int .i64 a.n.v, .string a.s.v] 23 (0, 0)) :: F)) mixed (by kernel_rfl) H6.drew ?_
        refine q_cons (q_val rfl rfl rfl (by intro w hw; exact x_fieldAddr 23 0 0 0 3 rfl fi_23_0 rfl w) ?_)
        refine q_cons (q_val rfl rfl rfl (by intro w hw; exact x_load (.int .i64 a.kind.v) ag_3 rfl (hw.blk_at (i := 1) rfl) rfl) ?_)
        refine q_cons (q_val rfl rfl rfl (by intro w hw; exact x_eql true rfl rfl (dtrue (by omega)) w) ?_)
        refine q_cons (q_val rfl rfl rfl (by intro w hw; exact x_assign (.int .i64 0) rfl w) ?_)
        refine q_cons (q_val rfl rfl rfl (by intro w hw; exact x_assign (.bool true) rfl w) ?_)
        refine q_nil ?_
        intro w10 H11
        refine g_ret' [.int .i64 0, .bool true] Try.func48 Try.results48 ⟨rfl, rfl, trivial⟩ ?_
        have H12 : St W w10 F := ((H11.drop 0 rfl).drop 0 rfl)
        have hR : vCmp a b = 0 ∧ vOk a b = true := by first | exact vc_no (by omega) | exact ⟨(vc_int (by omega) (by omega)).1.trans (by first | exact cmpI_lt (by omega) | exact cmpI_gt (by omega) | exact cmpI_eq (by omega)), (vc_int (by omega) (by omega)).2⟩ | exact vc_str (by omega) (by omega) | exact ⟨(vc_str (by omega) (by omega)).1.trans hst, (vc_str (by omega) (by omega)).2⟩
        exact ⟨by rw [hR.1, hR.2]; rfl, H12⟩
      · skip
        refine s_neq true rfl rfl (nfalse hc9) rfl ?_
        refine r_cons (s_pick_t (.bool true) rfl rfl rfl ?_)
        refine r_cons (s_assign (.bool true) rfl rfl ?_)
        refine r_nil ?_
        refine g_true rfl ?_
        refine g_seq ?_
        refine g_seq ?_
        refine g_region ?_
        refine r_cons (s_fieldAddr 23 1 1 1 2 rfl fi_23_1 rfl rfl ?_)
        refine r_cons (s_load (.int .i64 a.n.v) ag_2 rfl (H6.blk_at (i := 1) rfl) rfl rfl ?_)
        refine r_cons (s_fieldAddr 23 1 1 1 2 rfl fi_23_1 rfl rfl ?_)
        refine r_cons (s_load (.int .i64 b.n.v) ag_2 rfl (H6.blk_at (i := 0) rfl) rfl rfl ?_)
        by_cases hc13 : a.n.v < b.n.v
        · skip
          refine r_cons (s_lss true rfl rfl (dtrue hc13) rfl ?_)
          refine r_nil ?_
          refine g_true rfl ?_
          refine g_seq ?_
          refine g_region ?_
          refine r_cons (s_assign (.int .i64 (-1)) rfl rfl ?_)
          refine r_cons (s_assign (.bool true) rfl rfl ?_)
          refine r_nil ?_
          refine g_ret' [.int .i64 (-1), .bool true] Try.func48 Try.results48 ⟨rfl, rfl, trivial⟩ ?_
          have H14 : St W w5 F := ((H6.drop 0 rfl).drop 0 rfl)
          have hR : vCmp a b = (-1) ∧ vOk a b = true := by first | exact vc_no (by omega) | exact ⟨(vc_int (by omega) (by omega)).1.trans (by first | exact cmpI_lt (by omega) | exact cmpI_gt (by omega) | exact cmpI_eq (by omega)), (vc_int (by omega) (by omega)).2⟩ | exact vc_str (by omega) (by omega) | exact ⟨(vc_str (by omega) (by omega)).1.trans hst, (vc_str (by omega) (by omega)).2⟩
          exact ⟨by rw [hR.1, hR.2]; rfl, H14⟩
        · skip
          refine r_cons (s_lss false rfl rfl (dfalse hc13) rfl ?_)
          refine r_nil ?_
          refine g_false rfl ?_
          refine g_skip ?_
          refine g_seq ?_
          refine g_region ?_
          refine r_cons (s_assign (.int .i64 1) rfl rfl ?_)
          refine r_cons (s_assign (.bool true) rfl rfl ?_)
          refine r_nil ?_
          refine g_ret' [.int .i64 1, .bool true] Try.func48 Try.results48 ⟨rfl, rfl, trivial⟩ ?_
          have H15 : St W w5 F := ((H6.drop 0 rfl).drop 0 rfl)
          have hR : vCmp a b = 1 ∧ vOk a b = true := by first | exact vc_no (by omega) | exact ⟨(vc_int (by omega) (by omega)).1.trans (by first | exact cmpI_lt (by omega) | exact cmpI_gt (by omega) | exact cmpI_eq (by omega)), (vc_int (by omega) (by omega)).2⟩ | exact vc_str (by omega) (by omega) | exact ⟨(vc_str (by omega) (by omega)).1.trans hst, (vc_str (by omega) (by omega)).2⟩
          exact ⟨by rw [hR.1, hR.2]; rfl, H15⟩
    · skip
      refine r_cons (s_eql false rfl rfl (dfalse hc8) rfl ?_)
      refine r_cons (s_move (.bool false) rfl rfl ?_)
      refine r_cons (r_pass rfl rfl rfl rfl rfl ?_)
      refine r_cons (r_pass rfl rfl rfl rfl rfl ?_)
      refine r_cons (r_pass rfl rfl rfl rfl rfl ?_)
      refine r_cons (r_pass rfl rfl rfl rfl rfl ?_)
      refine r_cons (r_pass rfl rfl rfl rfl rfl ?_)
      refine r_cons (s_pick_f (.bool false) rfl rfl rfl ?_)
      refine r_cons (s_assign (.bool false) rfl rfl ?_)
      refine r_nil ?_
      refine g_false rfl ?_
      refine g_seq ?_
      refine g_region ?_
      refine r_cons (s_fieldAddr 23 0 0 0 3 rfl fi_23_0 rfl rfl ?_)
      refine r_cons (s_load (.int .i64 a.kind.v) ag_3 rfl (H6.blk_at (i := 1) rfl) rfl rfl ?_)
      by_cases hc16 : a.kind.v = 2
      · skip
        refine r_cons (s_eql true rfl rfl (dtrue hc16) rfl ?_)
        refine r_cons (s_assign (.bool true) rfl rfl ?_)
        refine r_nil ?_
        refine g_true rfl ?_
        refine g_seq ?_
        refine g_region ?_
        refine r_cons (s_fieldAddr 23 2 2 2 9 rfl fi_23_2 rfl rfl ?_)
        refine r_cons (s_load (.string a.s.v) ag_9 rfl (H6.blk_at (i := 1) rfl) rfl rfl ?_)
        refine r_cons (s_fieldAddr 23 2 2 2 9 rfl fi_23_2 rfl rfl ?_)
        refine r_cons (s_load (.string b.s.v) ag_9 rfl (H6.blk_at (i := 0) rfl) rfl rfl ?_)
        refine r_cons (s_call [.string a.s.v, .string b.s.v] pl_58 rfl rfl (strings_Compare a.s.v b.s.v H6) ?_)
        rintro _ w17 ⟨rfl, H18⟩
        refine r_cons (s_assign (.int .i64 (cmpSt a.s.v b.s.v)) rfl rfl ?_)
        refine r_cons (s_assign (.bool true) rfl rfl ?_)
        refine r_nil ?_
        refine g_ret' [.int .i64 (cmpSt a.s.v b.s.v), .bool true] Try.func48 Try.results48 ⟨rfl, rfl, trivial⟩ ?_
        have H19 : St W w17 F := ((H18.drop 0 rfl).drop 0 rfl)
        have hR : vCmp a b = cmpSt a.s.v b.s.v ∧ vOk a b = true := by first | exact vc_no (by omega) | exact ⟨(vc_int (by omega) (by omega)).1.trans (by first | exact cmpI_lt (by omega) | exact cmpI_gt (by omega) | exact cmpI_eq (by omega)), (vc_int (by omega) (by omega)).2⟩ | exact vc_str (by omega) (by omega) | exact ⟨(vc_str (by omega) (by omega)).1.trans hst, (vc_str (by omega) (by omega)).2⟩
        exact ⟨by rw [hR.1, hR.2]; rfl, H19⟩
      · skip
        refine r_cons (s_eql false rfl rfl (dfalse hc16) rfl ?_)
        refine r_cons (s_assign (.bool false) rfl rfl ?_)
        refine r_nil ?_
        refine g_false rfl ?_
        refine g_skip ?_
        refine g_inBlock ?_
        refine g_seq ?_
        refine g_quiet (fun w' => St W w' (blk bk4 (.cells #[.int .i64 b.kind.v, .int .i64 b.n.v, .string b.s.v] 23 (0, 0)) :: blk bk1 (.cells #[.int .i64 a.kind.v, .int .i64 a.n.v, .string a.s.v] 23 (0, 0)) :: F)) mixed (by kernel_rfl) H6.drew ?_
        refine q_cons (q_val rfl rfl rfl (by intro w hw; exact x_fieldAddr 23 0 0 0 3 rfl fi_23_0 rfl w) ?_)
        refine q_cons (q_val rfl rfl rfl (by intro w hw; exact x_load (.int .i64 a.kind.v) ag_3 rfl (hw.blk_at (i := 1) rfl) rfl) ?_)
        refine q_cons (q_val rfl rfl rfl (by intro w hw; exact x_eql false rfl rfl (dfalse (by omega)) w) ?_)
        refine q_cons (q_val rfl rfl rfl (by intro w hw; exact x_assign (.int .i64 0) rfl w) ?_)
        refine q_cons (q_val rfl rfl rfl (by intro w hw; exact x_assign (.bool false) rfl w) ?_)
        refine q_nil ?_
        intro w20 H21
        refine g_ret' [.int .i64 0, .bool false] Try.func48 Try.results48 ⟨rfl, rfl, trivial⟩ ?_
        have H22 : St W w20 F := ((H21.drop 0 rfl).drop 0 rfl)
        have hR : vCmp a b = 0 ∧ vOk a b = false := by first | exact vc_no (by omega) | exact ⟨(vc_int (by omega) (by omega)).1.trans (by first | exact cmpI_lt (by omega) | exact cmpI_gt (by omega) | exact cmpI_eq (by omega)), (vc_int (by omega) (by omega)).2⟩ | exact vc_str (by omega) (by omega) | exact ⟨(vc_str (by omega) (by omega)).1.trans hst, (vc_str (by omega) (by omega)).2⟩
        exact ⟨by rw [hR.1, hR.2]; rfl, H22⟩
  · skip
    refine r_cons (s_neq true rfl rfl (nfalse hc7) rfl ?_)
    refine r_cons (s_assign (.bool true) rfl rfl ?_)
    refine r_nil ?_
    refine g_true rfl ?_
    refine g_seq ?_
    refine g_region ?_
    refine r_cons (s_assign (.int .i64 0) rfl rfl ?_)
    refine r_cons (s_assign (.bool false) rfl rfl ?_)
    refine r_nil ?_
    refine g_ret' [.int .i64 0, .bool false] Try.func48 Try.results48 ⟨rfl, rfl, trivial⟩ ?_
    have H23 : St W w5 F := ((H6.drop 0 rfl).drop 0 rfl)
    have hR : vCmp a b = 0 ∧ vOk a b = false := by first | exact vc_no (by omega) | exact ⟨(vc_int (by omega) (by omega)).1.trans (by first | exact cmpI_lt (by omega) | exact cmpI_gt (by omega) | exact cmpI_eq (by omega)), (vc_int (by omega) (by omega)).2⟩ | exact vc_str (by omega) (by omega) | exact ⟨(vc_str (by omega) (by omega)).1.trans hst, (vc_str (by omega) (by omega)).2⟩
    exact ⟨by rw [hR.1, hR.2]; rfl, H23⟩
set_option maxHeartbeats 4000000 in
set_option maxRecDepth 100000 in
theorem value_some {W w : World} {F : List Atom} (a : ValV) (H : St W w F) : Calls Try.prog 49 #[.agg #[.int .i64 a.kind.v, .int .i64 a.n.v, .string a.s.v]] w (Ret fun v w' => v = .bool (someB a) ∧ St W w' F) := by
  refine calls_of_go (n := 11) Try.func49 rfl Try.ntmps49 rfl ?_
  refine g_seq ?_
  refine g_region ?_
  refine r_cons (s_box H 23 (.agg #[.int .i64 a.kind.v, .int .i64 a.n.v, .string a.s.v]) rfl (cs := #[.int .i64 a.kind.v, .int .i64 a.n.v, .string a.s.v]) rfl rfl ?_); intro bk1 w2 H3
  refine r_cons (s_assign (.bool false) rfl rfl ?_)
  refine r_nil ?_
  refine g_seq ?_
  refine g_region ?_
  refine r_cons (s_fieldAddr 23 0 0 0 3 rfl fi_23_0 rfl rfl ?_)
  refine r_cons (s_load (.int .i64 a.kind.v) ag_3 rfl (H3.blk_at (i := 0) rfl) rfl rfl ?_)
  by_cases hc4 : a.kind.v = 1
  · skip
    refine r_cons (s_eql true rfl rfl (dtrue hc4) rfl ?_)
    refine r_cons (s_move (.bool true) rfl rfl ?_)
    refine r_cons (r_pass rfl rfl rfl rfl rfl ?_)
    refine r_cons (r_pass rfl rfl rfl rfl rfl ?_)
    refine r_cons (r_pass rfl rfl rfl rfl rfl ?_)
    refine r_cons (s_pick_t (.bool true) rfl rfl rfl ?_)
    refine r_cons (s_assign (.bool true) rfl rfl ?_)
    refine r_nil ?_
    refine g_ret' [.bool true] Try.func49 Try.results49 ⟨rfl, trivial⟩ ?_
    have H5 : St W w2 F := (H3.drop 0 rfl)
    exact ⟨congrArg Value.bool (by unfold someB; first | exact (decide_eq_true (by omega)).symm | exact (decide_eq_false (by omega)).symm), H5⟩
  · skip
    refine r_cons (s_eql false rfl rfl (dfalse hc4) rfl ?_)
    refine r_cons (s_move (.bool false) rfl rfl ?_)
    refine r_cons (r_take rfl rfl ?_)
    refine s_fieldAddr 23 0 0 0 3 rfl fi_23_0 rfl rfl ?_
    refine r_cons (r_take rfl rfl ?_)
    refine s_load (.int .i64 a.kind.v) ag_3 rfl (H3.blk_at (i := 0) rfl) rfl rfl ?_
    refine r_cons (r_take rfl rfl ?_)
    by_cases hc6 : a.kind.v = 2
    · skip
      refine s_eql true rfl rfl (dtrue hc6) rfl ?_
      refine r_cons (s_pick_f (.bool true) rfl rfl rfl ?_)
      refine r_cons (s_assign (.bool true) rfl rfl ?_)
      refine r_nil ?_
      refine g_ret' [.bool true] Try.func49 Try.results49 ⟨rfl, trivial⟩ ?_
      have H7 : St W w2 F := (H3.drop 0 rfl)
      exact ⟨congrArg Value.bool (by unfold someB; first | exact (decide_eq_true (by omega)).symm | exact (decide_eq_false (by omega)).symm), H7⟩
    · skip
      refine s_eql false rfl rfl (dfalse hc6) rfl ?_
      refine r_cons (s_pick_f (.bool false) rfl rfl rfl ?_)
      refine r_cons (s_assign (.bool false) rfl rfl ?_)
      refine r_nil ?_
      refine g_ret' [.bool false] Try.func49 Try.results49 ⟨rfl, trivial⟩ ?_
      have H8 : St W w2 F := (H3.drop 0 rfl)
      exact ⟨congrArg Value.bool (by unfold someB; first | exact (decide_eq_true (by omega)).symm | exact (decide_eq_false (by omega)).symm), H8⟩
set_option maxHeartbeats 4000000 in
set_option maxRecDepth 100000 in
theorem value_Holds {W w : World} {F : List Atom} (rel : Int) (a b : ValV) (H : St W w F) : Calls Try.prog 30 #[.int .i64 rel, .agg #[.int .i64 a.kind.v, .int .i64 a.n.v, .string a.s.v], .agg #[.int .i64 b.kind.v, .int .i64 b.n.v, .string b.s.v]] w (Ret fun v w' => v = .bool (holdsB rel a b) ∧ St W w' F) := by
  refine calls_of_go (n := 55) Try.func30 rfl Try.ntmps30 rfl ?_
  refine g_seq ?_
  refine g_region ?_
  refine r_cons (s_box H 23 (.agg #[.int .i64 a.kind.v, .int .i64 a.n.v, .string a.s.v]) rfl (cs := #[.int .i64 a.kind.v, .int .i64 a.n.v, .string a.s.v]) rfl rfl ?_); intro bk1 w2 H3
  refine r_cons (s_box H3 23 (.agg #[.int .i64 b.kind.v, .int .i64 b.n.v, .string b.s.v]) rfl (cs := #[.int .i64 b.kind.v, .int .i64 b.n.v, .string b.s.v]) rfl rfl ?_); intro bk4 w5 H6
  refine r_cons (s_assign (.bool false) rfl rfl ?_)
  refine r_nil ?_
  refine g_seq ?_
  refine g_region ?_
  refine r_cons (s_loadAgg [.int .i64 a.kind.v, .int .i64 a.n.v, .string a.s.v] 3 ag_23 rfl (H6.blk_at (i := 1) rfl) (Nat.le_of_ble_eq_true rfl) rfl rfl ?_)
  refine r_cons (s_loadAgg [.int .i64 b.kind.v, .int .i64 b.n.v, .string b.s.v] 3 ag_23 rfl (H6.blk_at (i := 0) rfl) (Nat.le_of_ble_eq_true rfl) rfl rfl ?_)
  refine r_cons (s_call [.agg #[.int .i64 a.kind.v, .int .i64 a.n.v, .string a.s.v], .agg #[.int .i64 b.kind.v, .int .i64 b.n.v, .string b.s.v]] pl_48 rfl rfl (value_Compare a b H6) ?_)
  rintro _ w7 ⟨rfl, H8⟩
  refine r_cons (s_move (.tuple #[.int .i64 (vCmp a b), .bool (vOk a b)]) rfl rfl ?_)
  refine r_cons (s_extract (.int .i64 (vCmp a b)) #[.int .i64 (vCmp a b), .bool (vOk a b)] rfl rfl rfl ?_)
  refine r_cons (s_extract (.bool (vOk a b)) #[.int .i64 (vCmp a b), .bool (vOk a b)] rfl rfl rfl ?_)
  refine r_cons (s_assign (.int .i64 (vCmp a b)) rfl rfl ?_)
  refine r_cons (s_assign (.bool (vOk a b)) rfl rfl ?_)
  refine r_nil ?_
  refine g_seq ?_
  refine g_seq ?_
  refine g_region ?_
  refine r_cons (s_move (.bool (vOk a b)) rfl rfl ?_)
  refine r_cons (s_not (vOk a b) rfl (!(vOk a b)) rfl rfl ?_)
  refine r_nil ?_
  by_cases hb9 : (!(vOk a b)) = true
  · skip
    refine g_true (congrArg Value.bool hb9) ?_
    refine g_seq ?_
    refine g_region ?_
    refine r_cons (s_assign (.func (.func 49) #[] #[]) rfl rfl ?_)
    refine r_nil ?_
    refine g_seq ?_
    refine g_region ?_
    refine r_cons (s_move (.int .i64 rel) rfl rfl ?_)
    by_cases hc10 : rel = 2
    · skip
      refine r_cons (s_eql true rfl rfl (dtrue hc10) rfl ?_)
      refine r_cons (s_move (.bool true) rfl rfl ?_)
      refine r_cons (r_take rfl rfl ?_)
      refine s_move (.func (.func 49) #[] #[]) rfl rfl ?_
      refine r_cons (r_take rfl rfl ?_)
      refine s_loadAgg [.int .i64 a.kind.v, .int .i64 a.n.v, .string a.s.v] 3 ag_23 rfl (H8.blk_at (i := 1) rfl) (Nat.le_of_ble_eq_true rfl) rfl rfl ?_
      refine r_cons (r_take rfl rfl ?_)
      refine s_callv [] [.agg #[.int .i64 a.kind.v, .int .i64 a.n.v, .string a.s.v]] rfl pl_49 rfl rfl (value_some a H8) ?_
      rintro _ w11 ⟨rfl, H12⟩
      refine r_cons (s_pick_t (.bool (someB a)) rfl rfl rfl ?_)
      refine r_cons (s_move (.bool (someB a)) rfl rfl ?_)
      by_cases hb13 : (someB a) = true
      · skip
        refine r_cons (r_take rfl (congrArg some hb13) ?_)
        refine s_move (.func (.func 49) #[] #[]) rfl rfl ?_
        refine r_cons (r_take rfl (congrArg some hb13) ?_)
        refine s_loadAgg [.int .i64 b.kind.v, .int .i64 b.n.v, .string b.s.v] 3 ag_23 rfl (H12.blk_at (i := 0) rfl) (Nat.le_of_ble_eq_true rfl) rfl rfl ?_
        refine r_cons (r_take rfl (congrArg some hb13) ?_)
        refine s_callv [] [.agg #[.int .i64 b.kind.v, .int .i64 b.n.v, .string b.s.v]] rfl pl_49 rfl rfl (value_some b H12) ?_
        rintro _ w14 ⟨rfl, H15⟩
        refine r_cons (s_pick_t (.bool (someB b)) (by exact congrArg Value.bool hb13) rfl rfl ?_)
        refine r_cons (s_assign (.bool (someB b)) rfl rfl ?_)
        refine r_nil ?_
        refine g_ret' [.bool (someB b)] Try.func30 Try.results30 ⟨rfl, trivial⟩ ?_
        have H16 : St W w14 F := ((H15.drop 0 rfl).drop 0 rfl)
        have hok : vOk a b = false := by simpa using hb9
        exact ⟨congrArg Value.bool (by rw [holds_no hok]; first | (rw [decide_eq_false (by omega)]; rfl) | (rw [decide_eq_true (by omega)]; simp_all)), H16⟩
      · have hb13 := eq_false_of_ne_true hb13
        refine r_cons (r_pass rfl (congrArg some hb13) rfl rfl rfl ?_)
        refine r_cons (r_pass rfl (congrArg some hb13) rfl rfl rfl ?_)
        refine r_cons (r_pass rfl (congrArg some hb13) rfl rfl rfl ?_)
        refine r_cons (s_pick_f (.bool false) (by exact congrArg Value.bool hb13) rfl rfl ?_)
        refine r_cons (s_assign (.bool false) rfl rfl ?_)
        refine r_nil ?_
        refine g_ret' [.bool false] Try.func30 Try.results30 ⟨rfl, trivial⟩ ?_
        have H17 : St W w11 F := ((H12.drop 0 rfl).drop 0 rfl)
        have hok : vOk a b = false := by simpa using hb9
        exact ⟨congrArg Value.bool (by rw [holds_no hok]; first | (rw [decide_eq_false (by omega)]; rfl) | (rw [decide_eq_true (by omega)]; simp_all)), H17⟩
    · skip
      refine r_cons (s_eql false rfl rfl (dfalse hc10) rfl ?_)
      refine r_cons (s_move (.bool false) rfl rfl ?_)
      refine r_cons (r_pass rfl rfl rfl rfl rfl ?_)
      refine r_cons (r_pass rfl rfl rfl rfl rfl ?_)
      refine r_cons (r_pass rfl rfl rfl rfl rfl ?_)
      refine r_cons (s_pick_f (.bool false) rfl rfl rfl ?_)
      refine r_cons (s_move (.bool false) rfl rfl ?_)
      refine r_cons (r_pass rfl rfl rfl rfl rfl ?_)
      refine r_cons (r_pass rfl rfl rfl rfl rfl ?_)
      refine r_cons (r_pass rfl rfl rfl rfl rfl ?_)
      refine r_cons (s_pick_f (.bool false) rfl rfl rfl ?_)
      refine r_cons (s_assign (.bool false) rfl rfl ?_)
      refine r_nil ?_
      refine g_ret' [.bool false] Try.func30 Try.results30 ⟨rfl, trivial⟩ ?_
      have H18 : St W w7 F := ((H8.drop 0 rfl).drop 0 rfl)
      have hok : vOk a b = false := by simpa using hb9
      exact ⟨congrArg Value.bool (by rw [holds_no hok]; first | (rw [decide_eq_false (by omega)]; rfl) | (rw [decide_eq_true (by omega)]; simp_all)), H18⟩
  · have hb9 := eq_false_of_ne_true hb9
    refine g_false (congrArg Value.bool hb9) ?_
    refine g_skip ?_
    refine g_seq ?_
    refine g_seq ?_
    refine g_region ?_
    refine r_cons (s_move (.int .i64 rel) rfl rfl ?_)
    refine r_nil ?_
    refine g_block ?_
    refine g_seq ?_
    refine g_region ?_
    by_cases hc19 : rel = 1
    · skip
      refine r_cons (s_eql true rfl rfl (dtrue hc19) rfl ?_)
      refine r_cons (s_assign (.bool true) rfl rfl ?_)
      refine r_nil ?_
      refine g_true rfl ?_
      refine g_seq ?_
      refine g_region ?_
      refine r_cons (s_move (.int .i64 (vCmp a b)) rfl rfl ?_)
      refine r_cons (s_eql (decide (vCmp a b = 0)) rfl rfl rfl rfl ?_)
      refine r_cons (s_assign (.bool (decide (vCmp a b = 0))) rfl rfl ?_)
      refine r_nil ?_
      refine g_ret' [.bool (decide (vCmp a b = 0))] Try.func30 Try.results30 ⟨rfl, trivial⟩ ?_
      have H20 : St W w7 F := ((H8.drop 0 rfl).drop 0 rfl)
      have hok : vOk a b = true := by simpa using hb9
      exact ⟨congrArg Value.bool (by first | exact (holds_x hok (by omega)).symm | exact (holds_1 hok (by omega)).symm | exact (holds_2 hok (by omega)).symm | exact (holds_3 hok (by omega)).symm | exact (holds_4 hok (by omega)).symm | exact (holds_5 hok (by omega)).symm | exact (holds_6 hok (by omega)).symm | exact (show _ = _ from by rw [holds_1 hok (by omega)]; first | (rw [decide_eq_true (by omega)]; done) | (rw [decide_eq_false (by omega)]; done)) | exact (show _ = _ from by rw [holds_2 hok (by omega)]; first | (rw [decide_eq_true (by omega)]; done) | (rw [decide_eq_false (by omega)]; done)) | exact (show _ = _ from by rw [holds_3 hok (by omega)]; first | (rw [decide_eq_true (by omega)]; done) | (rw [decide_eq_false (by omega)]; done)) | exact (show _ = _ from by rw [holds_4 hok (by omega)]; first | (rw [decide_eq_true (by omega)]; done) | (rw [decide_eq_false (by omega)]; done)) | exact (show _ = _ from by rw [holds_5 hok (by omega)]; first | (rw [decide_eq_true (by omega)]; done) | (rw [decide_eq_false (by omega)]; done)) | exact (show _ = _ from by rw [holds_6 hok (by omega)]; first | (rw [decide_eq_true (by omega)]; done) | (rw [decide_eq_false (by omega)]; done))), H20⟩
    · skip
      refine r_cons (s_eql false rfl rfl (dfalse hc19) rfl ?_)
      refine r_cons (s_assign (.bool false) rfl rfl ?_)
      refine r_nil ?_
      refine g_false rfl ?_
      refine g_seq ?_
      refine g_region ?_
      by_cases hc21 : rel = 2
      · skip
        refine r_cons (s_eql true rfl rfl (dtrue hc21) rfl ?_)
        refine r_cons (s_assign (.bool true) rfl rfl ?_)
        refine r_nil ?_
        refine g_true rfl ?_
        refine g_seq ?_
        refine g_region ?_
        refine r_cons (s_move (.int .i64 (vCmp a b)) rfl rfl ?_)
        refine r_cons (s_neq (!decide (vCmp a b = 0)) rfl rfl rfl rfl ?_)
        refine r_cons (s_assign (.bool (!decide (vCmp a b = 0))) rfl rfl ?_)
        refine r_nil ?_
        refine g_ret' [.bool (!decide (vCmp a b = 0))] Try.func30 Try.results30 ⟨rfl, trivial⟩ ?_
        have H22 : St W w7 F := ((H8.drop 0 rfl).drop 0 rfl)
        have hok : vOk a b = true := by simpa using hb9
        exact ⟨congrArg Value.bool (by first | exact (holds_x hok (by omega)).symm | exact (holds_1 hok (by omega)).symm | exact (holds_2 hok (by omega)).symm | exact (holds_3 hok (by omega)).symm | exact (holds_4 hok (by omega)).symm | exact (holds_5 hok (by omega)).symm | exact (holds_6 hok (by omega)).symm | exact (show _ = _ from by rw [holds_1 hok (by omega)]; first | (rw [decide_eq_true (by omega)]; done) | (rw [decide_eq_false (by omega)]; done)) | exact (show _ = _ from by rw [holds_2 hok (by omega)]; first | (rw [decide_eq_true (by omega)]; done) | (rw [decide_eq_false (by omega)]; done)) | exact (show _ = _ from by rw [holds_3 hok (by omega)]; first | (rw [decide_eq_true (by omega)]; done) | (rw [decide_eq_false (by omega)]; done)) | exact (show _ = _ from by rw [holds_4 hok (by omega)]; first | (rw [decide_eq_true (by omega)]; done) | (rw [decide_eq_false (by omega)]; done)) | exact (show _ = _ from by rw [holds_5 hok (by omega)]; first | (rw [decide_eq_true (by omega)]; done) | (rw [decide_eq_false (by omega)]; done)) | exact (show _ = _ from by rw [holds_6 hok (by omega)]; first | (rw [decide_eq_true (by omega)]; done) | (rw [decide_eq_false (by omega)]; done))), H22⟩
      · skip
        refine r_cons (s_eql false rfl rfl (dfalse hc21) rfl ?_)
        refine r_cons (s_assign (.bool false) rfl rfl ?_)
        refine r_nil ?_
        refine g_false rfl ?_
        refine g_seq ?_
        refine g_region ?_
        by_cases hc23 : rel = 3
        · skip
          refine r_cons (s_eql true rfl rfl (dtrue hc23) rfl ?_)
          refine r_cons (s_assign (.bool true) rfl rfl ?_)
          refine r_nil ?_
          refine g_true rfl ?_
          refine g_seq ?_
          refine g_region ?_
          refine r_cons (s_move (.int .i64 (vCmp a b)) rfl rfl ?_)
          refine r_cons (s_lss (decide (vCmp a b < 0)) rfl rfl rfl rfl ?_)
          refine r_cons (s_assign (.bool (decide (vCmp a b < 0))) rfl rfl ?_)
          refine r_nil ?_
          refine g_ret' [.bool (decide (vCmp a b < 0))] Try.func30 Try.results30 ⟨rfl, trivial⟩ ?_
          have H24 : St W w7 F := ((H8.drop 0 rfl).drop 0 rfl)
          have hok : vOk a b = true := by simpa using hb9
          exact ⟨congrArg Value.bool (by first | exact (holds_x hok (by omega)).symm | exact (holds_1 hok (by omega)).symm | exact (holds_2 hok (by omega)).symm | exact (holds_3 hok (by omega)).symm | exact (holds_4 hok (by omega)).symm | exact (holds_5 hok (by omega)).symm | exact (holds_6 hok (by omega)).symm | exact (show _ = _ from by rw [holds_1 hok (by omega)]; first | (rw [decide_eq_true (by omega)]; done) | (rw [decide_eq_false (by omega)]; done)) | exact (show _ = _ from by rw [holds_2 hok (by omega)]; first | (rw [decide_eq_true (by omega)]; done) | (rw [decide_eq_false (by omega)]; done)) | exact (show _ = _ from by rw [holds_3 hok (by omega)]; first | (rw [decide_eq_true (by omega)]; done) | (rw [decide_eq_false (by omega)]; done)) | exact (show _ = _ from by rw [holds_4 hok (by omega)]; first | (rw [decide_eq_true (by omega)]; done) | (rw [decide_eq_false (by omega)]; done)) | exact (show _ = _ from by rw [holds_5 hok (by omega)]; first | (rw [decide_eq_true (by omega)]; done) | (rw [decide_eq_false (by omega)]; done)) | exact (show _ = _ from by rw [holds_6 hok (by omega)]; first | (rw [decide_eq_true (by omega)]; done) | (rw [decide_eq_false (by omega)]; done))), H24⟩
        · skip
          refine r_cons (s_eql false rfl rfl (dfalse hc23) rfl ?_)
          refine r_cons (s_assign (.bool false) rfl rfl ?_)
          refine r_nil ?_
          refine g_false rfl ?_
          refine g_seq ?_
          refine g_region ?_
          by_cases hc25 : rel = 4
          · skip
            refine r_cons (s_eql true rfl rfl (dtrue hc25) rfl ?_)
            refine r_cons (s_assign (.bool true) rfl rfl ?_)
            refine r_nil ?_
            refine g_true rfl ?_
            refine g_seq ?_
            refine g_region ?_
            refine r_cons (s_move (.int .i64 (vCmp a b)) rfl rfl ?_)
            refine r_cons (s_leq (decide (vCmp a b ≤ 0)) rfl rfl rfl rfl ?_)
            refine r_cons (s_assign (.bool (decide (vCmp a b ≤ 0))) rfl rfl ?_)
            refine r_nil ?_
            refine g_ret' [.bool (decide (vCmp a b ≤ 0))] Try.func30 Try.results30 ⟨rfl, trivial⟩ ?_
            have H26 : St W w7 F := ((H8.drop 0 rfl).drop 0 rfl)
            have hok : vOk a b = true := by simpa using hb9
            exact ⟨congrArg Value.bool (by first | exact (holds_x hok (by omega)).symm | exact (holds_1 hok (by omega)).symm | exact (holds_2 hok (by omega)).symm | exact (holds_3 hok (by omega)).symm | exact (holds_4 hok (by omega)).symm | exact (holds_5 hok (by omega)).symm | exact (holds_6 hok (by omega)).symm | exact (show _ = _ from by rw [holds_1 hok (by omega)]; first | (rw [decide_eq_true (by omega)]; done) | (rw [decide_eq_false (by omega)]; done)) | exact (show _ = _ from by rw [holds_2 hok (by omega)]; first | (rw [decide_eq_true (by omega)]; done) | (rw [decide_eq_false (by omega)]; done)) | exact (show _ = _ from by rw [holds_3 hok (by omega)]; first | (rw [decide_eq_true (by omega)]; done) | (rw [decide_eq_false (by omega)]; done)) | exact (show _ = _ from by rw [holds_4 hok (by omega)]; first | (rw [decide_eq_true (by omega)]; done) | (rw [decide_eq_false (by omega)]; done)) | exact (show _ = _ from by rw [holds_5 hok (by omega)]; first | (rw [decide_eq_true (by omega)]; done) | (rw [decide_eq_false (by omega)]; done)) | exact (show _ = _ from by rw [holds_6 hok (by omega)]; first | (rw [decide_eq_true (by omega)]; done) | (rw [decide_eq_false (by omega)]; done))), H26⟩
          · skip
            refine r_cons (s_eql false rfl rfl (dfalse hc25) rfl ?_)
            refine r_cons (s_assign (.bool false) rfl rfl ?_)
            refine r_nil ?_
            refine g_false rfl ?_
            refine g_seq ?_
            refine g_region ?_
            by_cases hc27 : rel = 5
            · skip
              refine r_cons (s_eql true rfl rfl (dtrue hc27) rfl ?_)
              refine r_cons (s_assign (.bool true) rfl rfl ?_)
              refine r_nil ?_
              refine g_true rfl ?_
              refine g_seq ?_
              refine g_region ?_
              refine r_cons (s_move (.int .i64 (vCmp a b)) rfl rfl ?_)
              refine r_cons (s_gtr (decide ((0 : Int) < vCmp a b)) rfl rfl rfl rfl ?_)
              refine r_cons (s_assign (.bool (decide ((0 : Int) < vCmp a b))) rfl rfl ?_)
              refine r_nil ?_
              refine g_ret' [.bool (decide ((0 : Int) < vCmp a b))] Try.func30 Try.results30 ⟨rfl, trivial⟩ ?_
              have H28 : St W w7 F := ((H8.drop 0 rfl).drop 0 rfl)
              have hok : vOk a b = true := by simpa using hb9
              exact ⟨congrArg Value.bool (by first | exact (holds_x hok (by omega)).symm | exact (holds_1 hok (by omega)).symm | exact (holds_2 hok (by omega)).symm | exact (holds_3 hok (by omega)).symm | exact (holds_4 hok (by omega)).symm | exact (holds_5 hok (by omega)).symm | exact (holds_6 hok (by omega)).symm | exact (show _ = _ from by rw [holds_1 hok (by omega)]; first | (rw [decide_eq_true (by omega)]; done) | (rw [decide_eq_false (by omega)]; done)) | exact (show _ = _ from by rw [holds_2 hok (by omega)]; first | (rw [decide_eq_true (by omega)]; done) | (rw [decide_eq_false (by omega)]; done)) | exact (show _ = _ from by rw [holds_3 hok (by omega)]; first | (rw [decide_eq_true (by omega)]; done) | (rw [decide_eq_false (by omega)]; done)) | exact (show _ = _ from by rw [holds_4 hok (by omega)]; first | (rw [decide_eq_true (by omega)]; done) | (rw [decide_eq_false (by omega)]; done)) | exact (show _ = _ from by rw [holds_5 hok (by omega)]; first | (rw [decide_eq_true (by omega)]; done) | (rw [decide_eq_false (by omega)]; done)) | exact (show _ = _ from by rw [holds_6 hok (by omega)]; first | (rw [decide_eq_true (by omega)]; done) | (rw [decide_eq_false (by omega)]; done))), H28⟩
            · skip
              refine r_cons (s_eql false rfl rfl (dfalse hc27) rfl ?_)
              refine r_cons (s_assign (.bool false) rfl rfl ?_)
              refine r_nil ?_
              refine g_false rfl ?_
              refine g_seq ?_
              refine g_region ?_
              by_cases hc29 : rel = 6
              · skip
                refine r_cons (s_eql true rfl rfl (dtrue hc29) rfl ?_)
                refine r_cons (s_assign (.bool true) rfl rfl ?_)
                refine r_nil ?_
                refine g_true rfl ?_
                refine g_seq ?_
                refine g_region ?_
                refine r_cons (s_move (.int .i64 (vCmp a b)) rfl rfl ?_)
                refine r_cons (s_geq (decide ((0 : Int) ≤ vCmp a b)) rfl rfl rfl rfl ?_)
                refine r_cons (s_assign (.bool (decide ((0 : Int) ≤ vCmp a b))) rfl rfl ?_)
                refine r_nil ?_
                refine g_ret' [.bool (decide ((0 : Int) ≤ vCmp a b))] Try.func30 Try.results30 ⟨rfl, trivial⟩ ?_
                have H30 : St W w7 F := ((H8.drop 0 rfl).drop 0 rfl)
                have hok : vOk a b = true := by simpa using hb9
                exact ⟨congrArg Value.bool (by first | exact (holds_x hok (by omega)).symm | exact (holds_1 hok (by omega)).symm | exact (holds_2 hok (by omega)).symm | exact (holds_3 hok (by omega)).symm | exact (holds_4 hok (by omega)).symm | exact (holds_5 hok (by omega)).symm | exact (holds_6 hok (by omega)).symm | exact (show _ = _ from by rw [holds_1 hok (by omega)]; first | (rw [decide_eq_true (by omega)]; done) | (rw [decide_eq_false (by omega)]; done)) | exact (show _ = _ from by rw [holds_2 hok (by omega)]; first | (rw [decide_eq_true (by omega)]; done) | (rw [decide_eq_false (by omega)]; done)) | exact (show _ = _ from by rw [holds_3 hok (by omega)]; first | (rw [decide_eq_true (by omega)]; done) | (rw [decide_eq_false (by omega)]; done)) | exact (show _ = _ from by rw [holds_4 hok (by omega)]; first | (rw [decide_eq_true (by omega)]; done) | (rw [decide_eq_false (by omega)]; done)) | exact (show _ = _ from by rw [holds_5 hok (by omega)]; first | (rw [decide_eq_true (by omega)]; done) | (rw [decide_eq_false (by omega)]; done)) | exact (show _ = _ from by rw [holds_6 hok (by omega)]; first | (rw [decide_eq_true (by omega)]; done) | (rw [decide_eq_false (by omega)]; done))), H30⟩
              · skip
                refine r_cons (s_eql false rfl rfl (dfalse hc29) rfl ?_)
                refine r_cons (s_assign (.bool false) rfl rfl ?_)
                refine r_nil ?_
                refine g_false rfl ?_
                refine g_skip ?_
                refine g_inBlock ?_
                refine g_seq ?_
                refine g_region ?_
                refine r_cons (s_assign (.bool false) rfl rfl ?_)
                refine r_nil ?_
                refine g_ret' [.bool false] Try.func30 Try.results30 ⟨rfl, trivial⟩ ?_
                have H31 : St W w7 F := ((H8.drop 0 rfl).drop 0 rfl)
                have hok : vOk a b = true := by simpa using hb9
                exact ⟨congrArg Value.bool (by first | exact (holds_x hok (by omega)).symm | exact (holds_1 hok (by omega)).symm | exact (holds_2 hok (by omega)).symm | exact (holds_3 hok (by omega)).symm | exact (holds_4 hok (by omega)).symm | exact (holds_5 hok (by omega)).symm | exact (holds_6 hok (by omega)).symm | exact (show _ = _ from by rw [holds_1 hok (by omega)]; first | (rw [decide_eq_true (by omega)]; done) | (rw [decide_eq_false (by omega)]; done)) | exact (show _ = _ from by rw [holds_2 hok (by omega)]; first | (rw [decide_eq_true (by omega)]; done) | (rw [decide_eq_false (by omega)]; done)) | exact (show _ = _ from by rw [holds_3 hok (by omega)]; first | (rw [decide_eq_true (by omega)]; done) | (rw [decide_eq_false (by omega)]; done)) | exact (show _ = _ from by rw [holds_4 hok (by omega)]; first | (rw [decide_eq_true (by omega)]; done) | (rw [decide_eq_false (by omega)]; done)) | exact (show _ = _ from by rw [holds_5 hok (by omega)]; first | (rw [decide_eq_true (by omega)]; done) | (rw [decide_eq_false (by omega)]; done)) | exact (show _ = _ from by rw [holds_6 hok (by omega)]; first | (rw [decide_eq_true (by omega)]; done) | (rw [decide_eq_false (by omega)]; done))), H31⟩
set_option maxHeartbeats 4000000 in
set_option maxRecDepth 100000 in
theorem value_Get1 {W w : World} {F : List Atom} (a : AttrV) (g : Nat) (s : ByteArray) {i : Nat} (hi : F[i]? = some (blk g (.cells #[.string s] 9 (0, 0)))) (H : St W w F) : Calls Try.prog 47 #[.agg #[.string a.name.v, .int .i64 a.kind.v, .int .i64 a.n.v, .string a.s.v], .pointer (some ⟨g, 0, none⟩)] w (Ret fun v w' => v = .bool (decide (a.name.v = s)) ∧ St W w' F) := by
  have H0 := H.front hi
  refine calls_of_go (n := 8) Try.func47 rfl Try.ntmps47 rfl ?_
  refine g_seq ?_
  refine g_region ?_
  refine r_cons (s_box H0 65 (.agg #[.string a.name.v, .int .i64 a.kind.v, .int .i64 a.n.v, .string a.s.v]) rfl (cs := #[.string a.name.v, .int .i64 a.kind.v, .int .i64 a.n.v, .string a.s.v]) rfl rfl ?_); intro bk1 w2 H3
  refine r_cons (s_assign (.bool false) rfl rfl ?_)
  refine r_nil ?_
  refine g_seq ?_
  refine g_region ?_
  refine r_cons (s_fieldAddr 65 0 0 0 9 rfl fi_65_0 rfl rfl ?_)
  refine r_cons (s_load (.string a.name.v) ag_9 rfl (H3.blk_at (i := 0) rfl) rfl rfl ?_)
  refine r_cons (s_load (.string s) ag_9 rfl (H3.blk_at (i := 1) rfl) rfl rfl ?_)
  refine r_cons (s_seql (decide (a.name.v = s)) rfl rfl rfl rfl ?_)
  refine r_cons (s_assign (.bool (decide (a.name.v = s))) rfl rfl ?_)
  refine r_nil ?_
  refine g_ret' [.bool (decide (a.name.v = s))] Try.func47 Try.results47 ⟨rfl, trivial⟩ ?_
  have H4 : St W w2 (blk g (.cells #[.string s] 9 (0, 0)) :: (F.set i emp)) := ((H3.move 1 rfl).drop 1 rfl)
  exact ⟨rfl, St.back_same hi H4⟩
set_option maxHeartbeats 4000000 in
set_option maxRecDepth 100000 in
theorem IndexFunc_attr {W w : World} {F : List Atom} (L : List AttrV) (lv : Value) (g : Nat) (s : ByteArray) {m : Nat} (hm : F[m]? = some (Im 4 lv L.length (L.flatMap attrCell))) {i : Nat} (hi : F[i]? = some (blk g (.cells #[.string s] 9 (0, 0)))) (H : St W w F) : Calls Try.prog 46 #[lv, .func (.func 47) #[] #[.pointer (some ⟨g, 0, none⟩)]] w (Ret fun v w' => v = .int .i64 (idxB (fun x : AttrV => decide (x.name.v = s)) L) ∧ St W w' F) := by
  obtain ⟨pp1, cc2, rfl, hn3⟩ := Rd.shape (Im.rd H (i := m) hm)
  have H4 := H.dup hm (Im_pers _ _ _ _)
  have H5 := H4.front (i := i + 1) (by exact hi)
  obtain ⟨pA6, cA7, gA8, oA9, kA10, eA11, zA12, he18, hn13, hp14, hx15, hs16, hml, H17⟩ := Im.open_ H5 (i := 1) rfl
  obtain ⟨rfl, rfl⟩ : pp1 = pA6 ∧ cc2 = cA7 := by injection he18 with a_ b_ c_; exact ⟨a_, c_⟩
  refine calls_of_go (n := 19) Try.func46 rfl Try.ntmps46 rfl ?_
  refine g_seq ?_
  refine g_region ?_
  refine r_cons (s_assign (.int .i64 0) rfl rfl ?_)
  refine r_nil ?_
  refine g_seq ?_
  refine g_seq ?_
  refine g_region ?_
  refine r_cons (s_move (.slice pp1 L.length cc2) rfl rfl ?_)
  refine r_cons (s_len L.length rfl ⟨_, un_34⟩ rfl ?_)
  refine r_cons (s_move (.int .i64 0) rfl rfl ?_)
  refine r_nil ?_
  refine g_block ?_
  have H19 : St W w (imi (0 < L.length) gA8 (.cells kA10 eA11 zA12) :: blk g (.cells #[.string s] 9 (0, 0)) :: Im 4 (.slice pp1 L.length cc2) L.length (L.flatMap attrCell) :: (F.set i emp)) := (((H17.move 2 rfl).move 2 rfl).move 2 rfl)
  refine g_loop_inv (fun (x_ : Nat) => match x_ with | j => [(0, .slice pp1 L.length cc2), (1, .func (.func 47) #[] #[.pointer (some ⟨g, 0, none⟩)]), (4, .int .i64 0), (7, .int .i64 (L.length : Int)), (8, .int .i64 (j : Int))]) (fun (x_ : Nat) w => match x_ with | j => (j ≤ L.length) ∧ (∀ q, q < j → (fun x : AttrV => decide (x.name.v = s)) (L.getD q default) = false) ∧ St W w (imi (0 < L.length) gA8 (.cells kA10 eA11 zA12) :: blk g (.cells #[.string s] 9 (0, 0)) :: Im 4 (.slice pp1 L.length cc2) L.length (L.flatMap attrCell) :: (F.set i emp))) (fun (x_ : Nat) => match x_ with | j => L.length - j) (0) ?_ ?_ ?_
  · exact ⟨by first | rfl | exact vint (by omega), by first | rfl | exact vint (by omega), by first | rfl | exact vint (by omega), by first | rfl | exact vint (by omega), by first | rfl | exact vint (by omega), trivial⟩
  · exact ⟨(by omega), (fun q hq => by omega), H19⟩
  · rintro j ρ20 w21 ⟨hjn, hz, H22⟩ nx23
    change Ends _ _ (upds ρ20 [(0, .slice pp1 L.length cc2), (1, .func (.func 47) #[] #[.pointer (some ⟨g, 0, none⟩)]), (4, .int .i64 0), (7, .int .i64 (L.length : Int)), (8, .int .i64 (j : Int))]) w21
    refine g_seq ?_
    refine g_region ?_
    by_cases hc24 : (j : Int) < (L.length : Int)
    · skip
      refine r_cons (s_lss true rfl rfl (dtrue hc24) rfl ?_)
      refine r_nil ?_
      refine g_seq ?_
      refine g_true rfl ?_
      refine g_skip ?_
      refine g_seq ?_
      refine g_block ?_
      refine g_seq ?_
      refine g_region ?_
      refine r_cons (s_move (.int .i64 (j : Int)) rfl rfl ?_)
      refine r_cons (s_assign (.int .i64 (j : Int)) rfl rfl ?_)
      refine r_nil ?_
      refine g_seq ?_
      refine g_region ?_
      refine r_cons (s_move (.func (.func 47) #[] #[.pointer (some ⟨g, 0, none⟩)]) rfl rfl ?_)
      refine r_cons (s_move (.slice pp1 L.length cc2) rfl rfl ?_)
      refine r_cons (s_move (.int .i64 (j : Int)) rfl rfl ?_)
      refine r_cons (s_indexAddr gA8 (off := oA9) (j : Int) 4 (oA9 + j * 4) (by exact congrArg (fun z_ => Value.slice z_ L.length cc2) (hp14 (by omega))) rfl el_34 (by omega) rfl rfl ?_)
      refine r_cons (s_loadAgg [.string ((L.getD j default).name.v), .int .i64 ((L.getD j default).kind.v), .int .i64 ((L.getD j default).n.v), .string ((L.getD j default).s.v)] 4 ag_65 rfl (H22.imi_at (i := 0) rfl (by omega)) (by have := elem_size (i := j) (s := 4) (hs16 (by omega)) (by omega); omega) (elem_take attrCell_len (hx15 (by omega)) (by omega) default) rfl ?_)
      refine r_cons (s_callv [.pointer (some ⟨g, 0, none⟩)] [.agg #[.string ((L.getD j default).name.v), .int .i64 ((L.getD j default).kind.v), .int .i64 ((L.getD j default).n.v), .string ((L.getD j default).s.v)], .pointer (some ⟨g, 0, none⟩)] rfl pl_47 rfl rfl (value_Get1 (L.getD j default) g s (i := 1) rfl H22) ?_)
      rintro _ w25 ⟨rfl, H26⟩
      refine r_nil ?_
      by_cases hb27 : (decide ((L.getD j default).name.v = s)) = true
      · skip
        refine g_true (congrArg Value.bool hb27) ?_
        refine g_seq ?_
        refine g_region ?_
        refine r_cons (s_move (.int .i64 (j : Int)) rfl rfl ?_)
        refine r_cons (s_assign (.int .i64 (j : Int)) rfl rfl ?_)
        refine r_nil ?_
        refine g_ret' [.int .i64 (j : Int)] Try.func46 Try.results46 ⟨rfl, trivial⟩ ?_
        have H28 : St W w25 (blk g (.cells #[.string s] 9 (0, 0)) :: (F.set i emp)) := (((H26.move 1 rfl).drop 1 rfl).drop 1 rfl)
        exact ⟨vint (idxB_at (p := fun x : AttrV => decide (x.name.v = s)) hz (by omega) (by exact hb27)).symm, St.back_same hi H28⟩
      · have hb27 := eq_false_of_ne_true hb27
        refine g_false (congrArg Value.bool hb27) ?_
        refine g_skip ?_
        refine g_inBlock ?_
        refine g_region ?_
        refine r_cons (s_add ((j : Int) + 1) rfl rfl (wi64 (by omega)) rfl ?_)
        refine r_cons (s_move (.int .i64 ((j : Int) + 1)) rfl rfl ?_)
        refine r_nil ?_
        have H29 : St W w25 (imi (0 < L.length) gA8 (.cells kA10 eA11 zA12) :: blk g (.cells #[.string s] 9 (0, 0)) :: Im 4 (.slice pp1 L.length cc2) L.length (L.flatMap attrCell) :: (F.set i emp)) := (((H26.move 2 rfl).move 2 rfl).move 2 rfl)
        exact nx23 (j + 1) _ _ ⟨(by omega), (fun q hq => (Nat.lt_or_ge q j).elim (hz q) (fun h => by rw [show q = j from by omega]; exact hb27)), H29⟩ (by first | (dsimp only; omega) | omega) ⟨by first | rfl | exact vint (by omega), by first | rfl | exact vint (by omega), by first | rfl | exact vint (by omega), by first | rfl | exact vint (by omega), by first | rfl | exact vint (by omega), trivial⟩
    · skip
      refine r_cons (s_lss false rfl rfl (dfalse hc24) rfl ?_)
      refine r_nil ?_
      refine g_seq ?_
      refine g_false rfl ?_
      refine g_exit (by rfl) ?_
      refine g_seq ?_
      refine g_region ?_
      refine r_cons (s_assign (.int .i64 (-1)) rfl rfl ?_)
      refine r_nil ?_
      refine g_ret' [.int .i64 (-1)] Try.func46 Try.results46 ⟨rfl, trivial⟩ ?_
      have H30 : St W w21 (blk g (.cells #[.string s] 9 (0, 0)) :: (F.set i emp)) := (((H22.move 1 rfl).drop 1 rfl).drop 1 rfl)
      exact ⟨vint (idxB_none (p := fun x : AttrV => decide (x.name.v = s)) (fun q hq => hz q (by omega))).symm, St.back_same hi H30⟩
set_option maxHeartbeats 4000000 in
set_option maxRecDepth 100000 in
theorem value_Get {W w : World} {F : List Atom} (ats : List AttrV) (av : Value) (s : ByteArray) {j : Nat} (hj : F[j]? = some (Attrs av ats)) (H : St W w F) : Calls Try.prog 29 #[av, .string s] w (Ret fun v w' => v = .tuple #[.agg #[.int .i64 ((getV ats s).kind.v), .int .i64 ((getV ats s).n.v), .string ((getV ats s).s.v)], .bool (hasV ats s)] ∧ St W w' F) := by
  obtain ⟨pp1, cc2, rfl, hn3⟩ := Rd.shape (Im.rd H (i := j) hj)
  have H4 := H.dup hj (Attrs_pers _ _)
  have H5 : St W w (Im 4 (.slice pp1 ats.length cc2) ats.length (ats.flatMap attrCell) :: F) := H4
  have hrg := idxB_range (fun x : AttrV => decide (x.name.v = s)) ats
  refine calls_of_go (n := 18) Try.func29 rfl Try.ntmps29 rfl ?_
  refine g_seq ?_
  refine g_region ?_
  refine r_cons (s_box H5 9 (.string s) rfl (cs := #[.string s]) rfl rfl ?_); intro bk6 w7 H8
  refine r_cons (s_alloc H8 23 ze_23 rfl ?_); intro bk9 w10 H11
  refine r_cons (s_assign (.bool false) rfl rfl ?_)
  refine r_nil ?_
  refine g_seq ?_
  refine g_region ?_
  refine r_cons (s_move (.slice pp1 ats.length cc2) rfl rfl ?_)
  refine r_cons (s_makeFunc (.func (.func 47) #[] #[.pointer (some ⟨bk6, 0, none⟩)]) rfl rfl ?_)
  refine r_cons (s_call [.slice pp1 ats.length cc2, .func (.func 47) #[] #[.pointer (some ⟨bk6, 0, none⟩)]] pl_46 rfl rfl (IndexFunc_attr ats (.slice pp1 ats.length cc2) bk6 s (m := 2) rfl (i := 1) rfl H11) ?_)
  rintro _ w12 ⟨rfl, H13⟩
  refine r_cons (s_assign (.int .i64 (idxB (fun x : AttrV => decide (x.name.v = s)) ats)) rfl rfl ?_)
  refine r_nil ?_
  refine g_seq ?_
  refine g_seq ?_
  refine g_region ?_
  refine r_cons (s_move (.int .i64 (idxB (fun x : AttrV => decide (x.name.v = s)) ats)) rfl rfl ?_)
  by_cases hc14 : idxB (fun x : AttrV => decide (x.name.v = s)) ats < 0
  · skip
    refine r_cons (s_lss true rfl rfl (dtrue hc14) rfl ?_)
    refine r_nil ?_
    refine g_true rfl ?_
    refine g_seq ?_
    refine g_region ?_
    refine r_cons (s_build (cs := #[.int .i64 0, .int .i64 0, .string ByteArray.empty]) (by kernel_rfl) rfl ?_)
    refine r_cons (s_storeAgg H13 0 #[.int .i64 0, .int .i64 0, .string ByteArray.empty] 3 rfl rfl rfl sz_23 rfl (by simp [Value.oneCell']) (Nat.le_of_ble_eq_true rfl) (fun o h1 h2 => by first | (simp; done) | (simp; omega)) (cs' := #[.int .i64 0, .int .i64 0, .string ByteArray.empty]) rfl ?_); intro w15 H16
    refine r_cons (s_assign (.bool false) rfl rfl ?_)
    refine r_nil ?_
    refine g_ret' [.agg #[.int .i64 0, .int .i64 0, .string ByteArray.empty], .bool false] Try.func29 Try.results29 ⟨(res_cellN rfl ag_23 (H16.blk_at (i := 0) rfl) (Nat.le_of_ble_eq_true rfl) rfl), rfl, trivial⟩ ?_
    have H17 : St W w15 F := (((H16.drop 0 rfl).drop 0 rfl).drop 0 rfl)
    have hR := getV_no (ats := ats) (s := s) (by omega)
    exact ⟨by rw [hR.1, hR.2]; rfl, H17⟩
  · skip
    refine r_cons (s_lss false rfl rfl (dfalse hc14) rfl ?_)
    refine r_nil ?_
    refine g_false rfl ?_
    refine g_skip ?_
    refine g_seq ?_
    refine g_region ?_
    refine r_cons (s_move (.slice pp1 ats.length cc2) rfl rfl ?_)
    refine r_cons (s_move (.int .i64 (idxB (fun x : AttrV => decide (x.name.v = s)) ats)) rfl rfl ?_)
    obtain ⟨pA18, cA19, gA20, oA21, kA22, eA23, zA24, he30, hn25, hp26, hx27, hs28, hml, H29⟩ := Im.open_ H13 (i := 2) rfl
    obtain ⟨rfl, rfl⟩ : pp1 = pA18 ∧ cc2 = cA19 := by injection he30 with a_ b_ c_; exact ⟨a_, c_⟩
    refine r_cons (s_indexAddr gA20 (off := oA21) (idxB (fun x : AttrV => decide (x.name.v = s)) ats) 4 (oA21 + ((idxB (fun x : AttrV => decide (x.name.v = s)) ats).toNat) * 4) (by exact congrArg (fun z_ => Value.slice z_ ats.length cc2) (hp26 (by omega))) rfl el_34 (by omega) rfl rfl ?_)
    refine r_cons (s_fieldAddr 65 1 1 (oA21 + ((idxB (fun x : AttrV => decide (x.name.v = s)) ats).toNat) * 4 + 1) 23 rfl fi_65_1 rfl rfl ?_)
    refine r_cons (s_loadAgg [.int .i64 ((ats.getD ((idxB (fun x : AttrV => decide (x.name.v = s)) ats).toNat) default).kind.v), .int .i64 ((ats.getD ((idxB (fun x : AttrV => decide (x.name.v = s)) ats).toNat) default).n.v), .string ((ats.getD ((idxB (fun x : AttrV => decide (x.name.v = s)) ats).toNat) default).s.v)] 3 ag_23 rfl (H29.imi_at (i := 0) rfl (by omega)) (by have := elem_size (i := (idxB (fun x : AttrV => decide (x.name.v = s)) ats).toNat) (s := 4) (hs28 (by omega)) (by omega); omega) (elem_sub attrCell_len (hx27 (by omega)) (by omega) default 1 3 (by decide)) rfl ?_)
    refine r_cons (s_storeAgg H29 1 #[.int .i64 ((ats.getD ((idxB (fun x : AttrV => decide (x.name.v = s)) ats).toNat) default).kind.v), .int .i64 ((ats.getD ((idxB (fun x : AttrV => decide (x.name.v = s)) ats).toNat) default).n.v), .string ((ats.getD ((idxB (fun x : AttrV => decide (x.name.v = s)) ats).toNat) default).s.v)] 3 rfl rfl rfl sz_23 rfl (by simp [Value.oneCell']) (Nat.le_of_ble_eq_true rfl) (fun o h1 h2 => by first | (simp; done) | (simp; omega)) (cs' := #[.int .i64 ((ats.getD ((idxB (fun x : AttrV => decide (x.name.v = s)) ats).toNat) default).kind.v), .int .i64 ((ats.getD ((idxB (fun x : AttrV => decide (x.name.v = s)) ats).toNat) default).n.v), .string ((ats.getD ((idxB (fun x : AttrV => decide (x.name.v = s)) ats).toNat) default).s.v)]) rfl ?_); intro w31 H32
    refine r_cons (s_assign (.bool true) rfl rfl ?_)
    refine r_nil ?_
    refine g_ret' [.agg #[.int .i64 ((ats.getD ((idxB (fun x : AttrV => decide (x.name.v = s)) ats).toNat) default).kind.v), .int .i64 ((ats.getD ((idxB (fun x : AttrV => decide (x.name.v = s)) ats).toNat) default).n.v), .string ((ats.getD ((idxB (fun x : AttrV => decide (x.name.v = s)) ats).toNat) default).s.v)], .bool true] Try.func29 Try.results29 ⟨(res_cellN rfl ag_23 (H32.blk_at (i := 1) rfl) (Nat.le_of_ble_eq_true rfl) rfl), rfl, trivial⟩ ?_
    have H33 : St W w31 F := ((((H32.drop 0 rfl).drop 0 rfl).drop 0 rfl).drop 0 rfl)
    have hR := getV_yes (ats := ats) (s := s) (by omega)
    exact ⟨by rw [hR.1, hR.2]; rfl, H33⟩
set_option maxHeartbeats 4000000 in
set_option maxRecDepth 100000 in
theorem pred_Test1 {W w : World} {F : List Atom} (o : OpdV) (g : Nat) (e : EvM) (av : Value) {i : Nat} (hi : F[i]? = some (blk g (.cells #[.int .i64 e.src.v, .int .i64 e.seq.v, .int .i64 e.time.v, .string e.typ.v, av] 36 (0, 0)))) {j : Nat} (hj : F[j]? = some (Attrs av e.attrs)) (H : St W w F) : Calls Try.prog 28 #[.agg #[.string o.var.v, .string o.attr.v, .int .i64 o.val.kind.v, .int .i64 o.val.n.v, .string o.val.s.v], .pointer (some ⟨g, 0, none⟩)] w (Ret fun v w' => v = .agg #[.int .i64 ((ofV o e.attrs).kind.v), .int .i64 ((ofV o e.attrs).n.v), .string ((ofV o e.attrs).s.v)] ∧ St W w' F) := by
  obtain ⟨pp1, cc2, rfl, hn3⟩ := Rd.shape (Im.rd H (i := j) hj)
  have H4 := H.dup hj (Attrs_pers _ _)
  have H5 := H4.front (i := i + 1) (by exact hi)
  refine calls_of_go (n := 20) Try.func28 rfl Try.ntmps28 rfl ?_
  refine g_seq ?_
  refine g_region ?_
  refine r_cons (s_box H5 25 (.agg #[.string o.var.v, .string o.attr.v, .int .i64 o.val.kind.v, .int .i64 o.val.n.v, .string o.val.s.v]) rfl (cs := #[.string o.var.v, .string o.attr.v, .int .i64 o.val.kind.v, .int .i64 o.val.n.v, .string o.val.s.v]) rfl rfl ?_); intro bk6 w7 H8
  refine r_cons (s_alloc H8 23 ze_23 rfl ?_); intro bk9 w10 H11
  refine r_nil ?_
  refine g_seq ?_
  refine g_seq ?_
  refine g_region ?_
  refine r_cons (s_fieldAddr 25 1 1 1 9 rfl fi_25_1 rfl rfl ?_)
  refine r_cons (s_load (.string o.attr.v) ag_9 rfl (H11.blk_at (i := 1) rfl) rfl rfl ?_)
  by_cases hc12 : o.attr.v = ByteArray.empty
  · skip
    refine r_cons (s_seql true rfl rfl (dtrue hc12) rfl ?_)
    refine r_nil ?_
    refine g_true rfl ?_
    refine g_seq ?_
    refine g_region ?_
    refine r_cons (s_fieldAddr 25 2 2 2 23 rfl fi_25_2 rfl rfl ?_)
    refine r_cons (s_loadAgg [.int .i64 o.val.kind.v, .int .i64 o.val.n.v, .string o.val.s.v] 3 ag_23 rfl (H11.blk_at (i := 1) rfl) (Nat.le_of_ble_eq_true rfl) rfl rfl ?_)
    refine r_cons (s_storeAgg H11 0 #[.int .i64 o.val.kind.v, .int .i64 o.val.n.v, .string o.val.s.v] 3 rfl rfl rfl sz_23 rfl (by simp [Value.oneCell']) (Nat.le_of_ble_eq_true rfl) (fun o h1 h2 => by first | (simp; done) | (simp; omega)) (cs' := #[.int .i64 o.val.kind.v, .int .i64 o.val.n.v, .string o.val.s.v]) rfl ?_); intro w13 H14
    refine r_nil ?_
    refine g_ret' [.agg #[.int .i64 o.val.kind.v, .int .i64 o.val.n.v, .string o.val.s.v]] Try.func28 Try.results28 ⟨(res_cellN rfl ag_23 (H14.blk_at (i := 0) rfl) (Nat.le_of_ble_eq_true rfl) rfl), trivial⟩ ?_
    have H15 : St W w13 (blk g (.cells #[.int .i64 e.src.v, .int .i64 e.seq.v, .int .i64 e.time.v, .string e.typ.v, .slice pp1 e.attrs.length cc2] 36 (0, 0)) :: (F.set i emp)) := ((((H14.move 2 rfl).drop 1 rfl).drop 1 rfl).drop 1 rfl)
    exact ⟨by rw [ofV_val hc12]; rfl, St.back_same hi H15⟩
  · skip
    refine r_cons (s_seql false rfl rfl (dfalse hc12) rfl ?_)
    refine r_nil ?_
    refine g_false rfl ?_
    refine g_skip ?_
    refine g_seq ?_
    refine g_region ?_
    refine r_cons (s_fieldAddr 36 3 4 4 34 rfl fi_36_3 rfl rfl ?_)
    refine r_cons (s_load (.slice pp1 e.attrs.length cc2) ag_34 rfl (H11.blk_at (i := 2) rfl) rfl rfl ?_)
    refine r_cons (s_fieldAddr 25 1 1 1 9 rfl fi_25_1 rfl rfl ?_)
    refine r_cons (s_load (.string o.attr.v) ag_9 rfl (H11.blk_at (i := 1) rfl) rfl rfl ?_)
    refine r_cons (s_call [.slice pp1 e.attrs.length cc2, .string o.attr.v] pl_29 rfl rfl (value_Get e.attrs (.slice pp1 e.attrs.length cc2) o.attr.v (j := 3) rfl H11) ?_)
    rintro _ w16 ⟨rfl, H17⟩
    refine r_cons (s_move (.tuple #[.agg #[.int .i64 ((getV e.attrs o.attr.v).kind.v), .int .i64 ((getV e.attrs o.attr.v).n.v), .string ((getV e.attrs o.attr.v).s.v)], .bool (hasV e.attrs o.attr.v)]) rfl rfl ?_)
    refine r_cons (s_extract (.agg #[.int .i64 ((getV e.attrs o.attr.v).kind.v), .int .i64 ((getV e.attrs o.attr.v).n.v), .string ((getV e.attrs o.attr.v).s.v)]) #[.agg #[.int .i64 ((getV e.attrs o.attr.v).kind.v), .int .i64 ((getV e.attrs o.attr.v).n.v), .string ((getV e.attrs o.attr.v).s.v)], .bool (hasV e.attrs o.attr.v)] rfl rfl rfl ?_)
    refine r_cons (s_extract (.bool (hasV e.attrs o.attr.v)) #[.agg #[.int .i64 ((getV e.attrs o.attr.v).kind.v), .int .i64 ((getV e.attrs o.attr.v).n.v), .string ((getV e.attrs o.attr.v).s.v)], .bool (hasV e.attrs o.attr.v)] rfl rfl rfl ?_)
    refine r_cons (s_alloc H17 23 ze_23 rfl ?_); intro bk18 w19 H20
    refine r_cons (s_storeAgg H20 0 #[.int .i64 ((getV e.attrs o.attr.v).kind.v), .int .i64 ((getV e.attrs o.attr.v).n.v), .string ((getV e.attrs o.attr.v).s.v)] 3 rfl rfl rfl sz_23 rfl (by simp [Value.oneCell']) (Nat.le_of_ble_eq_true rfl) (fun o h1 h2 => by first | (simp; done) | (simp; omega)) (cs' := #[.int .i64 ((getV e.attrs o.attr.v).kind.v), .int .i64 ((getV e.attrs o.attr.v).n.v), .string ((getV e.attrs o.attr.v).s.v)]) rfl ?_); intro w21 H22
    refine r_cons (s_assign (.bool (hasV e.attrs o.attr.v)) rfl rfl ?_)
    refine r_nil ?_
    refine g_seq ?_
    refine g_region ?_
    refine r_cons (s_loadAgg [.int .i64 ((getV e.attrs o.attr.v).kind.v), .int .i64 ((getV e.attrs o.attr.v).n.v), .string ((getV e.attrs o.attr.v).s.v)] 3 ag_23 rfl (H22.blk_at (i := 0) rfl) (Nat.le_of_ble_eq_true rfl) rfl rfl ?_)
    refine r_cons (s_storeAgg H22 1 #[.int .i64 ((getV e.attrs o.attr.v).kind.v), .int .i64 ((getV e.attrs o.attr.v).n.v), .string ((getV e.attrs o.attr.v).s.v)] 3 rfl rfl rfl sz_23 rfl (by simp [Value.oneCell']) (Nat.le_of_ble_eq_true rfl) (fun o h1 h2 => by first | (simp; done) | (simp; omega)) (cs' := #[.int .i64 ((getV e.attrs o.attr.v).kind.v), .int .i64 ((getV e.attrs o.attr.v).n.v), .string ((getV e.attrs o.attr.v).s.v)]) rfl ?_); intro w23 H24
    refine r_nil ?_
    refine g_ret' [.agg #[.int .i64 ((getV e.attrs o.attr.v).kind.v), .int .i64 ((getV e.attrs o.attr.v).n.v), .string ((getV e.attrs o.attr.v).s.v)]] Try.func28 Try.results28 ⟨(res_cellN rfl ag_23 (H24.blk_at (i := 1) rfl) (Nat.le_of_ble_eq_true rfl) rfl), trivial⟩ ?_
    have H25 : St W w23 (blk g (.cells #[.int .i64 e.src.v, .int .i64 e.seq.v, .int .i64 e.time.v, .string e.typ.v, .slice pp1 e.attrs.length cc2] 36 (0, 0)) :: (F.set i emp)) := (((((H24.move 3 rfl).drop 1 rfl).drop 1 rfl).drop 1 rfl).drop 1 rfl)
    exact ⟨by rw [ofV_get hc12]; rfl, St.back_same hi H25⟩
set_option maxHeartbeats 4000000 in
set_option maxRecDepth 100000 in
theorem pred_Test {W w : World} {F : List Atom} (c : CondV) (e : EvM) (av : Value) {j : Nat} (hj : F[j]? = some (Attrs av e.attrs)) (H : St W w F) : Calls Try.prog 9 #[.agg #[.string c.left.var.v, .string c.left.attr.v, .int .i64 c.left.val.kind.v, .int .i64 c.left.val.n.v, .string c.left.val.s.v, .int .i64 c.rel.v, .string c.right.var.v, .string c.right.attr.v, .int .i64 c.right.val.kind.v, .int .i64 c.right.val.n.v, .string c.right.val.s.v], .agg #[.int .i64 e.src.v, .int .i64 e.seq.v, .int .i64 e.time.v, .string e.typ.v, av]] w (Ret fun v w' => v = .bool (testB c e.attrs) ∧ St W w' F) := by
  obtain ⟨pp1, cc2, rfl, hn3⟩ := Rd.shape (Im.rd H (i := j) hj)
  have H4 := H.dup hj (Attrs_pers _ _)
  refine calls_of_go (n := 18) Try.func9 rfl Try.ntmps9 rfl ?_
  refine g_seq ?_
  refine g_region ?_
  refine r_cons (s_box H4 27 (.agg #[.string c.left.var.v, .string c.left.attr.v, .int .i64 c.left.val.kind.v, .int .i64 c.left.val.n.v, .string c.left.val.s.v, .int .i64 c.rel.v, .string c.right.var.v, .string c.right.attr.v, .int .i64 c.right.val.kind.v, .int .i64 c.right.val.n.v, .string c.right.val.s.v]) rfl (cs := #[.string c.left.var.v, .string c.left.attr.v, .int .i64 c.left.val.kind.v, .int .i64 c.left.val.n.v, .string c.left.val.s.v, .int .i64 c.rel.v, .string c.right.var.v, .string c.right.attr.v, .int .i64 c.right.val.kind.v, .int .i64 c.right.val.n.v, .string c.right.val.s.v]) rfl rfl ?_); intro bk5 w6 H7
  refine r_cons (s_box H7 36 (.agg #[.int .i64 e.src.v, .int .i64 e.seq.v, .int .i64 e.time.v, .string e.typ.v, .slice pp1 e.attrs.length cc2]) rfl (cs := #[.int .i64 e.src.v, .int .i64 e.seq.v, .int .i64 e.time.v, .string e.typ.v, .slice pp1 e.attrs.length cc2]) rfl rfl ?_); intro bk8 w9 H10
  refine r_cons (s_assign (.bool false) rfl rfl ?_)
  refine r_nil ?_
  refine g_seq ?_
  refine g_region ?_
  refine r_cons (s_makeFunc (.func (.func 28) #[] #[.pointer (some ⟨bk8, 0, none⟩)]) rfl rfl ?_)
  refine r_cons (s_assign (.func (.func 28) #[] #[.pointer (some ⟨bk8, 0, none⟩)]) rfl rfl ?_)
  refine r_nil ?_
  refine g_seq ?_
  refine g_quiet (fun w' => St W w' (blk bk8 (.cells #[.int .i64 e.src.v, .int .i64 e.seq.v, .int .i64 e.time.v, .string e.typ.v, .slice pp1 e.attrs.length cc2] 36 (0, 0)) :: blk bk5 (.cells #[.string c.left.var.v, .string c.left.attr.v, .int .i64 c.left.val.kind.v, .int .i64 c.left.val.n.v, .string c.left.val.s.v, .int .i64 c.rel.v, .string c.right.var.v, .string c.right.attr.v, .int .i64 c.right.val.kind.v, .int .i64 c.right.val.n.v, .string c.right.val.s.v] 27 (0, 0)) :: Attrs (.slice pp1 e.attrs.length cc2) e.attrs :: F)) mixed (by kernel_rfl) H10.drew ?_
  refine q_cons (q_val rfl rfl rfl (by intro w hw; exact x_fieldAddr 27 1 5 5 3 rfl fi_27_1 rfl w) ?_)
  refine q_cons (q_val rfl rfl rfl (by intro w hw; exact x_load (.int .i64 c.rel.v) ag_3 rfl (hw.blk_at (i := 1) rfl) rfl) ?_)
  refine q_cons (q_val rfl rfl rfl (by intro w hw; exact x_move (.func (.func 28) #[] #[.pointer (some ⟨bk8, 0, none⟩)]) rfl w) ?_)
  refine q_cons (q_val rfl rfl rfl (by intro w hw; exact x_fieldAddr 27 0 0 0 25 rfl fi_27_0 rfl w) ?_)
  refine q_cons (q_val rfl rfl rfl (by intro w hw; exact x_loadAgg [.string c.left.var.v, .string c.left.attr.v, .int .i64 c.left.val.kind.v, .int .i64 c.left.val.n.v, .string c.left.val.s.v] 5 ag_25 rfl (hw.blk_at (i := 1) rfl) (Nat.le_of_ble_eq_true rfl) rfl) ?_)
  refine q_cons (q_enter (args := #[.agg #[.string c.left.var.v, .string c.left.attr.v, .int .i64 c.left.val.kind.v, .int .i64 c.left.val.n.v, .string c.left.val.s.v], .pointer (some ⟨bk8, 0, none⟩)]) (v := .agg #[.int .i64 ((ofV c.left e.attrs).kind.v), .int .i64 ((ofV c.left e.attrs).n.v), .string ((ofV c.left e.attrs).s.v)]) rfl rfl rfl (x_callv pl_28 [.pointer (some ⟨bk8, 0, none⟩)] [.agg #[.string c.left.var.v, .string c.left.attr.v, .int .i64 c.left.val.kind.v, .int .i64 c.left.val.n.v, .string c.left.val.s.v], .pointer (some ⟨bk8, 0, none⟩)] rfl rfl) (fun w hw => pred_Test1 c.left bk8 e (.slice pp1 e.attrs.length cc2) (i := 0) rfl (j := 2) rfl hw) ?_)
  refine q_cons (q_val rfl rfl rfl (by intro w hw; exact x_move (.func (.func 28) #[] #[.pointer (some ⟨bk8, 0, none⟩)]) rfl w) ?_)
  refine q_cons (q_val rfl rfl rfl (by intro w hw; exact x_fieldAddr 27 2 6 6 25 rfl fi_27_2 rfl w) ?_)
  refine q_cons (q_val rfl rfl rfl (by intro w hw; exact x_loadAgg [.string c.right.var.v, .string c.right.attr.v, .int .i64 c.right.val.kind.v, .int .i64 c.right.val.n.v, .string c.right.val.s.v] 5 ag_25 rfl (hw.blk_at (i := 1) rfl) (Nat.le_of_ble_eq_true rfl) rfl) ?_)
  refine q_cons (q_enter (args := #[.agg #[.string c.right.var.v, .string c.right.attr.v, .int .i64 c.right.val.kind.v, .int .i64 c.right.val.n.v, .string c.right.val.s.v], .pointer (some ⟨bk8, 0, none⟩)]) (v := .agg #[.int .i64 ((ofV c.right e.attrs).kind.v), .int .i64 ((ofV c.right e.attrs).n.v), .string ((ofV c.right e.attrs).s.v)]) rfl rfl rfl (x_callv pl_28 [.pointer (some ⟨bk8, 0, none⟩)] [.agg #[.string c.right.var.v, .string c.right.attr.v, .int .i64 c.right.val.kind.v, .int .i64 c.right.val.n.v, .string c.right.val.s.v], .pointer (some ⟨bk8, 0, none⟩)] rfl rfl) (fun w hw => pred_Test1 c.right bk8 e (.slice pp1 e.attrs.length cc2) (i := 0) rfl (j := 2) rfl hw) ?_)
  refine q_cons (q_enter (args := #[.int .i64 c.rel.v, .agg #[.int .i64 ((ofV c.left e.attrs).kind.v), .int .i64 ((ofV c.left e.attrs).n.v), .string ((ofV c.left e.attrs).s.v)], .agg #[.int .i64 ((ofV c.right e.attrs).kind.v), .int .i64 ((ofV c.right e.attrs).n.v), .string ((ofV c.right e.attrs).s.v)]]) (v := .bool (holdsB c.rel.v (ofV c.left e.attrs) (ofV c.right e.attrs))) rfl rfl rfl (x_call pl_30 [.int .i64 c.rel.v, .agg #[.int .i64 ((ofV c.left e.attrs).kind.v), .int .i64 ((ofV c.left e.attrs).n.v), .string ((ofV c.left e.attrs).s.v)], .agg #[.int .i64 ((ofV c.right e.attrs).kind.v), .int .i64 ((ofV c.right e.attrs).n.v), .string ((ofV c.right e.attrs).s.v)]] rfl) (fun w hw => value_Holds c.rel.v (ofV c.left e.attrs) (ofV c.right e.attrs) hw) ?_)
  refine q_cons (q_val rfl rfl rfl (by intro w hw; exact x_assign (.bool (holdsB c.rel.v (ofV c.left e.attrs) (ofV c.right e.attrs))) rfl w) ?_)
  refine q_nil ?_
  intro w11 H12
  refine g_ret' [.bool (holdsB c.rel.v (ofV c.left e.attrs) (ofV c.right e.attrs))] Try.func9 Try.results9 ⟨rfl, trivial⟩ ?_
  have H13 : St W w11 F := (((H12.drop 0 rfl).drop 0 rfl).drop 0 rfl)
  exact ⟨rfl, H13⟩
set_option maxHeartbeats 4000000 in
set_option maxRecDepth 100000 in
theorem pred_Term1 {W w : World} {F : List Atom} (c : CondV) (g : Nat) (e : EvM) (av : Value) {i : Nat} (hi : F[i]? = some (blk g (.cells #[.int .i64 e.src.v, .int .i64 e.seq.v, .int .i64 e.time.v, .string e.typ.v, av] 36 (0, 0)))) {j : Nat} (hj : F[j]? = some (Attrs av e.attrs)) (H : St W w F) : Calls Try.prog 34 #[.agg #[.string c.left.var.v, .string c.left.attr.v, .int .i64 c.left.val.kind.v, .int .i64 c.left.val.n.v, .string c.left.val.s.v, .int .i64 c.rel.v, .string c.right.var.v, .string c.right.attr.v, .int .i64 c.right.val.kind.v, .int .i64 c.right.val.n.v, .string c.right.val.s.v], .pointer (some ⟨g, 0, none⟩)] w (Ret fun v w' => v = .bool (!testB c e.attrs) ∧ St W w' F) := by
  obtain ⟨pp1, cc2, rfl, hn3⟩ := Rd.shape (Im.rd H (i := j) hj)
  have H4 := H.dup hj (Attrs_pers _ _)
  have H5 := H4.front (i := i + 1) (by exact hi)
  refine calls_of_go (n := 8) Try.func34 rfl Try.ntmps34 rfl ?_
  refine g_seq ?_
  refine g_region ?_
  refine r_cons (s_box H5 27 (.agg #[.string c.left.var.v, .string c.left.attr.v, .int .i64 c.left.val.kind.v, .int .i64 c.left.val.n.v, .string c.left.val.s.v, .int .i64 c.rel.v, .string c.right.var.v, .string c.right.attr.v, .int .i64 c.right.val.kind.v, .int .i64 c.right.val.n.v, .string c.right.val.s.v]) rfl (cs := #[.string c.left.var.v, .string c.left.attr.v, .int .i64 c.left.val.kind.v, .int .i64 c.left.val.n.v, .string c.left.val.s.v, .int .i64 c.rel.v, .string c.right.var.v, .string c.right.attr.v, .int .i64 c.right.val.kind.v, .int .i64 c.right.val.n.v, .string c.right.val.s.v]) rfl rfl ?_); intro bk6 w7 H8
  refine r_cons (s_assign (.bool false) rfl rfl ?_)
  refine r_nil ?_
  refine g_seq ?_
  refine g_region ?_
  refine r_cons (s_loadAgg [.string c.left.var.v, .string c.left.attr.v, .int .i64 c.left.val.kind.v, .int .i64 c.left.val.n.v, .string c.left.val.s.v, .int .i64 c.rel.v, .string c.right.var.v, .string c.right.attr.v, .int .i64 c.right.val.kind.v, .int .i64 c.right.val.n.v, .string c.right.val.s.v] 11 ag_27 rfl (H8.blk_at (i := 0) rfl) (Nat.le_of_ble_eq_true rfl) rfl rfl ?_)
  refine r_cons (s_loadAgg [.int .i64 e.src.v, .int .i64 e.seq.v, .int .i64 e.time.v, .string e.typ.v, .slice pp1 e.attrs.length cc2] 5 ag_36 rfl (H8.blk_at (i := 1) rfl) (Nat.le_of_ble_eq_true rfl) rfl rfl ?_)
  refine r_cons (s_call [.agg #[.string c.left.var.v, .string c.left.attr.v, .int .i64 c.left.val.kind.v, .int .i64 c.left.val.n.v, .string c.left.val.s.v, .int .i64 c.rel.v, .string c.right.var.v, .string c.right.attr.v, .int .i64 c.right.val.kind.v, .int .i64 c.right.val.n.v, .string c.right.val.s.v], .agg #[.int .i64 e.src.v, .int .i64 e.seq.v, .int .i64 e.time.v, .string e.typ.v, .slice pp1 e.attrs.length cc2]] pl_9 rfl rfl (pred_Test c e (.slice pp1 e.attrs.length cc2) (j := 2) rfl H8) ?_)
  rintro _ w9 ⟨rfl, H10⟩
  refine r_cons (s_not (testB c e.attrs) rfl (!(testB c e.attrs)) rfl rfl ?_)
  refine r_cons (s_assign (.bool (!(testB c e.attrs))) rfl rfl ?_)
  refine r_nil ?_
  refine g_ret' [.bool (!(testB c e.attrs))] Try.func34 Try.results34 ⟨rfl, trivial⟩ ?_
  have H11 : St W w9 (blk g (.cells #[.int .i64 e.src.v, .int .i64 e.seq.v, .int .i64 e.time.v, .string e.typ.v, .slice pp1 e.attrs.length cc2] 36 (0, 0)) :: (F.set i emp)) := (((H10.move 1 rfl).drop 1 rfl).drop 1 rfl)
  exact ⟨rfl, St.back_same hi H11⟩
set_option maxHeartbeats 4000000 in
set_option maxRecDepth 100000 in
theorem IndexFunc_cond_term {W w : World} {F : List Atom} (L : List CondV) (lv : Value) (g : Nat) (e : EvM) (av : Value) {m : Nat} (hm : F[m]? = some (Im 11 lv L.length (L.flatMap condCell))) {i : Nat} (hi : F[i]? = some (blk g (.cells #[.int .i64 e.src.v, .int .i64 e.seq.v, .int .i64 e.time.v, .string e.typ.v, av] 36 (0, 0)))) {j : Nat} (hj : F[j]? = some (Attrs av e.attrs)) (H : St W w F) : Calls Try.prog 53 #[lv, .func (.func 34) #[] #[.pointer (some ⟨g, 0, none⟩)]] w (Ret fun v w' => v = .int .i64 (idxB (fun x : CondV => !testB x e.attrs) L) ∧ St W w' F) := by
  obtain ⟨pp1, cc2, rfl, hn3⟩ := Rd.shape (Im.rd H (i := m) hm)
  have H4 := H.dup hm (Im_pers _ _ _ _)
  have H5 := H4.dup (i := j + 1) (by exact hj) (Attrs_pers _ _)
  have H6 := H5.front (i := i + 2) (by exact hi)
  obtain ⟨pA7, cA8, gA9, oA10, kA11, eA12, zA13, he19, hn14, hp15, hx16, hs17, hml, H18⟩ := Im.open_ H6 (i := 2) rfl
  obtain ⟨rfl, rfl⟩ : pp1 = pA7 ∧ cc2 = cA8 := by injection he19 with a_ b_ c_; exact ⟨a_, c_⟩
  refine calls_of_go (n := 19) Try.func53 rfl Try.ntmps53 rfl ?_
  refine g_seq ?_
  refine g_region ?_
  refine r_cons (s_assign (.int .i64 0) rfl rfl ?_)
  refine r_nil ?_
  refine g_seq ?_
  refine g_seq ?_
  refine g_region ?_
  refine r_cons (s_move (.slice pp1 L.length cc2) rfl rfl ?_)
  refine r_cons (s_len L.length rfl ⟨_, un_28⟩ rfl ?_)
  refine r_cons (s_move (.int .i64 0) rfl rfl ?_)
  refine r_nil ?_
  refine g_block ?_
  have H20 : St W w (imi (0 < L.length) gA9 (.cells kA11 eA12 zA13) :: blk g (.cells #[.int .i64 e.src.v, .int .i64 e.seq.v, .int .i64 e.time.v, .string e.typ.v, av] 36 (0, 0)) :: Attrs av e.attrs :: Im 11 (.slice pp1 L.length cc2) L.length (L.flatMap condCell) :: (F.set i emp)) := ((((H18.move 3 rfl).move 3 rfl).move 3 rfl).move 3 rfl)
  refine g_loop_inv (fun (x_ : Nat) => match x_ with | j => [(0, .slice pp1 L.length cc2), (1, .func (.func 34) #[] #[.pointer (some ⟨g, 0, none⟩)]), (4, .int .i64 0), (7, .int .i64 (L.length : Int)), (8, .int .i64 (j : Int))]) (fun (x_ : Nat) w => match x_ with | j => (j ≤ L.length) ∧ (∀ q, q < j → (fun x : CondV => !testB x e.attrs) (L.getD q default) = false) ∧ St W w (imi (0 < L.length) gA9 (.cells kA11 eA12 zA13) :: blk g (.cells #[.int .i64 e.src.v, .int .i64 e.seq.v, .int .i64 e.time.v, .string e.typ.v, av] 36 (0, 0)) :: Attrs av e.attrs :: Im 11 (.slice pp1 L.length cc2) L.length (L.flatMap condCell) :: (F.set i emp))) (fun (x_ : Nat) => match x_ with | j => L.length - j) (0) ?_ ?_ ?_
  · exact ⟨by first | rfl | exact vint (by omega), by first | rfl | exact vint (by omega), by first | rfl | exact vint (by omega), by first | rfl | exact vint (by omega), by first | rfl | exact vint (by omega), trivial⟩
  · exact ⟨(by omega), (fun q hq => by omega), H20⟩
  · rintro j ρ21 w22 ⟨hjn, hz, H23⟩ nx24
    change Ends _ _ (upds ρ21 [(0, .slice pp1 L.length cc2), (1, .func (.func 34) #[] #[.pointer (some ⟨g, 0, none⟩)]), (4, .int .i64 0), (7, .int .i64 (L.length : Int)), (8, .int .i64 (j : Int))]) w22
    refine g_seq ?_
    refine g_region ?_
    by_cases hc25 : (j : Int) < (L.length : Int)
    · skip
      refine r_cons (s_lss true rfl rfl (dtrue hc25) rfl ?_)
      refine r_nil ?_
      refine g_seq ?_
      refine g_true rfl ?_
      refine g_skip ?_
      refine g_seq ?_
      refine g_block ?_
      refine g_seq ?_
      refine g_region ?_
      refine r_cons (s_move (.int .i64 (j : Int)) rfl rfl ?_)
      refine r_cons (s_assign (.int .i64 (j : Int)) rfl rfl ?_)
      refine r_nil ?_
      refine g_seq ?_
      refine g_region ?_
      refine r_cons (s_move (.func (.func 34) #[] #[.pointer (some ⟨g, 0, none⟩)]) rfl rfl ?_)
      refine r_cons (s_move (.slice pp1 L.length cc2) rfl rfl ?_)
      refine r_cons (s_move (.int .i64 (j : Int)) rfl rfl ?_)
      refine r_cons (s_indexAddr gA9 (off := oA10) (j : Int) 11 (oA10 + j * 11) (by exact congrArg (fun z_ => Value.slice z_ L.length cc2) (hp15 (by omega))) rfl el_28 (by omega) rfl rfl ?_)
      refine r_cons (s_loadAgg [.string ((L.getD j default).left.var.v), .string ((L.getD j default).left.attr.v), .int .i64 ((L.getD j default).left.val.kind.v), .int .i64 ((L.getD j default).left.val.n.v), .string ((L.getD j default).left.val.s.v), .int .i64 ((L.getD j default).rel.v), .string ((L.getD j default).right.var.v), .string ((L.getD j default).right.attr.v), .int .i64 ((L.getD j default).right.val.kind.v), .int .i64 ((L.getD j default).right.val.n.v), .string ((L.getD j default).right.val.s.v)] 11 ag_27 rfl (H23.imi_at (i := 0) rfl (by omega)) (by have := elem_size (i := j) (s := 11) (hs17 (by omega)) (by omega); omega) (elem_take condCell_len (hx16 (by omega)) (by omega) default) rfl ?_)
      refine r_cons (s_callv [.pointer (some ⟨g, 0, none⟩)] [.agg #[.string ((L.getD j default).left.var.v), .string ((L.getD j default).left.attr.v), .int .i64 ((L.getD j default).left.val.kind.v), .int .i64 ((L.getD j default).left.val.n.v), .string ((L.getD j default).left.val.s.v), .int .i64 ((L.getD j default).rel.v), .string ((L.getD j default).right.var.v), .string ((L.getD j default).right.attr.v), .int .i64 ((L.getD j default).right.val.kind.v), .int .i64 ((L.getD j default).right.val.n.v), .string ((L.getD j default).right.val.s.v)], .pointer (some ⟨g, 0, none⟩)] rfl pl_34 rfl rfl (pred_Term1 (L.getD j default) g e av (i := 1) rfl (j := 2) rfl H23) ?_)
      rintro _ w26 ⟨rfl, H27⟩
      refine r_nil ?_
      by_cases hb28 : (!testB (L.getD j default) e.attrs) = true
      · skip
        refine g_true (congrArg Value.bool hb28) ?_
        refine g_seq ?_
        refine g_region ?_
        refine r_cons (s_move (.int .i64 (j : Int)) rfl rfl ?_)
        refine r_cons (s_assign (.int .i64 (j : Int)) rfl rfl ?_)
        refine r_nil ?_
        refine g_ret' [.int .i64 (j : Int)] Try.func53 Try.results53 ⟨rfl, trivial⟩ ?_
        have H29 : St W w26 (blk g (.cells #[.int .i64 e.src.v, .int .i64 e.seq.v, .int .i64 e.time.v, .string e.typ.v, av] 36 (0, 0)) :: (F.set i emp)) := ((((H27.move 1 rfl).drop 1 rfl).drop 1 rfl).drop 1 rfl)
        exact ⟨vint (idxB_at (p := fun x : CondV => !testB x e.attrs) hz (by omega) (by exact hb28)).symm, St.back_same hi H29⟩
      · have hb28 := eq_false_of_ne_true hb28
        refine g_false (congrArg Value.bool hb28) ?_
        refine g_skip ?_
        refine g_inBlock ?_
        refine g_region ?_
        refine r_cons (s_add ((j : Int) + 1) rfl rfl (wi64 (by omega)) rfl ?_)
        refine r_cons (s_move (.int .i64 ((j : Int) + 1)) rfl rfl ?_)
        refine r_nil ?_
        have H30 : St W w26 (imi (0 < L.length) gA9 (.cells kA11 eA12 zA13) :: blk g (.cells #[.int .i64 e.src.v, .int .i64 e.seq.v, .int .i64 e.time.v, .string e.typ.v, av] 36 (0, 0)) :: Attrs av e.attrs :: Im 11 (.slice pp1 L.length cc2) L.length (L.flatMap condCell) :: (F.set i emp)) := ((((H27.move 3 rfl).move 3 rfl).move 3 rfl).move 3 rfl)
        exact nx24 (j + 1) _ _ ⟨(by omega), (fun q hq => (Nat.lt_or_ge q j).elim (hz q) (fun h => by rw [show q = j from by omega]; exact hb28)), H30⟩ (by first | (dsimp only; omega) | omega) ⟨by first | rfl | exact vint (by omega), by first | rfl | exact vint (by omega), by first | rfl | exact vint (by omega), by first | rfl | exact vint (by omega), by first | rfl | exact vint (by omega), trivial⟩
    · skip
      refine r_cons (s_lss false rfl rfl (dfalse hc25) rfl ?_)
      refine r_nil ?_
      refine g_seq ?_
      refine g_false rfl ?_
      refine g_exit (by rfl) ?_
      refine g_seq ?_
      refine g_region ?_
      refine r_cons (s_assign (.int .i64 (-1)) rfl rfl ?_)
      refine r_nil ?_
      refine g_ret' [.int .i64 (-1)] Try.func53 Try.results53 ⟨rfl, trivial⟩ ?_
      have H31 : St W w22 (blk g (.cells #[.int .i64 e.src.v, .int .i64 e.seq.v, .int .i64 e.time.v, .string e.typ.v, av] 36 (0, 0)) :: (F.set i emp)) := ((((H23.move 1 rfl).drop 1 rfl).drop 1 rfl).drop 1 rfl)
      exact ⟨vint (idxB_none (p := fun x : CondV => !testB x e.attrs) (fun q hq => hz q (by omega))).symm, St.back_same hi H31⟩
set_option maxHeartbeats 4000000 in
set_option maxRecDepth 100000 in
theorem ContainsFunc_cond_term {W w : World} {F : List Atom} (L : List CondV) (lv : Value) (g : Nat) (e : EvM) (av : Value) {m : Nat} (hm : F[m]? = some (Im 11 lv L.length (L.flatMap condCell))) {i : Nat} (hi : F[i]? = some (blk g (.cells #[.int .i64 e.src.v, .int .i64 e.seq.v, .int .i64 e.time.v, .string e.typ.v, av] 36 (0, 0)))) {j : Nat} (hj : F[j]? = some (Attrs av e.attrs)) (H : St W w F) : Calls Try.prog 33 #[lv, .func (.func 34) #[] #[.pointer (some ⟨g, 0, none⟩)]] w (Ret fun v w' => v = .bool (L.any (fun x : CondV => !testB x e.attrs)) ∧ St W w' F) := by
  refine calls_of_go (n := 9) Try.func33 rfl Try.ntmps33 rfl ?_
  refine g_seq ?_
  refine g_region ?_
  refine r_cons (s_assign (.bool false) rfl rfl ?_)
  refine r_nil ?_
  refine g_seq ?_
  refine g_region ?_
  refine r_cons (s_move (lv) rfl rfl ?_)
  refine r_cons (s_move (.func (.func 34) #[] #[.pointer (some ⟨g, 0, none⟩)]) rfl rfl ?_)
  refine r_cons (s_call [lv, .func (.func 34) #[] #[.pointer (some ⟨g, 0, none⟩)]] pl_53 rfl rfl (IndexFunc_cond_term L lv g e av hm hi hj H) ?_)
  rintro _ w1 ⟨rfl, H2⟩
  refine r_cons (s_geq (decide ((0 : Int) ≤ idxB (fun x : CondV => !testB x e.attrs) L)) rfl rfl rfl rfl ?_)
  refine r_cons (s_assign (.bool (decide ((0 : Int) ≤ idxB (fun x : CondV => !testB x e.attrs) L))) rfl rfl ?_)
  refine r_nil ?_
  refine g_ret' [.bool (decide ((0 : Int) ≤ idxB (fun x : CondV => !testB x e.attrs) L))] Try.func33 Try.results33 ⟨rfl, trivial⟩ ?_
  exact ⟨congrArg Value.bool (idxB_any (p := fun x : CondV => !testB x e.attrs)), H2⟩
set_option maxHeartbeats 4000000 in
set_option maxRecDepth 100000 in
theorem pred_Term {W w : World} {F : List Atom} (k : Int) (vr ty : ByteArray) (tp : Option Addr) (tc : Nat) (ts : List CondV) (kv : Value) (e : EvM) (av : Value) {m : Nat} (hm : F[m]? = some (Im 11 (.slice tp ts.length tc) ts.length (ts.flatMap condCell))) {j : Nat} (hj : F[j]? = some (Attrs av e.attrs)) (H : St W w F) : Calls Try.prog 11 #[.agg #[.int .i64 k, .string vr, .string ty, .slice tp ts.length tc, kv], .agg #[.int .i64 e.src.v, .int .i64 e.seq.v, .int .i64 e.time.v, .string e.typ.v, av]] w (Ret fun v w' => v = .bool (termB k ty ts e) ∧ St W w' F) := by
  obtain ⟨pp1, cc2, rfl, hn3⟩ := Rd.shape (Im.rd H (i := j) hj)
  have H4 := H.dup hj (Attrs_pers _ _)
  have H5 := H4.dup (i := m + 1) (by exact hm) (Im_pers _ _ _ _)
  refine calls_of_go (n := 22) Try.func11 rfl Try.ntmps11 rfl ?_
  refine g_seq ?_
  refine g_region ?_
  refine r_cons (s_box H5 31 (.agg #[.int .i64 k, .string vr, .string ty, .slice tp ts.length tc, kv]) rfl (cs := #[.int .i64 k, .string vr, .string ty, .slice tp ts.length tc, kv]) rfl rfl ?_); intro bk6 w7 H8
  refine r_cons (s_box H8 36 (.agg #[.int .i64 e.src.v, .int .i64 e.seq.v, .int .i64 e.time.v, .string e.typ.v, .slice pp1 e.attrs.length cc2]) rfl (cs := #[.int .i64 e.src.v, .int .i64 e.seq.v, .int .i64 e.time.v, .string e.typ.v, .slice pp1 e.attrs.length cc2]) rfl rfl ?_); intro bk9 w10 H11
  refine r_cons (s_assign (.bool false) rfl rfl ?_)
  refine r_nil ?_
  refine g_seq ?_
  refine g_region ?_
  refine r_cons (s_fieldAddr 31 0 0 0 3 rfl fi_31_0 rfl rfl ?_)
  refine r_cons (s_load (.int .i64 k) ag_3 rfl (H11.blk_at (i := 1) rfl) rfl rfl ?_)
  by_cases hc12 : k = 1
  · skip
    refine r_cons (s_eql true rfl rfl (dtrue hc12) rfl ?_)
    refine r_cons (s_move (.bool true) rfl rfl ?_)
    refine r_cons (r_take rfl rfl ?_)
    refine s_fieldAddr 31 2 2 2 9 rfl fi_31_2 rfl rfl ?_
    refine r_cons (r_take rfl rfl ?_)
    refine s_load (.string ty) ag_9 rfl (H11.blk_at (i := 1) rfl) rfl rfl ?_
    refine r_cons (r_take rfl rfl ?_)
    refine s_fieldAddr 36 2 3 3 9 rfl fi_36_2 rfl rfl ?_
    refine r_cons (r_take rfl rfl ?_)
    refine s_load (.string e.typ.v) ag_9 rfl (H11.blk_at (i := 0) rfl) rfl rfl ?_
    refine r_cons (r_take rfl rfl ?_)
    by_cases hc13 : ty = e.typ.v
    · skip
      refine s_seql true rfl rfl (dtrue hc13) rfl ?_
      refine r_cons (s_pick_t (.bool true) rfl rfl rfl ?_)
      refine r_cons (s_move (.bool true) rfl rfl ?_)
      refine r_cons (r_take rfl rfl ?_)
      refine s_fieldAddr 31 3 3 3 28 rfl fi_31_3 rfl rfl ?_
      refine r_cons (r_take rfl rfl ?_)
      refine s_load (.slice tp ts.length tc) ag_28 rfl (H11.blk_at (i := 1) rfl) rfl rfl ?_
      refine r_cons (r_take rfl rfl ?_)
      refine s_makeFunc (.func (.func 34) #[] #[.pointer (some ⟨bk9, 0, none⟩)]) rfl rfl ?_
      refine r_cons (r_take rfl rfl ?_)
      refine s_call [.slice tp ts.length tc, .func (.func 34) #[] #[.pointer (some ⟨bk9, 0, none⟩)]] pl_33 rfl rfl (ContainsFunc_cond_term ts (.slice tp ts.length tc) bk9 e (.slice pp1 e.attrs.length cc2) (m := 2) rfl (i := 0) rfl (j := 3) rfl H11) ?_
      rintro _ w14 ⟨rfl, H15⟩
      refine r_cons (r_take rfl rfl ?_)
      refine s_not (ts.any (fun x : CondV => !testB x e.attrs)) rfl (!(ts.any (fun x : CondV => !testB x e.attrs))) rfl rfl ?_
      refine r_cons (s_pick_t (.bool (!(ts.any (fun x : CondV => !testB x e.attrs)))) rfl rfl rfl ?_)
      refine r_cons (s_assign (.bool (!(ts.any (fun x : CondV => !testB x e.attrs)))) rfl rfl ?_)
      refine r_nil ?_
      refine g_ret' [.bool (!(ts.any (fun x : CondV => !testB x e.attrs)))] Try.func11 Try.results11 ⟨rfl, trivial⟩ ?_
      have H16 : St W w14 F := ((((H15.drop 0 rfl).drop 0 rfl).drop 0 rfl).drop 0 rfl)
      exact ⟨congrArg Value.bool (by unfold termB; first | (rw [decide_eq_true (show k = 1 by omega), decide_eq_true (show ty = e.typ.v by assumption)]; simp) | (rw [decide_eq_false (show ¬ k = 1 by omega)]; simp) | (rw [decide_eq_false (show ¬ ty = e.typ.v by assumption)]; simp)), H16⟩
    · skip
      refine s_seql false rfl rfl (dfalse hc13) rfl ?_
      refine r_cons (s_pick_t (.bool false) rfl rfl rfl ?_)
      refine r_cons (s_move (.bool false) rfl rfl ?_)
      refine r_cons (r_pass rfl rfl rfl rfl rfl ?_)
      refine r_cons (r_pass rfl rfl rfl rfl rfl ?_)
      refine r_cons (r_pass rfl rfl rfl rfl rfl ?_)
      refine r_cons (r_pass rfl rfl rfl rfl rfl ?_)
      refine r_cons (r_pass rfl rfl rfl rfl rfl ?_)
      refine r_cons (s_pick_f (.bool false) rfl rfl rfl ?_)
      refine r_cons (s_assign (.bool false) rfl rfl ?_)
      refine r_nil ?_
      refine g_ret' [.bool false] Try.func11 Try.results11 ⟨rfl, trivial⟩ ?_
      have H17 : St W w10 F := ((((H11.drop 0 rfl).drop 0 rfl).drop 0 rfl).drop 0 rfl)
      exact ⟨congrArg Value.bool (by unfold termB; first | (rw [decide_eq_true (show k = 1 by omega), decide_eq_true (show ty = e.typ.v by assumption)]; simp) | (rw [decide_eq_false (show ¬ k = 1 by omega)]; simp) | (rw [decide_eq_false (show ¬ ty = e.typ.v by assumption)]; simp)), H17⟩
  · skip
    refine r_cons (s_eql false rfl rfl (dfalse hc12) rfl ?_)
    refine r_cons (s_move (.bool false) rfl rfl ?_)
    refine r_cons (r_pass rfl rfl rfl rfl rfl ?_)
    refine r_cons (r_pass rfl rfl rfl rfl rfl ?_)
    refine r_cons (r_pass rfl rfl rfl rfl rfl ?_)
    refine r_cons (r_pass rfl rfl rfl rfl rfl ?_)
    refine r_cons (r_pass rfl rfl rfl rfl rfl ?_)
    refine r_cons (s_pick_f (.bool false) rfl rfl rfl ?_)
    refine r_cons (s_move (.bool false) rfl rfl ?_)
    refine r_cons (r_pass rfl rfl rfl rfl rfl ?_)
    refine r_cons (r_pass rfl rfl rfl rfl rfl ?_)
    refine r_cons (r_pass rfl rfl rfl rfl rfl ?_)
    refine r_cons (r_pass rfl rfl rfl rfl rfl ?_)
    refine r_cons (r_pass rfl rfl rfl rfl rfl ?_)
    refine r_cons (s_pick_f (.bool false) rfl rfl rfl ?_)
    refine r_cons (s_assign (.bool false) rfl rfl ?_)
    refine r_nil ?_
    refine g_ret' [.bool false] Try.func11 Try.results11 ⟨rfl, trivial⟩ ?_
    have H18 : St W w10 F := ((((H11.drop 0 rfl).drop 0 rfl).drop 0 rfl).drop 0 rfl)
    exact ⟨congrArg Value.bool (by unfold termB; first | (rw [decide_eq_true (show k = 1 by omega), decide_eq_true (show ty = e.typ.v by assumption)]; simp) | (rw [decide_eq_false (show ¬ k = 1 by omega)]; simp) | (rw [decide_eq_false (show ¬ ty = e.typ.v by assumption)]; simp)), H18⟩
set_option maxHeartbeats 4000000 in
set_option maxRecDepth 100000 in
theorem isNaN_string {W w : World} {F : List Atom} (s : ByteArray) (H : St W w F) : Calls Try.prog 76 #[.string s] w (Ret fun v w' => v = .bool false ∧ St W w' F) := by
  refine calls_of_go (n := 6) Try.func76 rfl Try.ntmps76 rfl ?_
  refine g_seq ?_
  refine g_region ?_
  refine r_cons (s_assign (.bool false) rfl rfl ?_)
  refine r_nil ?_
  refine g_seq ?_
  refine g_region ?_
  refine r_cons (s_move (.string s) rfl rfl ?_)
  refine r_cons (s_move (.string s) rfl rfl ?_)
  refine r_cons (s_sneq false rfl rfl (ntrue rfl) rfl ?_)
  refine r_cons (s_assign (.bool false) rfl rfl ?_)
  refine r_nil ?_
  refine g_ret' [.bool false] Try.func76 Try.results76 ⟨rfl, trivial⟩ ?_
  exact ⟨rfl, H⟩
set_option maxHeartbeats 4000000 in
set_option maxRecDepth 100000 in
theorem Less_string {W w : World} {F : List Atom} (s t : ByteArray) (H : St W w F) : Calls Try.prog 65 #[.string s, .string t] w (Ret fun v w' => v = .bool (sLt s t) ∧ St W w' F) := by
  refine calls_of_go (n := 17) Try.func65 rfl Try.ntmps65 rfl ?_
  refine g_seq ?_
  refine g_region ?_
  refine r_cons (s_assign (.bool false) rfl rfl ?_)
  refine r_nil ?_
  refine g_seq ?_
  refine g_region ?_
  refine r_cons (s_move (.string s) rfl rfl ?_)
  refine r_cons (s_call [.string s] pl_76 rfl rfl (isNaN_string s H) ?_)
  rintro _ w1 ⟨rfl, H2⟩
  refine r_cons (s_move (.bool false) rfl rfl ?_)
  refine r_cons (r_pass rfl rfl rfl rfl rfl ?_)
  refine r_cons (r_pass rfl rfl rfl rfl rfl ?_)
  refine r_cons (r_pass rfl rfl rfl rfl rfl ?_)
  refine r_cons (s_pick_f (.bool false) rfl rfl rfl ?_)
  refine r_cons (s_move (.bool false) rfl rfl ?_)
  refine r_cons (r_take rfl rfl ?_)
  refine s_move (.string s) rfl rfl ?_
  refine r_cons (r_take rfl rfl ?_)
  refine s_move (.string t) rfl rfl ?_
  refine r_cons (r_take rfl rfl ?_)
  refine s_slss (sLt s t) rfl rfl rfl rfl ?_
  refine r_cons (s_pick_f (.bool (sLt s t)) rfl rfl rfl ?_)
  refine r_cons (s_assign (.bool (sLt s t)) rfl rfl ?_)
  refine r_nil ?_
  refine g_ret' [.bool (sLt s t)] Try.func65 Try.results65 ⟨rfl, trivial⟩ ?_
  exact ⟨rfl, H2⟩
set_option maxHeartbeats 4000000 in
set_option maxRecDepth 100000 in
theorem Len64 {W w : World} {F : List Atom} (u : Nat) (hu : u < 18446744073709551616) (H : St W w F) : Calls Try.prog 69 #[.int .u64 (u : Int)] w (Ret fun v w' => v = .int .i64 (bitLen u : Int) ∧ St W w' F) := by
  refine calls_of_go (n := 25) Try.func69 rfl Try.ntmps69 rfl ?_
  refine g_seq ?_
  refine g_region ?_
  refine r_cons (s_assign (.int .i64 0) rfl rfl ?_)
  refine r_nil ?_
  refine g_seq ?_
  refine g_seq ?_
  refine g_region ?_
  refine r_cons (s_move (.int .u64 (u : Int)) rfl rfl ?_)
  by_cases hc1 : (4294967296 : Int) ≤ (u : Int)
  · skip
    refine r_cons (s_geq true rfl rfl (dtrue hc1) rfl ?_)
    refine r_nil ?_
    refine g_true rfl ?_
    refine g_seq ?_
    refine g_region ?_
    refine r_cons (s_move (.int .u64 (u : Int)) rfl rfl ?_)
    refine r_cons (s_shr ((u / 2 ^ 32 : Nat) : Int) rfl rfl (by omega) (shr_nat (k := 32) rfl (by decide)) rfl ?_)
    refine r_cons (s_assign (.int .u64 ((u / 2 ^ 32 : Nat) : Int)) rfl rfl ?_)
    refine r_nil ?_
    refine g_region ?_
    refine r_cons (s_assign (.int .i64 32) rfl rfl ?_)
    refine r_nil ?_
    refine g_seq ?_
    refine g_seq ?_
    refine g_region ?_
    refine r_cons (s_move (.int .u64 ((u / 2 ^ 32 : Nat) : Int)) rfl rfl ?_)
    by_cases hc2 : (65536 : Int) ≤ ((u / 2 ^ 32 : Nat) : Int)
    · skip
      refine r_cons (s_geq true rfl rfl (dtrue hc2) rfl ?_)
      refine r_nil ?_
      refine g_true rfl ?_
      refine g_seq ?_
      refine g_region ?_
      refine r_cons (s_move (.int .u64 ((u / 2 ^ 32 : Nat) : Int)) rfl rfl ?_)
      refine r_cons (s_shr (((u / 2 ^ 32) / 2 ^ 16 : Nat) : Int) rfl rfl (by omega) (shr_nat (k := 16) rfl (by decide)) rfl ?_)
      refine r_cons (s_assign (.int .u64 (((u / 2 ^ 32) / 2 ^ 16 : Nat) : Int)) rfl rfl ?_)
      refine r_nil ?_
      refine g_region ?_
      refine r_cons (s_move (.int .i64 32) rfl rfl ?_)
      refine r_cons (s_add 48 rfl rfl (wi64 (by omega)) rfl ?_)
      refine r_cons (s_assign (.int .i64 48) rfl rfl ?_)
      refine r_nil ?_
      refine g_seq ?_
      refine g_seq ?_
      refine g_region ?_
      refine r_cons (s_move (.int .u64 (((u / 2 ^ 32) / 2 ^ 16 : Nat) : Int)) rfl rfl ?_)
      by_cases hc3 : (256 : Int) ≤ (((u / 2 ^ 32) / 2 ^ 16 : Nat) : Int)
      · skip
        refine r_cons (s_geq true rfl rfl (dtrue hc3) rfl ?_)
        refine r_nil ?_
        refine g_true rfl ?_
        refine g_seq ?_
        refine g_region ?_
        refine r_cons (s_move (.int .u64 (((u / 2 ^ 32) / 2 ^ 16 : Nat) : Int)) rfl rfl ?_)
        refine r_cons (s_shr ((((u / 2 ^ 32) / 2 ^ 16) / 2 ^ 8 : Nat) : Int) rfl rfl (by omega) (shr_nat (k := 8) rfl (by decide)) rfl ?_)
        refine r_cons (s_assign (.int .u64 ((((u / 2 ^ 32) / 2 ^ 16) / 2 ^ 8 : Nat) : Int)) rfl rfl ?_)
        refine r_nil ?_
        refine g_region ?_
        refine r_cons (s_move (.int .i64 48) rfl rfl ?_)
        refine r_cons (s_add 56 rfl rfl (wi64 (by omega)) rfl ?_)
        refine r_cons (s_assign (.int .i64 56) rfl rfl ?_)
        refine r_nil ?_
        refine g_seq ?_
        refine g_region ?_
        refine r_cons (s_move (.int .i64 56) rfl rfl ?_)
        refine r_cons (s_move (.int .u64 ((((u / 2 ^ 32) / 2 ^ 16) / 2 ^ 8 : Nat) : Int)) rfl rfl ?_)
        refine r_cons (s_conv ((((u / 2 ^ 32) / 2 ^ 16) / 2 ^ 8 : Nat) : Int) rfl us_105 ik_5 (wu8 (by omega)) rfl ?_)
        refine r_cons (s_index_str _ ((((u / 2 ^ 32) / 2 ^ 16) / 2 ^ 8 : Nat) : Int) (bitLen (((u / 2 ^ 32) / 2 ^ 16) / 2 ^ 8) : Int) rfl rfl st_9 (by omega) (len8_str (n := ((u / 2 ^ 32) / 2 ^ 16) / 2 ^ 8) (by omega) (by omega)) rfl ?_)
        refine r_cons (s_conv (bitLen (((u / 2 ^ 32) / 2 ^ 16) / 2 ^ 8) : Int) rfl us_5 ik_3 (wi64 (by have := bitLen_le8 ((((u / 2 ^ 32) / 2 ^ 16) / 2 ^ 8)) (by omega); omega)) rfl ?_)
        refine r_cons (s_add (56 + (bitLen (((u / 2 ^ 32) / 2 ^ 16) / 2 ^ 8) : Int)) rfl rfl (wi64 (by have := bitLen_le8 (((u / 2 ^ 32) / 2 ^ 16) / 2 ^ 8) (by omega); omega)) rfl ?_)
        refine r_cons (s_assign (.int .i64 (56 + (bitLen (((u / 2 ^ 32) / 2 ^ 16) / 2 ^ 8) : Int))) rfl rfl ?_)
        refine r_nil ?_
        refine g_ret' [.int .i64 (56 + (bitLen (((u / 2 ^ 32) / 2 ^ 16) / 2 ^ 8) : Int))] Try.func69 Try.results69 ⟨rfl, trivial⟩ ?_
        have H4 : St W w F := H
        exact ⟨vint (by have := bitLen_div (u := u) (k := 32) (by omega); have := bitLen_div (u := (u / 2 ^ 32)) (k := 16) (by omega); have := bitLen_div (u := ((u / 2 ^ 32) / 2 ^ 16)) (k := 8) (by omega); omega), H4⟩
      · skip
        refine r_cons (s_geq false rfl rfl (dfalse hc3) rfl ?_)
        refine r_nil ?_
        refine g_false rfl ?_
        refine g_skip ?_
        refine g_seq ?_
        refine g_region ?_
        refine r_cons (s_move (.int .i64 48) rfl rfl ?_)
        refine r_cons (s_move (.int .u64 (((u / 2 ^ 32) / 2 ^ 16 : Nat) : Int)) rfl rfl ?_)
        refine r_cons (s_conv (((u / 2 ^ 32) / 2 ^ 16 : Nat) : Int) rfl us_105 ik_5 (wu8 (by omega)) rfl ?_)
        refine r_cons (s_index_str _ (((u / 2 ^ 32) / 2 ^ 16 : Nat) : Int) (bitLen ((u / 2 ^ 32) / 2 ^ 16) : Int) rfl rfl st_9 (by omega) (len8_str (n := (u / 2 ^ 32) / 2 ^ 16) (by omega) (by omega)) rfl ?_)
        refine r_cons (s_conv (bitLen ((u / 2 ^ 32) / 2 ^ 16) : Int) rfl us_5 ik_3 (wi64 (by have := bitLen_le8 (((u / 2 ^ 32) / 2 ^ 16)) (by omega); omega)) rfl ?_)
        refine r_cons (s_add (48 + (bitLen ((u / 2 ^ 32) / 2 ^ 16) : Int)) rfl rfl (wi64 (by have := bitLen_le8 ((u / 2 ^ 32) / 2 ^ 16) (by omega); omega)) rfl ?_)
        refine r_cons (s_assign (.int .i64 (48 + (bitLen ((u / 2 ^ 32) / 2 ^ 16) : Int))) rfl rfl ?_)
        refine r_nil ?_
        refine g_ret' [.int .i64 (48 + (bitLen ((u / 2 ^ 32) / 2 ^ 16) : Int))] Try.func69 Try.results69 ⟨rfl, trivial⟩ ?_
        have H5 : St W w F := H
        exact ⟨vint (by have := bitLen_div (u := u) (k := 32) (by omega); have := bitLen_div (u := (u / 2 ^ 32)) (k := 16) (by omega); omega), H5⟩
    · skip
      refine r_cons (s_geq false rfl rfl (dfalse hc2) rfl ?_)
      refine r_nil ?_
      refine g_false rfl ?_
      refine g_skip ?_
      refine g_seq ?_
      refine g_seq ?_
      refine g_region ?_
      refine r_cons (s_move (.int .u64 ((u / 2 ^ 32 : Nat) : Int)) rfl rfl ?_)
      by_cases hc6 : (256 : Int) ≤ ((u / 2 ^ 32 : Nat) : Int)
      · skip
        refine r_cons (s_geq true rfl rfl (dtrue hc6) rfl ?_)
        refine r_nil ?_
        refine g_true rfl ?_
        refine g_seq ?_
        refine g_region ?_
        refine r_cons (s_move (.int .u64 ((u / 2 ^ 32 : Nat) : Int)) rfl rfl ?_)
        refine r_cons (s_shr (((u / 2 ^ 32) / 2 ^ 8 : Nat) : Int) rfl rfl (by omega) (shr_nat (k := 8) rfl (by decide)) rfl ?_)
        refine r_cons (s_assign (.int .u64 (((u / 2 ^ 32) / 2 ^ 8 : Nat) : Int)) rfl rfl ?_)
        refine r_nil ?_
        refine g_region ?_
        refine r_cons (s_move (.int .i64 32) rfl rfl ?_)
        refine r_cons (s_add 40 rfl rfl (wi64 (by omega)) rfl ?_)
        refine r_cons (s_assign (.int .i64 40) rfl rfl ?_)
        refine r_nil ?_
        refine g_seq ?_
        refine g_region ?_
        refine r_cons (s_move (.int .i64 40) rfl rfl ?_)
        refine r_cons (s_move (.int .u64 (((u / 2 ^ 32) / 2 ^ 8 : Nat) : Int)) rfl rfl ?_)
        refine r_cons (s_conv (((u / 2 ^ 32) / 2 ^ 8 : Nat) : Int) rfl us_105 ik_5 (wu8 (by omega)) rfl ?_)
        refine r_cons (s_index_str _ (((u / 2 ^ 32) / 2 ^ 8 : Nat) : Int) (bitLen ((u / 2 ^ 32) / 2 ^ 8) : Int) rfl rfl st_9 (by omega) (len8_str (n := (u / 2 ^ 32) / 2 ^ 8) (by omega) (by omega)) rfl ?_)
        refine r_cons (s_conv (bitLen ((u / 2 ^ 32) / 2 ^ 8) : Int) rfl us_5 ik_3 (wi64 (by have := bitLen_le8 (((u / 2 ^ 32) / 2 ^ 8)) (by omega); omega)) rfl ?_)
        refine r_cons (s_add (40 + (bitLen ((u / 2 ^ 32) / 2 ^ 8) : Int)) rfl rfl (wi64 (by have := bitLen_le8 ((u / 2 ^ 32) / 2 ^ 8) (by omega); omega)) rfl ?_)
        refine r_cons (s_assign (.int .i64 (40 + (bitLen ((u / 2 ^ 32) / 2 ^ 8) : Int))) rfl rfl ?_)
        refine r_nil ?_
        refine g_ret' [.int .i64 (40 + (bitLen ((u / 2 ^ 32) / 2 ^ 8) : Int))] Try.func69 Try.results69 ⟨rfl, trivial⟩ ?_
        have H7 : St W w F := H
        exact ⟨vint (by have := bitLen_div (u := u) (k := 32) (by omega); have := bitLen_div (u := (u / 2 ^ 32)) (k := 8) (by omega); omega), H7⟩
      · skip
        refine r_cons (s_geq false rfl rfl (dfalse hc6) rfl ?_)
        refine r_nil ?_
        refine g_false rfl ?_
        refine g_skip ?_
        refine g_seq ?_
        refine g_region ?_
        refine r_cons (s_move (.int .i64 32) rfl rfl ?_)
        refine r_cons (s_move (.int .u64 ((u / 2 ^ 32 : Nat) : Int)) rfl rfl ?_)
        refine r_cons (s_conv ((u / 2 ^ 32 : Nat) : Int) rfl us_105 ik_5 (wu8 (by omega)) rfl ?_)
        refine r_cons (s_index_str _ ((u / 2 ^ 32 : Nat) : Int) (bitLen (u / 2 ^ 32) : Int) rfl rfl st_9 (by omega) (len8_str (n := u / 2 ^ 32) (by omega) (by omega)) rfl ?_)
        refine r_cons (s_conv (bitLen (u / 2 ^ 32) : Int) rfl us_5 ik_3 (wi64 (by have := bitLen_le8 ((u / 2 ^ 32)) (by omega); omega)) rfl ?_)
        refine r_cons (s_add (32 + (bitLen (u / 2 ^ 32) : Int)) rfl rfl (wi64 (by have := bitLen_le8 (u / 2 ^ 32) (by omega); omega)) rfl ?_)
        refine r_cons (s_assign (.int .i64 (32 + (bitLen (u / 2 ^ 32) : Int))) rfl rfl ?_)
        refine r_nil ?_
        refine g_ret' [.int .i64 (32 + (bitLen (u / 2 ^ 32) : Int))] Try.func69 Try.results69 ⟨rfl, trivial⟩ ?_
        have H8 : St W w F := H
        exact ⟨vint (by have := bitLen_div (u := u) (k := 32) (by omega); omega), H8⟩
  · skip
    refine r_cons (s_geq false rfl rfl (dfalse hc1) rfl ?_)
    refine r_nil ?_
    refine g_false rfl ?_
    refine g_skip ?_
    refine g_seq ?_
    refine g_seq ?_
    refine g_region ?_
    refine r_cons (s_move (.int .u64 (u : Int)) rfl rfl ?_)
    by_cases hc9 : (65536 : Int) ≤ (u : Int)
    · skip
      refine r_cons (s_geq true rfl rfl (dtrue hc9) rfl ?_)
      refine r_nil ?_
      refine g_true rfl ?_
      refine g_seq ?_
      refine g_region ?_
      refine r_cons (s_move (.int .u64 (u : Int)) rfl rfl ?_)
      refine r_cons (s_shr ((u / 2 ^ 16 : Nat) : Int) rfl rfl (by omega) (shr_nat (k := 16) rfl (by decide)) rfl ?_)
      refine r_cons (s_assign (.int .u64 ((u / 2 ^ 16 : Nat) : Int)) rfl rfl ?_)
      refine r_nil ?_
      refine g_region ?_
      refine r_cons (s_move (.int .i64 0) rfl rfl ?_)
      refine r_cons (s_add 16 rfl rfl (wi64 (by omega)) rfl ?_)
      refine r_cons (s_assign (.int .i64 16) rfl rfl ?_)
      refine r_nil ?_
      refine g_seq ?_
      refine g_seq ?_
      refine g_region ?_
      refine r_cons (s_move (.int .u64 ((u / 2 ^ 16 : Nat) : Int)) rfl rfl ?_)
      by_cases hc10 : (256 : Int) ≤ ((u / 2 ^ 16 : Nat) : Int)
      · skip
        refine r_cons (s_geq true rfl rfl (dtrue hc10) rfl ?_)
        refine r_nil ?_
        refine g_true rfl ?_
        refine g_seq ?_
        refine g_region ?_
        refine r_cons (s_move (.int .u64 ((u / 2 ^ 16 : Nat) : Int)) rfl rfl ?_)
        refine r_cons (s_shr (((u / 2 ^ 16) / 2 ^ 8 : Nat) : Int) rfl rfl (by omega) (shr_nat (k := 8) rfl (by decide)) rfl ?_)
        refine r_cons (s_assign (.int .u64 (((u / 2 ^ 16) / 2 ^ 8 : Nat) : Int)) rfl rfl ?_)
        refine r_nil ?_
        refine g_region ?_
        refine r_cons (s_move (.int .i64 16) rfl rfl ?_)
        refine r_cons (s_add 24 rfl rfl (wi64 (by omega)) rfl ?_)
        refine r_cons (s_assign (.int .i64 24) rfl rfl ?_)
        refine r_nil ?_
        refine g_seq ?_
        refine g_region ?_
        refine r_cons (s_move (.int .i64 24) rfl rfl ?_)
        refine r_cons (s_move (.int .u64 (((u / 2 ^ 16) / 2 ^ 8 : Nat) : Int)) rfl rfl ?_)
        refine r_cons (s_conv (((u / 2 ^ 16) / 2 ^ 8 : Nat) : Int) rfl us_105 ik_5 (wu8 (by omega)) rfl ?_)
        refine r_cons (s_index_str _ (((u / 2 ^ 16) / 2 ^ 8 : Nat) : Int) (bitLen ((u / 2 ^ 16) / 2 ^ 8) : Int) rfl rfl st_9 (by omega) (len8_str (n := (u / 2 ^ 16) / 2 ^ 8) (by omega) (by omega)) rfl ?_)
        refine r_cons (s_conv (bitLen ((u / 2 ^ 16) / 2 ^ 8) : Int) rfl us_5 ik_3 (wi64 (by have := bitLen_le8 (((u / 2 ^ 16) / 2 ^ 8)) (by omega); omega)) rfl ?_)
        refine r_cons (s_add (24 + (bitLen ((u / 2 ^ 16) / 2 ^ 8) : Int)) rfl rfl (wi64 (by have := bitLen_le8 ((u / 2 ^ 16) / 2 ^ 8) (by omega); omega)) rfl ?_)
        refine r_cons (s_assign (.int .i64 (24 + (bitLen ((u / 2 ^ 16) / 2 ^ 8) : Int))) rfl rfl ?_)
        refine r_nil ?_
        refine g_ret' [.int .i64 (24 + (bitLen ((u / 2 ^ 16) / 2 ^ 8) : Int))] Try.func69 Try.results69 ⟨rfl, trivial⟩ ?_
        have H11 : St W w F := H
        exact ⟨vint (by have := bitLen_div (u := u) (k := 16) (by omega); have := bitLen_div (u := (u / 2 ^ 16)) (k := 8) (by omega); omega), H11⟩
      · skip
        refine r_cons (s_geq false rfl rfl (dfalse hc10) rfl ?_)
        refine r_nil ?_
        refine g_false rfl ?_
        refine g_skip ?_
        refine g_seq ?_
        refine g_region ?_
        refine r_cons (s_move (.int .i64 16) rfl rfl ?_)
        refine r_cons (s_move (.int .u64 ((u / 2 ^ 16 : Nat) : Int)) rfl rfl ?_)
        refine r_cons (s_conv ((u / 2 ^ 16 : Nat) : Int) rfl us_105 ik_5 (wu8 (by omega)) rfl ?_)
        refine r_cons (s_index_str _ ((u / 2 ^ 16 : Nat) : Int) (bitLen (u / 2 ^ 16) : Int) rfl rfl st_9 (by omega) (len8_str (n := u / 2 ^ 16) (by omega) (by omega)) rfl ?_)
        refine r_cons (s_conv (bitLen (u / 2 ^ 16) : Int) rfl us_5 ik_3 (wi64 (by have := bitLen_le8 ((u / 2 ^ 16)) (by omega); omega)) rfl ?_)
        refine r_cons (s_add (16 + (bitLen (u / 2 ^ 16) : Int)) rfl rfl (wi64 (by have := bitLen_le8 (u / 2 ^ 16) (by omega); omega)) rfl ?_)
        refine r_cons (s_assign (.int .i64 (16 + (bitLen (u / 2 ^ 16) : Int))) rfl rfl ?_)
        refine r_nil ?_
        refine g_ret' [.int .i64 (16 + (bitLen (u / 2 ^ 16) : Int))] Try.func69 Try.results69 ⟨rfl, trivial⟩ ?_
        have H12 : St W w F := H
        exact ⟨vint (by have := bitLen_div (u := u) (k := 16) (by omega); omega), H12⟩
    · skip
      refine r_cons (s_geq false rfl rfl (dfalse hc9) rfl ?_)
      refine r_nil ?_
      refine g_false rfl ?_
      refine g_skip ?_
      refine g_seq ?_
      refine g_seq ?_
      refine g_region ?_
      refine r_cons (s_move (.int .u64 (u : Int)) rfl rfl ?_)
      by_cases hc13 : (256 : Int) ≤ (u : Int)
      · skip
        refine r_cons (s_geq true rfl rfl (dtrue hc13) rfl ?_)
        refine r_nil ?_
        refine g_true rfl ?_
        refine g_seq ?_
        refine g_region ?_
        refine r_cons (s_move (.int .u64 (u : Int)) rfl rfl ?_)
        refine r_cons (s_shr ((u / 2 ^ 8 : Nat) : Int) rfl rfl (by omega) (shr_nat (k := 8) rfl (by decide)) rfl ?_)
        refine r_cons (s_assign (.int .u64 ((u / 2 ^ 8 : Nat) : Int)) rfl rfl ?_)
        refine r_nil ?_
        refine g_region ?_
        refine r_cons (s_move (.int .i64 0) rfl rfl ?_)
        refine r_cons (s_add 8 rfl rfl (wi64 (by omega)) rfl ?_)
        refine r_cons (s_assign (.int .i64 8) rfl rfl ?_)
        refine r_nil ?_
        refine g_seq ?_
        refine g_region ?_
        refine r_cons (s_move (.int .i64 8) rfl rfl ?_)
        refine r_cons (s_move (.int .u64 ((u / 2 ^ 8 : Nat) : Int)) rfl rfl ?_)
        refine r_cons (s_conv ((u / 2 ^ 8 : Nat) : Int) rfl us_105 ik_5 (wu8 (by omega)) rfl ?_)
        refine r_cons (s_index_str _ ((u / 2 ^ 8 : Nat) : Int) (bitLen (u / 2 ^ 8) : Int) rfl rfl st_9 (by omega) (len8_str (n := u / 2 ^ 8) (by omega) (by omega)) rfl ?_)
        refine r_cons (s_conv (bitLen (u / 2 ^ 8) : Int) rfl us_5 ik_3 (wi64 (by have := bitLen_le8 ((u / 2 ^ 8)) (by omega); omega)) rfl ?_)
        refine r_cons (s_add (8 + (bitLen (u / 2 ^ 8) : Int)) rfl rfl (wi64 (by have := bitLen_le8 (u / 2 ^ 8) (by omega); omega)) rfl ?_)
        refine r_cons (s_assign (.int .i64 (8 + (bitLen (u / 2 ^ 8) : Int))) rfl rfl ?_)
        refine r_nil ?_
        refine g_ret' [.int .i64 (8 + (bitLen (u / 2 ^ 8) : Int))] Try.func69 Try.results69 ⟨rfl, trivial⟩ ?_
        have H14 : St W w F := H
        exact ⟨vint (by have := bitLen_div (u := u) (k := 8) (by omega); omega), H14⟩
      · skip
        refine r_cons (s_geq false rfl rfl (dfalse hc13) rfl ?_)
        refine r_nil ?_
        refine g_false rfl ?_
        refine g_skip ?_
        refine g_seq ?_
        refine g_region ?_
        refine r_cons (s_move (.int .i64 0) rfl rfl ?_)
        refine r_cons (s_move (.int .u64 (u : Int)) rfl rfl ?_)
        refine r_cons (s_conv (u : Int) rfl us_105 ik_5 (wu8 (by omega)) rfl ?_)
        refine r_cons (s_index_str _ (u : Int) (bitLen (u) : Int) rfl rfl st_9 (by omega) (len8_str (n := u) (by omega) (by omega)) rfl ?_)
        refine r_cons (s_conv (bitLen (u) : Int) rfl us_5 ik_3 (wi64 (by have := bitLen_le8 ((u)) (by omega); omega)) rfl ?_)
        refine r_cons (s_add (0 + (bitLen (u) : Int)) rfl rfl (wi64 (by have := bitLen_le8 (u) (by omega); omega)) rfl ?_)
        refine r_cons (s_assign (.int .i64 (0 + (bitLen (u) : Int))) rfl rfl ?_)
        refine r_nil ?_
        refine g_ret' [.int .i64 (0 + (bitLen (u) : Int))] Try.func69 Try.results69 ⟨rfl, trivial⟩ ?_
        have H15 : St W w F := H
        exact ⟨vint (by omega), H15⟩
set_option maxHeartbeats 4000000 in
set_option maxRecDepth 100000 in
theorem bits_Len {W w : World} {F : List Atom} (u : Nat) (hu : u < 18446744073709551616) (H : St W w F) : Calls Try.prog 55 #[.int .u64 (u : Int)] w (Ret fun v w' => v = .int .i64 (bitLen u : Int) ∧ St W w' F) := by
  refine calls_of_go (n := 8) Try.func55 rfl Try.ntmps55 rfl ?_
  refine g_seq ?_
  refine g_region ?_
  refine r_cons (s_assign (.int .i64 0) rfl rfl ?_)
  refine r_nil ?_
  refine g_seq ?_
  refine g_false rfl ?_
  refine g_skip ?_
  refine g_seq ?_
  refine g_region ?_
  refine r_cons (s_move (.int .u64 (u : Int)) rfl rfl ?_)
  refine r_cons (s_call [.int .u64 (u : Int)] pl_69 rfl rfl (Len64 (u) (by omega) H) ?_)
  rintro _ w1 ⟨rfl, H2⟩
  refine r_cons (s_assign (.int .i64 (bitLen (u) : Int)) rfl rfl ?_)
  refine r_nil ?_
  refine g_ret' [.int .i64 (bitLen (u) : Int)] Try.func55 Try.results55 ⟨rfl, trivial⟩ ?_
  exact ⟨rfl, H2⟩
set_option maxHeartbeats 4000000 in
set_option maxRecDepth 100000 in
theorem insort_0 {W w : World} {F : List Atom} (p : Option Addr) (c : Nat) (H : St W w F) : Calls Try.prog 59 #[.slice p 0 c, .int .i64 0, .int .i64 0] w (Ret fun v w' => v = .tuple #[] ∧ St W w' F) := by
  refine calls_of_go (n := 49) Try.func59 rfl Try.ntmps59 rfl ?_
  refine g_seq ?_
  refine g_region ?_
  refine r_cons (s_move (.int .i64 0) rfl rfl ?_)
  refine r_cons (s_add 1 rfl rfl (wi64 (by omega)) rfl ?_)
  refine r_cons (s_assign (.int .i64 1) rfl rfl ?_)
  refine r_nil ?_
  refine g_block ?_
  refine g_loop ?_
  refine g_seq ?_
  refine g_seq ?_
  refine g_region ?_
  refine r_cons (s_move (.int .i64 1) rfl rfl ?_)
  refine r_cons (s_move (.int .i64 0) rfl rfl ?_)
  refine r_cons (s_lss false rfl rfl (dfalse (by decide)) rfl ?_)
  refine r_nil ?_
  refine g_false rfl ?_
  refine g_exit (by rfl) ?_
  refine g_end' [] Try.func59 Try.results59 trivial ?_
  exact ⟨rfl, H⟩
set_option maxHeartbeats 4000000 in
set_option maxRecDepth 100000 in
theorem pdq_0 {W w : World} {F : List Atom} (p : Option Addr) (c : Nat) (lim : Int) (H : St W w F) : Calls Try.prog 54 #[.slice p 0 c, .int .i64 0, .int .i64 0, .int .i64 lim] w (Ret fun v w' => v = .tuple #[] ∧ St W w' F) := by
  refine calls_of_go (n := 134) Try.func54 rfl Try.ntmps54 rfl ?_
  refine g_seq ?_
  refine g_region ?_
  refine r_cons (s_assign (.bool true) rfl rfl ?_)
  refine r_nil ?_
  refine g_seq ?_
  refine g_region ?_
  refine r_cons (s_assign (.bool true) rfl rfl ?_)
  refine r_nil ?_
  refine g_block ?_
  refine g_loop ?_
  refine g_block ?_
  refine g_seq ?_
  refine g_region ?_
  refine r_cons (s_move (.int .i64 0) rfl rfl ?_)
  refine r_cons (s_move (.int .i64 0) rfl rfl ?_)
  refine r_cons (s_sub 0 rfl rfl (wi64 (by omega)) rfl ?_)
  refine r_cons (s_assign (.int .i64 0) rfl rfl ?_)
  refine r_nil ?_
  refine g_seq ?_
  refine g_seq ?_
  refine g_region ?_
  refine r_cons (s_move (.int .i64 0) rfl rfl ?_)
  refine r_cons (s_leq true rfl rfl (dtrue (by decide)) rfl ?_)
  refine r_nil ?_
  refine g_true rfl ?_
  refine g_seq ?_
  refine g_region ?_
  refine r_cons (s_move (.slice p 0 c) rfl rfl ?_)
  refine r_cons (s_move (.int .i64 0) rfl rfl ?_)
  refine r_cons (s_move (.int .i64 0) rfl rfl ?_)
  refine r_cons (s_call [.slice p 0 c, .int .i64 0, .int .i64 0] pl_59 rfl rfl (insort_0 p c H) ?_)
  rintro _ w1 ⟨rfl, H2⟩
  refine r_nil ?_
  refine g_ret' [] Try.func54 Try.results54 trivial ?_
  exact ⟨rfl, H2⟩
set_option maxHeartbeats 4000000 in
set_option maxRecDepth 100000 in
theorem sort_0 {W w : World} {F : List Atom} (p : Option Addr) (c : Nat) (H : St W w F) : Calls Try.prog 38 #[.slice p 0 c] w (Ret fun v w' => v = .tuple #[] ∧ St W w' F) := by
  refine calls_of_go (n := 11) Try.func38 rfl Try.ntmps38 rfl ?_
  refine g_seq ?_
  refine g_region ?_
  refine r_cons (s_move (.slice p 0 c) rfl rfl ?_)
  refine r_cons (s_len 0 rfl ⟨_, un_49⟩ rfl ?_)
  refine r_cons (s_assign (.int .i64 0) rfl rfl ?_)
  refine r_nil ?_
  refine g_region ?_
  refine r_cons (s_move (.slice p 0 c) rfl rfl ?_)
  refine r_cons (s_move (.int .i64 0) rfl rfl ?_)
  refine r_cons (s_move (.int .i64 0) rfl rfl ?_)
  refine r_cons (s_conv 0 rfl us_3 ik_90 (wu64 (by omega)) rfl ?_)
  refine r_cons (s_call [.int .u64 0] pl_55 rfl rfl (bits_Len (0) (by omega) H) ?_)
  rintro _ w1 ⟨rfl, H2⟩
  refine r_cons (s_call [.slice p 0 c, .int .i64 0, .int .i64 0, .int .i64 (bitLen (0) : Int)] pl_54 rfl rfl (pdq_0 p c (bitLen (0) : Int) H2) ?_)
  rintro _ w3 ⟨rfl, H4⟩
  refine r_nil ?_
  refine g_end' [] Try.func38 Try.results38 trivial ?_
  exact ⟨rfl, H4⟩
set_option maxHeartbeats 4000000 in
set_option maxRecDepth 100000 in
theorem insort_1 {W w : World} {F : List Atom} (p : Option Addr) (c : Nat) (H : St W w F) : Calls Try.prog 59 #[.slice p 1 c, .int .i64 0, .int .i64 1] w (Ret fun v w' => v = .tuple #[] ∧ St W w' F) := by
  refine calls_of_go (n := 49) Try.func59 rfl Try.ntmps59 rfl ?_
  refine g_seq ?_
  refine g_region ?_
  refine r_cons (s_move (.int .i64 0) rfl rfl ?_)
  refine r_cons (s_add 1 rfl rfl (wi64 (by omega)) rfl ?_)
  refine r_cons (s_assign (.int .i64 1) rfl rfl ?_)
  refine r_nil ?_
  refine g_block ?_
  refine g_loop ?_
  refine g_seq ?_
  refine g_seq ?_
  refine g_region ?_
  refine r_cons (s_move (.int .i64 1) rfl rfl ?_)
  refine r_cons (s_move (.int .i64 1) rfl rfl ?_)
  refine r_cons (s_lss false rfl rfl (dfalse (by decide)) rfl ?_)
  refine r_nil ?_
  refine g_false rfl ?_
  refine g_exit (by rfl) ?_
  refine g_end' [] Try.func59 Try.results59 trivial ?_
  exact ⟨rfl, H⟩
set_option maxHeartbeats 4000000 in
set_option maxRecDepth 100000 in
theorem pdq_1 {W w : World} {F : List Atom} (p : Option Addr) (c : Nat) (lim : Int) (H : St W w F) : Calls Try.prog 54 #[.slice p 1 c, .int .i64 0, .int .i64 1, .int .i64 lim] w (Ret fun v w' => v = .tuple #[] ∧ St W w' F) := by
  refine calls_of_go (n := 134) Try.func54 rfl Try.ntmps54 rfl ?_
  refine g_seq ?_
  refine g_region ?_
  refine r_cons (s_assign (.bool true) rfl rfl ?_)
  refine r_nil ?_
  refine g_seq ?_
  refine g_region ?_
  refine r_cons (s_assign (.bool true) rfl rfl ?_)
  refine r_nil ?_
  refine g_block ?_
  refine g_loop ?_
  refine g_block ?_
  refine g_seq ?_
  refine g_region ?_
  refine r_cons (s_move (.int .i64 1) rfl rfl ?_)
  refine r_cons (s_move (.int .i64 0) rfl rfl ?_)
  refine r_cons (s_sub 1 rfl rfl (wi64 (by omega)) rfl ?_)
  refine r_cons (s_assign (.int .i64 1) rfl rfl ?_)
  refine r_nil ?_
  refine g_seq ?_
  refine g_seq ?_
  refine g_region ?_
  refine r_cons (s_move (.int .i64 1) rfl rfl ?_)
  refine r_cons (s_leq true rfl rfl (dtrue (by decide)) rfl ?_)
  refine r_nil ?_
  refine g_true rfl ?_
  refine g_seq ?_
  refine g_region ?_
  refine r_cons (s_move (.slice p 1 c) rfl rfl ?_)
  refine r_cons (s_move (.int .i64 0) rfl rfl ?_)
  refine r_cons (s_move (.int .i64 1) rfl rfl ?_)
  refine r_cons (s_call [.slice p 1 c, .int .i64 0, .int .i64 1] pl_59 rfl rfl (insort_1 p c H) ?_)
  rintro _ w1 ⟨rfl, H2⟩
  refine r_nil ?_
  refine g_ret' [] Try.func54 Try.results54 trivial ?_
  exact ⟨rfl, H2⟩
set_option maxHeartbeats 4000000 in
set_option maxRecDepth 100000 in
theorem sort_1 {W w : World} {F : List Atom} (p : Option Addr) (c : Nat) (H : St W w F) : Calls Try.prog 38 #[.slice p 1 c] w (Ret fun v w' => v = .tuple #[] ∧ St W w' F) := by
  refine calls_of_go (n := 11) Try.func38 rfl Try.ntmps38 rfl ?_
  refine g_seq ?_
  refine g_region ?_
  refine r_cons (s_move (.slice p 1 c) rfl rfl ?_)
  refine r_cons (s_len 1 rfl ⟨_, un_49⟩ rfl ?_)
  refine r_cons (s_assign (.int .i64 1) rfl rfl ?_)
  refine r_nil ?_
  refine g_region ?_
  refine r_cons (s_move (.slice p 1 c) rfl rfl ?_)
  refine r_cons (s_move (.int .i64 1) rfl rfl ?_)
  refine r_cons (s_move (.int .i64 1) rfl rfl ?_)
  refine r_cons (s_conv 1 rfl us_3 ik_90 (wu64 (by omega)) rfl ?_)
  refine r_cons (s_call [.int .u64 1] pl_55 rfl rfl (bits_Len (1) (by omega) H) ?_)
  rintro _ w1 ⟨rfl, H2⟩
  refine r_cons (s_call [.slice p 1 c, .int .i64 0, .int .i64 1, .int .i64 (bitLen (1) : Int)] pl_54 rfl rfl (pdq_1 p c (bitLen (1) : Int) H2) ?_)
  rintro _ w3 ⟨rfl, H4⟩
  refine r_nil ?_
  refine g_end' [] Try.func38 Try.results38 trivial ?_
  exact ⟨rfl, H4⟩
set_option maxHeartbeats 4000000 in
set_option maxRecDepth 100000 in
theorem insort_2 {W w : World} {F : List Atom} (p : Option Addr) (c : Nat) (sa sb : Str) {i : Nat} (hi : F[i]? = some (Row 9 1 (.slice p 2 c) 2 ([sa, sb].flatMap strCell))) (H : St W w F) : Calls Try.prog 59 #[.slice p 2 c, .int .i64 0, .int .i64 2] w (Ret fun v w' => v = .tuple #[] ∧ St W w' (F.set i (Row 9 1 (.slice p 2 c) 2 ((if sLt sb.v sa.v = true then [sb, sa] else [sa, sb]).flatMap strCell)))) := by
  have H0 := H.front hi
  obtain ⟨bk1, cur2, hp3, h4, h5, h6, h7, h8, H9⟩ := Row.open2 H0 (i := 0) rfl (by omega)
  refine calls_of_go (n := 49) Try.func59 rfl Try.ntmps59 rfl ?_
  refine g_seq ?_
  refine g_region ?_
  refine r_cons (s_move (.int .i64 0) rfl rfl ?_)
  refine r_cons (s_add 1 rfl rfl (wi64 (by omega)) rfl ?_)
  refine r_cons (s_assign (.int .i64 1) rfl rfl ?_)
  refine r_nil ?_
  refine g_block ?_
  refine g_loop ?_
  refine g_seq ?_
  refine g_seq ?_
  refine g_region ?_
  refine r_cons (s_move (.int .i64 1) rfl rfl ?_)
  refine r_cons (s_move (.int .i64 2) rfl rfl ?_)
  refine r_cons (s_lss true rfl rfl (dtrue (by decide)) rfl ?_)
  refine r_nil ?_
  refine g_true rfl ?_
  refine g_skip ?_
  refine g_seq ?_
  refine g_block ?_
  refine g_seq ?_
  refine g_region ?_
  refine r_cons (s_move (.int .i64 1) rfl rfl ?_)
  refine r_cons (s_assign (.int .i64 1) rfl rfl ?_)
  refine r_nil ?_
  refine g_block ?_
  refine g_loop ?_
  refine g_seq ?_
  refine g_seq ?_
  refine g_quiet (fun w' => St W w' (blk bk1 (.cells cur2 9 (0, 0)) :: (F.set i emp))) mixed (by kernel_rfl) H9.drew ?_
  refine q_cons (q_val rfl rfl rfl (by intro w hw; exact x_move (.int .i64 1) rfl w) ?_)
  refine q_cons (q_val rfl rfl rfl (by intro w hw; exact x_move (.int .i64 0) rfl w) ?_)
  refine q_cons (q_val rfl rfl rfl (by intro w hw; exact x_gtr true rfl rfl (dtrue (by decide)) w) ?_)
  refine q_cons (q_val rfl rfl rfl (by intro w hw; exact x_move (.bool true) rfl w) ?_)
  refine q_cons (q_take rfl rfl ?_)
  refine q_val rfl rfl rfl (by intro w hw; exact x_move (.slice p 2 c) rfl w) ?_
  refine q_cons (q_take rfl rfl ?_)
  refine q_val rfl rfl rfl (by intro w hw; exact x_move (.int .i64 1) rfl w) ?_
  refine q_cons (q_take rfl rfl ?_)
  refine q_val rfl rfl rfl (by intro w hw; exact x_indexAddr bk1 (off := 0) 1 1 (0 + 1 * 1) (by exact congrArg (fun z_ => Value.slice z_ 2 c) ((fun (_ : 0 < 1) => hp3) (by omega))) rfl el_49 (by omega) rfl w) ?_
  refine q_cons (q_take rfl rfl ?_)
  refine q_val rfl rfl rfl (by intro w hw; exact x_load (.string sb.v) ag_9 rfl (hw.blk_at (i := 0) rfl) (elem_cell (L := [sa, sb]) (i := 1) strCell_len (by rw [(show ([sa, sb] : List Str).length = 2 from rfl)]; exact h7) (by have hh : [sa, sb].length = 2 := (show ([sa, sb] : List Str).length = 2 from rfl); omega) default 0 (by decide) _ rfl)) ?_
  refine q_cons (q_take rfl rfl ?_)
  refine q_val rfl rfl rfl (by intro w hw; exact x_move (.slice p 2 c) rfl w) ?_
  refine q_cons (q_take rfl rfl ?_)
  refine q_val rfl rfl rfl (by intro w hw; exact x_move (.int .i64 1) rfl w) ?_
  refine q_cons (q_take rfl rfl ?_)
  refine q_val rfl rfl rfl (by intro w hw; exact x_sub 0 rfl rfl (wi64 (by omega)) w) ?_
  refine q_cons (q_take rfl rfl ?_)
  refine q_val rfl rfl rfl (by intro w hw; exact x_indexAddr bk1 (off := 0) 0 1 (0 + 0 * 1) (by exact congrArg (fun z_ => Value.slice z_ 2 c) ((fun (_ : 0 < 1) => hp3) (by omega))) rfl el_49 (by omega) rfl w) ?_
  refine q_cons (q_take rfl rfl ?_)
  refine q_val rfl rfl rfl (by intro w hw; exact x_load (.string sa.v) ag_9 rfl (hw.blk_at (i := 0) rfl) (elem_cell (L := [sa, sb]) (i := 0) strCell_len (by rw [(show ([sa, sb] : List Str).length = 2 from rfl)]; exact h7) (by have hh : [sa, sb].length = 2 := (show ([sa, sb] : List Str).length = 2 from rfl); omega) default 0 (by decide) _ rfl)) ?_
  refine q_cons (q_take rfl rfl ?_)
  refine q_enter (args := #[.string sb.v, .string sa.v]) (v := .bool (sLt sb.v sa.v)) rfl rfl rfl (x_call pl_65 [.string sb.v, .string sa.v] rfl) (fun w hw => Less_string sb.v sa.v hw) ?_
  refine q_cons (q_val rfl rfl rfl (by intro w hw; exact x_pick_t (.bool (sLt sb.v sa.v)) rfl rfl w) ?_)
  refine q_nil ?_
  intro w10 H11
  by_cases hb12 : (sLt sb.v sa.v) = true
  · skip
    refine g_true (congrArg Value.bool hb12) ?_
    refine g_skip ?_
    refine g_seq ?_
    refine g_block ?_
    refine g_mix (fun t_ w => St W w t_) (blk bk1 (.cells cur2 9 (0, 0)) :: (F.set i emp)) mixed 18 rfl H11.drew ?_
    refine f_first 0 (listed' := #[true, false, false, false, false, false, false, false, false, false, false, false, false, false, false, false, false, false]) rfl (by kernel_rfl) (by kernel_rfl) (by kernel_rfl) rfl ?_
    refine f_val rfl rfl rfl (by intro t_ w hw; exact x_move (.slice p 2 c) rfl w) ?_
    refine f_first 1 (listed' := #[true, true, false, false, false, false, false, false, false, false, false, false, false, false, false, false, false, false]) rfl (by kernel_rfl) (by kernel_rfl) (by kernel_rfl) rfl ?_
    refine f_val rfl rfl rfl (by intro t_ w hw; exact x_move (.int .i64 1) rfl w) ?_
    refine f_first 2 (listed' := #[true, true, true, false, false, false, false, false, false, false, false, false, false, false, false, false, false, false]) rfl (by kernel_rfl) (by kernel_rfl) (by kernel_rfl) rfl ?_
    refine f_val rfl rfl rfl (by intro t_ w hw; exact x_move (.slice p 2 c) rfl w) ?_
    refine f_first 3 (listed' := #[true, true, true, true, false, false, false, false, false, false, false, false, false, false, false, false, false, false]) rfl (by kernel_rfl) (by kernel_rfl) (by kernel_rfl) rfl ?_
    refine f_val rfl rfl rfl (by intro t_ w hw; exact x_move (.int .i64 1) rfl w) ?_
    refine f_first 4 (listed' := #[true, true, true, true, true, false, false, false, false, false, false, false, false, false, false, false, false, false]) rfl (by kernel_rfl) (by kernel_rfl) (by kernel_rfl) rfl ?_
    refine f_val rfl rfl rfl (by intro t_ w hw; exact x_sub 0 rfl rfl (wi64 (by omega)) w) ?_
    refine f_first 5 (listed' := #[true, true, true, true, true, true, false, false, false, false, false, false, false, false, false, false, false, false]) rfl (by kernel_rfl) (by kernel_rfl) (by kernel_rfl) rfl ?_
    refine f_val rfl rfl rfl (by intro t_ w hw; exact x_move (.slice p 2 c) rfl w) ?_
    refine f_first 6 (listed' := #[true, true, true, true, true, true, true, false, false, false, false, false, false, false, false, false, false, false]) rfl (by kernel_rfl) (by kernel_rfl) (by kernel_rfl) rfl ?_
    refine f_val rfl rfl rfl (by intro t_ w hw; exact x_move (.int .i64 1) rfl w) ?_
    refine f_first 7 (listed' := #[true, true, true, true, true, true, true, true, false, false, false, false, false, false, false, false, false, false]) rfl (by kernel_rfl) (by kernel_rfl) (by kernel_rfl) rfl ?_
    refine f_val rfl rfl rfl (by intro t_ w hw; exact x_sub 0 rfl rfl (wi64 (by omega)) w) ?_
    refine f_first 8 (listed' := #[true, true, true, true, true, true, true, true, true, false, false, false, false, false, false, false, false, false]) rfl (by kernel_rfl) (by kernel_rfl) (by kernel_rfl) rfl ?_
    refine f_val rfl rfl rfl (by intro t_ w hw; exact x_indexAddr bk1 (off := 0) 0 1 (0 + 0 * 1) (by exact congrArg (fun z_ => Value.slice z_ 2 c) ((fun (_ : 0 < 1) => hp3) (by omega))) rfl el_49 (by omega) rfl w) ?_
    refine f_first 10 (listed' := #[true, true, true, true, true, true, true, true, true, false, true, false, false, false, false, false, false, false]) rfl (by kernel_rfl) (by kernel_rfl) (by kernel_rfl) rfl ?_
    refine f_val rfl rfl rfl (by intro t_ w hw; exact x_move (.slice p 2 c) rfl w) ?_
    refine f_first 11 (listed' := #[true, true, true, true, true, true, true, true, true, false, true, true, false, false, false, false, false, false]) rfl (by kernel_rfl) (by kernel_rfl) (by kernel_rfl) rfl ?_
    refine f_val rfl rfl rfl (by intro t_ w hw; exact x_move (.int .i64 1) rfl w) ?_
    refine f_first 12 (listed' := #[true, true, true, true, true, true, true, true, true, false, true, true, true, false, false, false, false, false]) rfl (by kernel_rfl) (by kernel_rfl) (by kernel_rfl) rfl ?_
    refine f_val rfl rfl rfl (by intro t_ w hw; exact x_indexAddr bk1 (off := 0) 1 1 (0 + 1 * 1) (by exact congrArg (fun z_ => Value.slice z_ 2 c) ((fun (_ : 0 < 1) => hp3) (by omega))) rfl el_49 (by omega) rfl w) ?_
    refine f_all (rs := [9, 13]) (by kernel_rfl) (by simp) ?_
    refine a_cons ⟨_, rfl, ?_⟩ (a_cons ⟨_, rfl, ?_⟩ (fun x hx => absurd hx (by simp)))
    · skip
      intro w13 H14
      try dsimp only at H14
      refine s_load (.string sa.v) ag_9 rfl (H14.blk_at (i := 0) rfl) (elem_cell (L := [sa, sb]) (i := 0) strCell_len (by rw [(show ([sa, sb] : List Str).length = 2 from rfl)]; exact h7) (by have hh : [sa, sb].length = 2 := (show ([sa, sb] : List Str).length = 2 from rfl); omega) default 0 (by decide) _ rfl) rfl ?_
      refine ⟨blk bk1 (.cells cur2 9 (0, 0)) :: (F.set i emp), ?_, H14⟩
      change FReg _ _ _ _ _ #[true, true, true, true, true, true, true, true, true, true, true, true, true, false, false, false, false, false] _ _
      refine f_all (rs := [13]) (by kernel_rfl) (by simp) ?_
      refine a_cons ⟨_, rfl, ?_⟩ (fun x hx => absurd hx (by simp))
      intro w15 H16
      try dsimp only at H16
      refine s_load (.string sb.v) ag_9 rfl (H16.blk_at (i := 0) rfl) (elem_cell (L := [sa, sb]) (i := 1) strCell_len (by rw [(show ([sa, sb] : List Str).length = 2 from rfl)]; exact h7) (by have hh : [sa, sb].length = 2 := (show ([sa, sb] : List Str).length = 2 from rfl); omega) default 0 (by decide) _ rfl) rfl ?_
      refine ⟨blk bk1 (.cells cur2 9 (0, 0)) :: (F.set i emp), ?_, H16⟩
      change FReg _ _ _ _ _ #[true, true, true, true, true, true, true, true, true, true, true, true, true, true, false, false, false, false] _ _
      refine f_first 14 (listed' := #[true, true, true, true, true, true, true, true, true, true, true, true, true, true, true, false, false, false]) rfl (by kernel_rfl) (by kernel_rfl) (by kernel_rfl) rfl ?_
      refine f_val rfl rfl rfl (by intro t_ w hw; exact x_indexAddr bk1 (off := 0) 1 1 (0 + 1 * 1) (by exact congrArg (fun z_ => Value.slice z_ 2 c) ((fun (_ : 0 < 1) => hp3) (by omega))) rfl el_49 (by omega) rfl w) ?_
      refine f_all (rs := [15]) (by kernel_rfl) (by simp) ?_
      refine a_cons ⟨_, rfl, ?_⟩ (fun x hx => absurd hx (by simp))
      intro w17 H18
      try dsimp only at H18
      have hx21 := row_set1 (f := strCell) (L := [sa, sb]) (cur := cur2) strCell_len (by rw [(show ([sa, sb] : List Str).length = 2 from rfl)]; exact h7) (show [sa, sb].length * 1 ≤ cur2.size by rw [(show ([sa, sb] : List Str).length = 2 from rfl), h6]; exact Nat.mul_le_mul_right 1 h4) (j := 1) (by have hh := (show ([sa, sb] : List Str).length = 2 from rfl); omega) default (.string sa.v) (sa) (rfl)
      refine s_store H18 0 (.string sa.v) rfl rfl rfl sz_9 rfl (by have hh := (show ([sa, sb] : List Str).length = 2 from rfl); have hk := (show [sa, sb].length * 1 ≤ cur2.size by rw [(show ([sa, sb] : List Str).length = 2 from rfl), h6]; exact Nat.mul_le_mul_right 1 h4); omega) rfl (cs' := (cur2.setIfInBounds (0 + 1 * 1) (.string sa.v))) rfl ?_; intro w19 H20
      refine ⟨blk bk1 (.cells (cur2.setIfInBounds (0 + 1 * 1) (.string sa.v)) 9 (0, 0)) :: (F.set i emp), ?_, H20⟩
      change FReg _ _ _ _ _ #[true, true, true, true, true, true, true, true, true, true, true, true, true, true, true, true, false, false] _ _
      refine f_first 16 (listed' := #[true, true, true, true, true, true, true, true, true, true, true, true, true, true, true, true, true, false]) rfl (by kernel_rfl) (by kernel_rfl) (by kernel_rfl) rfl ?_
      refine f_val rfl rfl rfl (by intro t_ w hw; exact x_indexAddr bk1 (off := 0) 0 1 (0 + 0 * 1) (by exact congrArg (fun z_ => Value.slice z_ 2 c) ((fun (_ : 0 < 1) => hp3) (by omega))) rfl el_49 (by omega) rfl w) ?_
      refine f_all (rs := [17]) (by kernel_rfl) (by simp) ?_
      refine a_cons ⟨_, rfl, ?_⟩ (fun x hx => absurd hx (by simp))
      intro w22 H23
      try dsimp only at H23
      have hx26 := row_set1 (f := strCell) (L := [sa, sb].set 1 sa) (cur := (cur2.setIfInBounds (0 + 1 * 1) (.string sa.v))) strCell_len hx21 (show ([sa, sb].set 1 sa).length * 1 ≤ (cur2.setIfInBounds (0 + 1 * 1) (.string sa.v)).size by rw [(show ([sa, sb].set 1 sa).length = 2 from by first | (rw [List.length_set]; exact (show ([sa, sb] : List Str).length = 2 from rfl)) | rw [List.length_set]), (show ((cur2.setIfInBounds (0 + 1 * 1) (.string sa.v))).size = c * 1 from by rw [Array.size_setIfInBounds]; exact h6)]; exact Nat.mul_le_mul_right 1 h4) (j := 0) (by have hh := (show ([sa, sb].set 1 sa).length = 2 from by first | (rw [List.length_set]; exact (show ([sa, sb] : List Str).length = 2 from rfl)) | rw [List.length_set]); omega) default (.string sb.v) (sb) (rfl)
      refine s_store H23 0 (.string sb.v) rfl rfl rfl sz_9 rfl (by have hh := (show ([sa, sb].set 1 sa).length = 2 from by first | (rw [List.length_set]; exact (show ([sa, sb] : List Str).length = 2 from rfl)) | rw [List.length_set]); have hk := (show ([sa, sb].set 1 sa).length * 1 ≤ (cur2.setIfInBounds (0 + 1 * 1) (.string sa.v)).size by rw [(show ([sa, sb].set 1 sa).length = 2 from by first | (rw [List.length_set]; exact (show ([sa, sb] : List Str).length = 2 from rfl)) | rw [List.length_set]), (show ((cur2.setIfInBounds (0 + 1 * 1) (.string sa.v))).size = c * 1 from by rw [Array.size_setIfInBounds]; exact h6)]; exact Nat.mul_le_mul_right 1 h4); omega) rfl (cs' := ((cur2.setIfInBounds (0 + 1 * 1) (.string sa.v)).setIfInBounds (0 + 0 * 1) (.string sb.v))) rfl ?_; intro w24 H25
      refine ⟨blk bk1 (.cells ((cur2.setIfInBounds (0 + 1 * 1) (.string sa.v)).setIfInBounds (0 + 0 * 1) (.string sb.v)) 9 (0, 0)) :: (F.set i emp), ?_, H25⟩
      change FReg _ _ _ _ _ #[true, true, true, true, true, true, true, true, true, true, true, true, true, true, true, true, true, true] _ _
      refine f_done (by kernel_rfl) ?_
      intro w27 H28
      refine g_inBlock ?_
      refine g_region ?_
      refine r_cons (s_move (.int .i64 1) rfl rfl ?_)
      refine r_cons (s_sub 0 rfl rfl (wi64 (by omega)) rfl ?_)
      refine r_cons (s_assign (.int .i64 0) rfl rfl ?_)
      refine r_nil ?_
      refine g_inLoop ?_
      refine g_seq ?_
      refine g_seq ?_
      refine g_quiet (fun w' => St W w' (blk bk1 (.cells ((cur2.setIfInBounds (0 + 1 * 1) (.string sa.v)).setIfInBounds (0 + 0 * 1) (.string sb.v)) 9 (0, 0)) :: (F.set i emp))) mixed (by kernel_rfl) H28.drew ?_
      refine q_cons (q_val rfl rfl rfl (by intro w hw; exact x_move (.int .i64 0) rfl w) ?_)
      refine q_cons (q_val rfl rfl rfl (by intro w hw; exact x_move (.int .i64 0) rfl w) ?_)
      refine q_cons (q_val rfl rfl rfl (by intro w hw; exact x_gtr false rfl rfl (dfalse (by decide)) w) ?_)
      refine q_cons (q_val rfl rfl rfl (by intro w hw; exact x_move (.bool false) rfl w) ?_)
      refine q_cons (q_pass rfl rfl rfl rfl rfl ?_)
      refine q_cons (q_pass rfl rfl rfl rfl rfl ?_)
      refine q_cons (q_pass rfl rfl rfl rfl rfl ?_)
      refine q_cons (q_pass rfl rfl rfl rfl rfl ?_)
      refine q_cons (q_pass rfl rfl rfl rfl rfl ?_)
      refine q_cons (q_pass rfl rfl rfl rfl rfl ?_)
      refine q_cons (q_pass rfl rfl rfl rfl rfl ?_)
      refine q_cons (q_pass rfl rfl rfl rfl rfl ?_)
      refine q_cons (q_pass rfl rfl rfl rfl rfl ?_)
      refine q_cons (q_pass rfl rfl rfl rfl rfl ?_)
      refine q_cons (q_val rfl rfl rfl (by intro w hw; exact x_pick_f (.bool false) rfl rfl w) ?_)
      refine q_nil ?_
      intro w29 H30
      refine g_false rfl ?_
      refine g_exit (by rfl) ?_
      refine g_inBlock ?_
      refine g_region ?_
      refine r_cons (s_move (.int .i64 1) rfl rfl ?_)
      refine r_cons (s_add 2 rfl rfl (wi64 (by omega)) rfl ?_)
      refine r_cons (s_assign (.int .i64 2) rfl rfl ?_)
      refine r_nil ?_
      refine g_inLoop ?_
      refine g_seq ?_
      refine g_seq ?_
      refine g_region ?_
      refine r_cons (s_move (.int .i64 2) rfl rfl ?_)
      refine r_cons (s_move (.int .i64 2) rfl rfl ?_)
      refine r_cons (s_lss false rfl rfl (dfalse (by decide)) rfl ?_)
      refine r_nil ?_
      refine g_false rfl ?_
      refine g_exit (by rfl) ?_
      refine g_end' [] Try.func59 Try.results59 trivial ?_
      have H31 := Row.shut2 (p := p) (n := 2) (c := c) (size := 1) (xs := [sb, sa].flatMap strCell) H30 (i := 0) rfl hp3 h4 h5 (show (((cur2.setIfInBounds (0 + 1 * 1) (.string sa.v)).setIfInBounds (0 + 0 * 1) (.string sb.v))).size = c * 1 from by rw [Array.size_setIfInBounds]; exact (show ((cur2.setIfInBounds (0 + 1 * 1) (.string sa.v))).size = c * 1 from by rw [Array.size_setIfInBounds]; exact h6)) (by have hh : (((cur2.setIfInBounds (0 + 1 * 1) (.string sa.v)).setIfInBounds (0 + 0 * 1) (.string sb.v)).toList.drop 0).take ((([sa, sb].set 1 sa).set 0 sb).length * 1) = (([sa, sb].set 1 sa).set 0 sb).flatMap strCell := hx26; have hk : (([sa, sb].set 1 sa).set 0 sb).length = 2 := (show (([sa, sb].set 1 sa).set 0 sb).length = 2 from by first | (rw [List.length_set]; exact (show ([sa, sb].set 1 sa).length = 2 from by first | (rw [List.length_set]; exact (show ([sa, sb] : List Str).length = 2 from rfl)) | rw [List.length_set])) | rw [List.length_set]); rw [hk] at hh; rw [(show ([sa, sb].set 1 sa).set 0 sb = [sb, sa] from rfl)] at hh; exact hh) (one_str _)
      have H32 : St W w29 (Row 9 1 (.slice p 2 c) 2 ([sb, sa].flatMap strCell) :: (F.set i emp)) := H31
      exact ⟨rfl, by rw [if_pos hb12]; exact St.back hi H32⟩
    · skip
      intro w33 H34
      try dsimp only at H34
      refine s_load (.string sb.v) ag_9 rfl (H34.blk_at (i := 0) rfl) (elem_cell (L := [sa, sb]) (i := 1) strCell_len (by rw [(show ([sa, sb] : List Str).length = 2 from rfl)]; exact h7) (by have hh : [sa, sb].length = 2 := (show ([sa, sb] : List Str).length = 2 from rfl); omega) default 0 (by decide) _ rfl) rfl ?_
      refine ⟨blk bk1 (.cells cur2 9 (0, 0)) :: (F.set i emp), ?_, H34⟩
      change FReg _ _ _ _ _ #[true, true, true, true, true, true, true, true, true, false, true, true, true, true, false, false, false, false] _ _
      refine f_all (rs := [9]) (by kernel_rfl) (by simp) ?_
      refine a_cons ⟨_, rfl, ?_⟩ (fun x hx => absurd hx (by simp))
      intro w35 H36
      try dsimp only at H36
      refine s_load (.string sa.v) ag_9 rfl (H36.blk_at (i := 0) rfl) (elem_cell (L := [sa, sb]) (i := 0) strCell_len (by rw [(show ([sa, sb] : List Str).length = 2 from rfl)]; exact h7) (by have hh : [sa, sb].length = 2 := (show ([sa, sb] : List Str).length = 2 from rfl); omega) default 0 (by decide) _ rfl) rfl ?_
      refine ⟨blk bk1 (.cells cur2 9 (0, 0)) :: (F.set i emp), ?_, H36⟩
      change FReg _ _ _ _ _ #[true, true, true, true, true, true, true, true, true, true, true, true, true, true, false, false, false, false] _ _
      refine f_first 14 (listed' := #[true, true, true, true, true, true, true, true, true, true, true, true, true, true, true, false, false, false]) rfl (by kernel_rfl) (by kernel_rfl) (by kernel_rfl) rfl ?_
      refine f_val rfl rfl rfl (by intro t_ w hw; exact x_indexAddr bk1 (off := 0) 1 1 (0 + 1 * 1) (by exact congrArg (fun z_ => Value.slice z_ 2 c) ((fun (_ : 0 < 1) => hp3) (by omega))) rfl el_49 (by omega) rfl w) ?_
      refine f_all (rs := [15]) (by kernel_rfl) (by simp) ?_
      refine a_cons ⟨_, rfl, ?_⟩ (fun x hx => absurd hx (by simp))
      intro w37 H38
      try dsimp only at H38
      have hx41 := row_set1 (f := strCell) (L := [sa, sb]) (cur := cur2) strCell_len (by rw [(show ([sa, sb] : List Str).length = 2 from rfl)]; exact h7) (show [sa, sb].length * 1 ≤ cur2.size by rw [(show ([sa, sb] : List Str).length = 2 from rfl), h6]; exact Nat.mul_le_mul_right 1 h4) (j := 1) (by have hh := (show ([sa, sb] : List Str).length = 2 from rfl); omega) default (.string sa.v) (sa) (rfl)
      refine s_store H38 0 (.string sa.v) rfl rfl rfl sz_9 rfl (by have hh := (show ([sa, sb] : List Str).length = 2 from rfl); have hk := (show [sa, sb].length * 1 ≤ cur2.size by rw [(show ([sa, sb] : List Str).length = 2 from rfl), h6]; exact Nat.mul_le_mul_right 1 h4); omega) rfl (cs' := (cur2.setIfInBounds (0 + 1 * 1) (.string sa.v))) rfl ?_; intro w39 H40
      refine ⟨blk bk1 (.cells (cur2.setIfInBounds (0 + 1 * 1) (.string sa.v)) 9 (0, 0)) :: (F.set i emp), ?_, H40⟩
      change FReg _ _ _ _ _ #[true, true, true, true, true, true, true, true, true, true, true, true, true, true, true, true, false, false] _ _
      refine f_first 16 (listed' := #[true, true, true, true, true, true, true, true, true, true, true, true, true, true, true, true, true, false]) rfl (by kernel_rfl) (by kernel_rfl) (by kernel_rfl) rfl ?_
      refine f_val rfl rfl rfl (by intro t_ w hw; exact x_indexAddr bk1 (off := 0) 0 1 (0 + 0 * 1) (by exact congrArg (fun z_ => Value.slice z_ 2 c) ((fun (_ : 0 < 1) => hp3) (by omega))) rfl el_49 (by omega) rfl w) ?_
      refine f_all (rs := [17]) (by kernel_rfl) (by simp) ?_
      refine a_cons ⟨_, rfl, ?_⟩ (fun x hx => absurd hx (by simp))
      intro w42 H43
      try dsimp only at H43
      have hx46 := row_set1 (f := strCell) (L := [sa, sb].set 1 sa) (cur := (cur2.setIfInBounds (0 + 1 * 1) (.string sa.v))) strCell_len hx41 (show ([sa, sb].set 1 sa).length * 1 ≤ (cur2.setIfInBounds (0 + 1 * 1) (.string sa.v)).size by rw [(show ([sa, sb].set 1 sa).length = 2 from by first | (rw [List.length_set]; exact (show ([sa, sb] : List Str).length = 2 from rfl)) | rw [List.length_set]), (show ((cur2.setIfInBounds (0 + 1 * 1) (.string sa.v))).size = c * 1 from by rw [Array.size_setIfInBounds]; exact h6)]; exact Nat.mul_le_mul_right 1 h4) (j := 0) (by have hh := (show ([sa, sb].set 1 sa).length = 2 from by first | (rw [List.length_set]; exact (show ([sa, sb] : List Str).length = 2 from rfl)) | rw [List.length_set]); omega) default (.string sb.v) (sb) (rfl)
      refine s_store H43 0 (.string sb.v) rfl rfl rfl sz_9 rfl (by have hh := (show ([sa, sb].set 1 sa).length = 2 from by first | (rw [List.length_set]; exact (show ([sa, sb] : List Str).length = 2 from rfl)) | rw [List.length_set]); have hk := (show ([sa, sb].set 1 sa).length * 1 ≤ (cur2.setIfInBounds (0 + 1 * 1) (.string sa.v)).size by rw [(show ([sa, sb].set 1 sa).length = 2 from by first | (rw [List.length_set]; exact (show ([sa, sb] : List Str).length = 2 from rfl)) | rw [List.length_set]), (show ((cur2.setIfInBounds (0 + 1 * 1) (.string sa.v))).size = c * 1 from by rw [Array.size_setIfInBounds]; exact h6)]; exact Nat.mul_le_mul_right 1 h4); omega) rfl (cs' := ((cur2.setIfInBounds (0 + 1 * 1) (.string sa.v)).setIfInBounds (0 + 0 * 1) (.string sb.v))) rfl ?_; intro w44 H45
      refine ⟨blk bk1 (.cells ((cur2.setIfInBounds (0 + 1 * 1) (.string sa.v)).setIfInBounds (0 + 0 * 1) (.string sb.v)) 9 (0, 0)) :: (F.set i emp), ?_, H45⟩
      change FReg _ _ _ _ _ #[true, true, true, true, true, true, true, true, true, true, true, true, true, true, true, true, true, true] _ _
      refine f_done (by kernel_rfl) ?_
      intro w47 H48
      refine g_inBlock ?_
      refine g_region ?_
      refine r_cons (s_move (.int .i64 1) rfl rfl ?_)
      refine r_cons (s_sub 0 rfl rfl (wi64 (by omega)) rfl ?_)
      refine r_cons (s_assign (.int .i64 0) rfl rfl ?_)
      refine r_nil ?_
      refine g_inLoop ?_
      refine g_seq ?_
      refine g_seq ?_
      refine g_quiet (fun w' => St W w' (blk bk1 (.cells ((cur2.setIfInBounds (0 + 1 * 1) (.string sa.v)).setIfInBounds (0 + 0 * 1) (.string sb.v)) 9 (0, 0)) :: (F.set i emp))) mixed (by kernel_rfl) H48.drew ?_
      refine q_cons (q_val rfl rfl rfl (by intro w hw; exact x_move (.int .i64 0) rfl w) ?_)
      refine q_cons (q_val rfl rfl rfl (by intro w hw; exact x_move (.int .i64 0) rfl w) ?_)
      refine q_cons (q_val rfl rfl rfl (by intro w hw; exact x_gtr false rfl rfl (dfalse (by decide)) w) ?_)
      refine q_cons (q_val rfl rfl rfl (by intro w hw; exact x_move (.bool false) rfl w) ?_)
      refine q_cons (q_pass rfl rfl rfl rfl rfl ?_)
      refine q_cons (q_pass rfl rfl rfl rfl rfl ?_)
      refine q_cons (q_pass rfl rfl rfl rfl rfl ?_)
      refine q_cons (q_pass rfl rfl rfl rfl rfl ?_)
      refine q_cons (q_pass rfl rfl rfl rfl rfl ?_)
      refine q_cons (q_pass rfl rfl rfl rfl rfl ?_)
      refine q_cons (q_pass rfl rfl rfl rfl rfl ?_)
      refine q_cons (q_pass rfl rfl rfl rfl rfl ?_)
      refine q_cons (q_pass rfl rfl rfl rfl rfl ?_)
      refine q_cons (q_pass rfl rfl rfl rfl rfl ?_)
      refine q_cons (q_val rfl rfl rfl (by intro w hw; exact x_pick_f (.bool false) rfl rfl w) ?_)
      refine q_nil ?_
      intro w49 H50
      refine g_false rfl ?_
      refine g_exit (by rfl) ?_
      refine g_inBlock ?_
      refine g_region ?_
      refine r_cons (s_move (.int .i64 1) rfl rfl ?_)
      refine r_cons (s_add 2 rfl rfl (wi64 (by omega)) rfl ?_)
      refine r_cons (s_assign (.int .i64 2) rfl rfl ?_)
      refine r_nil ?_
      refine g_inLoop ?_
      refine g_seq ?_
      refine g_seq ?_
      refine g_region ?_
      refine r_cons (s_move (.int .i64 2) rfl rfl ?_)
      refine r_cons (s_move (.int .i64 2) rfl rfl ?_)
      refine r_cons (s_lss false rfl rfl (dfalse (by decide)) rfl ?_)
      refine r_nil ?_
      refine g_false rfl ?_
      refine g_exit (by rfl) ?_
      refine g_end' [] Try.func59 Try.results59 trivial ?_
      have H51 := Row.shut2 (p := p) (n := 2) (c := c) (size := 1) (xs := [sb, sa].flatMap strCell) H50 (i := 0) rfl hp3 h4 h5 (show (((cur2.setIfInBounds (0 + 1 * 1) (.string sa.v)).setIfInBounds (0 + 0 * 1) (.string sb.v))).size = c * 1 from by rw [Array.size_setIfInBounds]; exact (show ((cur2.setIfInBounds (0 + 1 * 1) (.string sa.v))).size = c * 1 from by rw [Array.size_setIfInBounds]; exact h6)) (by have hh : (((cur2.setIfInBounds (0 + 1 * 1) (.string sa.v)).setIfInBounds (0 + 0 * 1) (.string sb.v)).toList.drop 0).take ((([sa, sb].set 1 sa).set 0 sb).length * 1) = (([sa, sb].set 1 sa).set 0 sb).flatMap strCell := hx46; have hk : (([sa, sb].set 1 sa).set 0 sb).length = 2 := (show (([sa, sb].set 1 sa).set 0 sb).length = 2 from by first | (rw [List.length_set]; exact (show ([sa, sb].set 1 sa).length = 2 from by first | (rw [List.length_set]; exact (show ([sa, sb] : List Str).length = 2 from rfl)) | rw [List.length_set])) | rw [List.length_set]); rw [hk] at hh; rw [(show ([sa, sb].set 1 sa).set 0 sb = [sb, sa] from rfl)] at hh; exact hh) (one_str _)
      have H52 : St W w49 (Row 9 1 (.slice p 2 c) 2 ([sb, sa].flatMap strCell) :: (F.set i emp)) := H51
      exact ⟨rfl, by rw [if_pos hb12]; exact St.back hi H52⟩
  · have hb12 := eq_false_of_ne_true hb12
    refine g_false (congrArg Value.bool hb12) ?_
    refine g_exit (by rfl) ?_
    refine g_inBlock ?_
    refine g_region ?_
    refine r_cons (s_move (.int .i64 1) rfl rfl ?_)
    refine r_cons (s_add 2 rfl rfl (wi64 (by omega)) rfl ?_)
    refine r_cons (s_assign (.int .i64 2) rfl rfl ?_)
    refine r_nil ?_
    refine g_inLoop ?_
    refine g_seq ?_
    refine g_seq ?_
    refine g_region ?_
    refine r_cons (s_move (.int .i64 2) rfl rfl ?_)
    refine r_cons (s_move (.int .i64 2) rfl rfl ?_)
    refine r_cons (s_lss false rfl rfl (dfalse (by decide)) rfl ?_)
    refine r_nil ?_
    refine g_false rfl ?_
    refine g_exit (by rfl) ?_
    refine g_end' [] Try.func59 Try.results59 trivial ?_
    have H53 := Row.shut2 (p := p) (n := 2) (c := c) (size := 1) (xs := [sa, sb].flatMap strCell) H11 (i := 0) rfl hp3 h4 h5 h6 (by have hh : (cur2.toList.drop 0).take ([sa, sb].length * 1) = [sa, sb].flatMap strCell := (by rw [(show ([sa, sb] : List Str).length = 2 from rfl)]; exact h7); have hk : [sa, sb].length = 2 := (show ([sa, sb] : List Str).length = 2 from rfl); rw [hk] at hh; rw [(show [sa, sb] = [sa, sb] from rfl)] at hh; exact hh) (one_str _)
    have H54 : St W w10 (Row 9 1 (.slice p 2 c) 2 ([sa, sb].flatMap strCell) :: (F.set i emp)) := H53
    exact ⟨rfl, by rw [if_neg (by rw [hb12]; simp)]; exact St.back hi H54⟩
set_option maxHeartbeats 4000000 in
set_option maxRecDepth 100000 in
theorem pdq_2 {W w : World} {F : List Atom} (p : Option Addr) (c : Nat) (sa sb : Str) (lim : Int) {i : Nat} (hi : F[i]? = some (Row 9 1 (.slice p 2 c) 2 ([sa, sb].flatMap strCell))) (H : St W w F) : Calls Try.prog 54 #[.slice p 2 c, .int .i64 0, .int .i64 2, .int .i64 lim] w (Ret fun v w' => v = .tuple #[] ∧ St W w' (F.set i (Row 9 1 (.slice p 2 c) 2 ((if sLt sb.v sa.v = true then [sb, sa] else [sa, sb]).flatMap strCell)))) := by
  have H0 := H.front hi
  refine calls_of_go (n := 134) Try.func54 rfl Try.ntmps54 rfl ?_
  refine g_seq ?_
  refine g_region ?_
  refine r_cons (s_assign (.bool true) rfl rfl ?_)
  refine r_nil ?_
  refine g_seq ?_
  refine g_region ?_
  refine r_cons (s_assign (.bool true) rfl rfl ?_)
  refine r_nil ?_
  refine g_block ?_
  refine g_loop ?_
  refine g_block ?_
  refine g_seq ?_
  refine g_region ?_
  refine r_cons (s_move (.int .i64 2) rfl rfl ?_)
  refine r_cons (s_move (.int .i64 0) rfl rfl ?_)
  refine r_cons (s_sub 2 rfl rfl (wi64 (by omega)) rfl ?_)
  refine r_cons (s_assign (.int .i64 2) rfl rfl ?_)
  refine r_nil ?_
  refine g_seq ?_
  refine g_seq ?_
  refine g_region ?_
  refine r_cons (s_move (.int .i64 2) rfl rfl ?_)
  refine r_cons (s_leq true rfl rfl (dtrue (by decide)) rfl ?_)
  refine r_nil ?_
  refine g_true rfl ?_
  refine g_seq ?_
  refine g_region ?_
  refine r_cons (s_move (.slice p 2 c) rfl rfl ?_)
  refine r_cons (s_move (.int .i64 0) rfl rfl ?_)
  refine r_cons (s_move (.int .i64 2) rfl rfl ?_)
  refine r_cons (s_call [.slice p 2 c, .int .i64 0, .int .i64 2] pl_59 rfl rfl (insort_2 p c sa sb (i := 0) rfl H0) ?_)
  rintro _ w1 ⟨rfl, H2⟩
  refine r_nil ?_
  refine g_ret' [] Try.func54 Try.results54 trivial ?_
  have H3 : St W w1 (Row 9 1 (.slice p 2 c) 2 ((if sLt sb.v sa.v = true then [sb, sa] else [sa, sb]).flatMap strCell) :: (F.set i emp)) := H2
  exact ⟨rfl, St.back hi H3⟩
set_option maxHeartbeats 4000000 in
set_option maxRecDepth 100000 in
theorem sort_2 {W w : World} {F : List Atom} (p : Option Addr) (c : Nat) (sa sb : Str) {i : Nat} (hi : F[i]? = some (Row 9 1 (.slice p 2 c) 2 ([sa, sb].flatMap strCell))) (H : St W w F) : Calls Try.prog 38 #[.slice p 2 c] w (Ret fun v w' => v = .tuple #[] ∧ St W w' (F.set i (Row 9 1 (.slice p 2 c) 2 ((if sLt sb.v sa.v = true then [sb, sa] else [sa, sb]).flatMap strCell)))) := by
  have H0 := H.front hi
  refine calls_of_go (n := 11) Try.func38 rfl Try.ntmps38 rfl ?_
  refine g_seq ?_
  refine g_region ?_
  refine r_cons (s_move (.slice p 2 c) rfl rfl ?_)
  refine r_cons (s_len 2 rfl ⟨_, un_49⟩ rfl ?_)
  refine r_cons (s_assign (.int .i64 2) rfl rfl ?_)
  refine r_nil ?_
  refine g_region ?_
  refine r_cons (s_move (.slice p 2 c) rfl rfl ?_)
  refine r_cons (s_move (.int .i64 2) rfl rfl ?_)
  refine r_cons (s_move (.int .i64 2) rfl rfl ?_)
  refine r_cons (s_conv 2 rfl us_3 ik_90 (wu64 (by omega)) rfl ?_)
  refine r_cons (s_call [.int .u64 2] pl_55 rfl rfl (bits_Len (2) (by omega) H0) ?_)
  rintro _ w1 ⟨rfl, H2⟩
  refine r_cons (s_call [.slice p 2 c, .int .i64 0, .int .i64 2, .int .i64 (bitLen (2) : Int)] pl_54 rfl rfl (pdq_2 p c sa sb (bitLen (2) : Int) (i := 0) rfl H2) ?_)
  rintro _ w3 ⟨rfl, H4⟩
  refine r_nil ?_
  refine g_end' [] Try.func38 Try.results38 trivial ?_
  have H5 : St W w3 (Row 9 1 (.slice p 2 c) 2 ((if sLt sb.v sa.v = true then [sb, sa] else [sa, sb]).flatMap strCell) :: (F.set i emp)) := H4
  exact ⟨rfl, St.back hi H5⟩
set_option maxHeartbeats 4000000 in
set_option maxRecDepth 100000 in
theorem compact_0 {W w : World} {F : List Atom} (p : Option Addr) (c : Nat) (H : St W w F) : Calls Try.prog 39 #[.slice p 0 c] w (Ret fun v w' => v = .slice p 0 c ∧ St W w' F) := by
  refine calls_of_go (n := 61) Try.func39 rfl Try.ntmps39 rfl ?_
  refine g_seq ?_
  refine g_region ?_
  refine r_cons (s_assign (.slice none 0 0) rfl rfl ?_)
  refine r_nil ?_
  refine g_seq ?_
  refine g_seq ?_
  refine g_region ?_
  refine r_cons (s_move (.slice p 0 c) rfl rfl ?_)
  refine r_cons (s_len 0 rfl ⟨_, un_49⟩ rfl ?_)
  refine r_cons (s_lss true rfl rfl (dtrue (by decide)) rfl ?_)
  refine r_nil ?_
  refine g_true rfl ?_
  refine g_seq ?_
  refine g_region ?_
  refine r_cons (s_move (.slice p 0 c) rfl rfl ?_)
  refine r_cons (s_assign (.slice p 0 c) rfl rfl ?_)
  refine r_nil ?_
  refine g_ret' [.slice p 0 c] Try.func39 Try.results39 ⟨rfl, trivial⟩ ?_
  exact ⟨rfl, H⟩
set_option maxHeartbeats 4000000 in
set_option maxRecDepth 100000 in
theorem compact_1 {W w : World} {F : List Atom} (p : Option Addr) (c : Nat) (H : St W w F) : Calls Try.prog 39 #[.slice p 1 c] w (Ret fun v w' => v = .slice p 1 c ∧ St W w' F) := by
  refine calls_of_go (n := 61) Try.func39 rfl Try.ntmps39 rfl ?_
  refine g_seq ?_
  refine g_region ?_
  refine r_cons (s_assign (.slice none 0 0) rfl rfl ?_)
  refine r_nil ?_
  refine g_seq ?_
  refine g_seq ?_
  refine g_region ?_
  refine r_cons (s_move (.slice p 1 c) rfl rfl ?_)
  refine r_cons (s_len 1 rfl ⟨_, un_49⟩ rfl ?_)
  refine r_cons (s_lss true rfl rfl (dtrue (by decide)) rfl ?_)
  refine r_nil ?_
  refine g_true rfl ?_
  refine g_seq ?_
  refine g_region ?_
  refine r_cons (s_move (.slice p 1 c) rfl rfl ?_)
  refine r_cons (s_assign (.slice p 1 c) rfl rfl ?_)
  refine r_nil ?_
  refine g_ret' [.slice p 1 c] Try.func39 Try.results39 ⟨rfl, trivial⟩ ?_
  exact ⟨rfl, H⟩
set_option maxHeartbeats 4000000 in
set_option maxRecDepth 100000 in
theorem compact_2 {W w : World} {F : List Atom} (p : Option Addr) (c : Nat) (sa sb : Str) {i : Nat} (hi : F[i]? = some (Row 9 1 (.slice p 2 c) 2 ([sa, sb].flatMap strCell))) (H : St W w F) : Calls Try.prog 39 #[.slice p 2 c] w (Ret fun v w' => (sb.v = sa.v ∧ v = .slice p 1 c ∧ St W w' (F.set i (Row 9 1 (.slice p 1 c) 1 ([sa].flatMap strCell)))) ∨ (¬ sb.v = sa.v ∧ v = .slice p 2 c ∧ St W w' (F.set i (Row 9 1 (.slice p 2 c) 2 ([sa, sb].flatMap strCell))))) := by
  have H0 := H.front hi
  obtain ⟨bk1, cur2, hp3, h4, h5, h6, h7, h8, H9⟩ := Row.open2 H0 (i := 0) rfl (by omega)
  refine calls_of_go (n := 61) Try.func39 rfl Try.ntmps39 rfl ?_
  refine g_seq ?_
  refine g_region ?_
  refine r_cons (s_assign (.slice none 0 0) rfl rfl ?_)
  refine r_nil ?_
  refine g_seq ?_
  refine g_seq ?_
  refine g_region ?_
  refine r_cons (s_move (.slice p 2 c) rfl rfl ?_)
  refine r_cons (s_len 2 rfl ⟨_, un_49⟩ rfl ?_)
  refine r_cons (s_lss false rfl rfl (dfalse (by decide)) rfl ?_)
  refine r_nil ?_
  refine g_false rfl ?_
  refine g_skip ?_
  refine g_seq ?_
  refine g_seq ?_
  refine g_region ?_
  refine r_cons (s_assign (.int .i64 1) rfl rfl ?_)
  refine r_nil ?_
  refine g_block ?_
  refine g_loop ?_
  refine g_seq ?_
  refine g_seq ?_
  refine g_region ?_
  refine r_cons (s_move (.int .i64 1) rfl rfl ?_)
  refine r_cons (s_move (.slice p 2 c) rfl rfl ?_)
  refine r_cons (s_len 2 rfl ⟨_, un_49⟩ rfl ?_)
  refine r_cons (s_lss true rfl rfl (dtrue (by decide)) rfl ?_)
  refine r_nil ?_
  refine g_true rfl ?_
  refine g_skip ?_
  refine g_seq ?_
  refine g_block ?_
  refine g_seq ?_
  refine g_quiet (fun w' => St W w' (blk bk1 (.cells cur2 9 (0, 0)) :: (F.set i emp))) mixed (by kernel_rfl) H9.drew ?_
  refine q_cons (q_val rfl rfl rfl (by intro w hw; exact x_move (.slice p 2 c) rfl w) ?_)
  refine q_cons (q_val rfl rfl rfl (by intro w hw; exact x_move (.int .i64 1) rfl w) ?_)
  refine q_cons (q_val rfl rfl rfl (by intro w hw; exact x_indexAddr bk1 (off := 0) 1 1 (0 + 1 * 1) (by exact congrArg (fun z_ => Value.slice z_ 2 c) ((fun (_ : 0 < 1) => hp3) (by omega))) rfl el_49 (by omega) rfl w) ?_)
  refine q_cons (q_val rfl rfl rfl (by intro w hw; exact x_load (.string sb.v) ag_9 rfl (hw.blk_at (i := 0) rfl) (elem_cell (L := [sa, sb]) (i := 1) strCell_len (by rw [(show ([sa, sb] : List Str).length = 2 from rfl)]; exact h7) (by have hh : [sa, sb].length = 2 := (show ([sa, sb] : List Str).length = 2 from rfl); omega) default 0 (by decide) _ rfl)) ?_)
  refine q_cons (q_val rfl rfl rfl (by intro w hw; exact x_move (.slice p 2 c) rfl w) ?_)
  refine q_cons (q_val rfl rfl rfl (by intro w hw; exact x_move (.int .i64 1) rfl w) ?_)
  refine q_cons (q_val rfl rfl rfl (by intro w hw; exact x_sub 0 rfl rfl (wi64 (by omega)) w) ?_)
  refine q_cons (q_val rfl rfl rfl (by intro w hw; exact x_indexAddr bk1 (off := 0) 0 1 (0 + 0 * 1) (by exact congrArg (fun z_ => Value.slice z_ 2 c) ((fun (_ : 0 < 1) => hp3) (by omega))) rfl el_49 (by omega) rfl w) ?_)
  refine q_cons (q_val rfl rfl rfl (by intro w hw; exact x_load (.string sa.v) ag_9 rfl (hw.blk_at (i := 0) rfl) (elem_cell (L := [sa, sb]) (i := 0) strCell_len (by rw [(show ([sa, sb] : List Str).length = 2 from rfl)]; exact h7) (by have hh : [sa, sb].length = 2 := (show ([sa, sb] : List Str).length = 2 from rfl); omega) default 0 (by decide) _ rfl)) ?_)
  by_cases hc10 : sb.v = sa.v
  · skip
    refine q_cons (q_val rfl rfl rfl (by intro w hw; exact x_seql true rfl rfl (dtrue hc10) w) ?_)
    refine q_nil ?_
    intro w11 H12
    refine g_true rfl ?_
    refine g_seq ?_
    refine g_region ?_
    refine r_cons (s_move (.slice p 2 c) rfl rfl ?_)
    refine r_cons (s_move (.int .i64 1) rfl rfl ?_)
    refine r_cons (s_slice_l p 1 1 (.slice (some ⟨bk1, 1, none⟩) 1 (c - 1)) rfl rfl el_49 (by omega) (by rw [hp3]; show Value.slice (if c = 1 then _ else _) _ _ = _; rw [if_neg (by have := h4; omega)]; rfl) rfl ?_)
    refine r_cons (s_assign (.slice (some ⟨bk1, 1, none⟩) 1 (c - 1)) rfl rfl ?_)
    refine r_nil ?_
    refine g_seq ?_
    refine g_seq ?_
    refine g_region ?_
    refine r_cons (s_assign (.int .i64 1) rfl rfl ?_)
    refine r_nil ?_
    refine g_block ?_
    refine g_loop ?_
    refine g_seq ?_
    refine g_seq ?_
    refine g_region ?_
    refine r_cons (s_move (.int .i64 1) rfl rfl ?_)
    refine r_cons (s_move (.slice (some ⟨bk1, 1, none⟩) 1 (c - 1)) rfl rfl ?_)
    refine r_cons (s_len 1 rfl ⟨_, un_49⟩ rfl ?_)
    refine r_cons (s_lss false rfl rfl (dfalse (by decide)) rfl ?_)
    refine r_nil ?_
    refine g_false rfl ?_
    refine g_exit (by rfl) ?_
    refine g_seq ?_
    refine g_region ?_
    refine r_cons (s_move (.slice p 2 c) rfl rfl ?_)
    refine r_cons (s_move (.int .i64 1) rfl rfl ?_)
    refine r_cons (s_slice_l p 1 1 (.slice (some ⟨bk1, 1, none⟩) 1 (c - 1)) rfl rfl el_49 (by omega) (by rw [hp3]; show Value.slice (if c = 1 then _ else _) _ _ = _; rw [if_neg (by have := h4; omega)]; rfl) rfl ?_)
    refine r_cons (s_clear H12 0 rfl rfl (by decide) un_49 in_9 (by decide +kernel) (by rw [h6]; have := h4; show 1 + 1 * 1 ≤ c * 1; omega) (cs' := (writes cur2 1 [.string ByteArray.empty])) (by kernel_rfl) ?_); intro w13 H14
    refine r_nil ?_
    refine g_seq ?_
    refine g_region ?_
    refine r_cons (s_move (.slice p 2 c) rfl rfl ?_)
    refine r_cons (s_move (.int .i64 1) rfl rfl ?_)
    refine r_cons (s_slice_h p 1 1 (.slice p 1 c) rfl rfl el_49 (by have := h4; omega) rfl rfl ?_)
    refine r_cons (s_assign (.slice p 1 c) rfl rfl ?_)
    refine r_nil ?_
    refine g_ret' [.slice p 1 c] Try.func39 Try.results39 ⟨rfl, trivial⟩ ?_
    have H15 : St W w13 (Row 9 1 (.slice p 1 c) 1 ([sa].flatMap strCell) :: (F.set i emp)) := Row.shut2 (p := p) (n := 1) (c := c) (size := 1) (xs := [sa].flatMap strCell) H14 (i := 0) rfl hp3 (by have := h4; omega) h5 (by show (cur2.setIfInBounds 1 _).size = _; rw [Array.size_setIfInBounds]; exact h6) (take_set_1 (n := 0) (a := .string sa.v) (b := .string sb.v) h7) (one_str _)
    have H16 : St W w13 (Row 9 1 (.slice p 1 c) 1 ([sa].flatMap strCell) :: (F.set i emp)) := H15
    exact .inl ⟨hc10, rfl, St.back hi H16⟩
  · skip
    refine q_cons (q_val rfl rfl rfl (by intro w hw; exact x_seql false rfl rfl (dfalse hc10) w) ?_)
    refine q_nil ?_
    intro w17 H18
    refine g_false rfl ?_
    refine g_skip ?_
    refine g_inBlock ?_
    refine g_region ?_
    refine r_cons (s_move (.int .i64 1) rfl rfl ?_)
    refine r_cons (s_add 2 rfl rfl (wi64 (by omega)) rfl ?_)
    refine r_cons (s_assign (.int .i64 2) rfl rfl ?_)
    refine r_nil ?_
    refine g_inLoop ?_
    refine g_seq ?_
    refine g_seq ?_
    refine g_region ?_
    refine r_cons (s_move (.int .i64 2) rfl rfl ?_)
    refine r_cons (s_move (.slice p 2 c) rfl rfl ?_)
    refine r_cons (s_len 2 rfl ⟨_, un_49⟩ rfl ?_)
    refine r_cons (s_lss false rfl rfl (dfalse (by decide)) rfl ?_)
    refine r_nil ?_
    refine g_false rfl ?_
    refine g_exit (by rfl) ?_
    refine g_seq ?_
    refine g_region ?_
    refine r_cons (s_move (.slice p 2 c) rfl rfl ?_)
    refine r_cons (s_assign (.slice p 2 c) rfl rfl ?_)
    refine r_nil ?_
    refine g_ret' [.slice p 2 c] Try.func39 Try.results39 ⟨rfl, trivial⟩ ?_
    have H19 := Row.shut2 (p := p) (n := 2) (c := c) (size := 1) (xs := [sa, sb].flatMap strCell) H18 (i := 0) rfl hp3 h4 h5 h6 (by have hh : (cur2.toList.drop 0).take ([sa, sb].length * 1) = [sa, sb].flatMap strCell := (by rw [(show ([sa, sb] : List Str).length = 2 from rfl)]; exact h7); have hk : [sa, sb].length = 2 := (show ([sa, sb] : List Str).length = 2 from rfl); rw [hk] at hh; rw [(show [sa, sb] = [sa, sb] from rfl)] at hh; exact hh) (one_str _)
    have H20 : St W w17 (Row 9 1 (.slice p 2 c) 2 ([sa, sb].flatMap strCell) :: (F.set i emp)) := H19
    exact .inr ⟨hc10, rfl, St.back hi H20⟩
set_option maxHeartbeats 4000000 in
set_option maxRecDepth 100000 in
theorem pred_Names {W w : World} {F : List Atom} (c : CondV) (H : St W w F) : Calls Try.prog 20 #[.agg #[.string c.left.var.v, .string c.left.attr.v, .int .i64 c.left.val.kind.v, .int .i64 c.left.val.n.v, .string c.left.val.s.v, .int .i64 c.rel.v, .string c.right.var.v, .string c.right.attr.v, .int .i64 c.right.val.kind.v, .int .i64 c.right.val.n.v, .string c.right.val.s.v]] w (Ret fun v w' => ∃ p q, v = .slice p (namesV c).length q ∧ St W w' (Im 1 (.slice p (namesV c).length q) (namesV c).length ((namesV c).flatMap strCell) :: F)) := by
  refine calls_of_go (n := 29) Try.func20 rfl Try.ntmps20 rfl ?_
  refine g_seq ?_
  refine g_region ?_
  refine r_cons (s_box H 27 (.agg #[.string c.left.var.v, .string c.left.attr.v, .int .i64 c.left.val.kind.v, .int .i64 c.left.val.n.v, .string c.left.val.s.v, .int .i64 c.rel.v, .string c.right.var.v, .string c.right.attr.v, .int .i64 c.right.val.kind.v, .int .i64 c.right.val.n.v, .string c.right.val.s.v]) rfl (cs := #[.string c.left.var.v, .string c.left.attr.v, .int .i64 c.left.val.kind.v, .int .i64 c.left.val.n.v, .string c.left.val.s.v, .int .i64 c.rel.v, .string c.right.var.v, .string c.right.attr.v, .int .i64 c.right.val.kind.v, .int .i64 c.right.val.n.v, .string c.right.val.s.v]) rfl rfl ?_); intro bk1 w2 H3
  refine r_cons (s_assign (.slice none 0 0) rfl rfl ?_)
  refine r_nil ?_
  refine g_seq ?_
  refine g_region ?_
  refine r_cons (s_assign (.slice none 0 0) rfl rfl ?_)
  refine r_nil ?_
  refine g_seq ?_
  refine g_seq ?_
  refine g_region ?_
  refine r_cons (s_fieldAddr 27 0 0 0 25 rfl fi_27_0 rfl rfl ?_)
  refine r_cons (s_loadAgg [.string c.left.var.v, .string c.left.attr.v, .int .i64 c.left.val.kind.v, .int .i64 c.left.val.n.v, .string c.left.val.s.v] 5 ag_25 rfl (H3.blk_at (i := 0) rfl) (Nat.le_of_ble_eq_true rfl) rfl rfl ?_)
  refine r_cons (s_fieldAddr 27 2 6 6 25 rfl fi_27_2 rfl rfl ?_)
  refine r_cons (s_loadAgg [.string c.right.var.v, .string c.right.attr.v, .int .i64 c.right.val.kind.v, .int .i64 c.right.val.n.v, .string c.right.val.s.v] 5 ag_25 rfl (H3.blk_at (i := 0) rfl) (Nat.le_of_ble_eq_true rfl) rfl rfl ?_)
  refine r_cons (s_buildSlice H3 5 2 (cs := #[.string c.left.var.v, .string c.left.attr.v, .int .i64 c.left.val.kind.v, .int .i64 c.left.val.n.v, .string c.left.val.s.v, .string c.right.var.v, .string c.right.attr.v, .int .i64 c.right.val.kind.v, .int .i64 c.right.val.n.v, .string c.right.val.s.v]) #[.string ByteArray.empty, .string ByteArray.empty, .int .i64 0, .int .i64 0, .string ByteArray.empty] el_44 ze_25 (by decide) (by decide) (by kernel_rfl) rfl ?_); intro bk4 w5 H6
  refine r_cons (s_len 2 rfl ⟨_, un_44⟩ rfl ?_)
  refine r_cons (s_move (.int .i64 0) rfl rfl ?_)
  refine r_nil ?_
  refine g_block ?_
  refine g_loop ?_
  refine g_seq ?_
  refine g_region ?_
  refine r_cons (s_lss true rfl rfl (dtrue (by decide)) rfl ?_)
  refine r_nil ?_
  refine g_seq ?_
  refine g_true rfl ?_
  refine g_skip ?_
  refine g_seq ?_
  refine g_block ?_
  refine g_seq ?_
  refine g_region ?_
  refine r_cons (s_indexAddr bk4 0 5 0 rfl rfl el_44 (by omega) rfl rfl ?_)
  refine r_cons (s_loadAgg [.string c.left.var.v, .string c.left.attr.v, .int .i64 c.left.val.kind.v, .int .i64 c.left.val.n.v, .string c.left.val.s.v] 5 ag_25 rfl (H6.blk_at (i := 0) rfl) (Nat.le_of_ble_eq_true rfl) rfl rfl ?_)
  refine r_cons (s_alloc H6 25 ze_25 rfl ?_); intro bk7 w8 H9
  refine r_cons (s_storeAgg H9 0 #[.string c.left.var.v, .string c.left.attr.v, .int .i64 c.left.val.kind.v, .int .i64 c.left.val.n.v, .string c.left.val.s.v] 5 rfl rfl rfl sz_25 rfl (by simp [Value.oneCell']) (Nat.le_of_ble_eq_true rfl) (fun o h1 h2 => by first | (simp; done) | (simp; omega)) (cs' := #[.string c.left.var.v, .string c.left.attr.v, .int .i64 c.left.val.kind.v, .int .i64 c.left.val.n.v, .string c.left.val.s.v]) rfl ?_); intro w10 H11
  refine r_nil ?_
  refine g_seq ?_
  refine g_region ?_
  refine r_cons (s_fieldAddr 25 1 1 1 9 rfl fi_25_1 rfl rfl ?_)
  refine r_cons (s_load (.string c.left.attr.v) ag_9 rfl (H11.blk_at (i := 0) rfl) rfl rfl ?_)
  by_cases hc12 : c.left.attr.v = ByteArray.empty
  · skip
    refine r_cons (s_sneq false rfl rfl (ntrue hc12) rfl ?_)
    refine r_nil ?_
    refine g_false rfl ?_
    refine g_skip ?_
    refine g_inBlock ?_
    refine g_region ?_
    refine r_cons (s_add 1 rfl rfl (wi64 (by omega)) rfl ?_)
    refine r_cons (s_move (.int .i64 1) rfl rfl ?_)
    refine r_nil ?_
    refine g_inLoop ?_
    refine g_seq ?_
    refine g_region ?_
    refine r_cons (s_lss true rfl rfl (dtrue (by decide)) rfl ?_)
    refine r_nil ?_
    refine g_seq ?_
    refine g_true rfl ?_
    refine g_skip ?_
    refine g_seq ?_
    refine g_block ?_
    refine g_seq ?_
    refine g_region ?_
    refine r_cons (s_indexAddr bk4 1 5 5 rfl rfl el_44 (by omega) rfl rfl ?_)
    refine r_cons (s_loadAgg [.string c.right.var.v, .string c.right.attr.v, .int .i64 c.right.val.kind.v, .int .i64 c.right.val.n.v, .string c.right.val.s.v] 5 ag_25 rfl (H11.blk_at (i := 1) rfl) (Nat.le_of_ble_eq_true rfl) rfl rfl ?_)
    refine r_cons (s_alloc H11 25 ze_25 rfl ?_); intro bk13 w14 H15
    refine r_cons (s_storeAgg H15 0 #[.string c.right.var.v, .string c.right.attr.v, .int .i64 c.right.val.kind.v, .int .i64 c.right.val.n.v, .string c.right.val.s.v] 5 rfl rfl rfl sz_25 rfl (by simp [Value.oneCell']) (Nat.le_of_ble_eq_true rfl) (fun o h1 h2 => by first | (simp; done) | (simp; omega)) (cs' := #[.string c.right.var.v, .string c.right.attr.v, .int .i64 c.right.val.kind.v, .int .i64 c.right.val.n.v, .string c.right.val.s.v]) rfl ?_); intro w16 H17
    refine r_nil ?_
    refine g_seq ?_
    refine g_region ?_
    refine r_cons (s_fieldAddr 25 1 1 1 9 rfl fi_25_1 rfl rfl ?_)
    refine r_cons (s_load (.string c.right.attr.v) ag_9 rfl (H17.blk_at (i := 0) rfl) rfl rfl ?_)
    by_cases hc18 : c.right.attr.v = ByteArray.empty
    · skip
      refine r_cons (s_sneq false rfl rfl (ntrue hc18) rfl ?_)
      refine r_nil ?_
      refine g_false rfl ?_
      refine g_skip ?_
      refine g_inBlock ?_
      refine g_region ?_
      refine r_cons (s_add 2 rfl rfl (wi64 (by omega)) rfl ?_)
      refine r_cons (s_move (.int .i64 2) rfl rfl ?_)
      refine r_nil ?_
      refine g_inLoop ?_
      refine g_seq ?_
      refine g_region ?_
      refine r_cons (s_lss false rfl rfl (dfalse (by decide)) rfl ?_)
      refine r_nil ?_
      refine g_seq ?_
      refine g_false rfl ?_
      refine g_exit (by rfl) ?_
      refine g_seq ?_
      refine g_region ?_
      refine r_cons (s_move (.slice none 0 0) rfl rfl ?_)
      refine r_cons (s_call [.slice none 0 0] pl_38 rfl rfl (sort_0 none 0 H17) ?_)
      rintro _ w19 ⟨rfl, H20⟩
      refine r_nil ?_
      refine g_seq ?_
      refine g_region ?_
      refine r_cons (s_move (.slice none 0 0) rfl rfl ?_)
      refine r_cons (s_call [.slice none 0 0] pl_39 rfl rfl (compact_0 none 0 H20) ?_)
      rintro _ w21 ⟨rfl, H22⟩
      refine r_cons (s_assign (.slice none 0 0) rfl rfl ?_)
      refine r_nil ?_
      refine g_ret' [.slice none 0 0] Try.func20 Try.results20 ⟨rfl, trivial⟩ ?_
      have H23 : St W w21 F := ((((H22.drop 0 rfl).drop 0 rfl).drop 0 rfl).drop 0 rfl)
      have hN := names_0 hc12 hc18
      exact ⟨none, 0, by rw [hN]; rfl, by rw [hN]; exact Row.im (Row.nil_intro H23 9 1) (i := 0) rfl⟩
    · skip
      refine r_cons (s_sneq true rfl rfl (nfalse hc18) rfl ?_)
      refine r_nil ?_
      refine g_true rfl ?_
      refine g_region ?_
      refine r_cons (s_move (.slice none 0 0) rfl rfl ?_)
      refine r_cons (s_fieldAddr 25 0 0 0 9 rfl fi_25_0 rfl rfl ?_)
      refine r_cons (s_load (.string c.right.var.v) ag_9 rfl (H17.blk_at (i := 0) rfl) rfl rfl ?_)
      refine r_cons (s_buildSlice H17 1 1 (cs := #[.string c.right.var.v]) #[.string ByteArray.empty] el_49 ze_9 (by decide) (by decide) (by kernel_rfl) rfl ?_); intro bk24 w25 H26
      have H27 := Row.nil_intro H26 9 1
      refine r_cons (s_append H27 0 rfl rfl rfl (rd_blk (H27.blk_at (i := 1) rfl) rfl (Nat.le_of_ble_eq_true rfl) (by simp [Value.oneCell'])) ap_49 (by decide) (by unfold maxLen; omega) (by omega) (n' := 1) (xs' := [.string c.right.var.v]) (by omega) (by first | rfl | simp) rfl ?_); intro vv28 w29 H30 hn31
      obtain ⟨pp32, cc33, rfl⟩ := Row.slice H30 (i := 0) rfl
      refine r_cons (s_assign (.slice pp32 1 cc33) rfl rfl ?_)
      refine r_nil ?_
      refine g_inBlock ?_
      refine g_region ?_
      refine r_cons (s_add 2 rfl rfl (wi64 (by omega)) rfl ?_)
      refine r_cons (s_move (.int .i64 2) rfl rfl ?_)
      refine r_nil ?_
      refine g_inLoop ?_
      refine g_seq ?_
      refine g_region ?_
      refine r_cons (s_lss false rfl rfl (dfalse (by decide)) rfl ?_)
      refine r_nil ?_
      refine g_seq ?_
      refine g_false rfl ?_
      refine g_exit (by rfl) ?_
      refine g_seq ?_
      refine g_region ?_
      refine r_cons (s_move (.slice pp32 1 cc33) rfl rfl ?_)
      refine r_cons (s_call [.slice pp32 1 cc33] pl_38 rfl rfl (sort_1 pp32 cc33 H30) ?_)
      rintro _ w34 ⟨rfl, H35⟩
      refine r_nil ?_
      refine g_seq ?_
      refine g_region ?_
      refine r_cons (s_move (.slice pp32 1 cc33) rfl rfl ?_)
      refine r_cons (s_call [.slice pp32 1 cc33] pl_39 rfl rfl (compact_1 pp32 cc33 H35) ?_)
      rintro _ w36 ⟨rfl, H37⟩
      refine r_cons (s_assign (.slice pp32 1 cc33) rfl rfl ?_)
      refine r_nil ?_
      refine g_ret' [.slice pp32 1 cc33] Try.func20 Try.results20 ⟨rfl, trivial⟩ ?_
      have hN := names_r hc12 hc18
      have H38 : St W w36 (Row 9 1 (.slice pp32 1 cc33) 1 [.string c.right.var.v] :: F) := (((((H37.drop 1 rfl).drop 1 rfl).drop 1 rfl).drop 1 rfl).drop 1 rfl)
      exact ⟨_, _, by rw [hN]; rfl, by rw [hN]; exact Row.im H38 (i := 0) rfl⟩
  · skip
    refine r_cons (s_sneq true rfl rfl (nfalse hc12) rfl ?_)
    refine r_nil ?_
    refine g_true rfl ?_
    refine g_region ?_
    refine r_cons (s_move (.slice none 0 0) rfl rfl ?_)
    refine r_cons (s_fieldAddr 25 0 0 0 9 rfl fi_25_0 rfl rfl ?_)
    refine r_cons (s_load (.string c.left.var.v) ag_9 rfl (H11.blk_at (i := 0) rfl) rfl rfl ?_)
    refine r_cons (s_buildSlice H11 1 1 (cs := #[.string c.left.var.v]) #[.string ByteArray.empty] el_49 ze_9 (by decide) (by decide) (by kernel_rfl) rfl ?_); intro bk39 w40 H41
    have H42 := Row.nil_intro H41 9 1
    refine r_cons (s_append H42 0 rfl rfl rfl (rd_blk (H42.blk_at (i := 1) rfl) rfl (Nat.le_of_ble_eq_true rfl) (by simp [Value.oneCell'])) ap_49 (by decide) (by unfold maxLen; omega) (by omega) (n' := 1) (xs' := [.string c.left.var.v]) (by omega) (by first | rfl | simp) rfl ?_); intro vv43 w44 H45 hn46
    obtain ⟨pp47, cc48, rfl⟩ := Row.slice H45 (i := 0) rfl
    refine r_cons (s_assign (.slice pp47 1 cc48) rfl rfl ?_)
    refine r_nil ?_
    refine g_inBlock ?_
    refine g_region ?_
    refine r_cons (s_add 1 rfl rfl (wi64 (by omega)) rfl ?_)
    refine r_cons (s_move (.int .i64 1) rfl rfl ?_)
    refine r_nil ?_
    refine g_inLoop ?_
    refine g_seq ?_
    refine g_region ?_
    refine r_cons (s_lss true rfl rfl (dtrue (by decide)) rfl ?_)
    refine r_nil ?_
    refine g_seq ?_
    refine g_true rfl ?_
    refine g_skip ?_
    refine g_seq ?_
    refine g_block ?_
    refine g_seq ?_
    refine g_region ?_
    refine r_cons (s_indexAddr bk4 1 5 5 rfl rfl el_44 (by omega) rfl rfl ?_)
    refine r_cons (s_loadAgg [.string c.right.var.v, .string c.right.attr.v, .int .i64 c.right.val.kind.v, .int .i64 c.right.val.n.v, .string c.right.val.s.v] 5 ag_25 rfl (H45.blk_at (i := 3) rfl) (Nat.le_of_ble_eq_true rfl) rfl rfl ?_)
    refine r_cons (s_alloc H45 25 ze_25 rfl ?_); intro bk49 w50 H51
    refine r_cons (s_storeAgg H51 0 #[.string c.right.var.v, .string c.right.attr.v, .int .i64 c.right.val.kind.v, .int .i64 c.right.val.n.v, .string c.right.val.s.v] 5 rfl rfl rfl sz_25 rfl (by simp [Value.oneCell']) (Nat.le_of_ble_eq_true rfl) (fun o h1 h2 => by first | (simp; done) | (simp; omega)) (cs' := #[.string c.right.var.v, .string c.right.attr.v, .int .i64 c.right.val.kind.v, .int .i64 c.right.val.n.v, .string c.right.val.s.v]) rfl ?_); intro w52 H53
    refine r_nil ?_
    refine g_seq ?_
    refine g_region ?_
    refine r_cons (s_fieldAddr 25 1 1 1 9 rfl fi_25_1 rfl rfl ?_)
    refine r_cons (s_load (.string c.right.attr.v) ag_9 rfl (H53.blk_at (i := 0) rfl) rfl rfl ?_)
    by_cases hc54 : c.right.attr.v = ByteArray.empty
    · skip
      refine r_cons (s_sneq false rfl rfl (ntrue hc54) rfl ?_)
      refine r_nil ?_
      refine g_false rfl ?_
      refine g_skip ?_
      refine g_inBlock ?_
      refine g_region ?_
      refine r_cons (s_add 2 rfl rfl (wi64 (by omega)) rfl ?_)
      refine r_cons (s_move (.int .i64 2) rfl rfl ?_)
      refine r_nil ?_
      refine g_inLoop ?_
      refine g_seq ?_
      refine g_region ?_
      refine r_cons (s_lss false rfl rfl (dfalse (by decide)) rfl ?_)
      refine r_nil ?_
      refine g_seq ?_
      refine g_false rfl ?_
      refine g_exit (by rfl) ?_
      refine g_seq ?_
      refine g_region ?_
      refine r_cons (s_move (.slice pp47 1 cc48) rfl rfl ?_)
      refine r_cons (s_call [.slice pp47 1 cc48] pl_38 rfl rfl (sort_1 pp47 cc48 H53) ?_)
      rintro _ w55 ⟨rfl, H56⟩
      refine r_nil ?_
      refine g_seq ?_
      refine g_region ?_
      refine r_cons (s_move (.slice pp47 1 cc48) rfl rfl ?_)
      refine r_cons (s_call [.slice pp47 1 cc48] pl_39 rfl rfl (compact_1 pp47 cc48 H56) ?_)
      rintro _ w57 ⟨rfl, H58⟩
      refine r_cons (s_assign (.slice pp47 1 cc48) rfl rfl ?_)
      refine r_nil ?_
      refine g_ret' [.slice pp47 1 cc48] Try.func20 Try.results20 ⟨rfl, trivial⟩ ?_
      have hN := names_l hc12 hc54
      have H59 : St W w57 (Row 9 1 (.slice pp47 1 cc48) 1 [.string c.left.var.v] :: F) := ((((((H58.move 1 rfl).drop 1 rfl).drop 1 rfl).drop 1 rfl).drop 1 rfl).drop 1 rfl)
      exact ⟨_, _, by rw [hN]; rfl, by rw [hN]; exact Row.im H59 (i := 0) rfl⟩
    · skip
      refine r_cons (s_sneq true rfl rfl (nfalse hc54) rfl ?_)
      refine r_nil ?_
      refine g_true rfl ?_
      refine g_region ?_
      refine r_cons (s_move (.slice pp47 1 cc48) rfl rfl ?_)
      refine r_cons (s_fieldAddr 25 0 0 0 9 rfl fi_25_0 rfl rfl ?_)
      refine r_cons (s_load (.string c.right.var.v) ag_9 rfl (H53.blk_at (i := 0) rfl) rfl rfl ?_)
      refine r_cons (s_buildSlice H53 1 1 (cs := #[.string c.right.var.v]) #[.string ByteArray.empty] el_49 ze_9 (by decide) (by decide) (by kernel_rfl) rfl ?_); intro bk60 w61 H62
      refine r_cons (s_append H62 2 rfl rfl rfl (rd_blk (H62.blk_at (i := 0) rfl) rfl (Nat.le_of_ble_eq_true rfl) (by simp [Value.oneCell'])) ap_49 (by decide) (by unfold maxLen; omega) (by omega) (n' := 2) (xs' := [.string c.left.var.v] ++ ([.string c.right.var.v] : List Value)) (by omega) (by first | rfl | simp) rfl ?_); intro vv63 w64 H65 hn66
      obtain ⟨pp67, cc68, rfl⟩ := Row.slice H65 (i := 2) rfl
      refine r_cons (s_assign (.slice pp67 2 cc68) rfl rfl ?_)
      refine r_nil ?_
      refine g_inBlock ?_
      refine g_region ?_
      refine r_cons (s_add 2 rfl rfl (wi64 (by omega)) rfl ?_)
      refine r_cons (s_move (.int .i64 2) rfl rfl ?_)
      refine r_nil ?_
      refine g_inLoop ?_
      refine g_seq ?_
      refine g_region ?_
      refine r_cons (s_lss false rfl rfl (dfalse (by decide)) rfl ?_)
      refine r_nil ?_
      refine g_seq ?_
      refine g_false rfl ?_
      refine g_exit (by rfl) ?_
      refine g_seq ?_
      refine g_region ?_
      refine r_cons (s_move (.slice pp67 2 cc68) rfl rfl ?_)
      refine r_cons (s_call [.slice pp67 2 cc68] pl_38 rfl rfl (sort_2 pp67 cc68 c.left.var c.right.var (i := 2) rfl H65) ?_)
      rintro _ w69 ⟨rfl, H70⟩
      by_cases hb71 : sLt c.right.var.v c.left.var.v = true
      · skip
        have H72 : St W w69 (blk bk60 (.cells #[.string c.right.var.v] 9 (0, 0)) :: blk bk49 (.cells #[.string c.right.var.v, .string c.right.attr.v, .int .i64 c.right.val.kind.v, .int .i64 c.right.val.n.v, .string c.right.val.s.v] 25 (0, 0)) :: Row 9 1 (.slice pp67 2 cc68) 2 ([c.right.var, c.left.var].flatMap strCell) :: blk bk39 (.cells #[.string c.left.var.v] 9 (0, 0)) :: blk bk7 (.cells #[.string c.left.var.v, .string c.left.attr.v, .int .i64 c.left.val.kind.v, .int .i64 c.left.val.n.v, .string c.left.val.s.v] 25 (0, 0)) :: blk bk4 (.cells #[.string c.left.var.v, .string c.left.attr.v, .int .i64 c.left.val.kind.v, .int .i64 c.left.val.n.v, .string c.left.val.s.v, .string c.right.var.v, .string c.right.attr.v, .int .i64 c.right.val.kind.v, .int .i64 c.right.val.n.v, .string c.right.val.s.v] 25 (0, 0)) :: blk bk1 (.cells #[.string c.left.var.v, .string c.left.attr.v, .int .i64 c.left.val.kind.v, .int .i64 c.left.val.n.v, .string c.left.val.s.v, .int .i64 c.rel.v, .string c.right.var.v, .string c.right.attr.v, .int .i64 c.right.val.kind.v, .int .i64 c.right.val.n.v, .string c.right.val.s.v] 27 (0, 0)) :: F) := by have hx := H70; rw [if_pos hb71] at hx; exact hx
        refine r_nil ?_
        refine g_seq ?_
        refine g_region ?_
        refine r_cons (s_move (.slice pp67 2 cc68) rfl rfl ?_)
        refine r_cons (s_call [.slice pp67 2 cc68] pl_39 rfl rfl (compact_2 pp67 cc68 c.right.var c.left.var (i := 2) rfl H72) ?_)
        rintro _ w75 (⟨he73, rfl, H74⟩ | ⟨he73, rfl, H74⟩)
        · skip
          refine r_cons (s_assign (.slice pp67 1 cc68) rfl rfl ?_)
          refine r_nil ?_
          refine g_ret' [.slice pp67 1 cc68] Try.func20 Try.results20 ⟨rfl, trivial⟩ ?_
          exact absurd he73.symm (sLt_ne hb71)
        · skip
          refine r_cons (s_assign (.slice pp67 2 cc68) rfl rfl ?_)
          refine r_nil ?_
          refine g_ret' [.slice pp67 2 cc68] Try.func20 Try.results20 ⟨rfl, trivial⟩ ?_
          have hN := names_gt hc12 hc54 hb71
          have H76 : St W w75 (Row 9 1 (.slice pp67 2 cc68) 2 ([c.right.var, c.left.var].flatMap strCell) :: F) := (((((((H74.move 2 rfl).drop 1 rfl).drop 1 rfl).drop 1 rfl).drop 1 rfl).drop 1 rfl).drop 1 rfl)
          exact ⟨_, _, by rw [hN]; rfl, by rw [hN]; exact Row.im H76 (i := 0) rfl⟩
      · skip
        have H77 : St W w69 (blk bk60 (.cells #[.string c.right.var.v] 9 (0, 0)) :: blk bk49 (.cells #[.string c.right.var.v, .string c.right.attr.v, .int .i64 c.right.val.kind.v, .int .i64 c.right.val.n.v, .string c.right.val.s.v] 25 (0, 0)) :: Row 9 1 (.slice pp67 2 cc68) 2 ([c.left.var, c.right.var].flatMap strCell) :: blk bk39 (.cells #[.string c.left.var.v] 9 (0, 0)) :: blk bk7 (.cells #[.string c.left.var.v, .string c.left.attr.v, .int .i64 c.left.val.kind.v, .int .i64 c.left.val.n.v, .string c.left.val.s.v] 25 (0, 0)) :: blk bk4 (.cells #[.string c.left.var.v, .string c.left.attr.v, .int .i64 c.left.val.kind.v, .int .i64 c.left.val.n.v, .string c.left.val.s.v, .string c.right.var.v, .string c.right.attr.v, .int .i64 c.right.val.kind.v, .int .i64 c.right.val.n.v, .string c.right.val.s.v] 25 (0, 0)) :: blk bk1 (.cells #[.string c.left.var.v, .string c.left.attr.v, .int .i64 c.left.val.kind.v, .int .i64 c.left.val.n.v, .string c.left.val.s.v, .int .i64 c.rel.v, .string c.right.var.v, .string c.right.attr.v, .int .i64 c.right.val.kind.v, .int .i64 c.right.val.n.v, .string c.right.val.s.v] 27 (0, 0)) :: F) := by have hx := H70; rw [if_neg hb71] at hx; exact hx
        refine r_nil ?_
        refine g_seq ?_
        refine g_region ?_
        refine r_cons (s_move (.slice pp67 2 cc68) rfl rfl ?_)
        refine r_cons (s_call [.slice pp67 2 cc68] pl_39 rfl rfl (compact_2 pp67 cc68 c.left.var c.right.var (i := 2) rfl H77) ?_)
        rintro _ w80 (⟨he78, rfl, H79⟩ | ⟨he78, rfl, H79⟩)
        · skip
          refine r_cons (s_assign (.slice pp67 1 cc68) rfl rfl ?_)
          refine r_nil ?_
          refine g_ret' [.slice pp67 1 cc68] Try.func20 Try.results20 ⟨rfl, trivial⟩ ?_
          have hN := names_e hc12 hc54 (by exact he78.symm)
          have H81 : St W w80 (Row 9 1 (.slice pp67 1 cc68) 1 ([c.left.var].flatMap strCell) :: F) := (((((((H79.move 2 rfl).drop 1 rfl).drop 1 rfl).drop 1 rfl).drop 1 rfl).drop 1 rfl).drop 1 rfl)
          exact ⟨_, _, by rw [hN]; rfl, by rw [hN]; exact Row.im H81 (i := 0) rfl⟩
        · skip
          refine r_cons (s_assign (.slice pp67 2 cc68) rfl rfl ?_)
          refine r_nil ?_
          refine g_ret' [.slice pp67 2 cc68] Try.func20 Try.results20 ⟨rfl, trivial⟩ ?_
          have hN := names_lt hc12 hc54 (by cases hq : sLt c.left.var.v c.right.var.v with | true => rfl | false => exact absurd (sLt_total hq (by simpa using hb71)).symm he78)
          have H82 : St W w80 (Row 9 1 (.slice pp67 2 cc68) 2 ([c.left.var, c.right.var].flatMap strCell) :: F) := (((((((H79.move 2 rfl).drop 1 rfl).drop 1 rfl).drop 1 rfl).drop 1 rfl).drop 1 rfl).drop 1 rfl)
          exact ⟨_, _, by rw [hN]; rfl, by rw [hN]; exact Row.im H82 (i := 0) rfl⟩
set_option maxHeartbeats 4000000 in
set_option maxRecDepth 100000 in
theorem Index_str {W w : World} {F : List Atom} (L : List Str) (lv : Value) (s : ByteArray) {m : Nat} (hm : F[m]? = some (Im 1 lv L.length (L.flatMap strCell))) (H : St W w F) : Calls Try.prog 57 #[lv, .string s] w (Ret fun v w' => v = .int .i64 (idxB (fun x : Str => decide (s = x.v)) L) ∧ St W w' F) := by
  obtain ⟨pp1, cc2, rfl, hn3⟩ := Rd.shape (Im.rd H (i := m) hm)
  have H4 := H.dup (i := m + 0) (by exact hm) (Im_pers _ _ _ _)
  have H5 : St W w (Im 1 (.slice pp1 L.length cc2) L.length (L.flatMap strCell) :: F) := H4
  obtain ⟨pA6, cA7, gA8, oA9, kA10, eA11, zA12, he18, hn13, hp14, hx15, hs16, hml, H17⟩ := Im.open_ H5 (i := 0) rfl
  obtain ⟨rfl, rfl⟩ : pp1 = pA6 ∧ cc2 = cA7 := by injection he18 with a_ b_ c_; exact ⟨a_, c_⟩
  refine calls_of_go (n := 19) Try.func57 rfl Try.ntmps57 rfl ?_
  refine g_seq ?_
  refine g_region ?_
  refine r_cons (s_assign (.int .i64 0) rfl rfl ?_)
  refine r_nil ?_
  refine g_seq ?_
  refine g_seq ?_
  refine g_region ?_
  refine r_cons (s_move (.slice pp1 L.length cc2) rfl rfl ?_)
  refine r_cons (s_len L.length rfl ⟨_, un_49⟩ rfl ?_)
  refine r_cons (s_move (.int .i64 0) rfl rfl ?_)
  refine r_nil ?_
  refine g_block ?_
  have H19 : St W w (imi (0 < L.length) gA8 (.cells kA10 eA11 zA12) :: Im 1 (.slice pp1 L.length cc2) L.length (L.flatMap strCell) :: F) := ((H17.move 1 rfl).move 1 rfl)
  refine g_loop_inv (fun (x_ : Nat) => match x_ with | j => [(0, .slice pp1 L.length cc2), (1, .string s), (4, .int .i64 0), (7, .int .i64 (L.length : Int)), (8, .int .i64 (j : Int))]) (fun (x_ : Nat) w => match x_ with | j => (j ≤ L.length) ∧ (∀ q, q < j → decide (s = (L.getD q default).v) = false) ∧ St W w (imi (0 < L.length) gA8 (.cells kA10 eA11 zA12) :: Im 1 (.slice pp1 L.length cc2) L.length (L.flatMap strCell) :: F)) (fun (x_ : Nat) => match x_ with | j => L.length - j) (0) ?_ ?_ ?_
  · exact ⟨by first | rfl | exact vint (by omega), by first | rfl | exact vint (by omega), by first | rfl | exact vint (by omega), by first | rfl | exact vint (by omega), by first | rfl | exact vint (by omega), trivial⟩
  · exact ⟨(by omega), (fun q hq => by omega), H19⟩
  · rintro j ρ20 w21 ⟨hjn, hz, H22⟩ nx23
    change Ends _ _ (upds ρ20 [(0, .slice pp1 L.length cc2), (1, .string s), (4, .int .i64 0), (7, .int .i64 (L.length : Int)), (8, .int .i64 (j : Int))]) w21
    refine g_seq ?_
    refine g_region ?_
    by_cases hc24 : (j : Int) < (L.length : Int)
    · skip
      refine r_cons (s_lss true rfl rfl (dtrue hc24) rfl ?_)
      refine r_nil ?_
      refine g_seq ?_
      refine g_true rfl ?_
      refine g_skip ?_
      refine g_seq ?_
      refine g_block ?_
      refine g_seq ?_
      refine g_region ?_
      refine r_cons (s_move (.int .i64 (j : Int)) rfl rfl ?_)
      refine r_cons (s_assign (.int .i64 (j : Int)) rfl rfl ?_)
      refine r_nil ?_
      refine g_seq ?_
      refine g_region ?_
      refine r_cons (s_move (.string s) rfl rfl ?_)
      refine r_cons (s_move (.slice pp1 L.length cc2) rfl rfl ?_)
      refine r_cons (s_move (.int .i64 (j : Int)) rfl rfl ?_)
      refine r_cons (s_indexAddr gA8 (off := oA9) (j : Int) 1 (oA9 + j * 1) (by exact congrArg (fun z_ => Value.slice z_ L.length cc2) (hp14 (by omega))) rfl el_49 (by omega) rfl rfl ?_)
      refine r_cons (s_load (.string ((L.getD j default).v)) ag_9 rfl (H22.imi_at (i := 0) rfl (by omega)) (elem_cell (L := L) (i := j) strCell_len (hx15 (by omega)) (by omega) default 0 (by decide) _ rfl) rfl ?_)
      by_cases hc25 : s = (L.getD j default).v
      · skip
        refine r_cons (s_seql true rfl rfl (dtrue hc25) rfl ?_)
        refine r_nil ?_
        refine g_true rfl ?_
        refine g_seq ?_
        refine g_region ?_
        refine r_cons (s_move (.int .i64 (j : Int)) rfl rfl ?_)
        refine r_cons (s_assign (.int .i64 (j : Int)) rfl rfl ?_)
        refine r_nil ?_
        refine g_ret' [.int .i64 (j : Int)] Try.func57 Try.results57 ⟨rfl, trivial⟩ ?_
        have H26 : St W w21 F := ((H22.drop 0 rfl).drop 0 rfl)
        exact ⟨vint (idxB_at (p := fun x : Str => decide (s = x.v)) hz (by omega) (decide_eq_true hc25)).symm, H26⟩
      · skip
        refine r_cons (s_seql false rfl rfl (dfalse hc25) rfl ?_)
        refine r_nil ?_
        refine g_false rfl ?_
        refine g_skip ?_
        refine g_inBlock ?_
        refine g_region ?_
        refine r_cons (s_add ((j : Int) + 1) rfl rfl (wi64 (by omega)) rfl ?_)
        refine r_cons (s_move (.int .i64 ((j : Int) + 1)) rfl rfl ?_)
        refine r_nil ?_
        have H27 : St W w21 (imi (0 < L.length) gA8 (.cells kA10 eA11 zA12) :: Im 1 (.slice pp1 L.length cc2) L.length (L.flatMap strCell) :: F) := ((H22.move 1 rfl).move 1 rfl)
        exact nx23 (j + 1) _ _ ⟨(by omega), (fun q hq => (Nat.lt_or_ge q j).elim (hz q) (fun h => by rw [show q = j from by omega]; exact decide_eq_false hc25)), H27⟩ (by first | (dsimp only; omega) | omega) ⟨by first | rfl | exact vint (by omega), by first | rfl | exact vint (by omega), by first | rfl | exact vint (by omega), by first | rfl | exact vint (by omega), by first | rfl | exact vint (by omega), trivial⟩
    · skip
      refine r_cons (s_lss false rfl rfl (dfalse hc24) rfl ?_)
      refine r_nil ?_
      refine g_seq ?_
      refine g_false rfl ?_
      refine g_exit (by rfl) ?_
      refine g_seq ?_
      refine g_region ?_
      refine r_cons (s_assign (.int .i64 (-1)) rfl rfl ?_)
      refine r_nil ?_
      refine g_ret' [.int .i64 (-1)] Try.func57 Try.results57 ⟨rfl, trivial⟩ ?_
      have H28 : St W w21 F := ((H22.drop 0 rfl).drop 0 rfl)
      exact ⟨vint (idxB_none (p := fun x : Str => decide (s = x.v)) (fun q hq => hz q (by omega))).symm, H28⟩
set_option maxHeartbeats 4000000 in
set_option maxRecDepth 100000 in
theorem Contains_str {W w : World} {F : List Atom} (L : List Str) (lv : Value) (s : ByteArray) {m : Nat} (hm : F[m]? = some (Im 1 lv L.length (L.flatMap strCell))) (H : St W w F) : Calls Try.prog 42 #[lv, .string s] w (Ret fun v w' => v = .bool (hasS L s) ∧ St W w' F) := by
  refine calls_of_go (n := 9) Try.func42 rfl Try.ntmps42 rfl ?_
  refine g_seq ?_
  refine g_region ?_
  refine r_cons (s_assign (.bool false) rfl rfl ?_)
  refine r_nil ?_
  refine g_seq ?_
  refine g_region ?_
  refine r_cons (s_move (lv) rfl rfl ?_)
  refine r_cons (s_move (.string s) rfl rfl ?_)
  refine r_cons (s_call [lv, .string s] pl_57 rfl rfl (Index_str L lv s hm H) ?_)
  rintro _ w1 ⟨rfl, H2⟩
  refine r_cons (s_geq (decide ((0 : Int) ≤ idxB (fun x : Str => decide (s = x.v)) L)) rfl rfl rfl rfl ?_)
  refine r_cons (s_assign (.bool (decide ((0 : Int) ≤ idxB (fun x : Str => decide (s = x.v)) L))) rfl rfl ?_)
  refine r_nil ?_
  refine g_ret' [.bool (decide ((0 : Int) ≤ idxB (fun x : Str => decide (s = x.v)) L))] Try.func42 Try.results42 ⟨rfl, trivial⟩ ?_
  exact ⟨congrArg Value.bool (has_idx L s), H2⟩
set_option maxHeartbeats 4000000 in
set_option maxRecDepth 100000 in
theorem Equal_str {W w : World} {F : List Atom} (L M : List Str) (lv mv : Value) {m : Nat} (hm : F[m]? = some (Im 1 lv L.length (L.flatMap strCell))) {n : Nat} (hn : F[n]? = some (Im 1 mv M.length (M.flatMap strCell))) (H : St W w F) : Calls Try.prog 19 #[lv, mv] w (Ret fun v w' => v = .bool (eqS L M) ∧ St W w' F) := by
  obtain ⟨pp1, cc2, rfl, hn3⟩ := Rd.shape (Im.rd H (i := m) hm)
  have H4 := H.dup (i := m + 0) (by exact hm) (Im_pers _ _ _ _)
  have H5 : St W w (Im 1 (.slice pp1 L.length cc2) L.length (L.flatMap strCell) :: F) := H4
  obtain ⟨pp6, cc7, rfl, hn8⟩ := Rd.shape (Im.rd H (i := n) hn)
  have H9 := H5.dup (i := n + 1) (by exact hn) (Im_pers _ _ _ _)
  have H10 : St W w (Im 1 (.slice pp6 M.length cc7) M.length (M.flatMap strCell) :: Im 1 (.slice pp1 L.length cc2) L.length (L.flatMap strCell) :: F) := H9
  refine calls_of_go (n := 26) Try.func19 rfl Try.ntmps19 rfl ?_
  refine g_seq ?_
  refine g_region ?_
  refine r_cons (s_assign (.bool false) rfl rfl ?_)
  refine r_nil ?_
  refine g_seq ?_
  refine g_seq ?_
  refine g_region ?_
  refine r_cons (s_move (.slice pp1 L.length cc2) rfl rfl ?_)
  refine r_cons (s_len L.length rfl ⟨_, un_49⟩ rfl ?_)
  refine r_cons (s_move (.slice pp6 M.length cc7) rfl rfl ?_)
  refine r_cons (s_len M.length rfl ⟨_, un_49⟩ rfl ?_)
  by_cases hc11 : (L.length : Int) = (M.length : Int)
  · skip
    refine r_cons (s_neq false rfl rfl (ntrue hc11) rfl ?_)
    refine r_nil ?_
    refine g_false rfl ?_
    refine g_skip ?_
    refine g_seq ?_
    refine g_seq ?_
    refine g_region ?_
    refine r_cons (s_move (.slice pp1 L.length cc2) rfl rfl ?_)
    refine r_cons (s_len L.length rfl ⟨_, un_49⟩ rfl ?_)
    refine r_cons (s_move (.int .i64 0) rfl rfl ?_)
    refine r_nil ?_
    refine g_block ?_
    obtain ⟨pA12, cA13, gA14, oA15, kA16, eA17, zA18, he24, hn19, hp20, hx21, hs22, hml, H23⟩ := Im.open_ H10 (i := 1) rfl
    obtain ⟨rfl, rfl⟩ : pp1 = pA12 ∧ cc2 = cA13 := by injection he24 with a_ b_ c_; exact ⟨a_, c_⟩
    obtain ⟨pA25, cA26, gA27, oA28, kA29, eA30, zA31, he37, hn32, hp33, hx34, hs35, hml, H36⟩ := Im.open_ H23 (i := 1) rfl
    obtain ⟨rfl, rfl⟩ : pp6 = pA25 ∧ cc7 = cA26 := by injection he37 with a_ b_ c_; exact ⟨a_, c_⟩
    have H38 : St W w (imi (0 < M.length) gA27 (.cells kA29 eA30 zA31) :: imi (0 < L.length) gA14 (.cells kA16 eA17 zA18) :: Im 1 (.slice pp6 M.length cc7) M.length (M.flatMap strCell) :: Im 1 (.slice pp1 L.length cc2) L.length (L.flatMap strCell) :: F) := ((((H36.move 3 rfl).move 3 rfl).move 3 rfl).move 3 rfl)
    refine g_loop_inv (fun (x_ : Nat) => match x_ with | j => [(0, .slice pp1 L.length cc2), (1, .slice pp6 M.length cc7), (4, .bool false), (12, .int .i64 (L.length : Int)), (13, .int .i64 (j : Int))]) (fun (x_ : Nat) w => match x_ with | j => (j ≤ L.length) ∧ (∀ q, q < j → (L.getD q default).v = (M.getD q default).v) ∧ St W w (imi (0 < M.length) gA27 (.cells kA29 eA30 zA31) :: imi (0 < L.length) gA14 (.cells kA16 eA17 zA18) :: Im 1 (.slice pp6 M.length cc7) M.length (M.flatMap strCell) :: Im 1 (.slice pp1 L.length cc2) L.length (L.flatMap strCell) :: F)) (fun (x_ : Nat) => match x_ with | j => L.length - j) (0) ?_ ?_ ?_
    · exact ⟨by first | rfl | exact vint (by omega), by first | rfl | exact vint (by omega), by first | rfl | exact vint (by omega), by first | rfl | exact vint (by omega), by first | rfl | exact vint (by omega), trivial⟩
    · exact ⟨(by omega), (fun q hq => by omega), H38⟩
    · rintro j ρ39 w40 ⟨hjn, hz, H41⟩ nx42
      change Ends _ _ (upds ρ39 [(0, .slice pp1 L.length cc2), (1, .slice pp6 M.length cc7), (4, .bool false), (12, .int .i64 (L.length : Int)), (13, .int .i64 (j : Int))]) w40
      refine g_seq ?_
      refine g_region ?_
      by_cases hc43 : (j : Int) < (L.length : Int)
      · skip
        refine r_cons (s_lss true rfl rfl (dtrue hc43) rfl ?_)
        refine r_nil ?_
        refine g_seq ?_
        refine g_true rfl ?_
        refine g_skip ?_
        refine g_seq ?_
        refine g_block ?_
        refine g_seq ?_
        refine g_region ?_
        refine r_cons (s_move (.int .i64 (j : Int)) rfl rfl ?_)
        refine r_cons (s_assign (.int .i64 (j : Int)) rfl rfl ?_)
        refine r_nil ?_
        refine g_seq ?_
        refine g_quiet (fun w' => St W w' (imi (0 < M.length) gA27 (.cells kA29 eA30 zA31) :: imi (0 < L.length) gA14 (.cells kA16 eA17 zA18) :: Im 1 (.slice pp6 M.length cc7) M.length (M.flatMap strCell) :: Im 1 (.slice pp1 L.length cc2) L.length (L.flatMap strCell) :: F)) mixed (by kernel_rfl) H41.drew ?_
        refine q_cons (q_val rfl rfl rfl (by intro w hw; exact x_move (.slice pp1 L.length cc2) rfl w) ?_)
        refine q_cons (q_val rfl rfl rfl (by intro w hw; exact x_move (.int .i64 (j : Int)) rfl w) ?_)
        refine q_cons (q_val rfl rfl rfl (by intro w hw; exact x_indexAddr gA14 (off := oA15) (j : Int) 1 (oA15 + j * 1) (by exact congrArg (fun z_ => Value.slice z_ L.length cc2) (hp20 (by omega))) rfl el_49 (by omega) rfl w) ?_)
        refine q_cons (q_val rfl rfl rfl (by intro w hw; exact x_load (.string ((L.getD j default).v)) ag_9 rfl (hw.imi_at (i := 1) rfl (by omega)) (elem_cell (L := L) (i := j) strCell_len (hx21 (by omega)) (by omega) default 0 (by decide) _ rfl)) ?_)
        refine q_cons (q_val rfl rfl rfl (by intro w hw; exact x_move (.slice pp6 M.length cc7) rfl w) ?_)
        refine q_cons (q_val rfl rfl rfl (by intro w hw; exact x_move (.int .i64 (j : Int)) rfl w) ?_)
        refine q_cons (q_val rfl rfl rfl (by intro w hw; exact x_indexAddr gA27 (off := oA28) (j : Int) 1 (oA28 + j * 1) (by exact congrArg (fun z_ => Value.slice z_ M.length cc7) (hp33 (by omega))) rfl el_49 (by omega) rfl w) ?_)
        refine q_cons (q_val rfl rfl rfl (by intro w hw; exact x_load (.string ((M.getD j default).v)) ag_9 rfl (hw.imi_at (i := 0) rfl (by omega)) (elem_cell (L := M) (i := j) strCell_len (hx34 (by omega)) (by omega) default 0 (by decide) _ rfl)) ?_)
        by_cases hc44 : (L.getD j default).v = (M.getD j default).v
        · skip
          refine q_cons (q_val rfl rfl rfl (by intro w hw; exact x_sneq false rfl rfl (ntrue hc44) w) ?_)
          refine q_nil ?_
          intro w45 H46
          refine g_false rfl ?_
          refine g_skip ?_
          refine g_inBlock ?_
          refine g_region ?_
          refine r_cons (s_add ((j : Int) + 1) rfl rfl (wi64 (by omega)) rfl ?_)
          refine r_cons (s_move (.int .i64 ((j : Int) + 1)) rfl rfl ?_)
          refine r_nil ?_
          have H47 : St W w45 (imi (0 < M.length) gA27 (.cells kA29 eA30 zA31) :: imi (0 < L.length) gA14 (.cells kA16 eA17 zA18) :: Im 1 (.slice pp6 M.length cc7) M.length (M.flatMap strCell) :: Im 1 (.slice pp1 L.length cc2) L.length (L.flatMap strCell) :: F) := ((((H46.move 3 rfl).move 3 rfl).move 3 rfl).move 3 rfl)
          exact nx42 (j + 1) _ _ ⟨(by omega), (fun q hq => (Nat.lt_or_ge q j).elim (hz q) (fun h => by rw [show q = j from by omega]; exact hc44)), H47⟩ (by first | (dsimp only; omega) | omega) ⟨by first | rfl | exact vint (by omega), by first | rfl | exact vint (by omega), by first | rfl | exact vint (by omega), by first | rfl | exact vint (by omega), by first | rfl | exact vint (by omega), trivial⟩
        · skip
          refine q_cons (q_val rfl rfl rfl (by intro w hw; exact x_sneq true rfl rfl (nfalse hc44) w) ?_)
          refine q_nil ?_
          intro w48 H49
          refine g_true rfl ?_
          refine g_seq ?_
          refine g_region ?_
          refine r_cons (s_assign (.bool false) rfl rfl ?_)
          refine r_nil ?_
          refine g_ret' [.bool false] Try.func19 Try.results19 ⟨rfl, trivial⟩ ?_
          have H50 : St W w48 F := ((((H49.drop 0 rfl).drop 0 rfl).drop 0 rfl).drop 0 rfl)
          exact ⟨congrArg Value.bool (eqS_at hc44).symm, H50⟩
      · skip
        refine r_cons (s_lss false rfl rfl (dfalse hc43) rfl ?_)
        refine r_nil ?_
        refine g_seq ?_
        refine g_false rfl ?_
        refine g_exit (by rfl) ?_
        refine g_seq ?_
        refine g_region ?_
        refine r_cons (s_assign (.bool true) rfl rfl ?_)
        refine r_nil ?_
        refine g_ret' [.bool true] Try.func19 Try.results19 ⟨rfl, trivial⟩ ?_
        have H51 : St W w40 F := ((((H41.drop 0 rfl).drop 0 rfl).drop 0 rfl).drop 0 rfl)
        exact ⟨congrArg Value.bool (eqS_all (by omega) (fun q hq => hz q (by omega))).symm, H51⟩
  · skip
    refine r_cons (s_neq true rfl rfl (nfalse hc11) rfl ?_)
    refine r_nil ?_
    refine g_true rfl ?_
    refine g_seq ?_
    refine g_region ?_
    refine r_cons (s_assign (.bool false) rfl rfl ?_)
    refine r_nil ?_
    refine g_ret' [.bool false] Try.func19 Try.results19 ⟨rfl, trivial⟩ ?_
    have H52 : St W w F := ((H10.drop 0 rfl).drop 0 rfl)
    exact ⟨congrArg Value.bool (eqS_len (by omega)).symm, H52⟩
set_option maxHeartbeats 4000000 in
set_option maxRecDepth 100000 in
theorem pred_Ready1 {W w : World} {F : List Atom} (s : ByteArray) (g : Nat) (vars : List Str) (vv : Value) {i : Nat} (hi : F[i]? = some (blk g (.cells #[vv] 49 (0, 0)))) {jv : Nat} (hv : F[jv]? = some (Im 1 vv vars.length (vars.flatMap strCell))) (H : St W w F) : Calls Try.prog 41 #[.string s, .pointer (some ⟨g, 0, none⟩)] w (Ret fun v w' => v = .bool (!hasS vars s) ∧ St W w' F) := by
  obtain ⟨pp1, cc2, rfl, hn3⟩ := Rd.shape (Im.rd H (i := jv) hv)
  have H4 := H.dup (i := jv + 0) (by exact hv) (Im_pers _ _ _ _)
  have H5 : St W w (Im 1 (.slice pp1 vars.length cc2) vars.length (vars.flatMap strCell) :: F) := H4
  have H6 := H5.front (i := i + 1) (by exact hi)
  refine calls_of_go (n := 8) Try.func41 rfl Try.ntmps41 rfl ?_
  refine g_seq ?_
  refine g_region ?_
  refine r_cons (s_assign (.bool false) rfl rfl ?_)
  refine r_nil ?_
  refine g_seq ?_
  refine g_region ?_
  refine r_cons (s_load (.slice pp1 vars.length cc2) ag_49 rfl (H6.blk_at (i := 0) rfl) rfl rfl ?_)
  refine r_cons (s_move (.string s) rfl rfl ?_)
  refine r_cons (s_call [.slice pp1 vars.length cc2, .string s] pl_42 rfl rfl (Contains_str vars (.slice pp1 vars.length cc2) s (m := 1) rfl H6) ?_)
  rintro _ w7 ⟨rfl, H8⟩
  refine r_cons (s_not (hasS vars s) rfl (!(hasS vars s)) rfl rfl ?_)
  refine r_cons (s_assign (.bool (!(hasS vars s))) rfl rfl ?_)
  refine r_nil ?_
  refine g_ret' [.bool (!(hasS vars s))] Try.func41 Try.results41 ⟨rfl, trivial⟩ ?_
  have H9 : St W w7 (blk g (.cells #[.slice pp1 vars.length cc2] 49 (0, 0)) :: (F.set i emp)) := (H8.drop 1 rfl)
  exact ⟨rfl, St.back_same hi H9⟩
set_option maxHeartbeats 4000000 in
set_option maxRecDepth 100000 in
theorem IndexFunc_str {W w : World} {F : List Atom} (L : List Str) (lv : Value) (g : Nat) (vars : List Str) (vv : Value) {m : Nat} (hm : F[m]? = some (Im 1 lv L.length (L.flatMap strCell))) {i : Nat} (hi : F[i]? = some (blk g (.cells #[vv] 49 (0, 0)))) {jv : Nat} (hv : F[jv]? = some (Im 1 vv vars.length (vars.flatMap strCell))) (H : St W w F) : Calls Try.prog 56 #[lv, .func (.func 41) #[] #[.pointer (some ⟨g, 0, none⟩)]] w (Ret fun v w' => v = .int .i64 (idxB (fun x : Str => !hasS vars x.v) L) ∧ St W w' F) := by
  obtain ⟨pp1, cc2, rfl, hn3⟩ := Rd.shape (Im.rd H (i := m) hm)
  have H4 := H.dup hm (Im_pers _ _ _ _)
  have H5 := H4.dup (i := jv + 1) (by exact hv) (Im_pers _ _ _ _)
  have H6 := H5.front (i := i + 2) (by exact hi)
  obtain ⟨pA7, cA8, gA9, oA10, kA11, eA12, zA13, he19, hn14, hp15, hx16, hs17, hml, H18⟩ := Im.open_ H6 (i := 2) rfl
  obtain ⟨rfl, rfl⟩ : pp1 = pA7 ∧ cc2 = cA8 := by injection he19 with a_ b_ c_; exact ⟨a_, c_⟩
  refine calls_of_go (n := 19) Try.func56 rfl Try.ntmps56 rfl ?_
  refine g_seq ?_
  refine g_region ?_
  refine r_cons (s_assign (.int .i64 0) rfl rfl ?_)
  refine r_nil ?_
  refine g_seq ?_
  refine g_seq ?_
  refine g_region ?_
  refine r_cons (s_move (.slice pp1 L.length cc2) rfl rfl ?_)
  refine r_cons (s_len L.length rfl ⟨_, un_49⟩ rfl ?_)
  refine r_cons (s_move (.int .i64 0) rfl rfl ?_)
  refine r_nil ?_
  refine g_block ?_
  have H20 : St W w (imi (0 < L.length) gA9 (.cells kA11 eA12 zA13) :: blk g (.cells #[vv] 49 (0, 0)) :: Im 1 vv vars.length (vars.flatMap strCell) :: Im 1 (.slice pp1 L.length cc2) L.length (L.flatMap strCell) :: (F.set i emp)) := ((((H18.move 3 rfl).move 3 rfl).move 3 rfl).move 3 rfl)
  refine g_loop_inv (fun (x_ : Nat) => match x_ with | j => [(0, .slice pp1 L.length cc2), (1, .func (.func 41) #[] #[.pointer (some ⟨g, 0, none⟩)]), (4, .int .i64 0), (7, .int .i64 (L.length : Int)), (8, .int .i64 (j : Int))]) (fun (x_ : Nat) w => match x_ with | j => (j ≤ L.length) ∧ (∀ q, q < j → (fun x : Str => !hasS vars x.v) (L.getD q default) = false) ∧ St W w (imi (0 < L.length) gA9 (.cells kA11 eA12 zA13) :: blk g (.cells #[vv] 49 (0, 0)) :: Im 1 vv vars.length (vars.flatMap strCell) :: Im 1 (.slice pp1 L.length cc2) L.length (L.flatMap strCell) :: (F.set i emp))) (fun (x_ : Nat) => match x_ with | j => L.length - j) (0) ?_ ?_ ?_
  · exact ⟨by first | rfl | exact vint (by omega), by first | rfl | exact vint (by omega), by first | rfl | exact vint (by omega), by first | rfl | exact vint (by omega), by first | rfl | exact vint (by omega), trivial⟩
  · exact ⟨(by omega), (fun q hq => by omega), H20⟩
  · rintro j ρ21 w22 ⟨hjn, hz, H23⟩ nx24
    change Ends _ _ (upds ρ21 [(0, .slice pp1 L.length cc2), (1, .func (.func 41) #[] #[.pointer (some ⟨g, 0, none⟩)]), (4, .int .i64 0), (7, .int .i64 (L.length : Int)), (8, .int .i64 (j : Int))]) w22
    refine g_seq ?_
    refine g_region ?_
    by_cases hc25 : (j : Int) < (L.length : Int)
    · skip
      refine r_cons (s_lss true rfl rfl (dtrue hc25) rfl ?_)
      refine r_nil ?_
      refine g_seq ?_
      refine g_true rfl ?_
      refine g_skip ?_
      refine g_seq ?_
      refine g_block ?_
      refine g_seq ?_
      refine g_region ?_
      refine r_cons (s_move (.int .i64 (j : Int)) rfl rfl ?_)
      refine r_cons (s_assign (.int .i64 (j : Int)) rfl rfl ?_)
      refine r_nil ?_
      refine g_seq ?_
      refine g_region ?_
      refine r_cons (s_move (.func (.func 41) #[] #[.pointer (some ⟨g, 0, none⟩)]) rfl rfl ?_)
      refine r_cons (s_move (.slice pp1 L.length cc2) rfl rfl ?_)
      refine r_cons (s_move (.int .i64 (j : Int)) rfl rfl ?_)
      refine r_cons (s_indexAddr gA9 (off := oA10) (j : Int) 1 (oA10 + j * 1) (by exact congrArg (fun z_ => Value.slice z_ L.length cc2) (hp15 (by omega))) rfl el_49 (by omega) rfl rfl ?_)
      refine r_cons (s_load (.string ((L.getD j default).v)) ag_9 rfl (H23.imi_at (i := 0) rfl (by omega)) (elem_cell (L := L) (i := j) strCell_len (hx16 (by omega)) (by omega) default 0 (by decide) _ rfl) rfl ?_)
      refine r_cons (s_callv [.pointer (some ⟨g, 0, none⟩)] [.string ((L.getD j default).v), .pointer (some ⟨g, 0, none⟩)] rfl pl_41 rfl rfl (pred_Ready1 ((L.getD j default).v) g vars vv (i := 1) rfl (jv := 2) rfl H23) ?_)
      rintro _ w26 ⟨rfl, H27⟩
      refine r_nil ?_
      by_cases hb28 : (!hasS vars ((L.getD j default).v)) = true
      · skip
        refine g_true (congrArg Value.bool hb28) ?_
        refine g_seq ?_
        refine g_region ?_
        refine r_cons (s_move (.int .i64 (j : Int)) rfl rfl ?_)
        refine r_cons (s_assign (.int .i64 (j : Int)) rfl rfl ?_)
        refine r_nil ?_
        refine g_ret' [.int .i64 (j : Int)] Try.func56 Try.results56 ⟨rfl, trivial⟩ ?_
        have H29 : St W w26 (blk g (.cells #[vv] 49 (0, 0)) :: (F.set i emp)) := ((((H27.move 1 rfl).drop 1 rfl).drop 1 rfl).drop 1 rfl)
        exact ⟨vint (idxB_at (p := fun x : Str => !hasS vars x.v) hz (by omega) (by exact hb28)).symm, St.back_same hi H29⟩
      · have hb28 := eq_false_of_ne_true hb28
        refine g_false (congrArg Value.bool hb28) ?_
        refine g_skip ?_
        refine g_inBlock ?_
        refine g_region ?_
        refine r_cons (s_add ((j : Int) + 1) rfl rfl (wi64 (by omega)) rfl ?_)
        refine r_cons (s_move (.int .i64 ((j : Int) + 1)) rfl rfl ?_)
        refine r_nil ?_
        have H30 : St W w26 (imi (0 < L.length) gA9 (.cells kA11 eA12 zA13) :: blk g (.cells #[vv] 49 (0, 0)) :: Im 1 vv vars.length (vars.flatMap strCell) :: Im 1 (.slice pp1 L.length cc2) L.length (L.flatMap strCell) :: (F.set i emp)) := ((((H27.move 3 rfl).move 3 rfl).move 3 rfl).move 3 rfl)
        exact nx24 (j + 1) _ _ ⟨(by omega), (fun q hq => (Nat.lt_or_ge q j).elim (hz q) (fun h => by rw [show q = j from by omega]; exact hb28)), H30⟩ (by first | (dsimp only; omega) | omega) ⟨by first | rfl | exact vint (by omega), by first | rfl | exact vint (by omega), by first | rfl | exact vint (by omega), by first | rfl | exact vint (by omega), by first | rfl | exact vint (by omega), trivial⟩
    · skip
      refine r_cons (s_lss false rfl rfl (dfalse hc25) rfl ?_)
      refine r_nil ?_
      refine g_seq ?_
      refine g_false rfl ?_
      refine g_exit (by rfl) ?_
      refine g_seq ?_
      refine g_region ?_
      refine r_cons (s_assign (.int .i64 (-1)) rfl rfl ?_)
      refine r_nil ?_
      refine g_ret' [.int .i64 (-1)] Try.func56 Try.results56 ⟨rfl, trivial⟩ ?_
      have H31 : St W w22 (blk g (.cells #[vv] 49 (0, 0)) :: (F.set i emp)) := ((((H23.move 1 rfl).drop 1 rfl).drop 1 rfl).drop 1 rfl)
      exact ⟨vint (idxB_none (p := fun x : Str => !hasS vars x.v) (fun q hq => hz q (by omega))).symm, St.back_same hi H31⟩
set_option maxHeartbeats 4000000 in
set_option maxRecDepth 100000 in
theorem ContainsFunc_str {W w : World} {F : List Atom} (L : List Str) (lv : Value) (g : Nat) (vars : List Str) (vv : Value) {m : Nat} (hm : F[m]? = some (Im 1 lv L.length (L.flatMap strCell))) {i : Nat} (hi : F[i]? = some (blk g (.cells #[vv] 49 (0, 0)))) {jv : Nat} (hv : F[jv]? = some (Im 1 vv vars.length (vars.flatMap strCell))) (H : St W w F) : Calls Try.prog 40 #[lv, .func (.func 41) #[] #[.pointer (some ⟨g, 0, none⟩)]] w (Ret fun v w' => v = .bool (L.any (fun x : Str => !hasS vars x.v)) ∧ St W w' F) := by
  refine calls_of_go (n := 9) Try.func40 rfl Try.ntmps40 rfl ?_
  refine g_seq ?_
  refine g_region ?_
  refine r_cons (s_assign (.bool false) rfl rfl ?_)
  refine r_nil ?_
  refine g_seq ?_
  refine g_region ?_
  refine r_cons (s_move (lv) rfl rfl ?_)
  refine r_cons (s_move (.func (.func 41) #[] #[.pointer (some ⟨g, 0, none⟩)]) rfl rfl ?_)
  refine r_cons (s_call [lv, .func (.func 41) #[] #[.pointer (some ⟨g, 0, none⟩)]] pl_56 rfl rfl (IndexFunc_str L lv g vars vv hm hi hv H) ?_)
  rintro _ w1 ⟨rfl, H2⟩
  refine r_cons (s_geq (decide ((0 : Int) ≤ idxB (fun x : Str => !hasS vars x.v) L)) rfl rfl rfl rfl ?_)
  refine r_cons (s_assign (.bool (decide ((0 : Int) ≤ idxB (fun x : Str => !hasS vars x.v) L))) rfl rfl ?_)
  refine r_nil ?_
  refine g_ret' [.bool (decide ((0 : Int) ≤ idxB (fun x : Str => !hasS vars x.v) L))] Try.func40 Try.results40 ⟨rfl, trivial⟩ ?_
  exact ⟨congrArg Value.bool (idxB_any (p := fun x : Str => !hasS vars x.v)), H2⟩
set_option maxHeartbeats 4000000 in
set_option maxRecDepth 100000 in
theorem pred_Ready {W w : World} {F : List Atom} (c : CondV) (vars : List Str) (vv : Value) {jv : Nat} (hv : F[jv]? = some (Im 1 vv vars.length (vars.flatMap strCell))) (H : St W w F) : Calls Try.prog 22 #[.agg #[.string c.left.var.v, .string c.left.attr.v, .int .i64 c.left.val.kind.v, .int .i64 c.left.val.n.v, .string c.left.val.s.v, .int .i64 c.rel.v, .string c.right.var.v, .string c.right.attr.v, .int .i64 c.right.val.kind.v, .int .i64 c.right.val.n.v, .string c.right.val.s.v], vv] w (Ret fun v w' => v = .bool (readyB c vars) ∧ St W w' F) := by
  obtain ⟨pp1, cc2, rfl, hn3⟩ := Rd.shape (Im.rd H (i := jv) hv)
  have H4 := H.dup (i := jv + 0) (by exact hv) (Im_pers _ _ _ _)
  have H5 : St W w (Im 1 (.slice pp1 vars.length cc2) vars.length (vars.flatMap strCell) :: F) := H4
  refine calls_of_go (n := 10) Try.func22 rfl Try.ntmps22 rfl ?_
  refine g_seq ?_
  refine g_region ?_
  refine r_cons (s_box H5 27 (.agg #[.string c.left.var.v, .string c.left.attr.v, .int .i64 c.left.val.kind.v, .int .i64 c.left.val.n.v, .string c.left.val.s.v, .int .i64 c.rel.v, .string c.right.var.v, .string c.right.attr.v, .int .i64 c.right.val.kind.v, .int .i64 c.right.val.n.v, .string c.right.val.s.v]) rfl (cs := #[.string c.left.var.v, .string c.left.attr.v, .int .i64 c.left.val.kind.v, .int .i64 c.left.val.n.v, .string c.left.val.s.v, .int .i64 c.rel.v, .string c.right.var.v, .string c.right.attr.v, .int .i64 c.right.val.kind.v, .int .i64 c.right.val.n.v, .string c.right.val.s.v]) rfl rfl ?_); intro bk6 w7 H8
  refine r_cons (s_box H8 49 (.slice pp1 vars.length cc2) rfl (cs := #[.slice pp1 vars.length cc2]) rfl rfl ?_); intro bk9 w10 H11
  refine r_cons (s_assign (.bool false) rfl rfl ?_)
  refine r_nil ?_
  refine g_seq ?_
  refine g_region ?_
  refine r_cons (s_loadAgg [.string c.left.var.v, .string c.left.attr.v, .int .i64 c.left.val.kind.v, .int .i64 c.left.val.n.v, .string c.left.val.s.v, .int .i64 c.rel.v, .string c.right.var.v, .string c.right.attr.v, .int .i64 c.right.val.kind.v, .int .i64 c.right.val.n.v, .string c.right.val.s.v] 11 ag_27 rfl (H11.blk_at (i := 1) rfl) (Nat.le_of_ble_eq_true rfl) rfl rfl ?_)
  refine r_cons (s_call [.agg #[.string c.left.var.v, .string c.left.attr.v, .int .i64 c.left.val.kind.v, .int .i64 c.left.val.n.v, .string c.left.val.s.v, .int .i64 c.rel.v, .string c.right.var.v, .string c.right.attr.v, .int .i64 c.right.val.kind.v, .int .i64 c.right.val.n.v, .string c.right.val.s.v]] pl_20 rfl rfl (pred_Names c H11) ?_)
  rintro _ w14 ⟨pp12, cc13, rfl, H15⟩
  refine r_cons (s_makeFunc (.func (.func 41) #[] #[.pointer (some ⟨bk9, 0, none⟩)]) rfl rfl ?_)
  refine r_cons (s_call [.slice pp12 ((namesV c).length) cc13, .func (.func 41) #[] #[.pointer (some ⟨bk9, 0, none⟩)]] pl_40 rfl rfl (ContainsFunc_str (namesV c) (.slice pp12 ((namesV c).length) cc13) bk9 vars (.slice pp1 vars.length cc2) (m := 0) rfl (i := 1) rfl (jv := 3) rfl H15) ?_)
  rintro _ w16 ⟨rfl, H17⟩
  refine r_cons (s_not ((namesV c).any (fun x : Str => !hasS vars x.v)) rfl (!((namesV c).any (fun x : Str => !hasS vars x.v))) rfl rfl ?_)
  refine r_cons (s_assign (.bool (!((namesV c).any (fun x : Str => !hasS vars x.v)))) rfl rfl ?_)
  refine r_nil ?_
  refine g_ret' [.bool (!((namesV c).any (fun x : Str => !hasS vars x.v)))] Try.func22 Try.results22 ⟨rfl, trivial⟩ ?_
  have H18 : St W w16 F := ((((H17.drop 0 rfl).drop 0 rfl).drop 0 rfl).drop 0 rfl)
  exact ⟨rfl, H18⟩
set_option maxHeartbeats 4000000 in
set_option maxRecDepth 100000 in
theorem pred_Value1 {W w : World} {F : List Atom} (a : BoundD) (g : Nat) (o : OpdV) {i : Nat} (hi : F[i]? = some (blk g (.cells #[.string o.var.v, .string o.attr.v, .int .i64 o.val.kind.v, .int .i64 o.val.n.v, .string o.val.s.v] 25 (0, 0)))) (H : St W w F) : Calls Try.prog 36 #[.agg #[.string a.var.v, .int .i64 a.ev.ev.src.v, .int .i64 a.ev.ev.seq.v, .int .i64 a.ev.ev.time.v, .string a.ev.ev.typ.v, .slice a.ev.p a.ev.ev.attrs.length a.ev.c], .pointer (some ⟨g, 0, none⟩)] w (Ret fun v w' => v = .bool (decide (a.var.v = o.var.v)) ∧ St W w' F) := by
  have H0 := H.front hi
  refine calls_of_go (n := 9) Try.func36 rfl Try.ntmps36 rfl ?_
  refine g_seq ?_
  refine g_region ?_
  refine r_cons (s_box H0 61 (.agg #[.string a.var.v, .int .i64 a.ev.ev.src.v, .int .i64 a.ev.ev.seq.v, .int .i64 a.ev.ev.time.v, .string a.ev.ev.typ.v, .slice a.ev.p a.ev.ev.attrs.length a.ev.c]) rfl (cs := #[.string a.var.v, .int .i64 a.ev.ev.src.v, .int .i64 a.ev.ev.seq.v, .int .i64 a.ev.ev.time.v, .string a.ev.ev.typ.v, .slice a.ev.p a.ev.ev.attrs.length a.ev.c]) rfl rfl ?_); intro bk1 w2 H3
  refine r_cons (s_assign (.bool false) rfl rfl ?_)
  refine r_nil ?_
  refine g_seq ?_
  refine g_region ?_
  refine r_cons (s_fieldAddr 61 0 0 0 9 rfl fi_61_0 rfl rfl ?_)
  refine r_cons (s_load (.string a.var.v) ag_9 rfl (H3.blk_at (i := 0) rfl) rfl rfl ?_)
  refine r_cons (s_fieldAddr 25 0 0 0 9 rfl fi_25_0 rfl rfl ?_)
  refine r_cons (s_load (.string o.var.v) ag_9 rfl (H3.blk_at (i := 1) rfl) rfl rfl ?_)
  refine r_cons (s_seql (decide (a.var.v = o.var.v)) rfl rfl rfl rfl ?_)
  refine r_cons (s_assign (.bool (decide (a.var.v = o.var.v))) rfl rfl ?_)
  refine r_nil ?_
  refine g_ret' [.bool (decide (a.var.v = o.var.v))] Try.func36 Try.results36 ⟨rfl, trivial⟩ ?_
  have H4 : St W w2 (blk g (.cells #[.string o.var.v, .string o.attr.v, .int .i64 o.val.kind.v, .int .i64 o.val.n.v, .string o.val.s.v] 25 (0, 0)) :: (F.set i emp)) := ((H3.move 1 rfl).drop 1 rfl)
  exact ⟨rfl, St.back_same hi H4⟩
set_option maxHeartbeats 4000000 in
set_option maxRecDepth 100000 in
theorem IndexFunc_bound {W w : World} {F : List Atom} (L : List BoundD) (lv : Value) (g : Nat) (o : OpdV) {m : Nat} (hm : F[m]? = some (Im 6 lv L.length (L.flatMap bndCell))) {i : Nat} (hi : F[i]? = some (blk g (.cells #[.string o.var.v, .string o.attr.v, .int .i64 o.val.kind.v, .int .i64 o.val.n.v, .string o.val.s.v] 25 (0, 0)))) (H : St W w F) : Calls Try.prog 35 #[lv, .func (.func 36) #[] #[.pointer (some ⟨g, 0, none⟩)]] w (Ret fun v w' => v = .int .i64 (idxB (fun x : BoundD => decide (x.var.v = o.var.v)) L) ∧ St W w' F) := by
  obtain ⟨pp1, cc2, rfl, hn3⟩ := Rd.shape (Im.rd H (i := m) hm)
  have H4 := H.dup hm (Im_pers _ _ _ _)
  have H5 := H4.front (i := i + 1) (by exact hi)
  obtain ⟨pA6, cA7, gA8, oA9, kA10, eA11, zA12, he18, hn13, hp14, hx15, hs16, hml, H17⟩ := Im.open_ H5 (i := 1) rfl
  obtain ⟨rfl, rfl⟩ : pp1 = pA6 ∧ cc2 = cA7 := by injection he18 with a_ b_ c_; exact ⟨a_, c_⟩
  refine calls_of_go (n := 19) Try.func35 rfl Try.ntmps35 rfl ?_
  refine g_seq ?_
  refine g_region ?_
  refine r_cons (s_assign (.int .i64 0) rfl rfl ?_)
  refine r_nil ?_
  refine g_seq ?_
  refine g_seq ?_
  refine g_region ?_
  refine r_cons (s_move (.slice pp1 L.length cc2) rfl rfl ?_)
  refine r_cons (s_len L.length rfl ⟨_, un_41⟩ rfl ?_)
  refine r_cons (s_move (.int .i64 0) rfl rfl ?_)
  refine r_nil ?_
  refine g_block ?_
  have H19 : St W w (imi (0 < L.length) gA8 (.cells kA10 eA11 zA12) :: blk g (.cells #[.string o.var.v, .string o.attr.v, .int .i64 o.val.kind.v, .int .i64 o.val.n.v, .string o.val.s.v] 25 (0, 0)) :: Im 6 (.slice pp1 L.length cc2) L.length (L.flatMap bndCell) :: (F.set i emp)) := (((H17.move 2 rfl).move 2 rfl).move 2 rfl)
  refine g_loop_inv (fun (x_ : Nat) => match x_ with | j => [(0, .slice pp1 L.length cc2), (1, .func (.func 36) #[] #[.pointer (some ⟨g, 0, none⟩)]), (4, .int .i64 0), (7, .int .i64 (L.length : Int)), (8, .int .i64 (j : Int))]) (fun (x_ : Nat) w => match x_ with | j => (j ≤ L.length) ∧ (∀ q, q < j → (fun x : BoundD => decide (x.var.v = o.var.v)) (L.getD q default) = false) ∧ St W w (imi (0 < L.length) gA8 (.cells kA10 eA11 zA12) :: blk g (.cells #[.string o.var.v, .string o.attr.v, .int .i64 o.val.kind.v, .int .i64 o.val.n.v, .string o.val.s.v] 25 (0, 0)) :: Im 6 (.slice pp1 L.length cc2) L.length (L.flatMap bndCell) :: (F.set i emp))) (fun (x_ : Nat) => match x_ with | j => L.length - j) (0) ?_ ?_ ?_
  · exact ⟨by first | rfl | exact vint (by omega), by first | rfl | exact vint (by omega), by first | rfl | exact vint (by omega), by first | rfl | exact vint (by omega), by first | rfl | exact vint (by omega), trivial⟩
  · exact ⟨(by omega), (fun q hq => by omega), H19⟩
  · rintro j ρ20 w21 ⟨hjn, hz, H22⟩ nx23
    change Ends _ _ (upds ρ20 [(0, .slice pp1 L.length cc2), (1, .func (.func 36) #[] #[.pointer (some ⟨g, 0, none⟩)]), (4, .int .i64 0), (7, .int .i64 (L.length : Int)), (8, .int .i64 (j : Int))]) w21
    refine g_seq ?_
    refine g_region ?_
    by_cases hc24 : (j : Int) < (L.length : Int)
    · skip
      refine r_cons (s_lss true rfl rfl (dtrue hc24) rfl ?_)
      refine r_nil ?_
      refine g_seq ?_
      refine g_true rfl ?_
      refine g_skip ?_
      refine g_seq ?_
      refine g_block ?_
      refine g_seq ?_
      refine g_region ?_
      refine r_cons (s_move (.int .i64 (j : Int)) rfl rfl ?_)
      refine r_cons (s_assign (.int .i64 (j : Int)) rfl rfl ?_)
      refine r_nil ?_
      refine g_seq ?_
      refine g_region ?_
      refine r_cons (s_move (.func (.func 36) #[] #[.pointer (some ⟨g, 0, none⟩)]) rfl rfl ?_)
      refine r_cons (s_move (.slice pp1 L.length cc2) rfl rfl ?_)
      refine r_cons (s_move (.int .i64 (j : Int)) rfl rfl ?_)
      refine r_cons (s_indexAddr gA8 (off := oA9) (j : Int) 6 (oA9 + j * 6) (by exact congrArg (fun z_ => Value.slice z_ L.length cc2) (hp14 (by omega))) rfl el_41 (by omega) rfl rfl ?_)
      refine r_cons (s_loadAgg [.string ((L.getD j default).var.v), .int .i64 ((L.getD j default).ev.ev.src.v), .int .i64 ((L.getD j default).ev.ev.seq.v), .int .i64 ((L.getD j default).ev.ev.time.v), .string ((L.getD j default).ev.ev.typ.v), .slice ((L.getD j default).ev.p) ((L.getD j default).ev.ev.attrs.length) ((L.getD j default).ev.c)] 6 ag_61 rfl (H22.imi_at (i := 0) rfl (by omega)) (by have := elem_size (i := j) (s := 6) (hs16 (by omega)) (by omega); omega) (elem_take bndCell_len (hx15 (by omega)) (by omega) default) rfl ?_)
      refine r_cons (s_callv [.pointer (some ⟨g, 0, none⟩)] [.agg #[.string ((L.getD j default).var.v), .int .i64 ((L.getD j default).ev.ev.src.v), .int .i64 ((L.getD j default).ev.ev.seq.v), .int .i64 ((L.getD j default).ev.ev.time.v), .string ((L.getD j default).ev.ev.typ.v), .slice ((L.getD j default).ev.p) ((L.getD j default).ev.ev.attrs.length) ((L.getD j default).ev.c)], .pointer (some ⟨g, 0, none⟩)] rfl pl_36 rfl rfl (pred_Value1 (L.getD j default) g o (i := 1) rfl H22) ?_)
      rintro _ w25 ⟨rfl, H26⟩
      refine r_nil ?_
      by_cases hb27 : (decide ((L.getD j default).var.v = o.var.v)) = true
      · skip
        refine g_true (congrArg Value.bool hb27) ?_
        refine g_seq ?_
        refine g_region ?_
        refine r_cons (s_move (.int .i64 (j : Int)) rfl rfl ?_)
        refine r_cons (s_assign (.int .i64 (j : Int)) rfl rfl ?_)
        refine r_nil ?_
        refine g_ret' [.int .i64 (j : Int)] Try.func35 Try.results35 ⟨rfl, trivial⟩ ?_
        have H28 : St W w25 (blk g (.cells #[.string o.var.v, .string o.attr.v, .int .i64 o.val.kind.v, .int .i64 o.val.n.v, .string o.val.s.v] 25 (0, 0)) :: (F.set i emp)) := (((H26.move 1 rfl).drop 1 rfl).drop 1 rfl)
        exact ⟨vint (idxB_at (p := fun x : BoundD => decide (x.var.v = o.var.v)) hz (by omega) (by exact hb27)).symm, St.back_same hi H28⟩
      · have hb27 := eq_false_of_ne_true hb27
        refine g_false (congrArg Value.bool hb27) ?_
        refine g_skip ?_
        refine g_inBlock ?_
        refine g_region ?_
        refine r_cons (s_add ((j : Int) + 1) rfl rfl (wi64 (by omega)) rfl ?_)
        refine r_cons (s_move (.int .i64 ((j : Int) + 1)) rfl rfl ?_)
        refine r_nil ?_
        have H29 : St W w25 (imi (0 < L.length) gA8 (.cells kA10 eA11 zA12) :: blk g (.cells #[.string o.var.v, .string o.attr.v, .int .i64 o.val.kind.v, .int .i64 o.val.n.v, .string o.val.s.v] 25 (0, 0)) :: Im 6 (.slice pp1 L.length cc2) L.length (L.flatMap bndCell) :: (F.set i emp)) := (((H26.move 2 rfl).move 2 rfl).move 2 rfl)
        exact nx23 (j + 1) _ _ ⟨(by omega), (fun q hq => (Nat.lt_or_ge q j).elim (hz q) (fun h => by rw [show q = j from by omega]; exact hb27)), H29⟩ (by first | (dsimp only; omega) | omega) ⟨by first | rfl | exact vint (by omega), by first | rfl | exact vint (by omega), by first | rfl | exact vint (by omega), by first | rfl | exact vint (by omega), by first | rfl | exact vint (by omega), trivial⟩
    · skip
      refine r_cons (s_lss false rfl rfl (dfalse hc24) rfl ?_)
      refine r_nil ?_
      refine g_seq ?_
      refine g_false rfl ?_
      refine g_exit (by rfl) ?_
      refine g_seq ?_
      refine g_region ?_
      refine r_cons (s_assign (.int .i64 (-1)) rfl rfl ?_)
      refine r_nil ?_
      refine g_ret' [.int .i64 (-1)] Try.func35 Try.results35 ⟨rfl, trivial⟩ ?_
      have H30 : St W w21 (blk g (.cells #[.string o.var.v, .string o.attr.v, .int .i64 o.val.kind.v, .int .i64 o.val.n.v, .string o.val.s.v] 25 (0, 0)) :: (F.set i emp)) := (((H22.move 1 rfl).drop 1 rfl).drop 1 rfl)
      exact ⟨vint (idxB_none (p := fun x : BoundD => decide (x.var.v = o.var.v)) (fun q hq => hz q (by omega))).symm, St.back_same hi H30⟩
set_option maxHeartbeats 4000000 in
set_option maxRecDepth 100000 in
theorem pred_Value {W w : World} {F : List Atom} (o : OpdV) (bs : List BoundD) (bv : Value) {ip : Nat} (hp : F[ip]? = some (Im 6 bv bs.length (bs.flatMap bndCell))) {iq : Nat} (hq : F[iq]? = some (bndsA bs)) (H : St W w F) : Calls Try.prog 13 #[.agg #[.string o.var.v, .string o.attr.v, .int .i64 o.val.kind.v, .int .i64 o.val.n.v, .string o.val.s.v], .agg #[bv]] w (Ret fun v w' => v = .tuple #[.agg #[.int .i64 ((bvV o bs).kind.v), .int .i64 ((bvV o bs).n.v), .string ((bvV o bs).s.v)], .bool (bvIs o bs)] ∧ St W w' F) := by
  obtain ⟨pp1, cc2, rfl, hn3⟩ := Rd.shape (Im.rd H (i := ip) hp)
  have H4 := H.dup (i := ip + 0) (by exact hp) (Im_pers _ _ _ _)
  have H5 : St W w (Im 6 (.slice pp1 bs.length cc2) bs.length (bs.flatMap bndCell) :: F) := H4
  have H6 := H5.dup (i := iq + 1) (by exact hq) (bndsA_pers _)
  have H7 : St W w (bndsA bs :: Im 6 (.slice pp1 bs.length cc2) bs.length (bs.flatMap bndCell) :: F) := H6
  have hrg : -1 ≤ bIdx o bs ∧ bIdx o bs < (bs.length : Int) := idxB_range _ _
  refine calls_of_go (n := 35) Try.func13 rfl Try.ntmps13 rfl ?_
  refine g_seq ?_
  refine g_region ?_
  refine r_cons (s_box H7 25 (.agg #[.string o.var.v, .string o.attr.v, .int .i64 o.val.kind.v, .int .i64 o.val.n.v, .string o.val.s.v]) rfl (cs := #[.string o.var.v, .string o.attr.v, .int .i64 o.val.kind.v, .int .i64 o.val.n.v, .string o.val.s.v]) rfl rfl ?_); intro bk8 w9 H10
  refine r_cons (s_box H10 43 (.agg #[.slice pp1 bs.length cc2]) rfl (cs := #[.slice pp1 bs.length cc2]) rfl rfl ?_); intro bk11 w12 H13
  refine r_cons (s_alloc H13 23 ze_23 rfl ?_); intro bk14 w15 H16
  refine r_cons (s_assign (.bool false) rfl rfl ?_)
  refine r_nil ?_
  refine g_seq ?_
  refine g_seq ?_
  refine g_region ?_
  refine r_cons (s_fieldAddr 25 1 1 1 9 rfl fi_25_1 rfl rfl ?_)
  refine r_cons (s_load (.string o.attr.v) ag_9 rfl (H16.blk_at (i := 2) rfl) rfl rfl ?_)
  by_cases hc17 : o.attr.v = ByteArray.empty
  · skip
    refine r_cons (s_seql true rfl rfl (dtrue hc17) rfl ?_)
    refine r_nil ?_
    refine g_true rfl ?_
    refine g_seq ?_
    refine g_region ?_
    refine r_cons (s_fieldAddr 25 2 2 2 23 rfl fi_25_2 rfl rfl ?_)
    refine r_cons (s_loadAgg [.int .i64 o.val.kind.v, .int .i64 o.val.n.v, .string o.val.s.v] 3 ag_23 rfl (H16.blk_at (i := 2) rfl) (Nat.le_of_ble_eq_true rfl) rfl rfl ?_)
    refine r_cons (s_storeAgg H16 0 #[.int .i64 o.val.kind.v, .int .i64 o.val.n.v, .string o.val.s.v] 3 rfl rfl rfl sz_23 rfl (by simp [Value.oneCell']) (Nat.le_of_ble_eq_true rfl) (fun o h1 h2 => by first | (simp; done) | (simp; omega)) (cs' := #[.int .i64 o.val.kind.v, .int .i64 o.val.n.v, .string o.val.s.v]) rfl ?_); intro w18 H19
    refine r_cons (s_assign (.bool true) rfl rfl ?_)
    refine r_nil ?_
    refine g_ret' [.agg #[.int .i64 o.val.kind.v, .int .i64 o.val.n.v, .string o.val.s.v], .bool true] Try.func13 Try.results13 ⟨(res_cellN rfl ag_23 (H19.blk_at (i := 0) rfl) (Nat.le_of_ble_eq_true rfl) rfl), rfl, trivial⟩ ?_
    have H20 : St W w18 F := (((((H19.drop 0 rfl).drop 0 rfl).drop 0 rfl).drop 0 rfl).drop 0 rfl)
    have hR := (bv_val hc17 : bvV o bs = _ ∧ bvIs o bs = _)
    exact ⟨by rw [hR.1, hR.2]; rfl, H20⟩
  · skip
    refine r_cons (s_seql false rfl rfl (dfalse hc17) rfl ?_)
    refine r_nil ?_
    refine g_false rfl ?_
    refine g_skip ?_
    refine g_seq ?_
    refine g_region ?_
    refine r_cons (s_fieldAddr 43 0 0 0 41 rfl fi_43_0 rfl rfl ?_)
    refine r_cons (s_load (.slice pp1 bs.length cc2) ag_41 rfl (H16.blk_at (i := 1) rfl) rfl rfl ?_)
    refine r_cons (s_makeFunc (.func (.func 36) #[] #[.pointer (some ⟨bk8, 0, none⟩)]) rfl rfl ?_)
    refine r_cons (s_call [.slice pp1 bs.length cc2, .func (.func 36) #[] #[.pointer (some ⟨bk8, 0, none⟩)]] pl_35 rfl rfl (IndexFunc_bound bs (.slice pp1 bs.length cc2) bk8 o (m := 4) rfl (i := 2) rfl H16) ?_)
    rintro _ w21 ⟨rfl, H22⟩
    refine r_cons (s_assign (.int .i64 (bIdx o bs)) rfl rfl ?_)
    refine r_nil ?_
    refine g_seq ?_
    refine g_seq ?_
    refine g_region ?_
    refine r_cons (s_move (.int .i64 (bIdx o bs)) rfl rfl ?_)
    by_cases hc23 : bIdx o bs < 0
    · skip
      refine r_cons (s_lss true rfl rfl (dtrue hc23) rfl ?_)
      refine r_nil ?_
      refine g_true rfl ?_
      refine g_seq ?_
      refine g_region ?_
      refine r_cons (s_build (cs := #[.int .i64 0, .int .i64 0, .string ByteArray.empty]) (by kernel_rfl) rfl ?_)
      refine r_cons (s_storeAgg H22 0 #[.int .i64 0, .int .i64 0, .string ByteArray.empty] 3 rfl rfl rfl sz_23 rfl (by simp [Value.oneCell']) (Nat.le_of_ble_eq_true rfl) (fun o h1 h2 => by first | (simp; done) | (simp; omega)) (cs' := #[.int .i64 0, .int .i64 0, .string ByteArray.empty]) rfl ?_); intro w24 H25
      refine r_cons (s_assign (.bool false) rfl rfl ?_)
      refine r_nil ?_
      refine g_ret' [.agg #[.int .i64 0, .int .i64 0, .string ByteArray.empty], .bool false] Try.func13 Try.results13 ⟨(res_cellN rfl ag_23 (H25.blk_at (i := 0) rfl) (Nat.le_of_ble_eq_true rfl) rfl), rfl, trivial⟩ ?_
      have H26 : St W w24 F := (((((H25.drop 0 rfl).drop 0 rfl).drop 0 rfl).drop 0 rfl).drop 0 rfl)
      have hR := (bv_no hc17 (by omega) : bvV o bs = _ ∧ bvIs o bs = _)
      exact ⟨by rw [hR.1, hR.2]; rfl, H26⟩
    · skip
      refine r_cons (s_lss false rfl rfl (dfalse hc23) rfl ?_)
      refine r_nil ?_
      refine g_false rfl ?_
      refine g_skip ?_
      refine g_seq ?_
      obtain ⟨pA27, cA28, gA29, oA30, kA31, eA32, zA33, he39, hn34, hp35, hx36, hs37, hml, H38⟩ := Im.open_ H22 (i := 4) rfl
      obtain ⟨rfl, rfl⟩ : pp1 = pA27 ∧ cc2 = cA28 := by injection he39 with a_ b_ c_; exact ⟨a_, c_⟩
      have H40 := bndsA_at ((bIdx o bs).toNat) H38 (i := 4) rfl
      refine g_mix (fun t_ w => St W w (Attrs (.slice ((bs.getD ((bIdx o bs).toNat) default).ev.p) ((bs.getD ((bIdx o bs).toNat) default).ev.ev.attrs.length) ((bs.getD ((bIdx o bs).toNat) default).ev.c)) ((bs.getD ((bIdx o bs).toNat) default).ev.ev.attrs) :: imi (0 < bs.length) gA29 (.cells kA31 eA32 zA33) :: blk bk14 (.cells #[.int .i64 0, .int .i64 0, .string ByteArray.empty] 23 (0, 0)) :: blk bk11 (.cells #[.slice pp1 bs.length cc2] 43 (0, 0)) :: blk bk8 (.cells #[.string o.var.v, .string o.attr.v, .int .i64 o.val.kind.v, .int .i64 o.val.n.v, .string o.val.s.v] 25 (0, 0)) :: bndsA bs :: Im 6 (.slice pp1 bs.length cc2) bs.length (bs.flatMap bndCell) :: t_)) F mixed 16 rfl H40.drew ?_
      refine f_first 0 (listed' := #[true, false, false, false, false, false, false, false, false, false, false, false, false, false, false, false]) rfl (by kernel_rfl) (by kernel_rfl) (by kernel_rfl) rfl ?_
      refine f_val rfl rfl rfl (by intro t_ w hw; exact x_fieldAddr 43 0 0 0 41 rfl fi_43_0 rfl w) ?_
      refine f_first 1 (listed' := #[true, true, false, false, false, false, false, false, false, false, false, false, false, false, false, false]) rfl (by kernel_rfl) (by kernel_rfl) (by kernel_rfl) rfl ?_
      refine f_val rfl rfl rfl (by intro t_ w hw; exact x_load (.slice pp1 bs.length cc2) ag_41 rfl (hw.blk_at (i := 3) rfl) rfl) ?_
      refine f_first 2 (listed' := #[true, true, true, false, false, false, false, false, false, false, false, false, false, false, false, false]) rfl (by kernel_rfl) (by kernel_rfl) (by kernel_rfl) rfl ?_
      refine f_val rfl rfl rfl (by intro t_ w hw; exact x_move (.int .i64 (bIdx o bs)) rfl w) ?_
      refine f_first 3 (listed' := #[true, true, true, true, false, false, false, false, false, false, false, false, false, false, false, false]) rfl (by kernel_rfl) (by kernel_rfl) (by kernel_rfl) rfl ?_
      refine f_val rfl rfl rfl (by intro t_ w hw; exact x_indexAddr gA29 (off := oA30) (bIdx o bs) 6 (oA30 + ((bIdx o bs).toNat) * 6) (by exact congrArg (fun z_ => Value.slice z_ bs.length cc2) (hp35 (by omega))) rfl el_41 (by omega) rfl w) ?_
      refine f_first 4 (listed' := #[true, true, true, true, true, false, false, false, false, false, false, false, false, false, false, false]) rfl (by kernel_rfl) (by kernel_rfl) (by kernel_rfl) rfl ?_
      refine f_val rfl rfl rfl (by intro t_ w hw; exact x_fieldAddr 61 1 1 (oA30 + ((bIdx o bs).toNat) * 6 + 1) 36 rfl fi_61_1 rfl w) ?_
      refine f_first 5 (listed' := #[true, true, true, true, true, true, false, false, false, false, false, false, false, false, false, false]) rfl (by kernel_rfl) (by kernel_rfl) (by kernel_rfl) rfl ?_
      refine f_val rfl rfl rfl (by intro t_ w hw; exact x_fieldAddr 36 3 4 (oA30 + ((bIdx o bs).toNat) * 6 + 5) 34 rfl fi_36_3 rfl w) ?_
      refine f_first 6 (listed' := #[true, true, true, true, true, true, true, false, false, false, false, false, false, false, false, false]) rfl (by kernel_rfl) (by kernel_rfl) (by kernel_rfl) rfl ?_
      refine f_val rfl rfl rfl (by intro t_ w hw; exact x_load (.slice ((bs.getD ((bIdx o bs).toNat) default).ev.p) ((bs.getD ((bIdx o bs).toNat) default).ev.ev.attrs.length) ((bs.getD ((bIdx o bs).toNat) default).ev.c)) ag_34 rfl (hw.imi_at (i := 1) rfl (by omega)) (elem_cell (L := bs) (i := (bIdx o bs).toNat) bndCell_len (hx36 (by omega)) (by omega) default 5 (by decide) _ rfl)) ?_
      refine f_first 7 (listed' := #[true, true, true, true, true, true, true, true, false, false, false, false, false, false, false, false]) rfl (by kernel_rfl) (by kernel_rfl) (by kernel_rfl) rfl ?_
      refine f_val rfl rfl rfl (by intro t_ w hw; exact x_fieldAddr 25 1 1 1 9 rfl fi_25_1 rfl w) ?_
      refine f_first 8 (listed' := #[true, true, true, true, true, true, true, true, true, false, false, false, false, false, false, false]) rfl (by kernel_rfl) (by kernel_rfl) (by kernel_rfl) rfl ?_
      refine f_val rfl rfl rfl (by intro t_ w hw; exact x_load (.string o.attr.v) ag_9 rfl (hw.blk_at (i := 4) rfl) rfl) ?_
      refine f_first 9 (listed' := #[true, true, true, true, true, true, true, true, true, true, false, false, false, false, false, false]) rfl (by kernel_rfl) (by kernel_rfl) (by kernel_rfl) rfl ?_
      refine f_enter (args := #[.slice ((bs.getD ((bIdx o bs).toNat) default).ev.p) ((bs.getD ((bIdx o bs).toNat) default).ev.ev.attrs.length) ((bs.getD ((bIdx o bs).toNat) default).ev.c), .string o.attr.v]) (v := .tuple #[.agg #[.int .i64 ((getV ((bs.getD ((bIdx o bs).toNat) default).ev.ev.attrs) o.attr.v).kind.v), .int .i64 ((getV ((bs.getD ((bIdx o bs).toNat) default).ev.ev.attrs) o.attr.v).n.v), .string ((getV ((bs.getD ((bIdx o bs).toNat) default).ev.ev.attrs) o.attr.v).s.v)], .bool (hasV ((bs.getD ((bIdx o bs).toNat) default).ev.ev.attrs) o.attr.v)]) rfl rfl rfl (x_call pl_29 [.slice ((bs.getD ((bIdx o bs).toNat) default).ev.p) ((bs.getD ((bIdx o bs).toNat) default).ev.ev.attrs.length) ((bs.getD ((bIdx o bs).toNat) default).ev.c), .string o.attr.v] rfl) (fun t_ w hw => value_Get ((bs.getD ((bIdx o bs).toNat) default).ev.ev.attrs) (.slice ((bs.getD ((bIdx o bs).toNat) default).ev.p) ((bs.getD ((bIdx o bs).toNat) default).ev.ev.attrs.length) ((bs.getD ((bIdx o bs).toNat) default).ev.c)) o.attr.v (j := 0) rfl hw) ?_
      refine f_first 10 (listed' := #[true, true, true, true, true, true, true, true, true, true, true, false, false, false, false, false]) rfl (by kernel_rfl) (by kernel_rfl) (by kernel_rfl) rfl ?_
      refine f_val rfl rfl rfl (by intro t_ w hw; exact x_move (.tuple #[.agg #[.int .i64 ((getV ((bs.getD ((bIdx o bs).toNat) default).ev.ev.attrs) o.attr.v).kind.v), .int .i64 ((getV ((bs.getD ((bIdx o bs).toNat) default).ev.ev.attrs) o.attr.v).n.v), .string ((getV ((bs.getD ((bIdx o bs).toNat) default).ev.ev.attrs) o.attr.v).s.v)], .bool (hasV ((bs.getD ((bIdx o bs).toNat) default).ev.ev.attrs) o.attr.v)]) rfl w) ?_
      refine f_first 11 (listed' := #[true, true, true, true, true, true, true, true, true, true, true, true, false, false, false, false]) rfl (by kernel_rfl) (by kernel_rfl) (by kernel_rfl) rfl ?_
      refine f_val rfl rfl rfl (by intro t_ w hw; exact x_extract (.agg #[.int .i64 ((getV ((bs.getD ((bIdx o bs).toNat) default).ev.ev.attrs) o.attr.v).kind.v), .int .i64 ((getV ((bs.getD ((bIdx o bs).toNat) default).ev.ev.attrs) o.attr.v).n.v), .string ((getV ((bs.getD ((bIdx o bs).toNat) default).ev.ev.attrs) o.attr.v).s.v)]) #[.agg #[.int .i64 ((getV ((bs.getD ((bIdx o bs).toNat) default).ev.ev.attrs) o.attr.v).kind.v), .int .i64 ((getV ((bs.getD ((bIdx o bs).toNat) default).ev.ev.attrs) o.attr.v).n.v), .string ((getV ((bs.getD ((bIdx o bs).toNat) default).ev.ev.attrs) o.attr.v).s.v)], .bool (hasV ((bs.getD ((bIdx o bs).toNat) default).ev.ev.attrs) o.attr.v)] rfl rfl w) ?_
      refine f_first 12 (listed' := #[true, true, true, true, true, true, true, true, true, true, true, true, true, false, false, false]) rfl (by kernel_rfl) (by kernel_rfl) (by kernel_rfl) rfl ?_
      refine f_val rfl rfl rfl (by intro t_ w hw; exact x_extract (.bool (hasV ((bs.getD ((bIdx o bs).toNat) default).ev.ev.attrs) o.attr.v)) #[.agg #[.int .i64 ((getV ((bs.getD ((bIdx o bs).toNat) default).ev.ev.attrs) o.attr.v).kind.v), .int .i64 ((getV ((bs.getD ((bIdx o bs).toNat) default).ev.ev.attrs) o.attr.v).n.v), .string ((getV ((bs.getD ((bIdx o bs).toNat) default).ev.ev.attrs) o.attr.v).s.v)], .bool (hasV ((bs.getD ((bIdx o bs).toNat) default).ev.ev.attrs) o.attr.v)] rfl rfl w) ?_
      refine f_all (rs := [13]) (by kernel_rfl) (by simp) ?_
      refine a_cons ⟨_, rfl, ?_⟩ (fun x hx => absurd hx (by simp))
      intro w41 H42
      try dsimp only at H42
      refine s_alloc H42 23 ze_23 rfl ?_; intro bk43 w44 H45
      have H46 : St W w44 (Attrs (.slice ((bs.getD ((bIdx o bs).toNat) default).ev.p) ((bs.getD ((bIdx o bs).toNat) default).ev.ev.attrs.length) ((bs.getD ((bIdx o bs).toNat) default).ev.c)) ((bs.getD ((bIdx o bs).toNat) default).ev.ev.attrs) :: imi (0 < bs.length) gA29 (.cells kA31 eA32 zA33) :: blk bk14 (.cells #[.int .i64 0, .int .i64 0, .string ByteArray.empty] 23 (0, 0)) :: blk bk11 (.cells #[.slice pp1 bs.length cc2] 43 (0, 0)) :: blk bk8 (.cells #[.string o.var.v, .string o.attr.v, .int .i64 o.val.kind.v, .int .i64 o.val.n.v, .string o.val.s.v] 25 (0, 0)) :: bndsA bs :: Im 6 (.slice pp1 bs.length cc2) bs.length (bs.flatMap bndCell) :: blk bk43 (.cells #[.int .i64 0, .int .i64 0, .string ByteArray.empty] 23 (0, 0)) :: F) := (((((((H45.move 7 rfl).move 7 rfl).move 7 rfl).move 7 rfl).move 7 rfl).move 7 rfl).move 7 rfl)
      refine ⟨blk bk43 (.cells #[.int .i64 0, .int .i64 0, .string ByteArray.empty] 23 (0, 0)) :: F, ?_, H46⟩
      change FReg _ _ _ _ _ #[true, true, true, true, true, true, true, true, true, true, true, true, true, true, false, false] _ _
      refine f_all (rs := [14]) (by kernel_rfl) (by simp) ?_
      refine a_cons ⟨_, rfl, ?_⟩ (fun x hx => absurd hx (by simp))
      intro w47 H48
      try dsimp only at H48
      refine s_storeAgg H48 7 #[.int .i64 ((getV ((bs.getD ((bIdx o bs).toNat) default).ev.ev.attrs) o.attr.v).kind.v), .int .i64 ((getV ((bs.getD ((bIdx o bs).toNat) default).ev.ev.attrs) o.attr.v).n.v), .string ((getV ((bs.getD ((bIdx o bs).toNat) default).ev.ev.attrs) o.attr.v).s.v)] 3 rfl rfl rfl sz_23 rfl (by simp [Value.oneCell']) (Nat.le_of_ble_eq_true rfl) (fun o h1 h2 => by first | (simp; done) | (simp; omega)) (cs' := #[.int .i64 ((getV ((bs.getD ((bIdx o bs).toNat) default).ev.ev.attrs) o.attr.v).kind.v), .int .i64 ((getV ((bs.getD ((bIdx o bs).toNat) default).ev.ev.attrs) o.attr.v).n.v), .string ((getV ((bs.getD ((bIdx o bs).toNat) default).ev.ev.attrs) o.attr.v).s.v)]) rfl ?_; intro w49 H50
      refine ⟨blk bk43 (.cells #[.int .i64 ((getV ((bs.getD ((bIdx o bs).toNat) default).ev.ev.attrs) o.attr.v).kind.v), .int .i64 ((getV ((bs.getD ((bIdx o bs).toNat) default).ev.ev.attrs) o.attr.v).n.v), .string ((getV ((bs.getD ((bIdx o bs).toNat) default).ev.ev.attrs) o.attr.v).s.v)] 23 (0, 0)) :: F, ?_, H50⟩
      change FReg _ _ _ _ _ #[true, true, true, true, true, true, true, true, true, true, true, true, true, true, true, false] _ _
      refine f_first 15 (listed' := #[true, true, true, true, true, true, true, true, true, true, true, true, true, true, true, true]) rfl (by kernel_rfl) (by kernel_rfl) (by kernel_rfl) rfl ?_
      refine f_val rfl rfl rfl (by intro t_ w hw; exact x_assign (.bool (hasV ((bs.getD ((bIdx o bs).toNat) default).ev.ev.attrs) o.attr.v)) rfl w) ?_
      refine f_done (by kernel_rfl) ?_
      intro w51 H52
      refine g_seq ?_
      refine g_region ?_
      refine r_cons (s_loadAgg [.int .i64 ((getV ((bs.getD ((bIdx o bs).toNat) default).ev.ev.attrs) o.attr.v).kind.v), .int .i64 ((getV ((bs.getD ((bIdx o bs).toNat) default).ev.ev.attrs) o.attr.v).n.v), .string ((getV ((bs.getD ((bIdx o bs).toNat) default).ev.ev.attrs) o.attr.v).s.v)] 3 ag_23 rfl (H52.blk_at (i := 7) rfl) (Nat.le_of_ble_eq_true rfl) rfl rfl ?_)
      refine r_cons (s_storeAgg H52 2 #[.int .i64 ((getV ((bs.getD ((bIdx o bs).toNat) default).ev.ev.attrs) o.attr.v).kind.v), .int .i64 ((getV ((bs.getD ((bIdx o bs).toNat) default).ev.ev.attrs) o.attr.v).n.v), .string ((getV ((bs.getD ((bIdx o bs).toNat) default).ev.ev.attrs) o.attr.v).s.v)] 3 rfl rfl rfl sz_23 rfl (by simp [Value.oneCell']) (Nat.le_of_ble_eq_true rfl) (fun o h1 h2 => by first | (simp; done) | (simp; omega)) (cs' := #[.int .i64 ((getV ((bs.getD ((bIdx o bs).toNat) default).ev.ev.attrs) o.attr.v).kind.v), .int .i64 ((getV ((bs.getD ((bIdx o bs).toNat) default).ev.ev.attrs) o.attr.v).n.v), .string ((getV ((bs.getD ((bIdx o bs).toNat) default).ev.ev.attrs) o.attr.v).s.v)]) rfl ?_); intro w53 H54
      refine r_cons (s_assign (.bool true) rfl rfl ?_)
      refine r_nil ?_
      refine g_ret' [.agg #[.int .i64 ((getV ((bs.getD ((bIdx o bs).toNat) default).ev.ev.attrs) o.attr.v).kind.v), .int .i64 ((getV ((bs.getD ((bIdx o bs).toNat) default).ev.ev.attrs) o.attr.v).n.v), .string ((getV ((bs.getD ((bIdx o bs).toNat) default).ev.ev.attrs) o.attr.v).s.v)], .bool true] Try.func13 Try.results13 ⟨(res_cellN rfl ag_23 (H54.blk_at (i := 2) rfl) (Nat.le_of_ble_eq_true rfl) rfl), rfl, trivial⟩ ?_
      have H55 : St W w53 F := ((((((((H54.drop 0 rfl).drop 0 rfl).drop 0 rfl).drop 0 rfl).drop 0 rfl).drop 0 rfl).drop 0 rfl).drop 0 rfl)
      have hR := (bv_get hc17 (by omega) : bvV o bs = _ ∧ bvIs o bs = _)
      exact ⟨by rw [hR.1, hR.2]; rfl, H55⟩
end Sl
