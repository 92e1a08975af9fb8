/- Walks of the program's functions. Printed by a program of this claim's author. No condition. -/
import Derived.Test.YteogdknlofcpiaaSlBA
import Derived.Test.YteogdknlofcpiaaSlDB
import Derived.Test.YteogdknlofcpiaaSlQ
import Derived.Test.YteogdknlofcpiaaProg
namespace Sl
open _root_.Go _root_.Go.RowKit _root_.Go.Proofs
set_option linter.all false
theorem un_174 : Try.prog.underlying 174 = some (.slice 2) := by kernel_rfl
theorem el_174 : elemSize Try.prog 174 = some (2, 1) := by kernel_rfl
theorem ag_2 : isAggB Try.prog 2 = false ∧ (Try.prog.underlying 2).isSome = true := ⟨by kernel_rfl, by kernel_rfl⟩
theorem fi_32_0 : fieldOff Try.prog 32 0 = some (0, 3) := by kernel_rfl
theorem ag_3 : isAggB Try.prog 3 = false ∧ (Try.prog.underlying 3).isSome = true := ⟨by kernel_rfl, by kernel_rfl⟩
theorem fi_32_1 : fieldOff Try.prog 32 1 = some (1, 3) := by kernel_rfl
theorem fi_32_2 : fieldOff Try.prog 32 2 = some (2, 2) := by kernel_rfl
theorem ze_2 : zeroOf Try.prog 2 = some #[.int .i64 0] := by kernel_rfl
theorem pl_68 : plainFn Try.prog 68 = true := by kernel_rfl
theorem fi_32_3 : fieldOff Try.prog 32 3 = some (3, 3) := by kernel_rfl
theorem fi_32_5 : fieldOff Try.prog 32 5 = some (5, 2) := by kernel_rfl
theorem fi_32_4 : fieldOff Try.prog 32 4 = some (4, 30) := by kernel_rfl
theorem fi_30_0 : fieldOff Try.prog 30 0 = some (0, 28) := by kernel_rfl
theorem ag_28 : isAggB Try.prog 28 = false ∧ (Try.prog.underlying 28).isSome = true := ⟨by kernel_rfl, by kernel_rfl⟩
theorem un_28 : Try.prog.underlying 28 = some (.slice 170) := by kernel_rfl
theorem ze_30 : zeroOf Try.prog 30 = some #[.slice none 0 0] := by kernel_rfl
theorem sz_30 : (Try.prog.info? 30).map (·.size) = some 1 := by kernel_rfl
theorem ag_30 : isAggB Try.prog 30 = true ∧ (Try.prog.info? 30).map (·.size) = some 1 := ⟨by kernel_rfl, by kernel_rfl⟩
theorem ze_32 : zeroOf Try.prog 32 = some #[.int .i64 0, .int .i64 0, .int .i64 0, .int .i64 0, .slice none 0 0, .int .i64 0] := by kernel_rfl
theorem pl_105 : plainFn Try.prog 105 = true := by kernel_rfl
theorem ag_32 : isAggB Try.prog 32 = true ∧ (Try.prog.info? 32).map (·.size) = some 6 := ⟨by kernel_rfl, by kernel_rfl⟩
theorem sz_32 : (Try.prog.info? 32).map (·.size) = some 6 := by kernel_rfl
theorem un_24 : Try.prog.underlying 24 = some (.pointer 80) := by kernel_rfl
theorem fi_80_0 : fieldOff Try.prog 80 0 = some (0, 4) := by kernel_rfl
theorem ag_4 : isAggB Try.prog 4 = false ∧ (Try.prog.underlying 4).isSome = true := ⟨by kernel_rfl, by kernel_rfl⟩
theorem pl_62 : plainFn Try.prog 62 = true := by kernel_rfl
theorem fi_80_1 : fieldOff Try.prog 80 1 = some (1, 2) := by kernel_rfl
theorem pl_63 : plainFn Try.prog 63 = true := by kernel_rfl
theorem mixed : Try.prog.follows .mixedOrders = true := by kernel_rfl
theorem fi_80_2 : fieldOff Try.prog 80 2 = some (2, 22) := by kernel_rfl
theorem ag_22 : isAggB Try.prog 22 = false ∧ (Try.prog.underlying 22).isSome = true := ⟨by kernel_rfl, by kernel_rfl⟩
theorem un_22 : Try.prog.underlying 22 = some (.slice 32) := by kernel_rfl
theorem pl_64 : plainFn Try.prog 64 = true := by kernel_rfl
theorem el_22 : elemSize Try.prog 22 = some (32, 6) := by kernel_rfl
theorem in_32 : (Try.prog.info? 32).map (fun i => (i.zero, i.size, i.bytes)) = some (some (.agg #[.int .i64 0, .int .i64 0, .int .i64 0, .int .i64 0, .slice none 0 0, .int .i64 0]), 6, 64) := by kernel_rfl
theorem ap_22 : appInfo Try.prog 22 32 6 64 6 := appInfo_mk un_22 in_32 rfl
theorem sz_22 : (Try.prog.info? 22).map (·.size) = some 1 := by kernel_rfl
theorem sz_2 : (Try.prog.info? 2).map (·.size) = some 1 := by kernel_rfl
theorem pl_65 : plainFn Try.prog 65 = true := by kernel_rfl
theorem pl_9 : plainFn Try.prog 9 = true := by kernel_rfl
theorem pl_59 : plainFn Try.prog 59 = true := by kernel_rfl
theorem pl_14 : plainFn Try.prog 14 = true := by kernel_rfl
theorem pl_16 : plainFn Try.prog 16 = true := by kernel_rfl
theorem ze_22 : zeroOf Try.prog 22 = some #[.slice none 0 0] := by kernel_rfl
theorem ze_4 : zeroOf Try.prog 4 = some #[.bool false] := by kernel_rfl
theorem ze_3 : zeroOf Try.prog 3 = some #[.int .i64 0] := by kernel_rfl
theorem sz_3 : (Try.prog.info? 3).map (·.size) = some 1 := by kernel_rfl
theorem pl_95 : plainFn Try.prog 95 = true := by kernel_rfl
theorem sz_4 : (Try.prog.info? 4).map (·.size) = some 1 := by kernel_rfl
theorem un_87 : Try.prog.underlying 87 = some (.pointer 90) := by kernel_rfl
theorem fi_90_0 : fieldOff Try.prog 90 0 = some (0, 4) := by kernel_rfl
theorem pl_96 : plainFn Try.prog 96 = true := by kernel_rfl
theorem un_44 : Try.prog.underlying 44 = some (.pointer 98) := by kernel_rfl
theorem fi_98_0 : fieldOff Try.prog 98 0 = some (0, 4) := by kernel_rfl
theorem pl_71 : plainFn Try.prog 71 = true := by kernel_rfl
theorem pl_10 : plainFn Try.prog 10 = true := by kernel_rfl
theorem el_81 : elemSize Try.prog 81 = some (24, 1) := by kernel_rfl
theorem ze_24 : zeroOf Try.prog 24 = some #[.pointer none] := by kernel_rfl
theorem un_81 : Try.prog.underlying 81 = some (.slice 24) := by kernel_rfl
theorem ag_24 : isAggB Try.prog 24 = false ∧ (Try.prog.underlying 24).isSome = true := ⟨by kernel_rfl, by kernel_rfl⟩
theorem pl_42 : plainFn Try.prog 42 = true := by kernel_rfl
theorem un_23 : Try.prog.underlying 23 = some (.slice 5) := by kernel_rfl
theorem pl_17 : plainFn Try.prog 17 = true := by kernel_rfl
theorem pl_44 : plainFn Try.prog 44 = true := by kernel_rfl
theorem pl_43 : plainFn Try.prog 43 = true := by kernel_rfl
theorem pl_45 : plainFn Try.prog 45 = true := by kernel_rfl
theorem el_91 : elemSize Try.prog 91 = some (87, 1) := by kernel_rfl
theorem ze_87 : zeroOf Try.prog 87 = some #[.pointer none] := by kernel_rfl
theorem un_91 : Try.prog.underlying 91 = some (.slice 87) := by kernel_rfl
theorem ag_87 : isAggB Try.prog 87 = false ∧ (Try.prog.underlying 87).isSome = true := ⟨by kernel_rfl, by kernel_rfl⟩
theorem pl_46 : plainFn Try.prog 46 = true := by kernel_rfl
theorem pl_47 : plainFn Try.prog 47 = true := by kernel_rfl
theorem un_60 : Try.prog.underlying 60 = some (.slice 51) := by kernel_rfl
theorem pl_48 : plainFn Try.prog 48 = true := by kernel_rfl
theorem pl_49 : plainFn Try.prog 49 = true := by kernel_rfl
theorem pl_50 : plainFn Try.prog 50 = true := by kernel_rfl
theorem el_99 : elemSize Try.prog 99 = some (44, 1) := by kernel_rfl
theorem ze_44 : zeroOf Try.prog 44 = some #[.pointer none] := by kernel_rfl
theorem un_99 : Try.prog.underlying 99 = some (.slice 44) := by kernel_rfl
theorem ag_44 : isAggB Try.prog 44 = false ∧ (Try.prog.underlying 44).isSome = true := ⟨by kernel_rfl, by kernel_rfl⟩
theorem ag_51 : isAggB Try.prog 51 = true ∧ (Try.prog.info? 51).map (·.size) = some 4 := ⟨by kernel_rfl, by kernel_rfl⟩
theorem pl_22 : plainFn Try.prog 22 = true := by kernel_rfl
theorem pl_25 : plainFn Try.prog 25 = true := by kernel_rfl
theorem pl_21 : plainFn Try.prog 21 = true := by kernel_rfl
theorem pl_28 : plainFn Try.prog 28 = true := by kernel_rfl
theorem pl_20 : plainFn Try.prog 20 = true := by kernel_rfl
set_option maxHeartbeats 4000000 in
set_option maxRecDepth 100000 in
theorem time3 {W w : World} {F : List Atom} (g : Nat) (x y z : Int) (h1 : 0 ≤ x ∧ x ≤ 1099511627776) (h2 : 0 ≤ y ∧ y ≤ 1099511627776) (h3 : 0 ≤ z ∧ z ≤ 1099511627776) (H : St W w (blk g (.cells #[.int .i64 x, .int .i64 y, .int .i64 z] 2 (0, 0)) :: F)) : Calls Try.prog 68 #[.slice (some ⟨g, 0, none⟩) 3 3] w (Ret fun v w' => v = .bool true ∧ St W w' (blk g (.cells #[.int .i64 x, .int .i64 y, .int .i64 z] 2 (0, 0)) :: F)) := by
  have H0 := H
  refine calls_of_go (n := 18) Try.func68 rfl Try.ntmps68 rfl ?_
  refine g_seq ?_
  refine g_region ?_
  refine r_cons (s_assign (.bool false) rfl rfl ?_)
  refine r_nil ?_
  refine g_seq ?_
  refine g_seq ?_
  refine g_region ?_
  refine r_cons (s_move (.slice (some ⟨g, 0, none⟩) 3 3) rfl rfl ?_)
  refine r_cons (s_len 3 rfl ⟨_, un_174⟩ rfl ?_)
  refine r_cons (s_move (.int .i64 0) rfl rfl ?_)
  refine r_nil ?_
  refine g_block ?_
  refine g_loop ?_
  refine g_seq ?_
  refine g_region ?_
  refine r_cons (s_lss true rfl rfl (dtrue (by decide)) rfl ?_)
  refine r_nil ?_
  refine g_seq ?_
  refine g_true rfl ?_
  refine g_skip ?_
  refine g_seq ?_
  refine g_block ?_
  refine g_seq ?_
  refine g_region ?_
  refine r_cons (s_indexAddr g 0 1 0 rfl rfl el_174 (by omega) rfl rfl ?_)
  refine r_cons (s_load (.int .i64 x) ag_2 rfl (H0.blk_at (i := 0) rfl) rfl rfl ?_)
  refine r_cons (s_assign (.int .i64 x) rfl rfl ?_)
  refine r_nil ?_
  refine g_seq ?_
  refine g_region ?_
  refine r_cons (s_move (.int .i64 x) rfl rfl ?_)
  refine r_cons (s_lss false rfl rfl (dfalse (by omega)) rfl ?_)
  refine r_cons (s_move (.bool false) rfl rfl ?_)
  refine r_cons (r_take rfl rfl ?_)
  refine s_move (.int .i64 x) rfl rfl ?_
  refine r_cons (r_take rfl rfl ?_)
  refine s_gtr false rfl rfl (dfalse (by omega)) rfl ?_
  refine r_cons (s_pick_f (.bool false) rfl rfl rfl ?_)
  refine r_nil ?_
  refine g_false rfl ?_
  refine g_skip ?_
  refine g_inBlock ?_
  refine g_region ?_
  refine r_cons (s_add 1 rfl rfl (wi64 (by omega)) rfl ?_)
  refine r_cons (s_move (.int .i64 1) rfl rfl ?_)
  refine r_nil ?_
  refine g_inLoop ?_
  refine g_seq ?_
  refine g_region ?_
  refine r_cons (s_lss true rfl rfl (dtrue (by decide)) rfl ?_)
  refine r_nil ?_
  refine g_seq ?_
  refine g_true rfl ?_
  refine g_skip ?_
  refine g_seq ?_
  refine g_block ?_
  refine g_seq ?_
  refine g_region ?_
  refine r_cons (s_indexAddr g 1 1 1 rfl rfl el_174 (by omega) rfl rfl ?_)
  refine r_cons (s_load (.int .i64 y) ag_2 rfl (H0.blk_at (i := 0) rfl) rfl rfl ?_)
  refine r_cons (s_assign (.int .i64 y) rfl rfl ?_)
  refine r_nil ?_
  refine g_seq ?_
  refine g_region ?_
  refine r_cons (s_move (.int .i64 y) rfl rfl ?_)
  refine r_cons (s_lss false rfl rfl (dfalse (by omega)) rfl ?_)
  refine r_cons (s_move (.bool false) rfl rfl ?_)
  refine r_cons (r_take rfl rfl ?_)
  refine s_move (.int .i64 y) rfl rfl ?_
  refine r_cons (r_take rfl rfl ?_)
  refine s_gtr false rfl rfl (dfalse (by omega)) rfl ?_
  refine r_cons (s_pick_f (.bool false) rfl rfl rfl ?_)
  refine r_nil ?_
  refine g_false rfl ?_
  refine g_skip ?_
  refine g_inBlock ?_
  refine g_region ?_
  refine r_cons (s_add 2 rfl rfl (wi64 (by omega)) rfl ?_)
  refine r_cons (s_move (.int .i64 2) rfl rfl ?_)
  refine r_nil ?_
  refine g_inLoop ?_
  refine g_seq ?_
  refine g_region ?_
  refine r_cons (s_lss true rfl rfl (dtrue (by decide)) rfl ?_)
  refine r_nil ?_
  refine g_seq ?_
  refine g_true rfl ?_
  refine g_skip ?_
  refine g_seq ?_
  refine g_block ?_
  refine g_seq ?_
  refine g_region ?_
  refine r_cons (s_indexAddr g 2 1 2 rfl rfl el_174 (by omega) rfl rfl ?_)
  refine r_cons (s_load (.int .i64 z) ag_2 rfl (H0.blk_at (i := 0) rfl) rfl rfl ?_)
  refine r_cons (s_assign (.int .i64 z) rfl rfl ?_)
  refine r_nil ?_
  refine g_seq ?_
  refine g_region ?_
  refine r_cons (s_move (.int .i64 z) rfl rfl ?_)
  refine r_cons (s_lss false rfl rfl (dfalse (by omega)) rfl ?_)
  refine r_cons (s_move (.bool false) rfl rfl ?_)
  refine r_cons (r_take rfl rfl ?_)
  refine s_move (.int .i64 z) rfl rfl ?_
  refine r_cons (r_take rfl rfl ?_)
  refine s_gtr false rfl rfl (dfalse (by omega)) rfl ?_
  refine r_cons (s_pick_f (.bool false) rfl rfl rfl ?_)
  refine r_nil ?_
  refine g_false rfl ?_
  refine g_skip ?_
  refine g_inBlock ?_
  refine g_region ?_
  refine r_cons (s_add 3 rfl rfl (wi64 (by omega)) rfl ?_)
  refine r_cons (s_move (.int .i64 3) rfl rfl ?_)
  refine r_nil ?_
  refine g_inLoop ?_
  refine g_seq ?_
  refine g_region ?_
  refine r_cons (s_lss false rfl rfl (dfalse (by decide)) rfl ?_)
  refine r_nil ?_
  refine g_seq ?_
  refine g_false rfl ?_
  refine g_exit (by rfl) ?_
  refine g_seq ?_
  refine g_region ?_
  refine r_cons (s_assign (.bool true) rfl rfl ?_)
  refine r_nil ?_
  refine g_ret' [.bool true] Try.func68 Try.results68 ⟨rfl, trivial⟩ ?_
  have H1 : St W w (blk g (.cells #[.int .i64 x, .int .i64 y, .int .i64 z] 2 (0, 0)) :: F) := H0
  exact ⟨rfl, H1⟩
set_option maxHeartbeats 4000000 in
set_option maxRecDepth 100000 in
theorem CheckItem_mark {W w : World} {F : List Atom} (o n e t : Int) (ho : 0 ≤ o ∧ o ≤ 1099511627776) (hn : 0 ≤ n ∧ n ≤ 1099511627776) (he : 0 ≤ e ∧ e ≤ 1099511627776) (ht : 0 ≤ t ∧ t ≤ 1099511627777) (H : St W w F) : Calls Try.prog 63 #[.agg #[.int .i64 o, .int .i64 n, .int .i64 e, .int .i64 2, .slice none 0 0, .int .i64 t]] w (Ret fun v w' => v = .int .i64 0 ∧ St W w' F) := by
  refine calls_of_go (n := 55) Try.func63 rfl Try.ntmps63 rfl ?_
  refine g_seq ?_
  refine g_region ?_
  refine r_cons (s_box H 32 (.agg #[.int .i64 o, .int .i64 n, .int .i64 e, .int .i64 2, .slice none 0 0, .int .i64 t]) rfl (cs := #[.int .i64 o, .int .i64 n, .int .i64 e, .int .i64 2, .slice none 0 0, .int .i64 t]) rfl rfl ?_); intro bk1 w2 H3
  refine r_cons (s_assign (.int .i64 0) rfl rfl ?_)
  refine r_nil ?_
  refine g_seq ?_
  refine g_region ?_
  refine r_cons (s_fieldAddr 32 0 0 0 3 rfl fi_32_0 rfl rfl ?_)
  refine r_cons (s_load (.int .i64 o) ag_3 rfl (H3.blk_at (i := 0) rfl) rfl rfl ?_)
  refine r_cons (s_fieldAddr 32 1 1 1 3 rfl fi_32_1 rfl rfl ?_)
  refine r_cons (s_load (.int .i64 n) ag_3 rfl (H3.blk_at (i := 0) rfl) rfl rfl ?_)
  refine r_cons (s_fieldAddr 32 2 2 2 2 rfl fi_32_2 rfl rfl ?_)
  refine r_cons (s_load (.int .i64 e) ag_2 rfl (H3.blk_at (i := 0) rfl) rfl rfl ?_)
  refine r_cons (s_buildSlice H3 1 3 (cs := #[.int .i64 o, .int .i64 n, .int .i64 e]) #[.int .i64 0] el_174 ze_2 (by decide) (by decide) (by kernel_rfl) rfl ?_); intro bk4 w5 H6
  refine r_cons (s_call [.slice (some ⟨bk4, 0, none⟩) 3 3] pl_68 rfl rfl (time3 bk4 o n e (by omega) (by omega) (by omega) H6) ?_)
  rintro _ w7 ⟨rfl, H8⟩
  refine r_cons (s_assign (.bool true) rfl rfl ?_)
  refine r_nil ?_
  refine g_seq ?_
  refine g_seq ?_
  refine g_region ?_
  refine r_cons (s_fieldAddr 32 3 3 3 3 rfl fi_32_3 rfl rfl ?_)
  refine r_cons (s_load (.int .i64 2) ag_3 rfl (H8.blk_at (i := 1) rfl) rfl rfl ?_)
  refine r_nil ?_
  refine g_block ?_
  refine g_seq ?_
  refine g_region ?_
  refine r_cons (s_eql false rfl rfl (dfalse (by decide)) rfl ?_)
  refine r_cons (s_assign (.bool false) rfl rfl ?_)
  refine r_nil ?_
  refine g_false rfl ?_
  refine g_seq ?_
  refine g_region ?_
  refine r_cons (s_eql true rfl rfl (dtrue (by decide)) rfl ?_)
  refine r_cons (s_assign (.bool true) rfl rfl ?_)
  refine r_nil ?_
  refine g_true rfl ?_
  refine g_region ?_
  refine r_cons (s_move (.bool true) rfl rfl ?_)
  refine r_cons (s_move (.bool true) rfl rfl ?_)
  refine r_cons (r_take rfl rfl ?_)
  refine s_fieldAddr 32 5 5 5 2 rfl fi_32_5 rfl rfl ?_
  refine r_cons (r_take rfl rfl ?_)
  refine s_load (.int .i64 t) ag_2 rfl (H8.blk_at (i := 1) rfl) rfl rfl ?_
  refine r_cons (r_take rfl rfl ?_)
  refine s_geq true rfl rfl (dtrue (by omega)) rfl ?_
  refine r_cons (s_pick_t (.bool true) rfl rfl rfl ?_)
  refine r_cons (s_move (.bool true) rfl rfl ?_)
  refine r_cons (r_take rfl rfl ?_)
  refine s_fieldAddr 32 5 5 5 2 rfl fi_32_5 rfl rfl ?_
  refine r_cons (r_take rfl rfl ?_)
  refine s_load (.int .i64 t) ag_2 rfl (H8.blk_at (i := 1) rfl) rfl rfl ?_
  refine r_cons (r_take rfl rfl ?_)
  refine s_leq true rfl rfl (dtrue (by omega)) rfl ?_
  refine r_cons (s_pick_t (.bool true) rfl rfl rfl ?_)
  refine r_cons (s_assign (.bool true) rfl rfl ?_)
  refine r_nil ?_
  refine g_inBlock ?_
  refine g_seq ?_
  refine g_seq ?_
  refine g_region ?_
  refine r_cons (s_move (.bool true) rfl rfl ?_)
  refine r_cons (s_not true rfl false rfl rfl ?_)
  refine r_cons (s_move (.bool false) rfl rfl ?_)
  refine r_cons (r_take rfl rfl ?_)
  refine s_fieldAddr 32 4 4 4 30 rfl fi_32_4 rfl rfl ?_
  refine r_cons (r_take rfl rfl ?_)
  refine s_fieldAddr 30 0 0 4 28 rfl fi_30_0 rfl rfl ?_
  refine r_cons (r_take rfl rfl ?_)
  refine s_load (.slice none 0 0) ag_28 rfl (H8.blk_at (i := 1) rfl) rfl rfl ?_
  refine r_cons (r_take rfl rfl ?_)
  refine s_len 0 rfl ⟨_, un_28⟩ rfl ?_
  refine r_cons (r_take rfl rfl ?_)
  refine s_gtr false rfl rfl (dfalse (by decide)) rfl ?_
  refine r_cons (s_pick_f (.bool false) rfl rfl rfl ?_)
  refine r_nil ?_
  refine g_false rfl ?_
  refine g_skip ?_
  refine g_seq ?_
  refine g_region ?_
  refine r_cons (s_assign (.int .i64 0) rfl rfl ?_)
  refine r_nil ?_
  refine g_ret' [.int .i64 0] Try.func63 Try.results63 ⟨rfl, trivial⟩ ?_
  have H9 : St W w7 F := ((H8.drop 0 rfl).drop 0 rfl)
  exact ⟨rfl, H9⟩
set_option maxHeartbeats 4000000 in
set_option maxRecDepth 100000 in
theorem CheckItem_end {W w : World} {F : List Atom} (o n e : Int) (ho : 0 ≤ o ∧ o ≤ 1099511627776) (hn : 0 ≤ n ∧ n ≤ 1099511627776) (he : 0 ≤ e ∧ e ≤ 1099511627776) (H : St W w F) : Calls Try.prog 63 #[.agg #[.int .i64 o, .int .i64 n, .int .i64 e, .int .i64 3, .slice none 0 0, .int .i64 0]] w (Ret fun v w' => v = .int .i64 0 ∧ St W w' F) := by
  refine calls_of_go (n := 55) Try.func63 rfl Try.ntmps63 rfl ?_
  refine g_seq ?_
  refine g_region ?_
  refine r_cons (s_box H 32 (.agg #[.int .i64 o, .int .i64 n, .int .i64 e, .int .i64 3, .slice none 0 0, .int .i64 0]) rfl (cs := #[.int .i64 o, .int .i64 n, .int .i64 e, .int .i64 3, .slice none 0 0, .int .i64 0]) rfl rfl ?_); intro bk1 w2 H3
  refine r_cons (s_assign (.int .i64 0) rfl rfl ?_)
  refine r_nil ?_
  refine g_seq ?_
  refine g_region ?_
  refine r_cons (s_fieldAddr 32 0 0 0 3 rfl fi_32_0 rfl rfl ?_)
  refine r_cons (s_load (.int .i64 o) ag_3 rfl (H3.blk_at (i := 0) rfl) rfl rfl ?_)
  refine r_cons (s_fieldAddr 32 1 1 1 3 rfl fi_32_1 rfl rfl ?_)
  refine r_cons (s_load (.int .i64 n) ag_3 rfl (H3.blk_at (i := 0) rfl) rfl rfl ?_)
  refine r_cons (s_fieldAddr 32 2 2 2 2 rfl fi_32_2 rfl rfl ?_)
  refine r_cons (s_load (.int .i64 e) ag_2 rfl (H3.blk_at (i := 0) rfl) rfl rfl ?_)
  refine r_cons (s_buildSlice H3 1 3 (cs := #[.int .i64 o, .int .i64 n, .int .i64 e]) #[.int .i64 0] el_174 ze_2 (by decide) (by decide) (by kernel_rfl) rfl ?_); intro bk4 w5 H6
  refine r_cons (s_call [.slice (some ⟨bk4, 0, none⟩) 3 3] pl_68 rfl rfl (time3 bk4 o n e (by omega) (by omega) (by omega) H6) ?_)
  rintro _ w7 ⟨rfl, H8⟩
  refine r_cons (s_assign (.bool true) rfl rfl ?_)
  refine r_nil ?_
  refine g_seq ?_
  refine g_seq ?_
  refine g_region ?_
  refine r_cons (s_fieldAddr 32 3 3 3 3 rfl fi_32_3 rfl rfl ?_)
  refine r_cons (s_load (.int .i64 3) ag_3 rfl (H8.blk_at (i := 1) rfl) rfl rfl ?_)
  refine r_nil ?_
  refine g_block ?_
  refine g_seq ?_
  refine g_region ?_
  refine r_cons (s_eql false rfl rfl (dfalse (by decide)) rfl ?_)
  refine r_cons (s_assign (.bool false) rfl rfl ?_)
  refine r_nil ?_
  refine g_false rfl ?_
  refine g_seq ?_
  refine g_region ?_
  refine r_cons (s_eql false rfl rfl (dfalse (by decide)) rfl ?_)
  refine r_cons (s_assign (.bool false) rfl rfl ?_)
  refine r_nil ?_
  refine g_false rfl ?_
  refine g_seq ?_
  refine g_region ?_
  refine r_cons (s_eql true rfl rfl (dtrue (by decide)) rfl ?_)
  refine r_cons (s_assign (.bool true) rfl rfl ?_)
  refine r_nil ?_
  refine g_true rfl ?_
  refine g_region ?_
  refine r_cons (s_move (.bool true) rfl rfl ?_)
  refine r_cons (s_move (.bool true) rfl rfl ?_)
  refine r_cons (r_take rfl rfl ?_)
  refine s_fieldAddr 32 5 5 5 2 rfl fi_32_5 rfl rfl ?_
  refine r_cons (r_take rfl rfl ?_)
  refine s_load (.int .i64 0) ag_2 rfl (H8.blk_at (i := 1) rfl) rfl rfl ?_
  refine r_cons (r_take rfl rfl ?_)
  refine s_eql true rfl rfl (dtrue (by decide)) rfl ?_
  refine r_cons (s_pick_t (.bool true) rfl rfl rfl ?_)
  refine r_cons (s_assign (.bool true) rfl rfl ?_)
  refine r_nil ?_
  refine g_inBlock ?_
  refine g_seq ?_
  refine g_seq ?_
  refine g_region ?_
  refine r_cons (s_move (.bool true) rfl rfl ?_)
  refine r_cons (s_not true rfl false rfl rfl ?_)
  refine r_cons (s_move (.bool false) rfl rfl ?_)
  refine r_cons (r_take rfl rfl ?_)
  refine s_fieldAddr 32 4 4 4 30 rfl fi_32_4 rfl rfl ?_
  refine r_cons (r_take rfl rfl ?_)
  refine s_fieldAddr 30 0 0 4 28 rfl fi_30_0 rfl rfl ?_
  refine r_cons (r_take rfl rfl ?_)
  refine s_load (.slice none 0 0) ag_28 rfl (H8.blk_at (i := 1) rfl) rfl rfl ?_
  refine r_cons (r_take rfl rfl ?_)
  refine s_len 0 rfl ⟨_, un_28⟩ rfl ?_
  refine r_cons (r_take rfl rfl ?_)
  refine s_gtr false rfl rfl (dfalse (by decide)) rfl ?_
  refine r_cons (s_pick_f (.bool false) rfl rfl rfl ?_)
  refine r_nil ?_
  refine g_false rfl ?_
  refine g_skip ?_
  refine g_seq ?_
  refine g_region ?_
  refine r_cons (s_assign (.int .i64 0) rfl rfl ?_)
  refine r_nil ?_
  refine g_ret' [.int .i64 0] Try.func63 Try.results63 ⟨rfl, trivial⟩ ?_
  have H9 : St W w7 F := ((H8.drop 0 rfl).drop 0 rfl)
  exact ⟨rfl, H9⟩
set_option maxHeartbeats 4000000 in
set_option maxRecDepth 100000 in
theorem clone_nobounds {W w : World} {F : List Atom}  (H : St W w F) : Calls Try.prog 105 #[.agg #[.slice none 0 0]] w (Ret fun v w' => v = .agg #[.slice none 0 0] ∧ St W w' F) := by
  refine calls_of_go (n := 25) Try.func105 rfl Try.ntmps105 rfl ?_
  refine g_seq ?_
  refine g_region ?_
  refine r_cons (s_box H 30 (.agg #[.slice none 0 0]) rfl (cs := #[.slice none 0 0]) rfl rfl ?_); intro bk1 w2 H3
  refine r_cons (s_alloc H3 30 ze_30 rfl ?_); intro bk4 w5 H6
  refine r_nil ?_
  refine g_seq ?_
  refine g_region ?_
  refine r_cons (s_assign (.slice none 0 0) rfl rfl ?_)
  refine r_nil ?_
  refine g_seq ?_
  refine g_seq ?_
  refine g_region ?_
  refine r_cons (s_fieldAddr 30 0 0 0 28 rfl fi_30_0 rfl rfl ?_)
  refine r_cons (s_load (.slice none 0 0) ag_28 rfl (H6.blk_at (i := 1) rfl) rfl rfl ?_)
  refine r_cons (s_len 0 rfl ⟨_, un_28⟩ rfl ?_)
  refine r_cons (s_move (.int .i64 0) rfl rfl ?_)
  refine r_nil ?_
  refine g_block ?_
  refine g_loop ?_
  refine g_seq ?_
  refine g_region ?_
  refine r_cons (s_lss false rfl rfl (dfalse (by decide)) rfl ?_)
  refine r_nil ?_
  refine g_seq ?_
  refine g_false rfl ?_
  refine g_exit (by rfl) ?_
  refine g_seq ?_
  refine g_region ?_
  refine r_cons (s_move (.slice none 0 0) rfl rfl ?_)
  refine r_cons (s_build (cs := #[.slice none 0 0]) (by kernel_rfl) rfl ?_)
  refine r_cons (s_storeAgg H6 0 #[.slice none 0 0] 1 rfl rfl rfl sz_30 rfl (by simp [Value.oneCell']) (Nat.le_of_ble_eq_true rfl) (fun o h1 h2 => by first | (simp; done) | (simp; omega)) (cs' := #[.slice none 0 0]) rfl ?_); intro w7 H8
  refine r_nil ?_
  refine g_ret' [.agg #[.slice none 0 0]] Try.func105 Try.results105 ⟨(res_cellN rfl ag_30 (H8.blk_at (i := 0) rfl) (Nat.le_of_ble_eq_true rfl) rfl), trivial⟩ ?_
  have H9 : St W w7 F := ((H8.drop 0 rfl).drop 0 rfl)
  exact ⟨rfl, H9⟩
set_option maxHeartbeats 4000000 in
set_option maxRecDepth 100000 in
theorem own_plain {W w : World} {F : List Atom} (o n e k t : Int) (H : St W w F) : Calls Try.prog 64 #[.agg #[.int .i64 o, .int .i64 n, .int .i64 e, .int .i64 k, .slice none 0 0, .int .i64 t]] w (Ret fun v w' => v = .agg #[.int .i64 o, .int .i64 n, .int .i64 e, .int .i64 k, .slice none 0 0, .int .i64 t] ∧ St W w' F) := by
  refine calls_of_go (n := 8) Try.func64 rfl Try.ntmps64 rfl ?_
  refine g_seq ?_
  refine g_region ?_
  refine r_cons (s_box H 32 (.agg #[.int .i64 o, .int .i64 n, .int .i64 e, .int .i64 k, .slice none 0 0, .int .i64 t]) rfl (cs := #[.int .i64 o, .int .i64 n, .int .i64 e, .int .i64 k, .slice none 0 0, .int .i64 t]) rfl rfl ?_); intro bk1 w2 H3
  refine r_cons (s_alloc H3 32 ze_32 rfl ?_); intro bk4 w5 H6
  refine r_nil ?_
  refine g_seq ?_
  refine g_region ?_
  refine r_cons (s_fieldAddr 32 4 4 4 30 rfl fi_32_4 rfl rfl ?_)
  refine r_cons (s_loadAgg [.slice none 0 0] 1 ag_30 rfl (H6.blk_at (i := 1) rfl) (Nat.le_of_ble_eq_true rfl) rfl rfl ?_)
  refine r_cons (s_call [.agg #[.slice none 0 0]] pl_105 rfl rfl (clone_nobounds H6) ?_)
  rintro _ w7 ⟨rfl, H8⟩
  refine r_cons (s_fieldAddr 32 4 4 4 30 rfl fi_32_4 rfl rfl ?_)
  refine r_cons (s_storeAgg H8 1 #[.slice none 0 0] 1 rfl rfl rfl sz_30 rfl (by simp [Value.oneCell']) (Nat.le_of_ble_eq_true rfl) (fun o h1 h2 => by first | (simp; done) | (simp; omega)) (cs' := #[.int .i64 o, .int .i64 n, .int .i64 e, .int .i64 k, .slice none 0 0, .int .i64 t]) rfl ?_); intro w9 H10
  refine r_nil ?_
  refine g_seq ?_
  refine g_region ?_
  refine r_cons (s_loadAgg [.int .i64 o, .int .i64 n, .int .i64 e, .int .i64 k, .slice none 0 0, .int .i64 t] 6 ag_32 rfl (H10.blk_at (i := 1) rfl) (Nat.le_of_ble_eq_true rfl) rfl rfl ?_)
  refine r_cons (s_storeAgg H10 0 #[.int .i64 o, .int .i64 n, .int .i64 e, .int .i64 k, .slice none 0 0, .int .i64 t] 6 rfl rfl rfl sz_32 rfl (by simp [Value.oneCell']) (Nat.le_of_ble_eq_true rfl) (fun o h1 h2 => by first | (simp; done) | (simp; omega)) (cs' := #[.int .i64 o, .int .i64 n, .int .i64 e, .int .i64 k, .slice none 0 0, .int .i64 t]) rfl ?_); intro w11 H12
  refine r_nil ?_
  refine g_ret' [.agg #[.int .i64 o, .int .i64 n, .int .i64 e, .int .i64 k, .slice none 0 0, .int .i64 t]] Try.func64 Try.results64 ⟨(res_cellN rfl ag_32 (H12.blk_at (i := 0) rfl) (Nat.le_of_ble_eq_true rfl) rfl), trivial⟩ ?_
  have H13 : St W w11 F := ((H12.drop 0 rfl).drop 0 rfl)
  exact ⟨rfl, H13⟩
set_option maxHeartbeats 4000000 in
set_option maxRecDepth 100000 in
theorem NewGate_ {W w : World} {F : List Atom}  (H : St W w F) : Calls Try.prog 9 #[] w (Ret fun v w' => ∃ g, v = .pointer (some ⟨g, 0, none⟩) ∧ St W w' (blk g (.cells #[.bool true, .int .i64 0, .slice none 0 0] 80 (0, 0)) :: F)) := by
  refine calls_of_go (n := 3) Try.func9 rfl Try.ntmps9 rfl ?_
  refine g_seq ?_
  refine g_region ?_
  refine r_cons (s_assign (.pointer none) rfl rfl ?_)
  refine r_nil ?_
  refine g_seq ?_
  refine g_region ?_
  refine r_cons (s_build (cs := #[.bool true, .int .i64 0, .slice none 0 0]) (by kernel_rfl) rfl ?_)
  refine r_cons (s_box H 80 (.agg #[.bool true, .int .i64 0, .slice none 0 0]) rfl (cs := #[.bool true, .int .i64 0, .slice none 0 0]) rfl rfl ?_); intro bk1 w2 H3
  refine r_cons (s_assign (.pointer (some ⟨bk1, 0, none⟩)) rfl rfl ?_)
  refine r_nil ?_
  refine g_ret' [.pointer (some ⟨bk1, 0, none⟩)] Try.func9 Try.results9 ⟨rfl, trivial⟩ ?_
  have H4 : St W w2 (blk bk1 (.cells #[.bool true, .int .i64 0, .slice none 0 0] 80 (0, 0)) :: F) := H3
  exact ⟨bk1, rfl, H4⟩
set_option maxHeartbeats 4000000 in
set_option maxRecDepth 100000 in
theorem Gate_none {W w : World} {F : List Atom} (g : Nat) (e : Int) (sv : Value) {i : Nat} (hi : F[i]? = some (blk g (.cells #[.bool true, .int .i64 e, sv] 80 (0, 0)))) (H : St W w F) : Calls Try.prog 62 #[.pointer (some ⟨g, 0, none⟩)] w (Ret fun v w' => v = .bool false ∧ St W w' F) := by
  have H0 := H.front hi
  refine calls_of_go (n := 12) Try.func62 rfl Try.ntmps62 rfl ?_
  refine g_seq ?_
  refine g_region ?_
  refine r_cons (s_assign (.bool false) rfl rfl ?_)
  refine r_nil ?_
  refine g_seq ?_
  refine g_region ?_
  refine r_cons (s_move (.pointer (some ⟨g, 0, none⟩)) rfl rfl ?_)
  refine r_cons (s_peql false un_24 rfl rfl rfl rfl ?_)
  refine r_cons (s_move (.bool false) rfl rfl ?_)
  refine r_cons (r_take rfl rfl ?_)
  refine s_move (.pointer (some ⟨g, 0, none⟩)) rfl rfl ?_
  refine r_cons (r_take rfl rfl ?_)
  refine s_nilCheck (.pointer (some ⟨g, 0, none⟩)) rfl ⟨_, rfl⟩ rfl ?_
  refine r_cons (r_take rfl rfl ?_)
  refine s_fieldAddr 80 0 0 0 4 rfl fi_80_0 rfl rfl ?_
  refine r_cons (r_take rfl rfl ?_)
  refine s_load (.bool true) ag_4 rfl (H0.blk_at (i := 0) rfl) rfl rfl ?_
  refine r_cons (r_take rfl rfl ?_)
  refine s_not true rfl false rfl rfl ?_
  refine r_cons (s_pick_f (.bool false) rfl rfl rfl ?_)
  refine r_cons (s_assign (.bool false) rfl rfl ?_)
  refine r_nil ?_
  refine g_ret' [.bool false] Try.func62 Try.results62 ⟨rfl, trivial⟩ ?_
  have H1 : St W w (blk g (.cells #[.bool true, .int .i64 e, sv] 80 (0, 0)) :: (F.set i emp)) := H0
  exact ⟨rfl, St.back_same hi H1⟩
set_option maxHeartbeats 4000000 in
set_option maxRecDepth 100000 in
theorem Gate_Epoch {W w : World} {F : List Atom} (g : Nat) (e : Int) (sv : Value) {i : Nat} (hi : F[i]? = some (blk g (.cells #[.bool true, .int .i64 e, sv] 80 (0, 0)))) (H : St W w F) : Calls Try.prog 16 #[.pointer (some ⟨g, 0, none⟩)] w (Ret fun v w' => v = .int .i64 e ∧ St W w' F) := by
  have H0 := H.front hi
  refine calls_of_go (n := 9) Try.func16 rfl Try.ntmps16 rfl ?_
  refine g_seq ?_
  refine g_region ?_
  refine r_cons (s_assign (.int .i64 0) rfl rfl ?_)
  refine r_nil ?_
  refine g_seq ?_
  refine g_seq ?_
  refine g_region ?_
  refine r_cons (s_move (.pointer (some ⟨g, 0, none⟩)) rfl rfl ?_)
  refine r_cons (s_call [.pointer (some ⟨g, 0, none⟩)] pl_62 rfl rfl (Gate_none g (e : Int) sv (i := 0) rfl H0) ?_)
  rintro _ w1 ⟨rfl, H2⟩
  refine r_nil ?_
  refine g_false rfl ?_
  refine g_skip ?_
  refine g_seq ?_
  refine g_region ?_
  refine r_cons (s_move (.pointer (some ⟨g, 0, none⟩)) rfl rfl ?_)
  refine r_cons (s_nilCheck (.pointer (some ⟨g, 0, none⟩)) rfl ⟨_, rfl⟩ rfl ?_)
  refine r_cons (s_fieldAddr 80 1 1 1 2 rfl fi_80_1 rfl rfl ?_)
  refine r_cons (s_load (.int .i64 e) ag_2 rfl (H2.blk_at (i := 0) rfl) rfl rfl ?_)
  refine r_cons (s_assign (.int .i64 e) rfl rfl ?_)
  refine r_nil ?_
  refine g_ret' [.int .i64 e] Try.func16 Try.results16 ⟨rfl, trivial⟩ ?_
  have H3 : St W w1 (blk g (.cells #[.bool true, .int .i64 e, sv] 80 (0, 0)) :: (F.set i emp)) := H2
  exact ⟨rfl, St.back_same hi H3⟩
set_option maxHeartbeats 4000000 in
set_option maxRecDepth 100000 in
theorem Take_old {W w : World} {F : List Atom} (g : Nat) (a : Int) (sv : Value) (o n e t : Int) (ho : 0 ≤ o ∧ o ≤ 1099511627776) (hn : 0 ≤ n ∧ n ≤ 1099511627776) (he : 0 ≤ e ∧ e ≤ 1099511627776) (ht : 0 ≤ t ∧ t ≤ 1099511627777) (hlt : e < a) (H : St W w (blk g (.cells #[.bool true, .int .i64 a, sv] 80 (0, 0)) :: F)) : Calls Try.prog 14 #[.pointer (some ⟨g, 0, none⟩), .agg #[.int .i64 o, .int .i64 n, .int .i64 e, .int .i64 2, .slice none 0 0, .int .i64 t]] w (Ret fun v w' => v = .tuple #[.slice none 0 0, .int .i64 240] ∧ St W w' (blk g (.cells #[.bool true, .int .i64 a, sv] 80 (0, 0)) :: F)) := by
  refine calls_of_go (n := 74) Try.func14 rfl Try.ntmps14 rfl ?_
  refine g_seq ?_
  refine g_region ?_
  refine r_cons (s_box H 32 (.agg #[.int .i64 o, .int .i64 n, .int .i64 e, .int .i64 2, .slice none 0 0, .int .i64 t]) rfl (cs := #[.int .i64 o, .int .i64 n, .int .i64 e, .int .i64 2, .slice none 0 0, .int .i64 t]) rfl rfl ?_); intro bk1 w2 H3
  refine r_cons (s_assign (.slice none 0 0) rfl rfl ?_)
  refine r_cons (s_assign (.int .i64 0) rfl rfl ?_)
  refine r_nil ?_
  refine g_seq ?_
  refine g_seq ?_
  refine g_region ?_
  refine r_cons (s_move (.pointer (some ⟨g, 0, none⟩)) rfl rfl ?_)
  refine r_cons (s_call [.pointer (some ⟨g, 0, none⟩)] pl_62 rfl rfl (Gate_none g (a : Int) sv (i := 1) rfl H3) ?_)
  rintro _ w4 ⟨rfl, H5⟩
  refine r_nil ?_
  refine g_false rfl ?_
  refine g_skip ?_
  refine g_seq ?_
  refine g_seq ?_
  refine g_region ?_
  refine r_cons (s_loadAgg [.int .i64 o, .int .i64 n, .int .i64 e, .int .i64 2, .slice none 0 0, .int .i64 t] 6 ag_32 rfl (H5.blk_at (i := 0) rfl) (Nat.le_of_ble_eq_true rfl) rfl rfl ?_)
  refine r_cons (s_call [.agg #[.int .i64 o, .int .i64 n, .int .i64 e, .int .i64 2, .slice none 0 0, .int .i64 t]] pl_63 rfl rfl (CheckItem_mark (o : Int) (n : Int) (e : Int) (t : Int) (by omega) (by omega) (by omega) (by omega) H5) ?_)
  rintro _ w6 ⟨rfl, H7⟩
  refine r_cons (s_assign (.int .i64 0) rfl rfl ?_)
  refine r_nil ?_
  refine g_seq ?_
  refine g_region ?_
  refine r_cons (s_move (.int .i64 0) rfl rfl ?_)
  refine r_cons (s_neq false rfl rfl (ntrue (by decide)) rfl ?_)
  refine r_nil ?_
  refine g_false rfl ?_
  refine g_skip ?_
  refine g_seq ?_
  refine g_block ?_
  refine g_seq ?_
  refine g_quiet (fun w' => St W w' (blk bk1 (.cells #[.int .i64 o, .int .i64 n, .int .i64 e, .int .i64 2, .slice none 0 0, .int .i64 t] 32 (0, 0)) :: blk g (.cells #[.bool true, .int .i64 a, sv] 80 (0, 0)) :: F)) mixed (by kernel_rfl) H7.drew ?_
  refine q_cons (q_val rfl rfl rfl (by intro w hw; exact x_fieldAddr 32 2 2 2 2 rfl fi_32_2 rfl w) ?_)
  refine q_cons (q_val rfl rfl rfl (by intro w hw; exact x_load (.int .i64 e) ag_2 rfl (hw.blk_at (i := 0) rfl) rfl) ?_)
  refine q_cons (q_val rfl rfl rfl (by intro w hw; exact x_move (.pointer (some ⟨g, 0, none⟩)) rfl w) ?_)
  refine q_cons (q_val rfl rfl rfl (by intro w hw; exact x_nilCheck (.pointer (some ⟨g, 0, none⟩)) rfl ⟨_, rfl⟩ w) ?_)
  refine q_cons (q_val rfl rfl rfl (by intro w hw; exact x_fieldAddr 80 1 1 1 2 rfl fi_80_1 rfl w) ?_)
  refine q_cons (q_val rfl rfl rfl (by intro w hw; exact x_load (.int .i64 a) ag_2 rfl (hw.blk_at (i := 1) rfl) rfl) ?_)
  refine q_cons (q_val rfl rfl rfl (by intro w hw; exact x_lss true rfl rfl (dtrue hlt) w) ?_)
  refine q_cons (q_val rfl rfl rfl (by intro w hw; exact x_assign (.bool true) rfl w) ?_)
  refine q_nil ?_
  intro w8 H9
  refine g_true rfl ?_
  refine g_seq ?_
  refine g_region ?_
  refine r_cons (s_assign (.slice none 0 0) rfl rfl ?_)
  refine r_cons (s_assign (.int .i64 240) rfl rfl ?_)
  refine r_nil ?_
  refine g_ret' [.slice none 0 0, .int .i64 240] Try.func14 Try.results14 ⟨rfl, rfl, trivial⟩ ?_
  have H10 : St W w8 (blk g (.cells #[.bool true, .int .i64 a, sv] 80 (0, 0)) :: F) := ((H9.move 1 rfl).drop 1 rfl)
  exact ⟨rfl, H10⟩
set_option maxHeartbeats 4000000 in
set_option maxRecDepth 100000 in
theorem Take_wait {W w : World} {F : List Atom} (g : Nat) (a : Int) (o n e t : Int) (ho : 0 ≤ o ∧ o ≤ 1099511627776) (hn : 0 ≤ n ∧ n ≤ 1099511627776) (he : 0 ≤ e ∧ e ≤ 1099511627776) (ht : 0 ≤ t ∧ t ≤ 1099511627777) (hlt : a < e) (H : St W w (blk g (.cells #[.bool true, .int .i64 a, .slice none 0 0] 80 (0, 0)) :: F)) : Calls Try.prog 14 #[.pointer (some ⟨g, 0, none⟩), .agg #[.int .i64 o, .int .i64 n, .int .i64 e, .int .i64 2, .slice none 0 0, .int .i64 t]] w (Ret fun v w' => v = .tuple #[.slice none 0 0, .int .i64 0] ∧ ∃ p c, St W w' (blk g (.cells #[.bool true, .int .i64 a, .slice p 1 c] 80 (0, 0)) :: Row 32 6 (.slice p 1 c) 1 [.int .i64 o, .int .i64 n, .int .i64 e, .int .i64 2, .slice none 0 0, .int .i64 t] :: F)) := by
  refine calls_of_go (n := 74) Try.func14 rfl Try.ntmps14 rfl ?_
  refine g_seq ?_
  refine g_region ?_
  refine r_cons (s_box H 32 (.agg #[.int .i64 o, .int .i64 n, .int .i64 e, .int .i64 2, .slice none 0 0, .int .i64 t]) rfl (cs := #[.int .i64 o, .int .i64 n, .int .i64 e, .int .i64 2, .slice none 0 0, .int .i64 t]) rfl rfl ?_); intro bk1 w2 H3
  refine r_cons (s_assign (.slice none 0 0) rfl rfl ?_)
  refine r_cons (s_assign (.int .i64 0) rfl rfl ?_)
  refine r_nil ?_
  refine g_seq ?_
  refine g_seq ?_
  refine g_region ?_
  refine r_cons (s_move (.pointer (some ⟨g, 0, none⟩)) rfl rfl ?_)
  refine r_cons (s_call [.pointer (some ⟨g, 0, none⟩)] pl_62 rfl rfl (Gate_none g (a : Int) (.slice none 0 0) (i := 1) rfl H3) ?_)
  rintro _ w4 ⟨rfl, H5⟩
  refine r_nil ?_
  refine g_false rfl ?_
  refine g_skip ?_
  refine g_seq ?_
  refine g_seq ?_
  refine g_region ?_
  refine r_cons (s_loadAgg [.int .i64 o, .int .i64 n, .int .i64 e, .int .i64 2, .slice none 0 0, .int .i64 t] 6 ag_32 rfl (H5.blk_at (i := 0) rfl) (Nat.le_of_ble_eq_true rfl) rfl rfl ?_)
  refine r_cons (s_call [.agg #[.int .i64 o, .int .i64 n, .int .i64 e, .int .i64 2, .slice none 0 0, .int .i64 t]] pl_63 rfl rfl (CheckItem_mark (o : Int) (n : Int) (e : Int) (t : Int) (by omega) (by omega) (by omega) (by omega) H5) ?_)
  rintro _ w6 ⟨rfl, H7⟩
  refine r_cons (s_assign (.int .i64 0) rfl rfl ?_)
  refine r_nil ?_
  refine g_seq ?_
  refine g_region ?_
  refine r_cons (s_move (.int .i64 0) rfl rfl ?_)
  refine r_cons (s_neq false rfl rfl (ntrue (by decide)) rfl ?_)
  refine r_nil ?_
  refine g_false rfl ?_
  refine g_skip ?_
  refine g_seq ?_
  refine g_block ?_
  refine g_seq ?_
  refine g_quiet (fun w' => St W w' (blk bk1 (.cells #[.int .i64 o, .int .i64 n, .int .i64 e, .int .i64 2, .slice none 0 0, .int .i64 t] 32 (0, 0)) :: blk g (.cells #[.bool true, .int .i64 a, .slice none 0 0] 80 (0, 0)) :: F)) mixed (by kernel_rfl) H7.drew ?_
  refine q_cons (q_val rfl rfl rfl (by intro w hw; exact x_fieldAddr 32 2 2 2 2 rfl fi_32_2 rfl w) ?_)
  refine q_cons (q_val rfl rfl rfl (by intro w hw; exact x_load (.int .i64 e) ag_2 rfl (hw.blk_at (i := 0) rfl) rfl) ?_)
  refine q_cons (q_val rfl rfl rfl (by intro w hw; exact x_move (.pointer (some ⟨g, 0, none⟩)) rfl w) ?_)
  refine q_cons (q_val rfl rfl rfl (by intro w hw; exact x_nilCheck (.pointer (some ⟨g, 0, none⟩)) rfl ⟨_, rfl⟩ w) ?_)
  refine q_cons (q_val rfl rfl rfl (by intro w hw; exact x_fieldAddr 80 1 1 1 2 rfl fi_80_1 rfl w) ?_)
  refine q_cons (q_val rfl rfl rfl (by intro w hw; exact x_load (.int .i64 a) ag_2 rfl (hw.blk_at (i := 1) rfl) rfl) ?_)
  refine q_cons (q_val rfl rfl rfl (by intro w hw; exact x_lss false rfl rfl (dfalse (by omega)) w) ?_)
  refine q_cons (q_val rfl rfl rfl (by intro w hw; exact x_assign (.bool false) rfl w) ?_)
  refine q_nil ?_
  intro w8 H9
  refine g_false rfl ?_
  refine g_seq ?_
  refine g_quiet (fun w' => St W w' (blk bk1 (.cells #[.int .i64 o, .int .i64 n, .int .i64 e, .int .i64 2, .slice none 0 0, .int .i64 t] 32 (0, 0)) :: blk g (.cells #[.bool true, .int .i64 a, .slice none 0 0] 80 (0, 0)) :: F)) mixed (by kernel_rfl) H9.drew ?_
  refine q_cons (q_val rfl rfl rfl (by intro w hw; exact x_fieldAddr 32 2 2 2 2 rfl fi_32_2 rfl w) ?_)
  refine q_cons (q_val rfl rfl rfl (by intro w hw; exact x_load (.int .i64 e) ag_2 rfl (hw.blk_at (i := 0) rfl) rfl) ?_)
  refine q_cons (q_val rfl rfl rfl (by intro w hw; exact x_move (.pointer (some ⟨g, 0, none⟩)) rfl w) ?_)
  refine q_cons (q_val rfl rfl rfl (by intro w hw; exact x_nilCheck (.pointer (some ⟨g, 0, none⟩)) rfl ⟨_, rfl⟩ w) ?_)
  refine q_cons (q_val rfl rfl rfl (by intro w hw; exact x_fieldAddr 80 1 1 1 2 rfl fi_80_1 rfl w) ?_)
  refine q_cons (q_val rfl rfl rfl (by intro w hw; exact x_load (.int .i64 a) ag_2 rfl (hw.blk_at (i := 1) rfl) rfl) ?_)
  refine q_cons (q_val rfl rfl rfl (by intro w hw; exact x_gtr true rfl rfl (dtrue (by omega)) w) ?_)
  refine q_cons (q_val rfl rfl rfl (by intro w hw; exact x_assign (.bool true) rfl w) ?_)
  refine q_nil ?_
  intro w10 H11
  refine g_true rfl ?_
  refine g_seq ?_
  refine g_seq ?_
  refine g_region ?_
  refine r_cons (s_move (.pointer (some ⟨g, 0, none⟩)) rfl rfl ?_)
  refine r_cons (s_nilCheck (.pointer (some ⟨g, 0, none⟩)) rfl ⟨_, rfl⟩ rfl ?_)
  refine r_cons (s_fieldAddr 80 2 2 2 22 rfl fi_80_2 rfl rfl ?_)
  refine r_cons (s_load (.slice none 0 0) ag_22 rfl (H11.blk_at (i := 1) rfl) rfl rfl ?_)
  refine r_cons (s_len 0 rfl ⟨_, un_22⟩ rfl ?_)
  refine r_cons (s_geq false rfl rfl (dfalse (by decide)) rfl ?_)
  refine r_nil ?_
  refine g_false rfl ?_
  refine g_skip ?_
  refine g_seq ?_
  refine g_cut (fun (x : Option Addr × Nat × Nat) => match x with | (pp22, cc23, bk14) => [(0, .pointer (some ⟨g, 0, none⟩)), (4, .slice none 0 0), (5, .int .i64 0)]) (fun (x : Option Addr × Nat × Nat) w => match x with | (pp22, cc23, bk14) => St W w (Row 32 6 (.slice pp22 1 cc23) 1 [.int .i64 o, .int .i64 n, .int .i64 e, .int .i64 2, .slice none 0 0, .int .i64 t] :: blk bk14 (.cells #[.int .i64 o, .int .i64 n, .int .i64 e, .int .i64 2, .slice none 0 0, .int .i64 t] 32 (0, 0)) :: blk bk1 (.cells #[.int .i64 o, .int .i64 n, .int .i64 e, .int .i64 2, .slice none 0 0, .int .i64 t] 32 (0, 0)) :: blk g (.cells #[.bool true, .int .i64 a, .slice pp22 1 cc23] 80 (0, 0)) :: F)) ?_ ?_
  · rintro ⟨pp22, cc23, bk14⟩ ρ15 w13 H14
    change Ends _ _ (upds ρ15 [(0, .pointer (some ⟨g, 0, none⟩)), (4, .slice none 0 0), (5, .int .i64 0)]) w13
    refine g_seq ?_
    refine g_region ?_
    refine r_cons (s_assign (.slice none 0 0) rfl rfl ?_)
    refine r_cons (s_assign (.int .i64 0) rfl rfl ?_)
    refine r_nil ?_
    refine g_ret' [.slice none 0 0, .int .i64 0] Try.func14 Try.results14 ⟨rfl, rfl, trivial⟩ ?_
    have H16 : St W w13 (blk g (.cells #[.bool true, .int .i64 a, .slice pp22 1 cc23] 80 (0, 0)) :: Row 32 6 (.slice pp22 1 cc23) 1 [.int .i64 o, .int .i64 n, .int .i64 e, .int .i64 2, .slice none 0 0, .int .i64 t] :: F) := (((H14.move 3 rfl).drop 2 rfl).drop 2 rfl)
    exact ⟨rfl, _, _, H16⟩
  · intro join12
    refine g_any mixed 12 rfl ?_
    intro w17 hw18
    have H19 := H11.drew
    rw [← hw18] at H19
    clear hw18
    refine a_take 0 (listed' := #[true, false, false, false, false, false, false, false, false, false, false, false]) rfl (by kernel_rfl) (by kernel_rfl) (by kernel_rfl) rfl rfl rfl rfl (fun w => x_move (.pointer (some ⟨g, 0, none⟩)) rfl w) ?_
    refine a_take 1 (listed' := #[true, true, false, false, false, false, false, false, false, false, false, false]) rfl (by kernel_rfl) (by kernel_rfl) (by kernel_rfl) rfl rfl rfl rfl (fun w => x_move (.pointer (some ⟨g, 0, none⟩)) rfl w) ?_
    refine a_take 2 (listed' := #[true, true, true, false, false, false, false, false, false, false, false, false]) rfl (by kernel_rfl) (by kernel_rfl) (by kernel_rfl) rfl rfl rfl rfl (fun w => x_nilCheck (.pointer (some ⟨g, 0, none⟩)) rfl ⟨_, rfl⟩ w) ?_
    refine a_take 3 (listed' := #[true, true, true, true, false, false, false, false, false, false, false, false]) rfl (by kernel_rfl) (by kernel_rfl) (by kernel_rfl) rfl rfl rfl rfl (fun w => x_fieldAddr 80 2 2 2 22 rfl fi_80_2 rfl w) ?_
    refine a_all (rs := [4, 5]) (by kernel_rfl) (by simp) ?_
    refine a_cons ⟨_, rfl, ?_⟩ (a_cons ⟨_, rfl, ?_⟩ (fun x hx => absurd hx (by simp)))
    · skip
      refine s_load (.slice none 0 0) ag_22 rfl (H19.blk_at (i := 1) rfl) rfl rfl ?_
      change AnyG _ _ _ _ #[true, true, true, true, true, false, false, false, false, false, false, false] _ _
      refine a_all (rs := [5]) (by kernel_rfl) (by simp) ?_
      refine a_cons ⟨_, rfl, ?_⟩ (fun x hx => absurd hx (by simp))
      refine s_loadAgg [.int .i64 o, .int .i64 n, .int .i64 e, .int .i64 2, .slice none 0 0, .int .i64 t] 6 ag_32 rfl (H19.blk_at (i := 0) rfl) (Nat.le_of_ble_eq_true rfl) rfl rfl ?_
      change AnyG _ _ _ _ #[true, true, true, true, true, true, false, false, false, false, false, false] _ _
      refine a_all (rs := [6]) (by kernel_rfl) (by simp) ?_
      refine a_cons ⟨_, rfl, ?_⟩ (fun x hx => absurd hx (by simp))
      refine s_call [.agg #[.int .i64 o, .int .i64 n, .int .i64 e, .int .i64 2, .slice none 0 0, .int .i64 t]] pl_64 rfl rfl (own_plain (o : Int) (n : Int) (e : Int) (2 : Int) (t : Int) H19) ?_
      rintro _ w20 ⟨rfl, H21⟩
      change AnyG _ _ _ _ #[true, true, true, true, true, true, true, false, false, false, false, false] _ _
      refine a_all (rs := [7]) (by kernel_rfl) (by simp) ?_
      refine a_cons ⟨_, rfl, ?_⟩ (fun x hx => absurd hx (by simp))
      refine s_buildSlice H21 6 1 (cs := #[.int .i64 o, .int .i64 n, .int .i64 e, .int .i64 2, .slice none 0 0, .int .i64 t]) #[.int .i64 0, .int .i64 0, .int .i64 0, .int .i64 0, .slice none 0 0, .int .i64 0] el_22 ze_32 (by decide) (by decide) (by kernel_rfl) rfl ?_; intro bk22 w23 H24
      change AnyG _ _ _ _ #[true, true, true, true, true, true, true, true, false, false, false, false] _ _
      refine a_all (rs := [8]) (by kernel_rfl) (by simp) ?_
      refine a_cons ⟨_, rfl, ?_⟩ (fun x hx => absurd hx (by simp))
      have H25 := Row.nil_intro H24 32 6
      refine s_append H25 0 rfl rfl rfl (rd_blk (H25.blk_at (i := 1) rfl) rfl (Nat.le_of_ble_eq_true rfl) (by simp [Value.oneCell'])) ap_22 (by decide) (by unfold maxLen; omega) (by omega) (n' := 1) (xs' := [.int .i64 o, .int .i64 n, .int .i64 e, .int .i64 2, .slice none 0 0, .int .i64 t]) (by omega) (by first | rfl | simp) rfl ?_; intro vv26 w27 H28 hn29
      obtain ⟨pp30, cc31, rfl⟩ := Row.slice H28 (i := 0) rfl
      change AnyG _ _ _ _ #[true, true, true, true, true, true, true, true, true, false, false, false] _ _
      refine a_take 9 (listed' := #[true, true, true, true, true, true, true, true, true, true, false, false]) rfl (by kernel_rfl) (by kernel_rfl) (by kernel_rfl) rfl rfl rfl rfl (fun w => x_nilCheck (.pointer (some ⟨g, 0, none⟩)) rfl ⟨_, rfl⟩ w) ?_
      refine a_take 10 (listed' := #[true, true, true, true, true, true, true, true, true, true, true, false]) rfl (by kernel_rfl) (by kernel_rfl) (by kernel_rfl) rfl rfl rfl rfl (fun w => x_fieldAddr 80 2 2 2 22 rfl fi_80_2 rfl w) ?_
      refine a_all (rs := [11]) (by kernel_rfl) (by simp) ?_
      refine a_cons ⟨_, rfl, ?_⟩ (fun x hx => absurd hx (by simp))
      refine s_store H28 3 (.slice pp30 1 cc31) rfl rfl rfl sz_22 rfl (Nat.le_of_ble_eq_true rfl) rfl (cs' := #[.bool true, .int .i64 a, .slice pp30 1 cc31]) rfl ?_; intro w32 H33
      change AnyG _ _ _ _ #[true, true, true, true, true, true, true, true, true, true, true, true] _ _
      refine a_done (by kernel_rfl) ?_
      exact join12 (pp30, cc31, bk22) _ _ H33 ⟨rfl, rfl, rfl, trivial⟩
    · skip
      refine s_loadAgg [.int .i64 o, .int .i64 n, .int .i64 e, .int .i64 2, .slice none 0 0, .int .i64 t] 6 ag_32 rfl (H19.blk_at (i := 0) rfl) (Nat.le_of_ble_eq_true rfl) rfl rfl ?_
      change AnyG _ _ _ _ #[true, true, true, true, false, true, false, false, false, false, false, false] _ _
      refine a_all (rs := [4, 6]) (by kernel_rfl) (by simp) ?_
      refine a_cons ⟨_, rfl, ?_⟩ (a_cons ⟨_, rfl, ?_⟩ (fun x hx => absurd hx (by simp)))
      · skip
        refine s_load (.slice none 0 0) ag_22 rfl (H19.blk_at (i := 1) rfl) rfl rfl ?_
        change AnyG _ _ _ _ #[true, true, true, true, true, true, false, false, false, false, false, false] _ _
        refine a_all (rs := [6]) (by kernel_rfl) (by simp) ?_
        refine a_cons ⟨_, rfl, ?_⟩ (fun x hx => absurd hx (by simp))
        refine s_call [.agg #[.int .i64 o, .int .i64 n, .int .i64 e, .int .i64 2, .slice none 0 0, .int .i64 t]] pl_64 rfl rfl (own_plain (o : Int) (n : Int) (e : Int) (2 : Int) (t : Int) H19) ?_
        rintro _ w34 ⟨rfl, H35⟩
        change AnyG _ _ _ _ #[true, true, true, true, true, true, true, false, false, false, false, false] _ _
        refine a_all (rs := [7]) (by kernel_rfl) (by simp) ?_
        refine a_cons ⟨_, rfl, ?_⟩ (fun x hx => absurd hx (by simp))
        refine s_buildSlice H35 6 1 (cs := #[.int .i64 o, .int .i64 n, .int .i64 e, .int .i64 2, .slice none 0 0, .int .i64 t]) #[.int .i64 0, .int .i64 0, .int .i64 0, .int .i64 0, .slice none 0 0, .int .i64 0] el_22 ze_32 (by decide) (by decide) (by kernel_rfl) rfl ?_; intro bk36 w37 H38
        change AnyG _ _ _ _ #[true, true, true, true, true, true, true, true, false, false, false, false] _ _
        refine a_all (rs := [8]) (by kernel_rfl) (by simp) ?_
        refine a_cons ⟨_, rfl, ?_⟩ (fun x hx => absurd hx (by simp))
        have H39 := Row.nil_intro H38 32 6
        refine s_append H39 0 rfl rfl rfl (rd_blk (H39.blk_at (i := 1) rfl) rfl (Nat.le_of_ble_eq_true rfl) (by simp [Value.oneCell'])) ap_22 (by decide) (by unfold maxLen; omega) (by omega) (n' := 1) (xs' := [.int .i64 o, .int .i64 n, .int .i64 e, .int .i64 2, .slice none 0 0, .int .i64 t]) (by omega) (by first | rfl | simp) rfl ?_; intro vv40 w41 H42 hn43
        obtain ⟨pp44, cc45, rfl⟩ := Row.slice H42 (i := 0) rfl
        change AnyG _ _ _ _ #[true, true, true, true, true, true, true, true, true, false, false, false] _ _
        refine a_take 9 (listed' := #[true, true, true, true, true, true, true, true, true, true, false, false]) rfl (by kernel_rfl) (by kernel_rfl) (by kernel_rfl) rfl rfl rfl rfl (fun w => x_nilCheck (.pointer (some ⟨g, 0, none⟩)) rfl ⟨_, rfl⟩ w) ?_
        refine a_take 10 (listed' := #[true, true, true, true, true, true, true, true, true, true, true, false]) rfl (by kernel_rfl) (by kernel_rfl) (by kernel_rfl) rfl rfl rfl rfl (fun w => x_fieldAddr 80 2 2 2 22 rfl fi_80_2 rfl w) ?_
        refine a_all (rs := [11]) (by kernel_rfl) (by simp) ?_
        refine a_cons ⟨_, rfl, ?_⟩ (fun x hx => absurd hx (by simp))
        refine s_store H42 3 (.slice pp44 1 cc45) rfl rfl rfl sz_22 rfl (Nat.le_of_ble_eq_true rfl) rfl (cs' := #[.bool true, .int .i64 a, .slice pp44 1 cc45]) rfl ?_; intro w46 H47
        change AnyG _ _ _ _ #[true, true, true, true, true, true, true, true, true, true, true, true] _ _
        refine a_done (by kernel_rfl) ?_
        exact join12 (pp44, cc45, bk36) _ _ H47 ⟨rfl, rfl, rfl, trivial⟩
      · skip
        refine s_call [.agg #[.int .i64 o, .int .i64 n, .int .i64 e, .int .i64 2, .slice none 0 0, .int .i64 t]] pl_64 rfl rfl (own_plain (o : Int) (n : Int) (e : Int) (2 : Int) (t : Int) H19) ?_
        rintro _ w48 ⟨rfl, H49⟩
        change AnyG _ _ _ _ #[true, true, true, true, false, true, true, false, false, false, false, false] _ _
        refine a_all (rs := [4, 7]) (by kernel_rfl) (by simp) ?_
        refine a_cons ⟨_, rfl, ?_⟩ (a_cons ⟨_, rfl, ?_⟩ (fun x hx => absurd hx (by simp)))
        · skip
          refine s_load (.slice none 0 0) ag_22 rfl (H49.blk_at (i := 1) rfl) rfl rfl ?_
          change AnyG _ _ _ _ #[true, true, true, true, true, true, true, false, false, false, false, false] _ _
          refine a_all (rs := [7]) (by kernel_rfl) (by simp) ?_
          refine a_cons ⟨_, rfl, ?_⟩ (fun x hx => absurd hx (by simp))
          refine s_buildSlice H49 6 1 (cs := #[.int .i64 o, .int .i64 n, .int .i64 e, .int .i64 2, .slice none 0 0, .int .i64 t]) #[.int .i64 0, .int .i64 0, .int .i64 0, .int .i64 0, .slice none 0 0, .int .i64 0] el_22 ze_32 (by decide) (by decide) (by kernel_rfl) rfl ?_; intro bk50 w51 H52
          change AnyG _ _ _ _ #[true, true, true, true, true, true, true, true, false, false, false, false] _ _
          refine a_all (rs := [8]) (by kernel_rfl) (by simp) ?_
          refine a_cons ⟨_, rfl, ?_⟩ (fun x hx => absurd hx (by simp))
          have H53 := Row.nil_intro H52 32 6
          refine s_append H53 0 rfl rfl rfl (rd_blk (H53.blk_at (i := 1) rfl) rfl (Nat.le_of_ble_eq_true rfl) (by simp [Value.oneCell'])) ap_22 (by decide) (by unfold maxLen; omega) (by omega) (n' := 1) (xs' := [.int .i64 o, .int .i64 n, .int .i64 e, .int .i64 2, .slice none 0 0, .int .i64 t]) (by omega) (by first | rfl | simp) rfl ?_; intro vv54 w55 H56 hn57
          obtain ⟨pp58, cc59, rfl⟩ := Row.slice H56 (i := 0) rfl
          change AnyG _ _ _ _ #[true, true, true, true, true, true, true, true, true, false, false, false] _ _
          refine a_take 9 (listed' := #[true, true, true, true, true, true, true, true, true, true, false, false]) rfl (by kernel_rfl) (by kernel_rfl) (by kernel_rfl) rfl rfl rfl rfl (fun w => x_nilCheck (.pointer (some ⟨g, 0, none⟩)) rfl ⟨_, rfl⟩ w) ?_
          refine a_take 10 (listed' := #[true, true, true, true, true, true, true, true, true, true, true, false]) rfl (by kernel_rfl) (by kernel_rfl) (by kernel_rfl) rfl rfl rfl rfl (fun w => x_fieldAddr 80 2 2 2 22 rfl fi_80_2 rfl w) ?_
          refine a_all (rs := [11]) (by kernel_rfl) (by simp) ?_
          refine a_cons ⟨_, rfl, ?_⟩ (fun x hx => absurd hx (by simp))
          refine s_store H56 3 (.slice pp58 1 cc59) rfl rfl rfl sz_22 rfl (Nat.le_of_ble_eq_true rfl) rfl (cs' := #[.bool true, .int .i64 a, .slice pp58 1 cc59]) rfl ?_; intro w60 H61
          change AnyG _ _ _ _ #[true, true, true, true, true, true, true, true, true, true, true, true] _ _
          refine a_done (by kernel_rfl) ?_
          exact join12 (pp58, cc59, bk50) _ _ H61 ⟨rfl, rfl, rfl, trivial⟩
        · skip
          refine s_buildSlice H49 6 1 (cs := #[.int .i64 o, .int .i64 n, .int .i64 e, .int .i64 2, .slice none 0 0, .int .i64 t]) #[.int .i64 0, .int .i64 0, .int .i64 0, .int .i64 0, .slice none 0 0, .int .i64 0] el_22 ze_32 (by decide) (by decide) (by kernel_rfl) rfl ?_; intro bk62 w63 H64
          change AnyG _ _ _ _ #[true, true, true, true, false, true, true, true, false, false, false, false] _ _
          refine a_all (rs := [4]) (by kernel_rfl) (by simp) ?_
          refine a_cons ⟨_, rfl, ?_⟩ (fun x hx => absurd hx (by simp))
          refine s_load (.slice none 0 0) ag_22 rfl (H64.blk_at (i := 2) rfl) rfl rfl ?_
          change AnyG _ _ _ _ #[true, true, true, true, true, true, true, true, false, false, false, false] _ _
          refine a_all (rs := [8]) (by kernel_rfl) (by simp) ?_
          refine a_cons ⟨_, rfl, ?_⟩ (fun x hx => absurd hx (by simp))
          have H65 := Row.nil_intro H64 32 6
          refine s_append H65 0 rfl rfl rfl (rd_blk (H65.blk_at (i := 1) rfl) rfl (Nat.le_of_ble_eq_true rfl) (by simp [Value.oneCell'])) ap_22 (by decide) (by unfold maxLen; omega) (by omega) (n' := 1) (xs' := [.int .i64 o, .int .i64 n, .int .i64 e, .int .i64 2, .slice none 0 0, .int .i64 t]) (by omega) (by first | rfl | simp) rfl ?_; intro vv66 w67 H68 hn69
          obtain ⟨pp70, cc71, rfl⟩ := Row.slice H68 (i := 0) rfl
          change AnyG _ _ _ _ #[true, true, true, true, true, true, true, true, true, false, false, false] _ _
          refine a_take 9 (listed' := #[true, true, true, true, true, true, true, true, true, true, false, false]) rfl (by kernel_rfl) (by kernel_rfl) (by kernel_rfl) rfl rfl rfl rfl (fun w => x_nilCheck (.pointer (some ⟨g, 0, none⟩)) rfl ⟨_, rfl⟩ w) ?_
          refine a_take 10 (listed' := #[true, true, true, true, true, true, true, true, true, true, true, false]) rfl (by kernel_rfl) (by kernel_rfl) (by kernel_rfl) rfl rfl rfl rfl (fun w => x_fieldAddr 80 2 2 2 22 rfl fi_80_2 rfl w) ?_
          refine a_all (rs := [11]) (by kernel_rfl) (by simp) ?_
          refine a_cons ⟨_, rfl, ?_⟩ (fun x hx => absurd hx (by simp))
          refine s_store H68 3 (.slice pp70 1 cc71) rfl rfl rfl sz_22 rfl (Nat.le_of_ble_eq_true rfl) rfl (cs' := #[.bool true, .int .i64 a, .slice pp70 1 cc71]) rfl ?_; intro w72 H73
          change AnyG _ _ _ _ #[true, true, true, true, true, true, true, true, true, true, true, true] _ _
          refine a_done (by kernel_rfl) ?_
          exact join12 (pp70, cc71, bk62) _ _ H73 ⟨rfl, rfl, rfl, trivial⟩
set_option maxHeartbeats 4000000 in
set_option maxRecDepth 100000 in
theorem Take_now {W w : World} {F : List Atom} (g : Nat) (a : Int) (sv : Value) (o n e t : Int) (ho : 0 ≤ o ∧ o ≤ 1099511627776) (hn : 0 ≤ n ∧ n ≤ 1099511627776) (he : 0 ≤ e ∧ e ≤ 1099511627776) (ht : 0 ≤ t ∧ t ≤ 1099511627777) (hea : e = a) (H : St W w (blk g (.cells #[.bool true, .int .i64 a, sv] 80 (0, 0)) :: F)) : Calls Try.prog 14 #[.pointer (some ⟨g, 0, none⟩), .agg #[.int .i64 o, .int .i64 n, .int .i64 e, .int .i64 2, .slice none 0 0, .int .i64 t]] w (Ret fun v w' => ∃ p c, v = .tuple #[.slice p 1 c, .int .i64 0] ∧ St W w' (Row 32 6 (.slice p 1 c) 1 [.int .i64 o, .int .i64 n, .int .i64 e, .int .i64 2, .slice none 0 0, .int .i64 t] :: blk g (.cells #[.bool true, .int .i64 a, sv] 80 (0, 0)) :: F)) := by
  refine calls_of_go (n := 74) Try.func14 rfl Try.ntmps14 rfl ?_
  refine g_seq ?_
  refine g_region ?_
  refine r_cons (s_box H 32 (.agg #[.int .i64 o, .int .i64 n, .int .i64 e, .int .i64 2, .slice none 0 0, .int .i64 t]) rfl (cs := #[.int .i64 o, .int .i64 n, .int .i64 e, .int .i64 2, .slice none 0 0, .int .i64 t]) rfl rfl ?_); intro bk1 w2 H3
  refine r_cons (s_assign (.slice none 0 0) rfl rfl ?_)
  refine r_cons (s_assign (.int .i64 0) rfl rfl ?_)
  refine r_nil ?_
  refine g_seq ?_
  refine g_seq ?_
  refine g_region ?_
  refine r_cons (s_move (.pointer (some ⟨g, 0, none⟩)) rfl rfl ?_)
  refine r_cons (s_call [.pointer (some ⟨g, 0, none⟩)] pl_62 rfl rfl (Gate_none g (a : Int) sv (i := 1) rfl H3) ?_)
  rintro _ w4 ⟨rfl, H5⟩
  refine r_nil ?_
  refine g_false rfl ?_
  refine g_skip ?_
  refine g_seq ?_
  refine g_seq ?_
  refine g_region ?_
  refine r_cons (s_loadAgg [.int .i64 o, .int .i64 n, .int .i64 e, .int .i64 2, .slice none 0 0, .int .i64 t] 6 ag_32 rfl (H5.blk_at (i := 0) rfl) (Nat.le_of_ble_eq_true rfl) rfl rfl ?_)
  refine r_cons (s_call [.agg #[.int .i64 o, .int .i64 n, .int .i64 e, .int .i64 2, .slice none 0 0, .int .i64 t]] pl_63 rfl rfl (CheckItem_mark (o : Int) (n : Int) (e : Int) (t : Int) (by omega) (by omega) (by omega) (by omega) H5) ?_)
  rintro _ w6 ⟨rfl, H7⟩
  refine r_cons (s_assign (.int .i64 0) rfl rfl ?_)
  refine r_nil ?_
  refine g_seq ?_
  refine g_region ?_
  refine r_cons (s_move (.int .i64 0) rfl rfl ?_)
  refine r_cons (s_neq false rfl rfl (ntrue (by decide)) rfl ?_)
  refine r_nil ?_
  refine g_false rfl ?_
  refine g_skip ?_
  refine g_seq ?_
  refine g_block ?_
  refine g_seq ?_
  refine g_quiet (fun w' => St W w' (blk bk1 (.cells #[.int .i64 o, .int .i64 n, .int .i64 e, .int .i64 2, .slice none 0 0, .int .i64 t] 32 (0, 0)) :: blk g (.cells #[.bool true, .int .i64 a, sv] 80 (0, 0)) :: F)) mixed (by kernel_rfl) H7.drew ?_
  refine q_cons (q_val rfl rfl rfl (by intro w hw; exact x_fieldAddr 32 2 2 2 2 rfl fi_32_2 rfl w) ?_)
  refine q_cons (q_val rfl rfl rfl (by intro w hw; exact x_load (.int .i64 e) ag_2 rfl (hw.blk_at (i := 0) rfl) rfl) ?_)
  refine q_cons (q_val rfl rfl rfl (by intro w hw; exact x_move (.pointer (some ⟨g, 0, none⟩)) rfl w) ?_)
  refine q_cons (q_val rfl rfl rfl (by intro w hw; exact x_nilCheck (.pointer (some ⟨g, 0, none⟩)) rfl ⟨_, rfl⟩ w) ?_)
  refine q_cons (q_val rfl rfl rfl (by intro w hw; exact x_fieldAddr 80 1 1 1 2 rfl fi_80_1 rfl w) ?_)
  refine q_cons (q_val rfl rfl rfl (by intro w hw; exact x_load (.int .i64 a) ag_2 rfl (hw.blk_at (i := 1) rfl) rfl) ?_)
  refine q_cons (q_val rfl rfl rfl (by intro w hw; exact x_lss false rfl rfl (dfalse (by omega)) w) ?_)
  refine q_cons (q_val rfl rfl rfl (by intro w hw; exact x_assign (.bool false) rfl w) ?_)
  refine q_nil ?_
  intro w8 H9
  refine g_false rfl ?_
  refine g_seq ?_
  refine g_quiet (fun w' => St W w' (blk bk1 (.cells #[.int .i64 o, .int .i64 n, .int .i64 e, .int .i64 2, .slice none 0 0, .int .i64 t] 32 (0, 0)) :: blk g (.cells #[.bool true, .int .i64 a, sv] 80 (0, 0)) :: F)) mixed (by kernel_rfl) H9.drew ?_
  refine q_cons (q_val rfl rfl rfl (by intro w hw; exact x_fieldAddr 32 2 2 2 2 rfl fi_32_2 rfl w) ?_)
  refine q_cons (q_val rfl rfl rfl (by intro w hw; exact x_load (.int .i64 e) ag_2 rfl (hw.blk_at (i := 0) rfl) rfl) ?_)
  refine q_cons (q_val rfl rfl rfl (by intro w hw; exact x_move (.pointer (some ⟨g, 0, none⟩)) rfl w) ?_)
  refine q_cons (q_val rfl rfl rfl (by intro w hw; exact x_nilCheck (.pointer (some ⟨g, 0, none⟩)) rfl ⟨_, rfl⟩ w) ?_)
  refine q_cons (q_val rfl rfl rfl (by intro w hw; exact x_fieldAddr 80 1 1 1 2 rfl fi_80_1 rfl w) ?_)
  refine q_cons (q_val rfl rfl rfl (by intro w hw; exact x_load (.int .i64 a) ag_2 rfl (hw.blk_at (i := 1) rfl) rfl) ?_)
  refine q_cons (q_val rfl rfl rfl (by intro w hw; exact x_gtr false rfl rfl (dfalse (by omega)) w) ?_)
  refine q_cons (q_val rfl rfl rfl (by intro w hw; exact x_assign (.bool false) rfl w) ?_)
  refine q_nil ?_
  intro w10 H11
  refine g_false rfl ?_
  refine g_seq ?_
  refine g_region ?_
  refine r_cons (s_fieldAddr 32 3 3 3 3 rfl fi_32_3 rfl rfl ?_)
  refine r_cons (s_load (.int .i64 2) ag_3 rfl (H11.blk_at (i := 0) rfl) rfl rfl ?_)
  refine r_cons (s_neq true rfl rfl (nfalse (by decide)) rfl ?_)
  refine r_cons (s_assign (.bool true) rfl rfl ?_)
  refine r_nil ?_
  refine g_true rfl ?_
  refine g_seq ?_
  refine g_region ?_
  refine r_cons (s_loadAgg [.int .i64 o, .int .i64 n, .int .i64 e, .int .i64 2, .slice none 0 0, .int .i64 t] 6 ag_32 rfl (H11.blk_at (i := 0) rfl) (Nat.le_of_ble_eq_true rfl) rfl rfl ?_)
  refine r_cons (s_call [.agg #[.int .i64 o, .int .i64 n, .int .i64 e, .int .i64 2, .slice none 0 0, .int .i64 t]] pl_64 rfl rfl (own_plain (o : Int) (n : Int) (e : Int) (2 : Int) (t : Int) H11) ?_)
  rintro _ w12 ⟨rfl, H13⟩
  refine r_cons (s_buildSlice H13 6 1 (cs := #[.int .i64 o, .int .i64 n, .int .i64 e, .int .i64 2, .slice none 0 0, .int .i64 t]) #[.int .i64 0, .int .i64 0, .int .i64 0, .int .i64 0, .slice none 0 0, .int .i64 0] el_22 ze_32 (by decide) (by decide) (by kernel_rfl) rfl ?_); intro bk14 w15 H16
  refine r_cons (s_assign (.slice (some ⟨bk14, 0, none⟩) 1 1) rfl rfl ?_)
  refine r_cons (s_assign (.int .i64 0) rfl rfl ?_)
  refine r_nil ?_
  refine g_ret' [.slice (some ⟨bk14, 0, none⟩) 1 1, .int .i64 0] Try.func14 Try.results14 ⟨rfl, rfl, trivial⟩ ?_
  have H17 : St W w15 (Row 32 6 (.slice (some ⟨bk14, 0, none⟩) 1 1) 1 [.int .i64 o, .int .i64 n, .int .i64 e, .int .i64 2, .slice none 0 0, .int .i64 t] :: blk bk1 (.cells #[.int .i64 o, .int .i64 n, .int .i64 e, .int .i64 2, .slice none 0 0, .int .i64 t] 32 (0, 0)) :: blk g (.cells #[.bool true, .int .i64 a, sv] 80 (0, 0)) :: F) := Row.of_blk (n := 1) (size := 6) H16 (i := 0) rfl (by unfold maxLen; omega) rfl (by simp [Value.oneCell'])
  have H18 : St W w15 (Row 32 6 (.slice (some ⟨bk14, 0, none⟩) 1 1) 1 [.int .i64 o, .int .i64 n, .int .i64 e, .int .i64 2, .slice none 0 0, .int .i64 t] :: blk g (.cells #[.bool true, .int .i64 a, sv] 80 (0, 0)) :: F) := (((H17.move 2 rfl).move 1 rfl).drop 2 rfl)
  exact ⟨_, _, rfl, H18⟩
set_option maxHeartbeats 4000000 in
set_option maxRecDepth 100000 in
theorem turn_1 {W w : World} {F : List Atom} (g : Nat) (p : Option Addr) (c : Nat) (H : St W w (blk g (.cells #[.bool true, .int .i64 1, .slice p 1 c] 80 (0, 0)) :: Row 32 6 (.slice p 1 c) 1 [.int .i64 1, .int .i64 0, .int .i64 1, .int .i64 2, .slice none 0 0, .int .i64 9] :: F)) : Calls Try.prog 65 #[.pointer (some ⟨g, 0, none⟩)] w (Ret fun v w' => ∃ q d, v = .tuple #[.slice q 1 d, .bool false] ∧ St W w' (Row 32 6 (.slice q 1 d) 1 [.int .i64 1, .int .i64 0, .int .i64 1, .int .i64 2, .slice none 0 0, .int .i64 9] :: blk g (.cells #[.bool true, .int .i64 1, .slice none 0 0] 80 (0, 0)) :: F)) := by
  refine calls_of_go (n := 47) Try.func65 rfl Try.ntmps65 rfl ?_
  refine g_seq ?_
  refine g_region ?_
  refine r_cons (s_assign (.slice none 0 0) rfl rfl ?_)
  refine r_cons (s_assign (.bool false) rfl rfl ?_)
  refine r_nil ?_
  refine g_seq ?_
  refine g_region ?_
  refine r_cons (s_assign (.slice none 0 0) rfl rfl ?_)
  refine r_cons (s_assign (.slice none 0 0) rfl rfl ?_)
  refine r_nil ?_
  refine g_seq ?_
  refine g_region ?_
  refine r_cons (s_assign (.bool false) rfl rfl ?_)
  refine r_nil ?_
  refine g_seq ?_
  refine g_seq ?_
  refine g_region ?_
  refine r_cons (s_move (.pointer (some ⟨g, 0, none⟩)) rfl rfl ?_)
  refine r_cons (s_nilCheck (.pointer (some ⟨g, 0, none⟩)) rfl ⟨_, rfl⟩ rfl ?_)
  refine r_cons (s_fieldAddr 80 2 2 2 22 rfl fi_80_2 rfl rfl ?_)
  refine r_cons (s_load (.slice p 1 c) ag_22 rfl (H.blk_at (i := 0) rfl) rfl rfl ?_)
  refine r_cons (s_len 1 rfl ⟨_, un_22⟩ rfl ?_)
  refine r_cons (s_move (.int .i64 0) rfl rfl ?_)
  refine r_nil ?_
  refine g_block ?_
  refine g_loop ?_
  refine g_seq ?_
  refine g_region ?_
  refine r_cons (s_lss true rfl rfl (dtrue (by decide)) rfl ?_)
  refine r_nil ?_
  refine g_seq ?_
  refine g_true rfl ?_
  refine g_skip ?_
  refine g_seq ?_
  refine g_block ?_
  refine g_seq ?_
  refine g_region ?_
  obtain ⟨bk1, cur2, hp3, h4, h5, h6, h7, h8, H9⟩ := Row.open2 H (i := 1) rfl (by omega)
  refine r_cons (s_indexAddr bk1 (off := 0) 0 6 (0 + 0 * 6) (by exact congrArg (fun z_ => Value.slice z_ 1 c) ((fun (_ : 0 < 1) => hp3) (by omega))) rfl el_22 (by omega) rfl rfl ?_)
  refine r_cons (s_loadAgg [.int .i64 1, .int .i64 0, .int .i64 1, .int .i64 2, .slice none 0 0, .int .i64 9] 6 ag_32 rfl (H9.blk_at (i := 1) rfl) (by omega) (by exact h7) rfl ?_)
  refine r_cons (s_alloc H9 32 ze_32 rfl ?_); intro bk10 w11 H12
  refine r_cons (s_storeAgg H12 0 #[.int .i64 1, .int .i64 0, .int .i64 1, .int .i64 2, .slice none 0 0, .int .i64 9] 6 rfl rfl rfl sz_32 rfl (by simp [Value.oneCell']) (Nat.le_of_ble_eq_true rfl) (fun o h1 h2 => by first | (simp; done) | (simp; omega)) (cs' := #[.int .i64 1, .int .i64 0, .int .i64 1, .int .i64 2, .slice none 0 0, .int .i64 9]) rfl ?_); intro w13 H14
  refine r_nil ?_
  refine g_block ?_
  refine g_seq ?_
  refine g_quiet (fun w' => St W w' (blk bk10 (.cells #[.int .i64 1, .int .i64 0, .int .i64 1, .int .i64 2, .slice none 0 0, .int .i64 9] 32 (0, 0)) :: blk g (.cells #[.bool true, .int .i64 1, .slice p 1 c] 80 (0, 0)) :: blk bk1 (.cells cur2 32 (0, 0)) :: F)) mixed (by kernel_rfl) H14.drew ?_
  refine q_cons (q_val rfl rfl rfl (by intro w hw; exact x_fieldAddr 32 2 2 2 2 rfl fi_32_2 rfl w) ?_)
  refine q_cons (q_val rfl rfl rfl (by intro w hw; exact x_load (.int .i64 1) ag_2 rfl (hw.blk_at (i := 0) rfl) rfl) ?_)
  refine q_cons (q_val rfl rfl rfl (by intro w hw; exact x_move (.pointer (some ⟨g, 0, none⟩)) rfl w) ?_)
  refine q_cons (q_val rfl rfl rfl (by intro w hw; exact x_nilCheck (.pointer (some ⟨g, 0, none⟩)) rfl ⟨_, rfl⟩ w) ?_)
  refine q_cons (q_val rfl rfl rfl (by intro w hw; exact x_fieldAddr 80 1 1 1 2 rfl fi_80_1 rfl w) ?_)
  refine q_cons (q_val rfl rfl rfl (by intro w hw; exact x_load (.int .i64 1) ag_2 rfl (hw.blk_at (i := 1) rfl) rfl) ?_)
  refine q_cons (q_val rfl rfl rfl (by intro w hw; exact x_neq false rfl rfl (ntrue (by decide)) w) ?_)
  refine q_cons (q_val rfl rfl rfl (by intro w hw; exact x_assign (.bool false) rfl w) ?_)
  refine q_nil ?_
  intro w15 H16
  refine g_false rfl ?_
  refine g_seq ?_
  refine g_region ?_
  refine r_cons (s_move (.bool false) rfl rfl ?_)
  refine r_cons (s_assign (.bool false) rfl rfl ?_)
  refine r_nil ?_
  refine g_false rfl ?_
  refine g_seq ?_
  refine g_region ?_
  refine r_cons (s_fieldAddr 32 3 3 3 3 rfl fi_32_3 rfl rfl ?_)
  refine r_cons (s_load (.int .i64 2) ag_3 rfl (H16.blk_at (i := 0) rfl) rfl rfl ?_)
  refine r_cons (s_eql false rfl rfl (dfalse (by decide)) rfl ?_)
  refine r_cons (s_assign (.bool false) rfl rfl ?_)
  refine r_nil ?_
  refine g_false rfl ?_
  refine g_region ?_
  refine r_cons (s_move (.slice none 0 0) rfl rfl ?_)
  refine r_cons (s_loadAgg [.int .i64 1, .int .i64 0, .int .i64 1, .int .i64 2, .slice none 0 0, .int .i64 9] 6 ag_32 rfl (H16.blk_at (i := 0) rfl) (Nat.le_of_ble_eq_true rfl) rfl rfl ?_)
  refine r_cons (s_buildSlice H16 6 1 (cs := #[.int .i64 1, .int .i64 0, .int .i64 1, .int .i64 2, .slice none 0 0, .int .i64 9]) #[.int .i64 0, .int .i64 0, .int .i64 0, .int .i64 0, .slice none 0 0, .int .i64 0] el_22 ze_32 (by decide) (by decide) (by kernel_rfl) rfl ?_); intro bk17 w18 H19
  have H20 := Row.nil_intro H19 32 6
  refine r_cons (s_append H20 0 rfl rfl rfl (rd_blk (H20.blk_at (i := 1) rfl) rfl (Nat.le_of_ble_eq_true rfl) (by simp [Value.oneCell'])) ap_22 (by decide) (by unfold maxLen; omega) (by omega) (n' := 1) (xs' := [.int .i64 1, .int .i64 0, .int .i64 1, .int .i64 2, .slice none 0 0, .int .i64 9]) (by omega) (by first | rfl | simp) rfl ?_); intro vv21 w22 H23 hn24
  obtain ⟨pp25, cc26, rfl⟩ := Row.slice H23 (i := 0) rfl
  refine r_cons (s_assign (.slice pp25 1 cc26) rfl rfl ?_)
  refine r_nil ?_
  refine g_inBlock ?_
  refine g_inBlock ?_
  refine g_region ?_
  refine r_cons (s_add 1 rfl rfl (wi64 (by omega)) rfl ?_)
  refine r_cons (s_move (.int .i64 1) rfl rfl ?_)
  refine r_nil ?_
  refine g_inLoop ?_
  refine g_seq ?_
  refine g_region ?_
  refine r_cons (s_lss false rfl rfl (dfalse (by decide)) rfl ?_)
  refine r_nil ?_
  refine g_seq ?_
  refine g_false rfl ?_
  refine g_exit (by rfl) ?_
  refine g_seq ?_
  refine g_region ?_
  refine r_cons (s_move (.pointer (some ⟨g, 0, none⟩)) rfl rfl ?_)
  refine r_cons (s_move (.slice none 0 0) rfl rfl ?_)
  refine r_cons (s_nilCheck (.pointer (some ⟨g, 0, none⟩)) rfl ⟨_, rfl⟩ rfl ?_)
  refine r_cons (s_fieldAddr 80 2 2 2 22 rfl fi_80_2 rfl rfl ?_)
  refine r_cons (s_store H23 3 (.slice none 0 0) rfl rfl rfl sz_22 rfl (Nat.le_of_ble_eq_true rfl) rfl (cs' := #[.bool true, .int .i64 1, .slice none 0 0]) rfl ?_); intro w27 H28
  refine r_nil ?_
  refine g_seq ?_
  refine g_region ?_
  refine r_cons (s_move (.slice pp25 1 cc26) rfl rfl ?_)
  refine r_cons (s_move (.bool false) rfl rfl ?_)
  refine r_cons (s_assign (.slice pp25 1 cc26) rfl rfl ?_)
  refine r_cons (s_assign (.bool false) rfl rfl ?_)
  refine r_nil ?_
  refine g_ret' [.slice pp25 1 cc26, .bool false] Try.func65 Try.results65 ⟨rfl, rfl, trivial⟩ ?_
  have H29 : St W w27 (Row 32 6 (.slice pp25 1 cc26) 1 [.int .i64 1, .int .i64 0, .int .i64 1, .int .i64 2, .slice none 0 0, .int .i64 9] :: blk g (.cells #[.bool true, .int .i64 1, .slice none 0 0] 80 (0, 0)) :: F) := (((((H28.move 3 rfl).move 1 rfl).drop 2 rfl).drop 2 rfl).drop 2 rfl)
  exact ⟨_, _, rfl, H29⟩
set_option maxHeartbeats 4000000 in
set_option maxRecDepth 100000 in
theorem Take_end {W w : World} {F : List Atom} (g : Nat) (p : Option Addr) (c : Nat) (H : St W w (blk g (.cells #[.bool true, .int .i64 0, .slice p 1 c] 80 (0, 0)) :: Row 32 6 (.slice p 1 c) 1 [.int .i64 1, .int .i64 0, .int .i64 1, .int .i64 2, .slice none 0 0, .int .i64 9] :: F)) : Calls Try.prog 14 #[.pointer (some ⟨g, 0, none⟩), .agg #[.int .i64 1, .int .i64 0, .int .i64 0, .int .i64 3, .slice none 0 0, .int .i64 0]] w (Ret fun v w' => ∃ q d, v = .tuple #[.slice q 1 d, .int .i64 0] ∧ St W w' (Row 32 6 (.slice q 1 d) 1 [.int .i64 1, .int .i64 0, .int .i64 1, .int .i64 2, .slice none 0 0, .int .i64 9] :: blk g (.cells #[.bool true, .int .i64 1, .slice none 0 0] 80 (0, 0)) :: F)) := by
  refine calls_of_go (n := 74) Try.func14 rfl Try.ntmps14 rfl ?_
  refine g_seq ?_
  refine g_region ?_
  refine r_cons (s_box H 32 (.agg #[.int .i64 1, .int .i64 0, .int .i64 0, .int .i64 3, .slice none 0 0, .int .i64 0]) rfl (cs := #[.int .i64 1, .int .i64 0, .int .i64 0, .int .i64 3, .slice none 0 0, .int .i64 0]) rfl rfl ?_); intro bk1 w2 H3
  refine r_cons (s_assign (.slice none 0 0) rfl rfl ?_)
  refine r_cons (s_assign (.int .i64 0) rfl rfl ?_)
  refine r_nil ?_
  refine g_seq ?_
  refine g_seq ?_
  refine g_region ?_
  refine r_cons (s_move (.pointer (some ⟨g, 0, none⟩)) rfl rfl ?_)
  refine r_cons (s_call [.pointer (some ⟨g, 0, none⟩)] pl_62 rfl rfl (Gate_none g (0 : Int) (.slice p 1 c) (i := 1) rfl H3) ?_)
  rintro _ w4 ⟨rfl, H5⟩
  refine r_nil ?_
  refine g_false rfl ?_
  refine g_skip ?_
  refine g_seq ?_
  refine g_seq ?_
  refine g_region ?_
  refine r_cons (s_loadAgg [.int .i64 1, .int .i64 0, .int .i64 0, .int .i64 3, .slice none 0 0, .int .i64 0] 6 ag_32 rfl (H5.blk_at (i := 0) rfl) (Nat.le_of_ble_eq_true rfl) rfl rfl ?_)
  refine r_cons (s_call [.agg #[.int .i64 1, .int .i64 0, .int .i64 0, .int .i64 3, .slice none 0 0, .int .i64 0]] pl_63 rfl rfl (CheckItem_end (1 : Int) (0 : Int) (0 : Int) (by omega) (by omega) (by omega) H5) ?_)
  rintro _ w6 ⟨rfl, H7⟩
  refine r_cons (s_assign (.int .i64 0) rfl rfl ?_)
  refine r_nil ?_
  refine g_seq ?_
  refine g_region ?_
  refine r_cons (s_move (.int .i64 0) rfl rfl ?_)
  refine r_cons (s_neq false rfl rfl (ntrue (by decide)) rfl ?_)
  refine r_nil ?_
  refine g_false rfl ?_
  refine g_skip ?_
  refine g_seq ?_
  refine g_block ?_
  refine g_seq ?_
  refine g_quiet (fun w' => St W w' (blk bk1 (.cells #[.int .i64 1, .int .i64 0, .int .i64 0, .int .i64 3, .slice none 0 0, .int .i64 0] 32 (0, 0)) :: blk g (.cells #[.bool true, .int .i64 0, .slice p 1 c] 80 (0, 0)) :: Row 32 6 (.slice p 1 c) 1 [.int .i64 1, .int .i64 0, .int .i64 1, .int .i64 2, .slice none 0 0, .int .i64 9] :: F)) mixed (by kernel_rfl) H7.drew ?_
  refine q_cons (q_val rfl rfl rfl (by intro w hw; exact x_fieldAddr 32 2 2 2 2 rfl fi_32_2 rfl w) ?_)
  refine q_cons (q_val rfl rfl rfl (by intro w hw; exact x_load (.int .i64 0) ag_2 rfl (hw.blk_at (i := 0) rfl) rfl) ?_)
  refine q_cons (q_val rfl rfl rfl (by intro w hw; exact x_move (.pointer (some ⟨g, 0, none⟩)) rfl w) ?_)
  refine q_cons (q_val rfl rfl rfl (by intro w hw; exact x_nilCheck (.pointer (some ⟨g, 0, none⟩)) rfl ⟨_, rfl⟩ w) ?_)
  refine q_cons (q_val rfl rfl rfl (by intro w hw; exact x_fieldAddr 80 1 1 1 2 rfl fi_80_1 rfl w) ?_)
  refine q_cons (q_val rfl rfl rfl (by intro w hw; exact x_load (.int .i64 0) ag_2 rfl (hw.blk_at (i := 1) rfl) rfl) ?_)
  refine q_cons (q_val rfl rfl rfl (by intro w hw; exact x_lss false rfl rfl (dfalse (by decide)) w) ?_)
  refine q_cons (q_val rfl rfl rfl (by intro w hw; exact x_assign (.bool false) rfl w) ?_)
  refine q_nil ?_
  intro w8 H9
  refine g_false rfl ?_
  refine g_seq ?_
  refine g_quiet (fun w' => St W w' (blk bk1 (.cells #[.int .i64 1, .int .i64 0, .int .i64 0, .int .i64 3, .slice none 0 0, .int .i64 0] 32 (0, 0)) :: blk g (.cells #[.bool true, .int .i64 0, .slice p 1 c] 80 (0, 0)) :: Row 32 6 (.slice p 1 c) 1 [.int .i64 1, .int .i64 0, .int .i64 1, .int .i64 2, .slice none 0 0, .int .i64 9] :: F)) mixed (by kernel_rfl) H9.drew ?_
  refine q_cons (q_val rfl rfl rfl (by intro w hw; exact x_fieldAddr 32 2 2 2 2 rfl fi_32_2 rfl w) ?_)
  refine q_cons (q_val rfl rfl rfl (by intro w hw; exact x_load (.int .i64 0) ag_2 rfl (hw.blk_at (i := 0) rfl) rfl) ?_)
  refine q_cons (q_val rfl rfl rfl (by intro w hw; exact x_move (.pointer (some ⟨g, 0, none⟩)) rfl w) ?_)
  refine q_cons (q_val rfl rfl rfl (by intro w hw; exact x_nilCheck (.pointer (some ⟨g, 0, none⟩)) rfl ⟨_, rfl⟩ w) ?_)
  refine q_cons (q_val rfl rfl rfl (by intro w hw; exact x_fieldAddr 80 1 1 1 2 rfl fi_80_1 rfl w) ?_)
  refine q_cons (q_val rfl rfl rfl (by intro w hw; exact x_load (.int .i64 0) ag_2 rfl (hw.blk_at (i := 1) rfl) rfl) ?_)
  refine q_cons (q_val rfl rfl rfl (by intro w hw; exact x_gtr false rfl rfl (dfalse (by decide)) w) ?_)
  refine q_cons (q_val rfl rfl rfl (by intro w hw; exact x_assign (.bool false) rfl w) ?_)
  refine q_nil ?_
  intro w10 H11
  refine g_false rfl ?_
  refine g_seq ?_
  refine g_region ?_
  refine r_cons (s_fieldAddr 32 3 3 3 3 rfl fi_32_3 rfl rfl ?_)
  refine r_cons (s_load (.int .i64 3) ag_3 rfl (H11.blk_at (i := 0) rfl) rfl rfl ?_)
  refine r_cons (s_neq false rfl rfl (ntrue (by decide)) rfl ?_)
  refine r_cons (s_assign (.bool false) rfl rfl ?_)
  refine r_nil ?_
  refine g_false rfl ?_
  refine g_skip ?_
  refine g_inBlock ?_
  refine g_seq ?_
  refine g_region ?_
  refine r_cons (s_assign (.slice none 0 0) rfl rfl ?_)
  refine r_nil ?_
  refine g_seq ?_
  refine g_seq ?_
  refine g_region ?_
  refine r_cons (s_assign (.bool true) rfl rfl ?_)
  refine r_nil ?_
  refine g_block ?_
  refine g_loop ?_
  refine g_seq ?_
  refine g_seq ?_
  refine g_region ?_
  refine r_cons (s_move (.bool true) rfl rfl ?_)
  refine r_nil ?_
  refine g_true rfl ?_
  refine g_skip ?_
  refine g_block ?_
  refine g_seq ?_
  refine g_region ?_
  refine r_cons (s_move (.pointer (some ⟨g, 0, none⟩)) rfl rfl ?_)
  refine r_cons (s_nilCheck (.pointer (some ⟨g, 0, none⟩)) rfl ⟨_, rfl⟩ rfl ?_)
  refine r_cons (s_fieldAddr 80 1 1 1 2 rfl fi_80_1 rfl rfl ?_)
  refine r_cons (s_load (.int .i64 0) ag_2 rfl (H11.blk_at (i := 1) rfl) rfl rfl ?_)
  refine r_cons (s_add 1 rfl rfl (wi64 (by omega)) rfl ?_)
  refine r_cons (s_nilCheck (.pointer (some ⟨g, 0, none⟩)) rfl ⟨_, rfl⟩ rfl ?_)
  refine r_cons (s_fieldAddr 80 1 1 1 2 rfl fi_80_1 rfl rfl ?_)
  refine r_cons (s_store H11 1 (.int .i64 1) rfl rfl rfl sz_2 rfl (Nat.le_of_ble_eq_true rfl) rfl (cs' := #[.bool true, .int .i64 1, .slice p 1 c]) rfl ?_); intro w12 H13
  refine r_nil ?_
  refine g_seq ?_
  refine g_region ?_
  refine r_cons (s_assign (.slice none 0 0) rfl rfl ?_)
  refine r_nil ?_
  refine g_seq ?_
  refine g_region ?_
  refine r_cons (s_move (.pointer (some ⟨g, 0, none⟩)) rfl rfl ?_)
  have H14 : St W w12 (blk g (.cells #[.bool true, .int .i64 1, .slice p 1 c] 80 (0, 0)) :: Row 32 6 (.slice p 1 c) 1 [.int .i64 1, .int .i64 0, .int .i64 1, .int .i64 2, .slice none 0 0, .int .i64 9] :: blk bk1 (.cells #[.int .i64 1, .int .i64 0, .int .i64 0, .int .i64 3, .slice none 0 0, .int .i64 0] 32 (0, 0)) :: F) := ((H13.move 2 rfl).move 2 rfl)
  refine r_cons (s_call [.pointer (some ⟨g, 0, none⟩)] pl_65 rfl rfl (turn_1 g p c H14) ?_)
  rintro _ w17 ⟨pp15, cc16, rfl, H18⟩
  refine r_cons (s_move (.tuple #[.slice pp15 1 cc16, .bool false]) rfl rfl ?_)
  refine r_cons (s_extract (.slice pp15 1 cc16) #[.slice pp15 1 cc16, .bool false] rfl rfl rfl ?_)
  refine r_cons (s_extract (.bool false) #[.slice pp15 1 cc16, .bool false] rfl rfl rfl ?_)
  refine r_cons (s_assign (.slice pp15 1 cc16) rfl rfl ?_)
  refine r_cons (s_assign (.bool false) rfl rfl ?_)
  refine r_nil ?_
  refine g_region ?_
  refine r_cons (s_move (.slice none 0 0) rfl rfl ?_)
  refine r_cons (s_move (.slice pp15 1 cc16) rfl rfl ?_)
  have H19 := Row.nil_intro H18 32 6
  refine r_cons (s_append H19 0 rfl rfl rfl (Row.rd H19 (i := 1) rfl) ap_22 (by decide) (by unfold maxLen; omega) (by omega) (n' := 1) (xs' := [.int .i64 1, .int .i64 0, .int .i64 1, .int .i64 2, .slice none 0 0, .int .i64 9]) (by omega) (by first | rfl | simp) rfl ?_); intro vv20 w21 H22 hn23
  obtain ⟨pp24, cc25, rfl⟩ := Row.slice H22 (i := 0) rfl
  refine r_cons (s_assign (.slice pp24 1 cc25) rfl rfl ?_)
  refine r_nil ?_
  refine g_inBlock ?_
  refine g_inLoop ?_
  refine g_seq ?_
  refine g_seq ?_
  refine g_region ?_
  refine r_cons (s_move (.bool false) rfl rfl ?_)
  refine r_nil ?_
  refine g_false rfl ?_
  refine g_exit (by rfl) ?_
  refine g_seq ?_
  refine g_region ?_
  refine r_cons (s_move (.slice pp24 1 cc25) rfl rfl ?_)
  refine r_cons (s_assign (.slice pp24 1 cc25) rfl rfl ?_)
  refine r_cons (s_assign (.int .i64 0) rfl rfl ?_)
  refine r_nil ?_
  refine g_ret' [.slice pp24 1 cc25, .int .i64 0] Try.func14 Try.results14 ⟨rfl, rfl, trivial⟩ ?_
  have H26 : St W w21 (Row 32 6 (.slice pp24 1 cc25) 1 [.int .i64 1, .int .i64 0, .int .i64 1, .int .i64 2, .slice none 0 0, .int .i64 9] :: blk g (.cells #[.bool true, .int .i64 1, .slice none 0 0] 80 (0, 0)) :: F) := ((((H22.move 2 rfl).move 1 rfl).drop 2 rfl).drop 2 rfl)
  exact ⟨_, _, rfl, H26⟩
set_option maxHeartbeats 4000000 in
set_option maxRecDepth 100000 in
theorem begun_mark {W w : World} {F : List Atom} (e t : Int) (H : St W w F) : Calls Try.prog 59 #[.int .i64 e, .int .i64 t] w (Ret fun v w' => v = .agg #[.int .i64 1, .int .i64 0, .int .i64 e, .int .i64 2, .slice none 0 0, .int .i64 t] ∧ St W w' F) := by
  refine calls_of_go (n := 8) Try.func59 rfl Try.ntmps59 rfl ?_
  refine g_seq ?_
  refine g_region ?_
  refine r_cons (s_alloc H 32 ze_32 rfl ?_); intro bk1 w2 H3
  refine r_nil ?_
  refine g_seq ?_
  refine g_region ?_
  refine r_cons (s_move (.int .i64 e) rfl rfl ?_)
  refine r_cons (s_move (.int .i64 t) rfl rfl ?_)
  refine r_cons (s_build (cs := #[.int .i64 1, .int .i64 0, .int .i64 e, .int .i64 2, .slice none 0 0, .int .i64 t]) (by kernel_rfl) rfl ?_)
  refine r_cons (s_storeAgg H3 0 #[.int .i64 1, .int .i64 0, .int .i64 e, .int .i64 2, .slice none 0 0, .int .i64 t] 6 rfl rfl rfl sz_32 rfl (by simp [Value.oneCell']) (Nat.le_of_ble_eq_true rfl) (fun o h1 h2 => by first | (simp; done) | (simp; omega)) (cs' := #[.int .i64 1, .int .i64 0, .int .i64 e, .int .i64 2, .slice none 0 0, .int .i64 t]) rfl ?_); intro w4 H5
  refine r_nil ?_
  refine g_ret' [.agg #[.int .i64 1, .int .i64 0, .int .i64 e, .int .i64 2, .slice none 0 0, .int .i64 t]] Try.func59 Try.results59 ⟨(res_cellN rfl ag_32 (H5.blk_at (i := 0) rfl) (Nat.le_of_ble_eq_true rfl) rfl), trivial⟩ ?_
  have H6 : St W w4 F := (H5.drop 0 rfl)
  exact ⟨rfl, H6⟩
set_option maxHeartbeats 4000000 in
set_option maxRecDepth 100000 in
theorem begun_ {W w : World} {F : List Atom}  (H : St W w F) : Calls Try.prog 10 #[] w (Ret fun v w' => v = .bool true ∧ St W w' F) := by
  refine calls_of_go (n := 82) Try.func10 rfl Try.ntmps10 rfl ?_
  refine g_seq ?_
  refine g_region ?_
  refine r_cons (s_assign (.bool false) rfl rfl ?_)
  refine r_nil ?_
  refine g_seq ?_
  refine g_region ?_
  refine r_cons (s_call [] pl_9 rfl rfl (NewGate_ H) ?_)
  rintro _ w2 ⟨bk1, rfl, H3⟩
  refine r_cons (s_assign (.pointer (some ⟨bk1, 0, none⟩)) rfl rfl ?_)
  refine r_nil ?_
  refine g_seq ?_
  refine g_seq ?_
  refine g_region ?_
  refine r_cons (s_move (.pointer (some ⟨bk1, 0, none⟩)) rfl rfl ?_)
  refine r_cons (s_peql false un_24 rfl rfl rfl rfl ?_)
  refine r_nil ?_
  refine g_false rfl ?_
  refine g_skip ?_
  refine g_seq ?_
  refine g_region ?_
  refine r_cons (s_assign (.func (.func 59) #[] #[]) rfl rfl ?_)
  refine r_nil ?_
  refine g_seq ?_
  refine g_region ?_
  refine r_cons (s_move (.pointer (some ⟨bk1, 0, none⟩)) rfl rfl ?_)
  refine r_cons (s_move (.func (.func 59) #[] #[]) rfl rfl ?_)
  refine r_cons (s_callv [] [.int .i64 1, .int .i64 9] rfl pl_59 rfl rfl (begun_mark (1 : Int) (9 : Int) H3) ?_)
  rintro _ w4 ⟨rfl, H5⟩
  refine r_cons (s_call [.pointer (some ⟨bk1, 0, none⟩), .agg #[.int .i64 1, .int .i64 0, .int .i64 1, .int .i64 2, .slice none 0 0, .int .i64 9]] pl_14 rfl rfl (Take_wait bk1 (0 : Int) (1 : Int) (0 : Int) (1 : Int) (9 : Int) (by omega) (by omega) (by omega) (by omega) (by omega) H5) ?_)
  rintro _ w8 ⟨rfl, pp6, cc7, H9⟩
  refine r_cons (s_move (.tuple #[.slice none 0 0, .int .i64 0]) rfl rfl ?_)
  refine r_cons (s_extract (.slice none 0 0) #[.slice none 0 0, .int .i64 0] rfl rfl rfl ?_)
  refine r_cons (s_extract (.int .i64 0) #[.slice none 0 0, .int .i64 0] rfl rfl rfl ?_)
  refine r_cons (s_assign (.slice none 0 0) rfl rfl ?_)
  refine r_cons (s_assign (.int .i64 0) rfl rfl ?_)
  refine r_nil ?_
  refine g_seq ?_
  refine g_region ?_
  refine r_cons (s_move (.pointer (some ⟨bk1, 0, none⟩)) rfl rfl ?_)
  refine r_cons (s_move (.func (.func 59) #[] #[]) rfl rfl ?_)
  refine r_cons (s_callv [] [.int .i64 0, .int .i64 4] rfl pl_59 rfl rfl (begun_mark (0 : Int) (4 : Int) H9) ?_)
  rintro _ w10 ⟨rfl, H11⟩
  refine r_cons (s_call [.pointer (some ⟨bk1, 0, none⟩), .agg #[.int .i64 1, .int .i64 0, .int .i64 0, .int .i64 2, .slice none 0 0, .int .i64 4]] pl_14 rfl rfl (Take_now bk1 (0 : Int) (.slice pp6 1 cc7) (1 : Int) (0 : Int) (0 : Int) (4 : Int) (by omega) (by omega) (by omega) (by omega) (by omega) H11) ?_)
  rintro _ w14 ⟨pp12, cc13, rfl, H15⟩
  refine r_cons (s_move (.tuple #[.slice pp12 1 cc13, .int .i64 0]) rfl rfl ?_)
  refine r_cons (s_extract (.slice pp12 1 cc13) #[.slice pp12 1 cc13, .int .i64 0] rfl rfl rfl ?_)
  refine r_cons (s_extract (.int .i64 0) #[.slice pp12 1 cc13, .int .i64 0] rfl rfl rfl ?_)
  refine r_cons (s_assign (.slice pp12 1 cc13) rfl rfl ?_)
  refine r_cons (s_assign (.int .i64 0) rfl rfl ?_)
  refine r_nil ?_
  refine g_seq ?_
  refine g_region ?_
  refine r_cons (s_move (.pointer (some ⟨bk1, 0, none⟩)) rfl rfl ?_)
  refine r_cons (s_build (cs := #[.int .i64 1, .int .i64 0, .int .i64 0, .int .i64 3, .slice none 0 0, .int .i64 0]) (by kernel_rfl) rfl ?_)
  have H16 : St W w14 (blk bk1 (.cells #[.bool true, .int .i64 0, .slice pp6 1 cc7] 80 (0, 0)) :: Row 32 6 (.slice pp6 1 cc7) 1 [.int .i64 1, .int .i64 0, .int .i64 1, .int .i64 2, .slice none 0 0, .int .i64 9] :: Row 32 6 (.slice pp12 1 cc13) 1 [.int .i64 1, .int .i64 0, .int .i64 0, .int .i64 2, .slice none 0 0, .int .i64 4] :: F) := ((H15.move 2 rfl).move 2 rfl)
  refine r_cons (s_call [.pointer (some ⟨bk1, 0, none⟩), .agg #[.int .i64 1, .int .i64 0, .int .i64 0, .int .i64 3, .slice none 0 0, .int .i64 0]] pl_14 rfl rfl (Take_end bk1 pp6 cc7 H16) ?_)
  rintro _ w19 ⟨pp17, cc18, rfl, H20⟩
  refine r_cons (s_move (.tuple #[.slice pp17 1 cc18, .int .i64 0]) rfl rfl ?_)
  refine r_cons (s_extract (.slice pp17 1 cc18) #[.slice pp17 1 cc18, .int .i64 0] rfl rfl rfl ?_)
  refine r_cons (s_extract (.int .i64 0) #[.slice pp17 1 cc18, .int .i64 0] rfl rfl rfl ?_)
  refine r_cons (s_assign (.slice pp17 1 cc18) rfl rfl ?_)
  refine r_cons (s_assign (.int .i64 0) rfl rfl ?_)
  refine r_nil ?_
  refine g_seq ?_
  refine g_region ?_
  refine r_cons (s_move (.pointer (some ⟨bk1, 0, none⟩)) rfl rfl ?_)
  refine r_cons (s_move (.func (.func 59) #[] #[]) rfl rfl ?_)
  refine r_cons (s_callv [] [.int .i64 0, .int .i64 5] rfl pl_59 rfl rfl (begun_mark (0 : Int) (5 : Int) H20) ?_)
  rintro _ w21 ⟨rfl, H22⟩
  have H23 : St W w21 (blk bk1 (.cells #[.bool true, .int .i64 1, .slice none 0 0] 80 (0, 0)) :: Row 32 6 (.slice pp17 1 cc18) 1 [.int .i64 1, .int .i64 0, .int .i64 1, .int .i64 2, .slice none 0 0, .int .i64 9] :: Row 32 6 (.slice pp12 1 cc13) 1 [.int .i64 1, .int .i64 0, .int .i64 0, .int .i64 2, .slice none 0 0, .int .i64 4] :: F) := (H22.move 1 rfl)
  refine r_cons (s_call [.pointer (some ⟨bk1, 0, none⟩), .agg #[.int .i64 1, .int .i64 0, .int .i64 0, .int .i64 2, .slice none 0 0, .int .i64 5]] pl_14 rfl rfl (Take_old bk1 (1 : Int) (.slice none 0 0) (1 : Int) (0 : Int) (0 : Int) (5 : Int) (by omega) (by omega) (by omega) (by omega) (by omega) H23) ?_)
  rintro _ w24 ⟨rfl, H25⟩
  refine r_cons (s_move (.tuple #[.slice none 0 0, .int .i64 240]) rfl rfl ?_)
  refine r_cons (s_extract (.slice none 0 0) #[.slice none 0 0, .int .i64 240] rfl rfl rfl ?_)
  refine r_cons (s_extract (.int .i64 240) #[.slice none 0 0, .int .i64 240] rfl rfl rfl ?_)
  refine r_cons (s_assign (.slice none 0 0) rfl rfl ?_)
  refine r_cons (s_assign (.int .i64 240) rfl rfl ?_)
  refine r_nil ?_
  refine g_seq ?_
  refine g_region ?_
  refine r_cons (s_move (.slice none 0 0) rfl rfl ?_)
  refine r_cons (s_len 0 rfl ⟨_, un_22⟩ rfl ?_)
  refine r_cons (s_eql true rfl rfl (dtrue (by decide)) rfl ?_)
  refine r_cons (s_move (.bool true) rfl rfl ?_)
  refine r_cons (r_take rfl rfl ?_)
  refine s_move (.int .i64 0) rfl rfl ?_
  refine r_cons (r_take rfl rfl ?_)
  refine s_eql true rfl rfl (dtrue (by decide)) rfl ?_
  refine r_cons (s_pick_t (.bool true) rfl rfl rfl ?_)
  refine r_cons (s_move (.bool true) rfl rfl ?_)
  refine r_cons (r_take rfl rfl ?_)
  refine s_move (.slice pp12 1 cc13) rfl rfl ?_
  refine r_cons (r_take rfl rfl ?_)
  refine s_len 1 rfl ⟨_, un_22⟩ rfl ?_
  refine r_cons (r_take rfl rfl ?_)
  refine s_eql true rfl rfl (dtrue (by decide)) rfl ?_
  refine r_cons (s_pick_t (.bool true) rfl rfl rfl ?_)
  refine r_cons (s_move (.bool true) rfl rfl ?_)
  refine r_cons (r_take rfl rfl ?_)
  refine s_move (.int .i64 0) rfl rfl ?_
  refine r_cons (r_take rfl rfl ?_)
  refine s_eql true rfl rfl (dtrue (by decide)) rfl ?_
  refine r_cons (s_pick_t (.bool true) rfl rfl rfl ?_)
  refine r_cons (s_move (.bool true) rfl rfl ?_)
  refine r_cons (r_take rfl rfl ?_)
  refine s_move (.slice pp17 1 cc18) rfl rfl ?_
  refine r_cons (r_take rfl rfl ?_)
  refine s_len 1 rfl ⟨_, un_22⟩ rfl ?_
  refine r_cons (r_take rfl rfl ?_)
  refine s_eql true rfl rfl (dtrue (by decide)) rfl ?_
  refine r_cons (s_pick_t (.bool true) rfl rfl rfl ?_)
  refine r_cons (s_move (.bool true) rfl rfl ?_)
  refine r_cons (r_take rfl rfl ?_)
  refine s_move (.slice pp17 1 cc18) rfl rfl ?_
  refine r_cons (r_take rfl rfl ?_)
  obtain ⟨bk26, cur27, hp28, h29, h30, h31, h32, h33, H34⟩ := Row.open2 H25 (i := 1) rfl (by omega)
  have hc35 : cur27[5]? = some (.int .i64 9) := cell_of_take (k := 5) (xs := [.int .i64 1, .int .i64 0, .int .i64 1, .int .i64 2, .slice none 0 0, .int .i64 9]) h32 (by decide) rfl
  refine s_indexAddr bk26 (off := 0) 0 6 (0 + 0 * 6) (by exact congrArg (fun z_ => Value.slice z_ 1 cc18) ((fun (_ : 0 < 1) => hp28) (by omega))) rfl el_22 (by omega) rfl rfl ?_
  refine r_cons (r_take rfl rfl ?_)
  refine s_fieldAddr 32 5 5 (0 + 0 * 6 + 5) 2 rfl fi_32_5 rfl rfl ?_
  refine r_cons (r_take rfl rfl ?_)
  refine s_load (.int .i64 9) ag_2 rfl (H34.blk_at (i := 1) rfl) hc35 rfl ?_
  refine r_cons (r_take rfl rfl ?_)
  refine s_eql true rfl rfl (dtrue (by decide)) rfl ?_
  refine r_cons (s_pick_t (.bool true) rfl rfl rfl ?_)
  refine r_cons (s_move (.bool true) rfl rfl ?_)
  refine r_cons (r_take rfl rfl ?_)
  refine s_move (.int .i64 0) rfl rfl ?_
  refine r_cons (r_take rfl rfl ?_)
  refine s_eql true rfl rfl (dtrue (by decide)) rfl ?_
  refine r_cons (s_pick_t (.bool true) rfl rfl rfl ?_)
  refine r_cons (s_move (.bool true) rfl rfl ?_)
  refine r_cons (r_take rfl rfl ?_)
  refine s_move (.int .i64 240) rfl rfl ?_
  refine r_cons (r_take rfl rfl ?_)
  refine s_eql true rfl rfl (dtrue (by decide)) rfl ?_
  refine r_cons (s_pick_t (.bool true) rfl rfl rfl ?_)
  refine r_cons (s_move (.bool true) rfl rfl ?_)
  refine r_cons (r_take rfl rfl ?_)
  refine s_move (.pointer (some ⟨bk1, 0, none⟩)) rfl rfl ?_
  refine r_cons (r_take rfl rfl ?_)
  refine s_call [.pointer (some ⟨bk1, 0, none⟩)] pl_16 rfl rfl (Gate_Epoch bk1 (1 : Int) (.slice none 0 0) (i := 0) rfl H34) ?_
  rintro _ w36 ⟨rfl, H37⟩
  refine r_cons (r_take rfl rfl ?_)
  refine s_eql true rfl rfl (dtrue (by decide)) rfl ?_
  refine r_cons (s_pick_t (.bool true) rfl rfl rfl ?_)
  refine r_cons (s_assign (.bool true) rfl rfl ?_)
  refine r_nil ?_
  refine g_ret' [.bool true] Try.func10 Try.results10 ⟨rfl, trivial⟩ ?_
  have H38 : St W w36 F := (((H37.drop 0 rfl).drop 0 rfl).drop 0 rfl)
  exact ⟨rfl, H38⟩
set_option maxHeartbeats 4000000 in
set_option maxRecDepth 100000 in
theorem GN_none_nil {W w : World} {F : List Atom}  (H : St W w F) : Calls Try.prog 62 #[.pointer none] w (Ret fun v w' => v = .bool true ∧ St W w' F) := by
  refine calls_of_go (n := 12) Try.func62 rfl Try.ntmps62 rfl ?_
  refine g_seq ?_
  refine g_region ?_
  refine r_cons (s_assign (.bool false) rfl rfl ?_)
  refine r_nil ?_
  refine g_seq ?_
  refine g_region ?_
  refine r_cons (s_move (.pointer none) rfl rfl ?_)
  refine r_cons (s_peql true un_24 rfl rfl rfl rfl ?_)
  refine r_cons (s_move (.bool true) rfl rfl ?_)
  refine r_cons (r_pass rfl rfl rfl rfl rfl ?_)
  refine r_cons (r_pass rfl rfl rfl rfl rfl ?_)
  refine r_cons (r_pass rfl rfl rfl rfl rfl ?_)
  refine r_cons (r_pass rfl rfl rfl rfl rfl ?_)
  refine r_cons (r_pass rfl rfl rfl rfl rfl ?_)
  refine r_cons (s_pick_t (.bool true) rfl rfl rfl ?_)
  refine r_cons (s_assign (.bool true) rfl rfl ?_)
  refine r_nil ?_
  refine g_ret' [.bool true] Try.func62 Try.results62 ⟨rfl, trivial⟩ ?_
  have H1 : St W w F := H
  exact ⟨rfl, H1⟩
set_option maxHeartbeats 4000000 in
set_option maxRecDepth 100000 in
theorem GN_none_zero {W w : World} {F : List Atom} (z : Nat)  {i : Nat} (hi : F[i]? = some (blk z (.cells #[.bool false, .int .i64 0, .slice none 0 0] 80 (0, 0)))) (H : St W w F) : Calls Try.prog 62 #[.pointer (some ⟨z, 0, none⟩)] w (Ret fun v w' => v = .bool true ∧ St W w' F) := by
  have H0 := H.front hi
  refine calls_of_go (n := 12) Try.func62 rfl Try.ntmps62 rfl ?_
  refine g_seq ?_
  refine g_region ?_
  refine r_cons (s_assign (.bool false) rfl rfl ?_)
  refine r_nil ?_
  refine g_seq ?_
  refine g_region ?_
  refine r_cons (s_move (.pointer (some ⟨z, 0, none⟩)) rfl rfl ?_)
  refine r_cons (s_peql false un_24 rfl rfl rfl rfl ?_)
  refine r_cons (s_move (.bool false) rfl rfl ?_)
  refine r_cons (r_take rfl rfl ?_)
  refine s_move (.pointer (some ⟨z, 0, none⟩)) rfl rfl ?_
  refine r_cons (r_take rfl rfl ?_)
  refine s_nilCheck (.pointer (some ⟨z, 0, none⟩)) rfl ⟨_, rfl⟩ rfl ?_
  refine r_cons (r_take rfl rfl ?_)
  refine s_fieldAddr 80 0 0 0 4 rfl fi_80_0 rfl rfl ?_
  refine r_cons (r_take rfl rfl ?_)
  refine s_load (.bool false) ag_4 rfl (H0.blk_at (i := 0) rfl) rfl rfl ?_
  refine r_cons (r_take rfl rfl ?_)
  refine s_not false rfl true rfl rfl ?_
  refine r_cons (s_pick_f (.bool true) rfl rfl rfl ?_)
  refine r_cons (s_assign (.bool true) rfl rfl ?_)
  refine r_nil ?_
  refine g_ret' [.bool true] Try.func62 Try.results62 ⟨rfl, trivial⟩ ?_
  have H1 : St W w (blk z (.cells #[.bool false, .int .i64 0, .slice none 0 0] 80 (0, 0)) :: (F.set i emp)) := H0
  exact ⟨rfl, St.back_same hi H1⟩
set_option maxHeartbeats 4000000 in
set_option maxRecDepth 100000 in
theorem GN_Take_nil {W w : World} {F : List Atom} (o n e k t : Int) (sp : Option Addr) (sn sc : Nat) (H : St W w F) : Calls Try.prog 14 #[.pointer none, .agg #[.int .i64 o, .int .i64 n, .int .i64 e, .int .i64 k, .slice sp sn sc, .int .i64 t]] w (Ret fun v w' => v = .tuple #[.slice none 0 0, .int .i64 2] ∧ St W w' F) := by
  refine calls_of_go (n := 74) Try.func14 rfl Try.ntmps14 rfl ?_
  refine g_seq ?_
  refine g_region ?_
  refine r_cons (s_box H 32 (.agg #[.int .i64 o, .int .i64 n, .int .i64 e, .int .i64 k, .slice sp sn sc, .int .i64 t]) rfl (cs := #[.int .i64 o, .int .i64 n, .int .i64 e, .int .i64 k, .slice sp sn sc, .int .i64 t]) rfl rfl ?_); intro bk1 w2 H3
  refine r_cons (s_assign (.slice none 0 0) rfl rfl ?_)
  refine r_cons (s_assign (.int .i64 0) rfl rfl ?_)
  refine r_nil ?_
  refine g_seq ?_
  refine g_seq ?_
  refine g_region ?_
  refine r_cons (s_move (.pointer none) rfl rfl ?_)
  refine r_cons (s_call [.pointer none] pl_62 rfl rfl (GN_none_nil  H3) ?_)
  rintro _ w4 ⟨rfl, H5⟩
  refine r_nil ?_
  refine g_true rfl ?_
  refine g_seq ?_
  refine g_region ?_
  refine r_cons (s_assign (.slice none 0 0) rfl rfl ?_)
  refine r_cons (s_assign (.int .i64 2) rfl rfl ?_)
  refine r_nil ?_
  refine g_ret' [.slice none 0 0, .int .i64 2] Try.func14 Try.results14 ⟨rfl, rfl, trivial⟩ ?_
  have H6 : St W w4 F := (H5.drop 0 rfl)
  exact ⟨rfl, H6⟩
set_option maxHeartbeats 4000000 in
set_option maxRecDepth 100000 in
theorem GN_Take_zero {W w : World} {F : List Atom} (z : Nat) (o n e k t : Int) (sp : Option Addr) (sn sc : Nat) {i : Nat} (hi : F[i]? = some (blk z (.cells #[.bool false, .int .i64 0, .slice none 0 0] 80 (0, 0)))) (H : St W w F) : Calls Try.prog 14 #[.pointer (some ⟨z, 0, none⟩), .agg #[.int .i64 o, .int .i64 n, .int .i64 e, .int .i64 k, .slice sp sn sc, .int .i64 t]] w (Ret fun v w' => v = .tuple #[.slice none 0 0, .int .i64 2] ∧ St W w' F) := by
  have H0 := H.front hi
  refine calls_of_go (n := 74) Try.func14 rfl Try.ntmps14 rfl ?_
  refine g_seq ?_
  refine g_region ?_
  refine r_cons (s_box H0 32 (.agg #[.int .i64 o, .int .i64 n, .int .i64 e, .int .i64 k, .slice sp sn sc, .int .i64 t]) rfl (cs := #[.int .i64 o, .int .i64 n, .int .i64 e, .int .i64 k, .slice sp sn sc, .int .i64 t]) rfl rfl ?_); intro bk1 w2 H3
  refine r_cons (s_assign (.slice none 0 0) rfl rfl ?_)
  refine r_cons (s_assign (.int .i64 0) rfl rfl ?_)
  refine r_nil ?_
  refine g_seq ?_
  refine g_seq ?_
  refine g_region ?_
  refine r_cons (s_move (.pointer (some ⟨z, 0, none⟩)) rfl rfl ?_)
  refine r_cons (s_call [.pointer (some ⟨z, 0, none⟩)] pl_62 rfl rfl (GN_none_zero z  (i := 1) rfl H3) ?_)
  rintro _ w4 ⟨rfl, H5⟩
  refine r_nil ?_
  refine g_true rfl ?_
  refine g_seq ?_
  refine g_region ?_
  refine r_cons (s_assign (.slice none 0 0) rfl rfl ?_)
  refine r_cons (s_assign (.int .i64 2) rfl rfl ?_)
  refine r_nil ?_
  refine g_ret' [.slice none 0 0, .int .i64 2] Try.func14 Try.results14 ⟨rfl, rfl, trivial⟩ ?_
  have H6 : St W w4 (blk z (.cells #[.bool false, .int .i64 0, .slice none 0 0] 80 (0, 0)) :: (F.set i emp)) := ((H5.move 1 rfl).drop 1 rfl)
  exact ⟨rfl, St.back_same hi H6⟩
set_option maxHeartbeats 4000000 in
set_option maxRecDepth 100000 in
theorem GN_Bytes_nil {W w : World} {F : List Atom}  (H : St W w F) : Calls Try.prog 42 #[.pointer none] w (Ret fun v w' => v = .tuple #[.slice none 0 0, .int .i64 2] ∧ St W w' F) := by
  refine calls_of_go (n := 49) Try.func42 rfl Try.ntmps42 rfl ?_
  refine g_seq ?_
  refine g_region ?_
  refine r_cons (s_assign (.slice none 0 0) rfl rfl ?_)
  refine r_cons (s_assign (.int .i64 0) rfl rfl ?_)
  refine r_nil ?_
  refine g_seq ?_
  refine g_seq ?_
  refine g_region ?_
  refine r_cons (s_move (.pointer none) rfl rfl ?_)
  refine r_cons (s_call [.pointer none] pl_62 rfl rfl (GN_none_nil  H) ?_)
  rintro _ w1 ⟨rfl, H2⟩
  refine r_nil ?_
  refine g_true rfl ?_
  refine g_seq ?_
  refine g_region ?_
  refine r_cons (s_assign (.slice none 0 0) rfl rfl ?_)
  refine r_cons (s_assign (.int .i64 2) rfl rfl ?_)
  refine r_nil ?_
  refine g_ret' [.slice none 0 0, .int .i64 2] Try.func42 Try.results42 ⟨rfl, rfl, trivial⟩ ?_
  have H3 : St W w1 F := H2
  exact ⟨rfl, H3⟩
set_option maxHeartbeats 4000000 in
set_option maxRecDepth 100000 in
theorem GN_Bytes_zero {W w : World} {F : List Atom} (z : Nat)  {i : Nat} (hi : F[i]? = some (blk z (.cells #[.bool false, .int .i64 0, .slice none 0 0] 80 (0, 0)))) (H : St W w F) : Calls Try.prog 42 #[.pointer (some ⟨z, 0, none⟩)] w (Ret fun v w' => v = .tuple #[.slice none 0 0, .int .i64 2] ∧ St W w' F) := by
  have H0 := H.front hi
  refine calls_of_go (n := 49) Try.func42 rfl Try.ntmps42 rfl ?_
  refine g_seq ?_
  refine g_region ?_
  refine r_cons (s_assign (.slice none 0 0) rfl rfl ?_)
  refine r_cons (s_assign (.int .i64 0) rfl rfl ?_)
  refine r_nil ?_
  refine g_seq ?_
  refine g_seq ?_
  refine g_region ?_
  refine r_cons (s_move (.pointer (some ⟨z, 0, none⟩)) rfl rfl ?_)
  refine r_cons (s_call [.pointer (some ⟨z, 0, none⟩)] pl_62 rfl rfl (GN_none_zero z  (i := 0) rfl H0) ?_)
  rintro _ w1 ⟨rfl, H2⟩
  refine r_nil ?_
  refine g_true rfl ?_
  refine g_seq ?_
  refine g_region ?_
  refine r_cons (s_assign (.slice none 0 0) rfl rfl ?_)
  refine r_cons (s_assign (.int .i64 2) rfl rfl ?_)
  refine r_nil ?_
  refine g_ret' [.slice none 0 0, .int .i64 2] Try.func42 Try.results42 ⟨rfl, rfl, trivial⟩ ?_
  have H3 : St W w1 (blk z (.cells #[.bool false, .int .i64 0, .slice none 0 0] 80 (0, 0)) :: (F.set i emp)) := H2
  exact ⟨rfl, St.back_same hi H3⟩
set_option maxHeartbeats 4000000 in
set_option maxRecDepth 100000 in
theorem GN_Epoch_nil {W w : World} {F : List Atom}  (H : St W w F) : Calls Try.prog 16 #[.pointer none] w (Ret fun v w' => v = .int .i64 0 ∧ St W w' F) := by
  refine calls_of_go (n := 9) Try.func16 rfl Try.ntmps16 rfl ?_
  refine g_seq ?_
  refine g_region ?_
  refine r_cons (s_assign (.int .i64 0) rfl rfl ?_)
  refine r_nil ?_
  refine g_seq ?_
  refine g_seq ?_
  refine g_region ?_
  refine r_cons (s_move (.pointer none) rfl rfl ?_)
  refine r_cons (s_call [.pointer none] pl_62 rfl rfl (GN_none_nil  H) ?_)
  rintro _ w1 ⟨rfl, H2⟩
  refine r_nil ?_
  refine g_true rfl ?_
  refine g_seq ?_
  refine g_region ?_
  refine r_cons (s_assign (.int .i64 0) rfl rfl ?_)
  refine r_nil ?_
  refine g_ret' [.int .i64 0] Try.func16 Try.results16 ⟨rfl, trivial⟩ ?_
  have H3 : St W w1 F := H2
  exact ⟨rfl, H3⟩
set_option maxHeartbeats 4000000 in
set_option maxRecDepth 100000 in
theorem GN_Epoch_zero {W w : World} {F : List Atom} (z : Nat)  {i : Nat} (hi : F[i]? = some (blk z (.cells #[.bool false, .int .i64 0, .slice none 0 0] 80 (0, 0)))) (H : St W w F) : Calls Try.prog 16 #[.pointer (some ⟨z, 0, none⟩)] w (Ret fun v w' => v = .int .i64 0 ∧ St W w' F) := by
  have H0 := H.front hi
  refine calls_of_go (n := 9) Try.func16 rfl Try.ntmps16 rfl ?_
  refine g_seq ?_
  refine g_region ?_
  refine r_cons (s_assign (.int .i64 0) rfl rfl ?_)
  refine r_nil ?_
  refine g_seq ?_
  refine g_seq ?_
  refine g_region ?_
  refine r_cons (s_move (.pointer (some ⟨z, 0, none⟩)) rfl rfl ?_)
  refine r_cons (s_call [.pointer (some ⟨z, 0, none⟩)] pl_62 rfl rfl (GN_none_zero z  (i := 0) rfl H0) ?_)
  rintro _ w1 ⟨rfl, H2⟩
  refine r_nil ?_
  refine g_true rfl ?_
  refine g_seq ?_
  refine g_region ?_
  refine r_cons (s_assign (.int .i64 0) rfl rfl ?_)
  refine r_nil ?_
  refine g_ret' [.int .i64 0] Try.func16 Try.results16 ⟨rfl, trivial⟩ ?_
  have H3 : St W w1 (blk z (.cells #[.bool false, .int .i64 0, .slice none 0 0] 80 (0, 0)) :: (F.set i emp)) := H2
  exact ⟨rfl, St.back_same hi H3⟩
set_option maxHeartbeats 4000000 in
set_option maxRecDepth 100000 in
theorem GN_Waiting_nil {W w : World} {F : List Atom}  (H : St W w F) : Calls Try.prog 17 #[.pointer none] w (Ret fun v w' => v = .int .i64 0 ∧ St W w' F) := by
  refine calls_of_go (n := 10) Try.func17 rfl Try.ntmps17 rfl ?_
  refine g_seq ?_
  refine g_region ?_
  refine r_cons (s_assign (.int .i64 0) rfl rfl ?_)
  refine r_nil ?_
  refine g_seq ?_
  refine g_seq ?_
  refine g_region ?_
  refine r_cons (s_move (.pointer none) rfl rfl ?_)
  refine r_cons (s_call [.pointer none] pl_62 rfl rfl (GN_none_nil  H) ?_)
  rintro _ w1 ⟨rfl, H2⟩
  refine r_nil ?_
  refine g_true rfl ?_
  refine g_seq ?_
  refine g_region ?_
  refine r_cons (s_assign (.int .i64 0) rfl rfl ?_)
  refine r_nil ?_
  refine g_ret' [.int .i64 0] Try.func17 Try.results17 ⟨rfl, trivial⟩ ?_
  have H3 : St W w1 F := H2
  exact ⟨rfl, H3⟩
set_option maxHeartbeats 4000000 in
set_option maxRecDepth 100000 in
theorem GN_Waiting_zero {W w : World} {F : List Atom} (z : Nat)  {i : Nat} (hi : F[i]? = some (blk z (.cells #[.bool false, .int .i64 0, .slice none 0 0] 80 (0, 0)))) (H : St W w F) : Calls Try.prog 17 #[.pointer (some ⟨z, 0, none⟩)] w (Ret fun v w' => v = .int .i64 0 ∧ St W w' F) := by
  have H0 := H.front hi
  refine calls_of_go (n := 10) Try.func17 rfl Try.ntmps17 rfl ?_
  refine g_seq ?_
  refine g_region ?_
  refine r_cons (s_assign (.int .i64 0) rfl rfl ?_)
  refine r_nil ?_
  refine g_seq ?_
  refine g_seq ?_
  refine g_region ?_
  refine r_cons (s_move (.pointer (some ⟨z, 0, none⟩)) rfl rfl ?_)
  refine r_cons (s_call [.pointer (some ⟨z, 0, none⟩)] pl_62 rfl rfl (GN_none_zero z  (i := 0) rfl H0) ?_)
  rintro _ w1 ⟨rfl, H2⟩
  refine r_nil ?_
  refine g_true rfl ?_
  refine g_seq ?_
  refine g_region ?_
  refine r_cons (s_assign (.int .i64 0) rfl rfl ?_)
  refine r_nil ?_
  refine g_ret' [.int .i64 0] Try.func17 Try.results17 ⟨rfl, trivial⟩ ?_
  have H3 : St W w1 (blk z (.cells #[.bool false, .int .i64 0, .slice none 0 0] 80 (0, 0)) :: (F.set i emp)) := H2
  exact ⟨rfl, St.back_same hi H3⟩
set_option maxHeartbeats 4000000 in
set_option maxRecDepth 100000 in
theorem GN_Clone_nil {W w : World} {F : List Atom}  (H : St W w F) : Calls Try.prog 45 #[.pointer none] w (Ret fun v w' => v = .pointer none ∧ St W w' F) := by
  refine calls_of_go (n := 16) Try.func45 rfl Try.ntmps45 rfl ?_
  refine g_seq ?_
  refine g_region ?_
  refine r_cons (s_assign (.pointer none) rfl rfl ?_)
  refine r_nil ?_
  refine g_seq ?_
  refine g_seq ?_
  refine g_region ?_
  refine r_cons (s_move (.pointer none) rfl rfl ?_)
  refine r_cons (s_call [.pointer none] pl_62 rfl rfl (GN_none_nil  H) ?_)
  rintro _ w1 ⟨rfl, H2⟩
  refine r_nil ?_
  refine g_true rfl ?_
  refine g_seq ?_
  refine g_region ?_
  refine r_cons (s_assign (.pointer none) rfl rfl ?_)
  refine r_nil ?_
  refine g_ret' [.pointer none] Try.func45 Try.results45 ⟨rfl, trivial⟩ ?_
  have H3 : St W w1 F := H2
  exact ⟨rfl, H3⟩
set_option maxHeartbeats 4000000 in
set_option maxRecDepth 100000 in
theorem GN_Clone_zero {W w : World} {F : List Atom} (z : Nat)  {i : Nat} (hi : F[i]? = some (blk z (.cells #[.bool false, .int .i64 0, .slice none 0 0] 80 (0, 0)))) (H : St W w F) : Calls Try.prog 45 #[.pointer (some ⟨z, 0, none⟩)] w (Ret fun v w' => v = .pointer none ∧ St W w' F) := by
  have H0 := H.front hi
  refine calls_of_go (n := 16) Try.func45 rfl Try.ntmps45 rfl ?_
  refine g_seq ?_
  refine g_region ?_
  refine r_cons (s_assign (.pointer none) rfl rfl ?_)
  refine r_nil ?_
  refine g_seq ?_
  refine g_seq ?_
  refine g_region ?_
  refine r_cons (s_move (.pointer (some ⟨z, 0, none⟩)) rfl rfl ?_)
  refine r_cons (s_call [.pointer (some ⟨z, 0, none⟩)] pl_62 rfl rfl (GN_none_zero z  (i := 0) rfl H0) ?_)
  rintro _ w1 ⟨rfl, H2⟩
  refine r_nil ?_
  refine g_true rfl ?_
  refine g_seq ?_
  refine g_region ?_
  refine r_cons (s_assign (.pointer none) rfl rfl ?_)
  refine r_nil ?_
  refine g_ret' [.pointer none] Try.func45 Try.results45 ⟨rfl, trivial⟩ ?_
  have H3 : St W w1 (blk z (.cells #[.bool false, .int .i64 0, .slice none 0 0] 80 (0, 0)) :: (F.set i emp)) := H2
  exact ⟨rfl, St.back_same hi H3⟩
set_option maxHeartbeats 4000000 in
set_option maxRecDepth 100000 in
theorem GateAll_empty {W w : World} {F : List Atom} (g l : Nat) {i : Nat} (hi : F[i]? = some (blk g (.cells #[.slice none 0 0] 22 (0, 0)))) (H : St W w F) : Calls Try.prog 95 #[.func (.yield l) #[] #[], .pointer (some ⟨g, 0, none⟩)] w (Ret fun v w' => St W w' F) := by
  have H0 := H.front hi
  refine calls_of_go (n := 17) Try.func95 rfl Try.ntmps95 rfl ?_
  refine g_seq ?_
  refine g_region ?_
  refine r_cons (s_load (.slice none 0 0) ag_22 rfl (H0.blk_at (i := 0) rfl) rfl rfl ?_)
  refine r_cons (s_len 0 rfl ⟨_, un_22⟩ rfl ?_)
  refine r_cons (s_move (.int .i64 0) rfl rfl ?_)
  refine r_nil ?_
  refine g_block ?_
  refine g_loop ?_
  refine g_seq ?_
  refine g_region ?_
  refine r_cons (s_lss false rfl rfl (dfalse (by decide)) rfl ?_)
  refine r_nil ?_
  refine g_seq ?_
  refine g_false rfl ?_
  refine g_exit (by rfl) ?_
  refine g_end' [] Try.func95 Try.results95 trivial ?_
  have H1 : St W w (blk g (.cells #[.slice none 0 0] 22 (0, 0)) :: (F.set i emp)) := H0
  exact St.back_same hi H1
set_option maxHeartbeats 4000000 in
set_option maxRecDepth 100000 in
theorem GN_All_nil {W w : World} {F : List Atom}  (H : St W w F) : Calls Try.prog 44 #[.pointer none] w (Ret fun v w' => ∃ g, v = .func (.func 95) #[] #[.pointer (some ⟨g, 0, none⟩)] ∧ St W w' (blk g (.cells #[.slice none 0 0] 22 (0, 0)) :: F)) := by
  refine calls_of_go (n := 25) Try.func44 rfl Try.ntmps44 rfl ?_
  refine g_seq ?_
  refine g_region ?_
  refine r_cons (s_assign (.nilFunc) rfl rfl ?_)
  refine r_nil ?_
  refine g_seq ?_
  refine g_region ?_
  refine r_cons (s_alloc H 22 ze_22 rfl ?_); intro bk1 w2 H3
  refine r_nil ?_
  refine g_seq ?_
  refine g_seq ?_
  refine g_region ?_
  refine r_cons (s_move (.pointer none) rfl rfl ?_)
  refine r_cons (s_call [.pointer none] pl_62 rfl rfl (GN_none_nil  H3) ?_)
  rintro _ w4 ⟨rfl, H5⟩
  refine r_cons (s_not true rfl false rfl rfl ?_)
  refine r_nil ?_
  refine g_false rfl ?_
  refine g_skip ?_
  refine g_seq ?_
  refine g_region ?_
  refine r_cons (s_makeFunc (.func (.func 95) #[] #[.pointer (some ⟨bk1, 0, none⟩)]) rfl rfl ?_)
  refine r_cons (s_assign (.func (.func 95) #[] #[.pointer (some ⟨bk1, 0, none⟩)]) rfl rfl ?_)
  refine r_nil ?_
  refine g_ret' [.func (.func 95) #[] #[.pointer (some ⟨bk1, 0, none⟩)]] Try.func44 Try.results44 ⟨rfl, trivial⟩ ?_
  have H6 : St W w4 (blk bk1 (.cells #[.slice none 0 0] 22 (0, 0)) :: F) := H5
  exact ⟨bk1, rfl, H6⟩
set_option maxHeartbeats 4000000 in
set_option maxRecDepth 100000 in
theorem GN_All_zero {W w : World} {F : List Atom} (z : Nat)  {i : Nat} (hi : F[i]? = some (blk z (.cells #[.bool false, .int .i64 0, .slice none 0 0] 80 (0, 0)))) (H : St W w F) : Calls Try.prog 44 #[.pointer (some ⟨z, 0, none⟩)] w (Ret fun v w' => ∃ g, v = .func (.func 95) #[] #[.pointer (some ⟨g, 0, none⟩)] ∧ St W w' (blk g (.cells #[.slice none 0 0] 22 (0, 0)) :: F)) := by
  have H0 := H.front hi
  refine calls_of_go (n := 25) Try.func44 rfl Try.ntmps44 rfl ?_
  refine g_seq ?_
  refine g_region ?_
  refine r_cons (s_assign (.nilFunc) rfl rfl ?_)
  refine r_nil ?_
  refine g_seq ?_
  refine g_region ?_
  refine r_cons (s_alloc H0 22 ze_22 rfl ?_); intro bk1 w2 H3
  refine r_nil ?_
  refine g_seq ?_
  refine g_seq ?_
  refine g_region ?_
  refine r_cons (s_move (.pointer (some ⟨z, 0, none⟩)) rfl rfl ?_)
  refine r_cons (s_call [.pointer (some ⟨z, 0, none⟩)] pl_62 rfl rfl (GN_none_zero z  (i := 1) rfl H3) ?_)
  rintro _ w4 ⟨rfl, H5⟩
  refine r_cons (s_not true rfl false rfl rfl ?_)
  refine r_nil ?_
  refine g_false rfl ?_
  refine g_skip ?_
  refine g_seq ?_
  refine g_region ?_
  refine r_cons (s_makeFunc (.func (.func 95) #[] #[.pointer (some ⟨bk1, 0, none⟩)]) rfl rfl ?_)
  refine r_cons (s_assign (.func (.func 95) #[] #[.pointer (some ⟨bk1, 0, none⟩)]) rfl rfl ?_)
  refine r_nil ?_
  refine g_ret' [.func (.func 95) #[] #[.pointer (some ⟨bk1, 0, none⟩)]] Try.func44 Try.results44 ⟨rfl, trivial⟩ ?_
  have H6 : St W w4 (blk bk1 (.cells #[.slice none 0 0] 22 (0, 0)) :: blk z (.cells #[.bool false, .int .i64 0, .slice none 0 0] 80 (0, 0)) :: (F.set i emp)) := ((H5.move 1 rfl).move 1 rfl)
  have H7 : St W w4 (blk bk1 (.cells #[.slice none 0 0] 22 (0, 0)) :: F) := St.back_same (i := i + 1) (by exact hi) (H6.move 1 rfl)
  exact ⟨bk1, rfl, H7⟩
set_option maxHeartbeats 4000000 in
set_option maxRecDepth 100000 in
theorem told_none {W w : World} {F : List Atom} (g : Nat) {i : Nat} (hi : F[i]? = some (blk g (.cells #[.slice none 0 0] 22 (0, 0)))) (H : St W w F) : Calls Try.prog 43 #[.func (.func 95) #[] #[.pointer (some ⟨g, 0, none⟩)], .slice none 0 0] w (Ret fun v w' => v = .bool true ∧ St W w' F) := by
  have H0 := H.front hi
  refine calls_of_go (n := 28) Try.func43 rfl Try.ntmps43 rfl ?_
  refine g_seq ?_
  refine g_region ?_
  refine r_cons (s_box H0 22 (.slice none 0 0) rfl (cs := #[.slice none 0 0]) rfl rfl ?_); intro bk1 w2 H3
  refine r_cons (s_alloc H3 4 ze_4 rfl ?_); intro bk4 w5 H6
  refine r_nil ?_
  refine g_seq ?_
  refine g_region ?_
  refine r_cons (s_alloc H6 3 ze_3 rfl ?_); intro bk7 w8 H9
  refine r_cons (s_store H9 0 (.int .i64 0) rfl rfl rfl sz_3 rfl (Nat.le_of_ble_eq_true rfl) rfl (cs' := #[.int .i64 0]) rfl ?_); intro w10 H11
  refine r_nil ?_
  refine g_seq ?_
  refine g_seq ?_
  refine g_region ?_
  refine r_cons (s_move (.func (.func 95) #[] #[.pointer (some ⟨g, 0, none⟩)]) rfl rfl ?_)
  refine r_nil ?_
  refine g_block ?_
  refine g_range1 (W := W) (F := blk bk7 (.cells #[.int .i64 0] 3 (0, 0)) :: blk bk4 (.cells #[.bool false] 4 (0, 0)) :: blk bk1 (.cells #[.slice none 0 0] 22 (0, 0)) :: blk g (.cells #[.slice none 0 0] 22 (0, 0)) :: (F.set i emp)) (α := Empty) 95 [.pointer (some ⟨g, 0, none⟩)] rfl rfl pl_95 (fun x_ => x_.elim) rfl (fun _ => emp) (fun _ => emp) (fun _ _ => emp) (fun _ _ => True) (fun _ => True) (fun _ => False) H11.cons_emp ?_ ?_ ?_ ?_
  · intro _ _ _ _ _ x; exact x.elim
  · intro l J Jx B w H _; exact (GateAll_empty g l (i := 5) rfl H).mono fun e w' hh => by cases e with | returned v => exact ⟨[], .inl ⟨trivial, hh⟩⟩ | _ => exact hh.elim
  · intro D12 L13 w14 hS15 H16
    have H17 : St W w14 (emp :: blk D12 (.deferred (some [])) :: blk bk7 (.cells #[.int .i64 0] 3 (0, 0)) :: blk bk4 (.cells #[.bool false] 4 (0, 0)) :: blk bk1 (.cells #[.slice none 0 0] 22 (0, 0)) :: blk g (.cells #[.slice none 0 0] 22 (0, 0)) :: (F.set i emp)) := H16
    have H18 := H17.drop 0 rfl
    refine g_inBlock ?_
    refine g_seq ?_
    refine g_region ?_
    refine r_cons (s_load (.int .i64 0) ag_3 rfl (H18.blk_at (i := 1) rfl) rfl rfl ?_)
    refine r_cons (s_load (.slice none 0 0) ag_22 rfl (H18.blk_at (i := 3) rfl) rfl rfl ?_)
    refine r_cons (s_len 0 rfl ⟨_, un_22⟩ rfl ?_)
    refine r_cons (s_eql true rfl rfl (dtrue (by decide)) rfl ?_)
    refine r_cons (s_store H18 2 (.bool true) rfl rfl rfl sz_4 rfl (Nat.le_of_ble_eq_true rfl) rfl (cs' := #[.bool true]) rfl ?_); intro w19 H20
    refine r_nil ?_
    obtain ⟨hd21, H22⟩ := H20.collect (i := 0) rfl
    refine g_retD _ [.bool true] Try.func43 Try.results43 rfl ⟨hd21, trivial⟩ ⟨(res_cell1 rfl ag_4 (H22.blk_at (i := 1) rfl) rfl), trivial⟩ ?_
    have H23 : St W (w19.putObj D12 (.deferred none)) (blk g (.cells #[.slice none 0 0] 22 (0, 0)) :: (F.set i emp)) := ((((H22.move 3 rfl).drop 1 rfl).drop 1 rfl).drop 1 rfl)
    exact ⟨rfl, St.back_same hi H23⟩
  · intro _ _ _ _ h; exact h.elim
set_option maxHeartbeats 4000000 in
set_option maxRecDepth 100000 in
theorem MN_none_nil {W w : World} {F : List Atom}  (H : St W w F) : Calls Try.prog 96 #[.pointer none] w (Ret fun v w' => v = .bool true ∧ St W w' F) := by
  refine calls_of_go (n := 12) Try.func96 rfl Try.ntmps96 rfl ?_
  refine g_seq ?_
  refine g_region ?_
  refine r_cons (s_assign (.bool false) rfl rfl ?_)
  refine r_nil ?_
  refine g_seq ?_
  refine g_region ?_
  refine r_cons (s_move (.pointer none) rfl rfl ?_)
  refine r_cons (s_peql true un_87 rfl rfl rfl rfl ?_)
  refine r_cons (s_move (.bool true) rfl rfl ?_)
  refine r_cons (r_pass rfl rfl rfl rfl rfl ?_)
  refine r_cons (r_pass rfl rfl rfl rfl rfl ?_)
  refine r_cons (r_pass rfl rfl rfl rfl rfl ?_)
  refine r_cons (r_pass rfl rfl rfl rfl rfl ?_)
  refine r_cons (r_pass rfl rfl rfl rfl rfl ?_)
  refine r_cons (s_pick_t (.bool true) rfl rfl rfl ?_)
  refine r_cons (s_assign (.bool true) rfl rfl ?_)
  refine r_nil ?_
  refine g_ret' [.bool true] Try.func96 Try.results96 ⟨rfl, trivial⟩ ?_
  have H1 : St W w F := H
  exact ⟨rfl, H1⟩
set_option maxHeartbeats 4000000 in
set_option maxRecDepth 100000 in
theorem MN_none_zero {W w : World} {F : List Atom} (z : Nat)  {i : Nat} (hi : F[i]? = some (blk z (.cells #[.bool false, .int .i64 0, .map none, .map none, .int .i64 0] 90 (0, 0)))) (H : St W w F) : Calls Try.prog 96 #[.pointer (some ⟨z, 0, none⟩)] w (Ret fun v w' => v = .bool true ∧ St W w' F) := by
  have H0 := H.front hi
  refine calls_of_go (n := 12) Try.func96 rfl Try.ntmps96 rfl ?_
  refine g_seq ?_
  refine g_region ?_
  refine r_cons (s_assign (.bool false) rfl rfl ?_)
  refine r_nil ?_
  refine g_seq ?_
  refine g_region ?_
  refine r_cons (s_move (.pointer (some ⟨z, 0, none⟩)) rfl rfl ?_)
  refine r_cons (s_peql false un_87 rfl rfl rfl rfl ?_)
  refine r_cons (s_move (.bool false) rfl rfl ?_)
  refine r_cons (r_take rfl rfl ?_)
  refine s_move (.pointer (some ⟨z, 0, none⟩)) rfl rfl ?_
  refine r_cons (r_take rfl rfl ?_)
  refine s_nilCheck (.pointer (some ⟨z, 0, none⟩)) rfl ⟨_, rfl⟩ rfl ?_
  refine r_cons (r_take rfl rfl ?_)
  refine s_fieldAddr 90 0 0 0 4 rfl fi_90_0 rfl rfl ?_
  refine r_cons (r_take rfl rfl ?_)
  refine s_load (.bool false) ag_4 rfl (H0.blk_at (i := 0) rfl) rfl rfl ?_
  refine r_cons (r_take rfl rfl ?_)
  refine s_not false rfl true rfl rfl ?_
  refine r_cons (s_pick_f (.bool true) rfl rfl rfl ?_)
  refine r_cons (s_assign (.bool true) rfl rfl ?_)
  refine r_nil ?_
  refine g_ret' [.bool true] Try.func96 Try.results96 ⟨rfl, trivial⟩ ?_
  have H1 : St W w (blk z (.cells #[.bool false, .int .i64 0, .map none, .map none, .int .i64 0] 90 (0, 0)) :: (F.set i emp)) := H0
  exact ⟨rfl, St.back_same hi H1⟩
set_option maxHeartbeats 4000000 in
set_option maxRecDepth 100000 in
theorem MN_Marker_nil {W w : World} {F : List Atom} (n : Int) (H : St W w F) : Calls Try.prog 46 #[.pointer none, .int .i64 n] w (Ret fun v w' => v = .tuple #[.bool false, .int .i64 2] ∧ St W w' F) := by
  refine calls_of_go (n := 32) Try.func46 rfl Try.ntmps46 rfl ?_
  refine g_seq ?_
  refine g_region ?_
  refine r_cons (s_assign (.bool false) rfl rfl ?_)
  refine r_cons (s_assign (.int .i64 0) rfl rfl ?_)
  refine r_nil ?_
  refine g_seq ?_
  refine g_block ?_
  refine g_seq ?_
  refine g_region ?_
  refine r_cons (s_move (.pointer none) rfl rfl ?_)
  refine r_cons (s_call [.pointer none] pl_96 rfl rfl (MN_none_nil  H) ?_)
  rintro _ w1 ⟨rfl, H2⟩
  refine r_cons (s_assign (.bool true) rfl rfl ?_)
  refine r_nil ?_
  refine g_true rfl ?_
  refine g_seq ?_
  refine g_region ?_
  refine r_cons (s_assign (.bool false) rfl rfl ?_)
  refine r_cons (s_assign (.int .i64 2) rfl rfl ?_)
  refine r_nil ?_
  refine g_ret' [.bool false, .int .i64 2] Try.func46 Try.results46 ⟨rfl, rfl, trivial⟩ ?_
  have H3 : St W w1 F := H2
  exact ⟨rfl, H3⟩
set_option maxHeartbeats 4000000 in
set_option maxRecDepth 100000 in
theorem MN_Marker_zero {W w : World} {F : List Atom} (z : Nat) (n : Int) {i : Nat} (hi : F[i]? = some (blk z (.cells #[.bool false, .int .i64 0, .map none, .map none, .int .i64 0] 90 (0, 0)))) (H : St W w F) : Calls Try.prog 46 #[.pointer (some ⟨z, 0, none⟩), .int .i64 n] w (Ret fun v w' => v = .tuple #[.bool false, .int .i64 2] ∧ St W w' F) := by
  have H0 := H.front hi
  refine calls_of_go (n := 32) Try.func46 rfl Try.ntmps46 rfl ?_
  refine g_seq ?_
  refine g_region ?_
  refine r_cons (s_assign (.bool false) rfl rfl ?_)
  refine r_cons (s_assign (.int .i64 0) rfl rfl ?_)
  refine r_nil ?_
  refine g_seq ?_
  refine g_block ?_
  refine g_seq ?_
  refine g_region ?_
  refine r_cons (s_move (.pointer (some ⟨z, 0, none⟩)) rfl rfl ?_)
  refine r_cons (s_call [.pointer (some ⟨z, 0, none⟩)] pl_96 rfl rfl (MN_none_zero z  (i := 0) rfl H0) ?_)
  rintro _ w1 ⟨rfl, H2⟩
  refine r_cons (s_assign (.bool true) rfl rfl ?_)
  refine r_nil ?_
  refine g_true rfl ?_
  refine g_seq ?_
  refine g_region ?_
  refine r_cons (s_assign (.bool false) rfl rfl ?_)
  refine r_cons (s_assign (.int .i64 2) rfl rfl ?_)
  refine r_nil ?_
  refine g_ret' [.bool false, .int .i64 2] Try.func46 Try.results46 ⟨rfl, rfl, trivial⟩ ?_
  have H3 : St W w1 (blk z (.cells #[.bool false, .int .i64 0, .map none, .map none, .int .i64 0] 90 (0, 0)) :: (F.set i emp)) := H2
  exact ⟨rfl, St.back_same hi H3⟩
set_option maxHeartbeats 4000000 in
set_option maxRecDepth 100000 in
theorem MN_Send_nil {W w : World} {F : List Atom}  (H : St W w F) : Calls Try.prog 47 #[.pointer none, .slice none 0 0] w (Ret fun v w' => v = .tuple #[.slice none 0 0, .int .i64 2] ∧ St W w' F) := by
  refine calls_of_go (n := 33) Try.func47 rfl Try.ntmps47 rfl ?_
  refine g_seq ?_
  refine g_region ?_
  refine r_cons (s_assign (.slice none 0 0) rfl rfl ?_)
  refine r_cons (s_assign (.int .i64 0) rfl rfl ?_)
  refine r_nil ?_
  refine g_seq ?_
  refine g_block ?_
  refine g_seq ?_
  refine g_region ?_
  refine r_cons (s_move (.pointer none) rfl rfl ?_)
  refine r_cons (s_call [.pointer none] pl_96 rfl rfl (MN_none_nil  H) ?_)
  rintro _ w1 ⟨rfl, H2⟩
  refine r_cons (s_assign (.bool true) rfl rfl ?_)
  refine r_nil ?_
  refine g_true rfl ?_
  refine g_seq ?_
  refine g_region ?_
  refine r_cons (s_assign (.slice none 0 0) rfl rfl ?_)
  refine r_cons (s_assign (.int .i64 2) rfl rfl ?_)
  refine r_nil ?_
  refine g_ret' [.slice none 0 0, .int .i64 2] Try.func47 Try.results47 ⟨rfl, rfl, trivial⟩ ?_
  have H3 : St W w1 F := H2
  exact ⟨rfl, H3⟩
set_option maxHeartbeats 4000000 in
set_option maxRecDepth 100000 in
theorem MN_Send_zero {W w : World} {F : List Atom} (z : Nat)  {i : Nat} (hi : F[i]? = some (blk z (.cells #[.bool false, .int .i64 0, .map none, .map none, .int .i64 0] 90 (0, 0)))) (H : St W w F) : Calls Try.prog 47 #[.pointer (some ⟨z, 0, none⟩), .slice none 0 0] w (Ret fun v w' => v = .tuple #[.slice none 0 0, .int .i64 2] ∧ St W w' F) := by
  have H0 := H.front hi
  refine calls_of_go (n := 33) Try.func47 rfl Try.ntmps47 rfl ?_
  refine g_seq ?_
  refine g_region ?_
  refine r_cons (s_assign (.slice none 0 0) rfl rfl ?_)
  refine r_cons (s_assign (.int .i64 0) rfl rfl ?_)
  refine r_nil ?_
  refine g_seq ?_
  refine g_block ?_
  refine g_seq ?_
  refine g_region ?_
  refine r_cons (s_move (.pointer (some ⟨z, 0, none⟩)) rfl rfl ?_)
  refine r_cons (s_call [.pointer (some ⟨z, 0, none⟩)] pl_96 rfl rfl (MN_none_zero z  (i := 0) rfl H0) ?_)
  rintro _ w1 ⟨rfl, H2⟩
  refine r_cons (s_assign (.bool true) rfl rfl ?_)
  refine r_nil ?_
  refine g_true rfl ?_
  refine g_seq ?_
  refine g_region ?_
  refine r_cons (s_assign (.slice none 0 0) rfl rfl ?_)
  refine r_cons (s_assign (.int .i64 2) rfl rfl ?_)
  refine r_nil ?_
  refine g_ret' [.slice none 0 0, .int .i64 2] Try.func47 Try.results47 ⟨rfl, rfl, trivial⟩ ?_
  have H3 : St W w1 (blk z (.cells #[.bool false, .int .i64 0, .map none, .map none, .int .i64 0] 90 (0, 0)) :: (F.set i emp)) := H2
  exact ⟨rfl, St.back_same hi H3⟩
set_option maxHeartbeats 4000000 in
set_option maxRecDepth 100000 in
theorem MN_Landed_nil {W w : World} {F : List Atom}  (H : St W w F) : Calls Try.prog 48 #[.pointer none] w (Ret fun v w' => v = .int .i64 2 ∧ St W w' F) := by
  refine calls_of_go (n := 15) Try.func48 rfl Try.ntmps48 rfl ?_
  refine g_seq ?_
  refine g_region ?_
  refine r_cons (s_assign (.int .i64 0) rfl rfl ?_)
  refine r_nil ?_
  refine g_seq ?_
  refine g_block ?_
  refine g_seq ?_
  refine g_region ?_
  refine r_cons (s_move (.pointer none) rfl rfl ?_)
  refine r_cons (s_call [.pointer none] pl_96 rfl rfl (MN_none_nil  H) ?_)
  rintro _ w1 ⟨rfl, H2⟩
  refine r_cons (s_assign (.bool true) rfl rfl ?_)
  refine r_nil ?_
  refine g_true rfl ?_
  refine g_seq ?_
  refine g_region ?_
  refine r_cons (s_assign (.int .i64 2) rfl rfl ?_)
  refine r_nil ?_
  refine g_ret' [.int .i64 2] Try.func48 Try.results48 ⟨rfl, trivial⟩ ?_
  have H3 : St W w1 F := H2
  exact ⟨rfl, H3⟩
set_option maxHeartbeats 4000000 in
set_option maxRecDepth 100000 in
theorem MN_Landed_zero {W w : World} {F : List Atom} (z : Nat)  {i : Nat} (hi : F[i]? = some (blk z (.cells #[.bool false, .int .i64 0, .map none, .map none, .int .i64 0] 90 (0, 0)))) (H : St W w F) : Calls Try.prog 48 #[.pointer (some ⟨z, 0, none⟩)] w (Ret fun v w' => v = .int .i64 2 ∧ St W w' F) := by
  have H0 := H.front hi
  refine calls_of_go (n := 15) Try.func48 rfl Try.ntmps48 rfl ?_
  refine g_seq ?_
  refine g_region ?_
  refine r_cons (s_assign (.int .i64 0) rfl rfl ?_)
  refine r_nil ?_
  refine g_seq ?_
  refine g_block ?_
  refine g_seq ?_
  refine g_region ?_
  refine r_cons (s_move (.pointer (some ⟨z, 0, none⟩)) rfl rfl ?_)
  refine r_cons (s_call [.pointer (some ⟨z, 0, none⟩)] pl_96 rfl rfl (MN_none_zero z  (i := 0) rfl H0) ?_)
  rintro _ w1 ⟨rfl, H2⟩
  refine r_cons (s_assign (.bool true) rfl rfl ?_)
  refine r_nil ?_
  refine g_true rfl ?_
  refine g_seq ?_
  refine g_region ?_
  refine r_cons (s_assign (.int .i64 2) rfl rfl ?_)
  refine r_nil ?_
  refine g_ret' [.int .i64 2] Try.func48 Try.results48 ⟨rfl, trivial⟩ ?_
  have H3 : St W w1 (blk z (.cells #[.bool false, .int .i64 0, .map none, .map none, .int .i64 0] 90 (0, 0)) :: (F.set i emp)) := H2
  exact ⟨rfl, St.back_same hi H3⟩
set_option maxHeartbeats 4000000 in
set_option maxRecDepth 100000 in
theorem MN_Phase_nil {W w : World} {F : List Atom}  (H : St W w F) : Calls Try.prog 49 #[.pointer none] w (Ret fun v w' => v = .int .i64 0 ∧ St W w' F) := by
  refine calls_of_go (n := 9) Try.func49 rfl Try.ntmps49 rfl ?_
  refine g_seq ?_
  refine g_region ?_
  refine r_cons (s_assign (.int .i64 0) rfl rfl ?_)
  refine r_nil ?_
  refine g_seq ?_
  refine g_seq ?_
  refine g_region ?_
  refine r_cons (s_move (.pointer none) rfl rfl ?_)
  refine r_cons (s_call [.pointer none] pl_96 rfl rfl (MN_none_nil  H) ?_)
  rintro _ w1 ⟨rfl, H2⟩
  refine r_nil ?_
  refine g_true rfl ?_
  refine g_seq ?_
  refine g_region ?_
  refine r_cons (s_assign (.int .i64 0) rfl rfl ?_)
  refine r_nil ?_
  refine g_ret' [.int .i64 0] Try.func49 Try.results49 ⟨rfl, trivial⟩ ?_
  have H3 : St W w1 F := H2
  exact ⟨rfl, H3⟩
set_option maxHeartbeats 4000000 in
set_option maxRecDepth 100000 in
theorem MN_Phase_zero {W w : World} {F : List Atom} (z : Nat)  {i : Nat} (hi : F[i]? = some (blk z (.cells #[.bool false, .int .i64 0, .map none, .map none, .int .i64 0] 90 (0, 0)))) (H : St W w F) : Calls Try.prog 49 #[.pointer (some ⟨z, 0, none⟩)] w (Ret fun v w' => v = .int .i64 0 ∧ St W w' F) := by
  have H0 := H.front hi
  refine calls_of_go (n := 9) Try.func49 rfl Try.ntmps49 rfl ?_
  refine g_seq ?_
  refine g_region ?_
  refine r_cons (s_assign (.int .i64 0) rfl rfl ?_)
  refine r_nil ?_
  refine g_seq ?_
  refine g_seq ?_
  refine g_region ?_
  refine r_cons (s_move (.pointer (some ⟨z, 0, none⟩)) rfl rfl ?_)
  refine r_cons (s_call [.pointer (some ⟨z, 0, none⟩)] pl_96 rfl rfl (MN_none_zero z  (i := 0) rfl H0) ?_)
  rintro _ w1 ⟨rfl, H2⟩
  refine r_nil ?_
  refine g_true rfl ?_
  refine g_seq ?_
  refine g_region ?_
  refine r_cons (s_assign (.int .i64 0) rfl rfl ?_)
  refine r_nil ?_
  refine g_ret' [.int .i64 0] Try.func49 Try.results49 ⟨rfl, trivial⟩ ?_
  have H3 : St W w1 (blk z (.cells #[.bool false, .int .i64 0, .map none, .map none, .int .i64 0] 90 (0, 0)) :: (F.set i emp)) := H2
  exact ⟨rfl, St.back_same hi H3⟩
set_option maxHeartbeats 4000000 in
set_option maxRecDepth 100000 in
theorem MN_Clone_nil {W w : World} {F : List Atom}  (H : St W w F) : Calls Try.prog 50 #[.pointer none] w (Ret fun v w' => v = .pointer none ∧ St W w' F) := by
  refine calls_of_go (n := 25) Try.func50 rfl Try.ntmps50 rfl ?_
  refine g_seq ?_
  refine g_region ?_
  refine r_cons (s_assign (.pointer none) rfl rfl ?_)
  refine r_nil ?_
  refine g_seq ?_
  refine g_seq ?_
  refine g_region ?_
  refine r_cons (s_move (.pointer none) rfl rfl ?_)
  refine r_cons (s_call [.pointer none] pl_96 rfl rfl (MN_none_nil  H) ?_)
  rintro _ w1 ⟨rfl, H2⟩
  refine r_nil ?_
  refine g_true rfl ?_
  refine g_seq ?_
  refine g_region ?_
  refine r_cons (s_assign (.pointer none) rfl rfl ?_)
  refine r_nil ?_
  refine g_ret' [.pointer none] Try.func50 Try.results50 ⟨rfl, trivial⟩ ?_
  have H3 : St W w1 F := H2
  exact ⟨rfl, H3⟩
set_option maxHeartbeats 4000000 in
set_option maxRecDepth 100000 in
theorem MN_Clone_zero {W w : World} {F : List Atom} (z : Nat)  {i : Nat} (hi : F[i]? = some (blk z (.cells #[.bool false, .int .i64 0, .map none, .map none, .int .i64 0] 90 (0, 0)))) (H : St W w F) : Calls Try.prog 50 #[.pointer (some ⟨z, 0, none⟩)] w (Ret fun v w' => v = .pointer none ∧ St W w' F) := by
  have H0 := H.front hi
  refine calls_of_go (n := 25) Try.func50 rfl Try.ntmps50 rfl ?_
  refine g_seq ?_
  refine g_region ?_
  refine r_cons (s_assign (.pointer none) rfl rfl ?_)
  refine r_nil ?_
  refine g_seq ?_
  refine g_seq ?_
  refine g_region ?_
  refine r_cons (s_move (.pointer (some ⟨z, 0, none⟩)) rfl rfl ?_)
  refine r_cons (s_call [.pointer (some ⟨z, 0, none⟩)] pl_96 rfl rfl (MN_none_zero z  (i := 0) rfl H0) ?_)
  rintro _ w1 ⟨rfl, H2⟩
  refine r_nil ?_
  refine g_true rfl ?_
  refine g_seq ?_
  refine g_region ?_
  refine r_cons (s_assign (.pointer none) rfl rfl ?_)
  refine r_nil ?_
  refine g_ret' [.pointer none] Try.func50 Try.results50 ⟨rfl, trivial⟩ ?_
  have H3 : St W w1 (blk z (.cells #[.bool false, .int .i64 0, .map none, .map none, .int .i64 0] 90 (0, 0)) :: (F.set i emp)) := H2
  exact ⟨rfl, St.back_same hi H3⟩
set_option maxHeartbeats 4000000 in
set_option maxRecDepth 100000 in
theorem LN_open_nil {W w : World} {F : List Atom}  (H : St W w F) : Calls Try.prog 71 #[.pointer none] w (Ret fun v w' => v = .int .i64 2 ∧ St W w' F) := by
  refine calls_of_go (n := 18) Try.func71 rfl Try.ntmps71 rfl ?_
  refine g_seq ?_
  refine g_region ?_
  refine r_cons (s_assign (.int .i64 0) rfl rfl ?_)
  refine r_nil ?_
  refine g_seq ?_
  refine g_block ?_
  refine g_seq ?_
  refine g_region ?_
  refine r_cons (s_move (.pointer none) rfl rfl ?_)
  refine r_cons (s_peql true un_44 rfl rfl rfl rfl ?_)
  refine r_cons (s_move (.bool true) rfl rfl ?_)
  refine r_cons (r_pass rfl rfl rfl rfl rfl ?_)
  refine r_cons (r_pass rfl rfl rfl rfl rfl ?_)
  refine r_cons (r_pass rfl rfl rfl rfl rfl ?_)
  refine r_cons (r_pass rfl rfl rfl rfl rfl ?_)
  refine r_cons (r_pass rfl rfl rfl rfl rfl ?_)
  refine r_cons (s_pick_t (.bool true) rfl rfl rfl ?_)
  refine r_cons (s_assign (.bool true) rfl rfl ?_)
  refine r_nil ?_
  refine g_true rfl ?_
  refine g_seq ?_
  refine g_region ?_
  refine r_cons (s_assign (.int .i64 2) rfl rfl ?_)
  refine r_nil ?_
  refine g_ret' [.int .i64 2] Try.func71 Try.results71 ⟨rfl, trivial⟩ ?_
  have H1 : St W w F := H
  exact ⟨rfl, H1⟩
set_option maxHeartbeats 4000000 in
set_option maxRecDepth 100000 in
theorem LN_open_zero {W w : World} {F : List Atom} (z : Nat)  {i : Nat} (hi : F[i]? = some (blk z (.cells #[.bool false, .bool false, .int .i64 0, .int .i64 0, .map none, .slice none 0 0] 98 (0, 0)))) (H : St W w F) : Calls Try.prog 71 #[.pointer (some ⟨z, 0, none⟩)] w (Ret fun v w' => v = .int .i64 2 ∧ St W w' F) := by
  have H0 := H.front hi
  refine calls_of_go (n := 18) Try.func71 rfl Try.ntmps71 rfl ?_
  refine g_seq ?_
  refine g_region ?_
  refine r_cons (s_assign (.int .i64 0) rfl rfl ?_)
  refine r_nil ?_
  refine g_seq ?_
  refine g_block ?_
  refine g_seq ?_
  refine g_region ?_
  refine r_cons (s_move (.pointer (some ⟨z, 0, none⟩)) rfl rfl ?_)
  refine r_cons (s_peql false un_44 rfl rfl rfl rfl ?_)
  refine r_cons (s_move (.bool false) rfl rfl ?_)
  refine r_cons (r_take rfl rfl ?_)
  refine s_move (.pointer (some ⟨z, 0, none⟩)) rfl rfl ?_
  refine r_cons (r_take rfl rfl ?_)
  refine s_nilCheck (.pointer (some ⟨z, 0, none⟩)) rfl ⟨_, rfl⟩ rfl ?_
  refine r_cons (r_take rfl rfl ?_)
  refine s_fieldAddr 98 0 0 0 4 rfl fi_98_0 rfl rfl ?_
  refine r_cons (r_take rfl rfl ?_)
  refine s_load (.bool false) ag_4 rfl (H0.blk_at (i := 0) rfl) rfl rfl ?_
  refine r_cons (r_take rfl rfl ?_)
  refine s_not false rfl true rfl rfl ?_
  refine r_cons (s_pick_f (.bool true) rfl rfl rfl ?_)
  refine r_cons (s_assign (.bool true) rfl rfl ?_)
  refine r_nil ?_
  refine g_true rfl ?_
  refine g_seq ?_
  refine g_region ?_
  refine r_cons (s_assign (.int .i64 2) rfl rfl ?_)
  refine r_nil ?_
  refine g_ret' [.int .i64 2] Try.func71 Try.results71 ⟨rfl, trivial⟩ ?_
  have H1 : St W w (blk z (.cells #[.bool false, .bool false, .int .i64 0, .int .i64 0, .map none, .slice none 0 0] 98 (0, 0)) :: (F.set i emp)) := H0
  exact ⟨rfl, St.back_same hi H1⟩
set_option maxHeartbeats 4000000 in
set_option maxRecDepth 100000 in
theorem LN_Piece_nil {W w : World} {F : List Atom} (o m i0 : Int) (sp : Option Addr) (sn sc : Nat) (H : St W w F) : Calls Try.prog 22 #[.pointer none, .agg #[.int .i64 o, .int .i64 m, .int .i64 i0, .slice sp sn sc]] w (Ret fun v w' => v = .tuple #[.bool false, .int .i64 2] ∧ St W w' F) := by
  refine calls_of_go (n := 73) Try.func22 rfl Try.ntmps22 rfl ?_
  refine g_seq ?_
  refine g_region ?_
  refine r_cons (s_box H 51 (.agg #[.int .i64 o, .int .i64 m, .int .i64 i0, .slice sp sn sc]) rfl (cs := #[.int .i64 o, .int .i64 m, .int .i64 i0, .slice sp sn sc]) rfl rfl ?_); intro bk1 w2 H3
  refine r_cons (s_assign (.bool false) rfl rfl ?_)
  refine r_cons (s_assign (.int .i64 0) rfl rfl ?_)
  refine r_nil ?_
  refine g_seq ?_
  refine g_seq ?_
  refine g_region ?_
  refine r_cons (s_move (.pointer none) rfl rfl ?_)
  refine r_cons (s_call [.pointer none] pl_71 rfl rfl (LN_open_nil  H3) ?_)
  rintro _ w4 ⟨rfl, H5⟩
  refine r_cons (s_assign (.int .i64 2) rfl rfl ?_)
  refine r_nil ?_
  refine g_seq ?_
  refine g_region ?_
  refine r_cons (s_move (.int .i64 2) rfl rfl ?_)
  refine r_cons (s_neq true rfl rfl (nfalse (by decide)) rfl ?_)
  refine r_nil ?_
  refine g_true rfl ?_
  refine g_seq ?_
  refine g_region ?_
  refine r_cons (s_move (.int .i64 2) rfl rfl ?_)
  refine r_cons (s_assign (.bool false) rfl rfl ?_)
  refine r_cons (s_assign (.int .i64 2) rfl rfl ?_)
  refine r_nil ?_
  refine g_ret' [.bool false, .int .i64 2] Try.func22 Try.results22 ⟨rfl, rfl, trivial⟩ ?_
  have H6 : St W w4 F := (H5.drop 0 rfl)
  exact ⟨rfl, H6⟩
set_option maxHeartbeats 4000000 in
set_option maxRecDepth 100000 in
theorem LN_Piece_zero {W w : World} {F : List Atom} (z : Nat) (o m i0 : Int) (sp : Option Addr) (sn sc : Nat) {i : Nat} (hi : F[i]? = some (blk z (.cells #[.bool false, .bool false, .int .i64 0, .int .i64 0, .map none, .slice none 0 0] 98 (0, 0)))) (H : St W w F) : Calls Try.prog 22 #[.pointer (some ⟨z, 0, none⟩), .agg #[.int .i64 o, .int .i64 m, .int .i64 i0, .slice sp sn sc]] w (Ret fun v w' => v = .tuple #[.bool false, .int .i64 2] ∧ St W w' F) := by
  have H0 := H.front hi
  refine calls_of_go (n := 73) Try.func22 rfl Try.ntmps22 rfl ?_
  refine g_seq ?_
  refine g_region ?_
  refine r_cons (s_box H0 51 (.agg #[.int .i64 o, .int .i64 m, .int .i64 i0, .slice sp sn sc]) rfl (cs := #[.int .i64 o, .int .i64 m, .int .i64 i0, .slice sp sn sc]) rfl rfl ?_); intro bk1 w2 H3
  refine r_cons (s_assign (.bool false) rfl rfl ?_)
  refine r_cons (s_assign (.int .i64 0) rfl rfl ?_)
  refine r_nil ?_
  refine g_seq ?_
  refine g_seq ?_
  refine g_region ?_
  refine r_cons (s_move (.pointer (some ⟨z, 0, none⟩)) rfl rfl ?_)
  refine r_cons (s_call [.pointer (some ⟨z, 0, none⟩)] pl_71 rfl rfl (LN_open_zero z  (i := 1) rfl H3) ?_)
  rintro _ w4 ⟨rfl, H5⟩
  refine r_cons (s_assign (.int .i64 2) rfl rfl ?_)
  refine r_nil ?_
  refine g_seq ?_
  refine g_region ?_
  refine r_cons (s_move (.int .i64 2) rfl rfl ?_)
  refine r_cons (s_neq true rfl rfl (nfalse (by decide)) rfl ?_)
  refine r_nil ?_
  refine g_true rfl ?_
  refine g_seq ?_
  refine g_region ?_
  refine r_cons (s_move (.int .i64 2) rfl rfl ?_)
  refine r_cons (s_assign (.bool false) rfl rfl ?_)
  refine r_cons (s_assign (.int .i64 2) rfl rfl ?_)
  refine r_nil ?_
  refine g_ret' [.bool false, .int .i64 2] Try.func22 Try.results22 ⟨rfl, rfl, trivial⟩ ?_
  have H6 : St W w4 (blk z (.cells #[.bool false, .bool false, .int .i64 0, .int .i64 0, .map none, .slice none 0 0] 98 (0, 0)) :: (F.set i emp)) := ((H5.move 1 rfl).drop 1 rfl)
  exact ⟨rfl, St.back_same hi H6⟩
set_option maxHeartbeats 4000000 in
set_option maxRecDepth 100000 in
theorem LN_Take_nil {W w : World} {F : List Atom}  (H : St W w F) : Calls Try.prog 25 #[.pointer none] w (Ret fun v w' => v = .tuple #[.slice none 0 0, .slice none 0 0, .int .i64 2] ∧ St W w' F) := by
  refine calls_of_go (n := 40) Try.func25 rfl Try.ntmps25 rfl ?_
  refine g_seq ?_
  refine g_region ?_
  refine r_cons (s_assign (.slice none 0 0) rfl rfl ?_)
  refine r_cons (s_assign (.slice none 0 0) rfl rfl ?_)
  refine r_cons (s_assign (.int .i64 0) rfl rfl ?_)
  refine r_nil ?_
  refine g_seq ?_
  refine g_seq ?_
  refine g_region ?_
  refine r_cons (s_move (.pointer none) rfl rfl ?_)
  refine r_cons (s_call [.pointer none] pl_71 rfl rfl (LN_open_nil  H) ?_)
  rintro _ w1 ⟨rfl, H2⟩
  refine r_cons (s_assign (.int .i64 2) rfl rfl ?_)
  refine r_nil ?_
  refine g_seq ?_
  refine g_region ?_
  refine r_cons (s_move (.int .i64 2) rfl rfl ?_)
  refine r_cons (s_neq true rfl rfl (nfalse (by decide)) rfl ?_)
  refine r_nil ?_
  refine g_true rfl ?_
  refine g_seq ?_
  refine g_region ?_
  refine r_cons (s_move (.int .i64 2) rfl rfl ?_)
  refine r_cons (s_assign (.slice none 0 0) rfl rfl ?_)
  refine r_cons (s_assign (.slice none 0 0) rfl rfl ?_)
  refine r_cons (s_assign (.int .i64 2) rfl rfl ?_)
  refine r_nil ?_
  refine g_ret' [.slice none 0 0, .slice none 0 0, .int .i64 2] Try.func25 Try.results25 ⟨rfl, rfl, rfl, trivial⟩ ?_
  have H3 : St W w1 F := H2
  exact ⟨rfl, H3⟩
set_option maxHeartbeats 4000000 in
set_option maxRecDepth 100000 in
theorem LN_Take_zero {W w : World} {F : List Atom} (z : Nat)  {i : Nat} (hi : F[i]? = some (blk z (.cells #[.bool false, .bool false, .int .i64 0, .int .i64 0, .map none, .slice none 0 0] 98 (0, 0)))) (H : St W w F) : Calls Try.prog 25 #[.pointer (some ⟨z, 0, none⟩)] w (Ret fun v w' => v = .tuple #[.slice none 0 0, .slice none 0 0, .int .i64 2] ∧ St W w' F) := by
  have H0 := H.front hi
  refine calls_of_go (n := 40) Try.func25 rfl Try.ntmps25 rfl ?_
  refine g_seq ?_
  refine g_region ?_
  refine r_cons (s_assign (.slice none 0 0) rfl rfl ?_)
  refine r_cons (s_assign (.slice none 0 0) rfl rfl ?_)
  refine r_cons (s_assign (.int .i64 0) rfl rfl ?_)
  refine r_nil ?_
  refine g_seq ?_
  refine g_seq ?_
  refine g_region ?_
  refine r_cons (s_move (.pointer (some ⟨z, 0, none⟩)) rfl rfl ?_)
  refine r_cons (s_call [.pointer (some ⟨z, 0, none⟩)] pl_71 rfl rfl (LN_open_zero z  (i := 0) rfl H0) ?_)
  rintro _ w1 ⟨rfl, H2⟩
  refine r_cons (s_assign (.int .i64 2) rfl rfl ?_)
  refine r_nil ?_
  refine g_seq ?_
  refine g_region ?_
  refine r_cons (s_move (.int .i64 2) rfl rfl ?_)
  refine r_cons (s_neq true rfl rfl (nfalse (by decide)) rfl ?_)
  refine r_nil ?_
  refine g_true rfl ?_
  refine g_seq ?_
  refine g_region ?_
  refine r_cons (s_move (.int .i64 2) rfl rfl ?_)
  refine r_cons (s_assign (.slice none 0 0) rfl rfl ?_)
  refine r_cons (s_assign (.slice none 0 0) rfl rfl ?_)
  refine r_cons (s_assign (.int .i64 2) rfl rfl ?_)
  refine r_nil ?_
  refine g_ret' [.slice none 0 0, .slice none 0 0, .int .i64 2] Try.func25 Try.results25 ⟨rfl, rfl, rfl, trivial⟩ ?_
  have H3 : St W w1 (blk z (.cells #[.bool false, .bool false, .int .i64 0, .int .i64 0, .map none, .slice none 0 0] 98 (0, 0)) :: (F.set i emp)) := H2
  exact ⟨rfl, St.back_same hi H3⟩
set_option maxHeartbeats 4000000 in
set_option maxRecDepth 100000 in
theorem LN_Arrive_nil {W w : World} {F : List Atom} (o n e k t : Int) (sp : Option Addr) (sn sc : Nat) (H : St W w F) : Calls Try.prog 21 #[.pointer none, .agg #[.int .i64 o, .int .i64 n, .int .i64 e, .int .i64 k, .slice sp sn sc, .int .i64 t]] w (Ret fun v w' => v = .int .i64 2 ∧ St W w' F) := by
  refine calls_of_go (n := 41) Try.func21 rfl Try.ntmps21 rfl ?_
  refine g_seq ?_
  refine g_region ?_
  refine r_cons (s_box H 32 (.agg #[.int .i64 o, .int .i64 n, .int .i64 e, .int .i64 k, .slice sp sn sc, .int .i64 t]) rfl (cs := #[.int .i64 o, .int .i64 n, .int .i64 e, .int .i64 k, .slice sp sn sc, .int .i64 t]) rfl rfl ?_); intro bk1 w2 H3
  refine r_cons (s_assign (.int .i64 0) rfl rfl ?_)
  refine r_nil ?_
  refine g_seq ?_
  refine g_seq ?_
  refine g_region ?_
  refine r_cons (s_move (.pointer none) rfl rfl ?_)
  refine r_cons (s_call [.pointer none] pl_71 rfl rfl (LN_open_nil  H3) ?_)
  rintro _ w4 ⟨rfl, H5⟩
  refine r_cons (s_assign (.int .i64 2) rfl rfl ?_)
  refine r_nil ?_
  refine g_seq ?_
  refine g_region ?_
  refine r_cons (s_move (.int .i64 2) rfl rfl ?_)
  refine r_cons (s_neq true rfl rfl (nfalse (by decide)) rfl ?_)
  refine r_nil ?_
  refine g_true rfl ?_
  refine g_seq ?_
  refine g_region ?_
  refine r_cons (s_move (.int .i64 2) rfl rfl ?_)
  refine r_cons (s_assign (.int .i64 2) rfl rfl ?_)
  refine r_nil ?_
  refine g_ret' [.int .i64 2] Try.func21 Try.results21 ⟨rfl, trivial⟩ ?_
  have H6 : St W w4 F := (H5.drop 0 rfl)
  exact ⟨rfl, H6⟩
set_option maxHeartbeats 4000000 in
set_option maxRecDepth 100000 in
theorem LN_Arrive_zero {W w : World} {F : List Atom} (z : Nat) (o n e k t : Int) (sp : Option Addr) (sn sc : Nat) {i : Nat} (hi : F[i]? = some (blk z (.cells #[.bool false, .bool false, .int .i64 0, .int .i64 0, .map none, .slice none 0 0] 98 (0, 0)))) (H : St W w F) : Calls Try.prog 21 #[.pointer (some ⟨z, 0, none⟩), .agg #[.int .i64 o, .int .i64 n, .int .i64 e, .int .i64 k, .slice sp sn sc, .int .i64 t]] w (Ret fun v w' => v = .int .i64 2 ∧ St W w' F) := by
  have H0 := H.front hi
  refine calls_of_go (n := 41) Try.func21 rfl Try.ntmps21 rfl ?_
  refine g_seq ?_
  refine g_region ?_
  refine r_cons (s_box H0 32 (.agg #[.int .i64 o, .int .i64 n, .int .i64 e, .int .i64 k, .slice sp sn sc, .int .i64 t]) rfl (cs := #[.int .i64 o, .int .i64 n, .int .i64 e, .int .i64 k, .slice sp sn sc, .int .i64 t]) rfl rfl ?_); intro bk1 w2 H3
  refine r_cons (s_assign (.int .i64 0) rfl rfl ?_)
  refine r_nil ?_
  refine g_seq ?_
  refine g_seq ?_
  refine g_region ?_
  refine r_cons (s_move (.pointer (some ⟨z, 0, none⟩)) rfl rfl ?_)
  refine r_cons (s_call [.pointer (some ⟨z, 0, none⟩)] pl_71 rfl rfl (LN_open_zero z  (i := 1) rfl H3) ?_)
  rintro _ w4 ⟨rfl, H5⟩
  refine r_cons (s_assign (.int .i64 2) rfl rfl ?_)
  refine r_nil ?_
  refine g_seq ?_
  refine g_region ?_
  refine r_cons (s_move (.int .i64 2) rfl rfl ?_)
  refine r_cons (s_neq true rfl rfl (nfalse (by decide)) rfl ?_)
  refine r_nil ?_
  refine g_true rfl ?_
  refine g_seq ?_
  refine g_region ?_
  refine r_cons (s_move (.int .i64 2) rfl rfl ?_)
  refine r_cons (s_assign (.int .i64 2) rfl rfl ?_)
  refine r_nil ?_
  refine g_ret' [.int .i64 2] Try.func21 Try.results21 ⟨rfl, trivial⟩ ?_
  have H6 : St W w4 (blk z (.cells #[.bool false, .bool false, .int .i64 0, .int .i64 0, .map none, .slice none 0 0] 98 (0, 0)) :: (F.set i emp)) := ((H5.move 1 rfl).drop 1 rfl)
  exact ⟨rfl, St.back_same hi H6⟩
set_option maxHeartbeats 4000000 in
set_option maxRecDepth 100000 in
theorem LN_Waiting_nil {W w : World} {F : List Atom}  (H : St W w F) : Calls Try.prog 28 #[.pointer none] w (Ret fun v w' => v = .int .i64 0 ∧ St W w' F) := by
  refine calls_of_go (n := 11) Try.func28 rfl Try.ntmps28 rfl ?_
  refine g_seq ?_
  refine g_region ?_
  refine r_cons (s_assign (.int .i64 0) rfl rfl ?_)
  refine r_nil ?_
  refine g_seq ?_
  refine g_seq ?_
  refine g_region ?_
  refine r_cons (s_move (.pointer none) rfl rfl ?_)
  refine r_cons (s_call [.pointer none] pl_71 rfl rfl (LN_open_nil  H) ?_)
  rintro _ w1 ⟨rfl, H2⟩
  refine r_cons (s_neq true rfl rfl (nfalse (by decide)) rfl ?_)
  refine r_nil ?_
  refine g_true rfl ?_
  refine g_seq ?_
  refine g_region ?_
  refine r_cons (s_assign (.int .i64 0) rfl rfl ?_)
  refine r_nil ?_
  refine g_ret' [.int .i64 0] Try.func28 Try.results28 ⟨rfl, trivial⟩ ?_
  have H3 : St W w1 F := H2
  exact ⟨rfl, H3⟩
set_option maxHeartbeats 4000000 in
set_option maxRecDepth 100000 in
theorem LN_Waiting_zero {W w : World} {F : List Atom} (z : Nat)  {i : Nat} (hi : F[i]? = some (blk z (.cells #[.bool false, .bool false, .int .i64 0, .int .i64 0, .map none, .slice none 0 0] 98 (0, 0)))) (H : St W w F) : Calls Try.prog 28 #[.pointer (some ⟨z, 0, none⟩)] w (Ret fun v w' => v = .int .i64 0 ∧ St W w' F) := by
  have H0 := H.front hi
  refine calls_of_go (n := 11) Try.func28 rfl Try.ntmps28 rfl ?_
  refine g_seq ?_
  refine g_region ?_
  refine r_cons (s_assign (.int .i64 0) rfl rfl ?_)
  refine r_nil ?_
  refine g_seq ?_
  refine g_seq ?_
  refine g_region ?_
  refine r_cons (s_move (.pointer (some ⟨z, 0, none⟩)) rfl rfl ?_)
  refine r_cons (s_call [.pointer (some ⟨z, 0, none⟩)] pl_71 rfl rfl (LN_open_zero z  (i := 0) rfl H0) ?_)
  rintro _ w1 ⟨rfl, H2⟩
  refine r_cons (s_neq true rfl rfl (nfalse (by decide)) rfl ?_)
  refine r_nil ?_
  refine g_true rfl ?_
  refine g_seq ?_
  refine g_region ?_
  refine r_cons (s_assign (.int .i64 0) rfl rfl ?_)
  refine r_nil ?_
  refine g_ret' [.int .i64 0] Try.func28 Try.results28 ⟨rfl, trivial⟩ ?_
  have H3 : St W w1 (blk z (.cells #[.bool false, .bool false, .int .i64 0, .int .i64 0, .map none, .slice none 0 0] 98 (0, 0)) :: (F.set i emp)) := H2
  exact ⟨rfl, St.back_same hi H3⟩
set_option maxHeartbeats 4000000 in
set_option maxRecDepth 100000 in
theorem LN_Clone_nil {W w : World} {F : List Atom}  (H : St W w F) : Calls Try.prog 20 #[.pointer none] w (Ret fun v w' => v = .pointer none ∧ St W w' F) := by
  refine calls_of_go (n := 28) Try.func20 rfl Try.ntmps20 rfl ?_
  refine g_seq ?_
  refine g_region ?_
  refine r_cons (s_assign (.pointer none) rfl rfl ?_)
  refine r_nil ?_
  refine g_seq ?_
  refine g_seq ?_
  refine g_region ?_
  refine r_cons (s_move (.pointer none) rfl rfl ?_)
  refine r_cons (s_peql true un_44 rfl rfl rfl rfl ?_)
  refine r_cons (s_move (.bool true) rfl rfl ?_)
  refine r_cons (r_pass rfl rfl rfl rfl rfl ?_)
  refine r_cons (r_pass rfl rfl rfl rfl rfl ?_)
  refine r_cons (r_pass rfl rfl rfl rfl rfl ?_)
  refine r_cons (r_pass rfl rfl rfl rfl rfl ?_)
  refine r_cons (r_pass rfl rfl rfl rfl rfl ?_)
  refine r_cons (s_pick_t (.bool true) rfl rfl rfl ?_)
  refine r_nil ?_
  refine g_true rfl ?_
  refine g_seq ?_
  refine g_region ?_
  refine r_cons (s_assign (.pointer none) rfl rfl ?_)
  refine r_nil ?_
  refine g_ret' [.pointer none] Try.func20 Try.results20 ⟨rfl, trivial⟩ ?_
  have H1 : St W w F := H
  exact ⟨rfl, H1⟩
set_option maxHeartbeats 4000000 in
set_option maxRecDepth 100000 in
theorem LN_Clone_zero {W w : World} {F : List Atom} (z : Nat)  {i : Nat} (hi : F[i]? = some (blk z (.cells #[.bool false, .bool false, .int .i64 0, .int .i64 0, .map none, .slice none 0 0] 98 (0, 0)))) (H : St W w F) : Calls Try.prog 20 #[.pointer (some ⟨z, 0, none⟩)] w (Ret fun v w' => v = .pointer none ∧ St W w' F) := by
  have H0 := H.front hi
  refine calls_of_go (n := 28) Try.func20 rfl Try.ntmps20 rfl ?_
  refine g_seq ?_
  refine g_region ?_
  refine r_cons (s_assign (.pointer none) rfl rfl ?_)
  refine r_nil ?_
  refine g_seq ?_
  refine g_seq ?_
  refine g_region ?_
  refine r_cons (s_move (.pointer (some ⟨z, 0, none⟩)) rfl rfl ?_)
  refine r_cons (s_peql false un_44 rfl rfl rfl rfl ?_)
  refine r_cons (s_move (.bool false) rfl rfl ?_)
  refine r_cons (r_take rfl rfl ?_)
  refine s_move (.pointer (some ⟨z, 0, none⟩)) rfl rfl ?_
  refine r_cons (r_take rfl rfl ?_)
  refine s_nilCheck (.pointer (some ⟨z, 0, none⟩)) rfl ⟨_, rfl⟩ rfl ?_
  refine r_cons (r_take rfl rfl ?_)
  refine s_fieldAddr 98 0 0 0 4 rfl fi_98_0 rfl rfl ?_
  refine r_cons (r_take rfl rfl ?_)
  refine s_load (.bool false) ag_4 rfl (H0.blk_at (i := 0) rfl) rfl rfl ?_
  refine r_cons (r_take rfl rfl ?_)
  refine s_not false rfl true rfl rfl ?_
  refine r_cons (s_pick_f (.bool true) rfl rfl rfl ?_)
  refine r_nil ?_
  refine g_true rfl ?_
  refine g_seq ?_
  refine g_region ?_
  refine r_cons (s_assign (.pointer none) rfl rfl ?_)
  refine r_nil ?_
  refine g_ret' [.pointer none] Try.func20 Try.results20 ⟨rfl, trivial⟩ ?_
  have H1 : St W w (blk z (.cells #[.bool false, .bool false, .int .i64 0, .int .i64 0, .map none, .slice none 0 0] 98 (0, 0)) :: (F.set i emp)) := H0
  exact ⟨rfl, St.back_same hi H1⟩
set_option maxHeartbeats 4000000 in
set_option maxRecDepth 100000 in
theorem MigrateNone_ {W w : World} {F : List Atom} (o n e k t : Int) (sp : Option Addr) (sn sc : Nat) (o2 m i0 : Int) (dp : Option Addr) (dn dc : Nat) (q : Int) (H : St W w F) : Calls Try.prog 7 #[.agg #[.int .i64 o, .int .i64 n, .int .i64 e, .int .i64 k, .slice sp sn sc, .int .i64 t], .agg #[.int .i64 o2, .int .i64 m, .int .i64 i0, .slice dp dn dc], .int .i64 q] w (Ret fun v w' => v = .bool true ∧ St W w' F) := by
  refine calls_of_go (n := 186) Try.func7 rfl Try.ntmps7 rfl ?_
  refine g_seq ?_
  refine g_region ?_
  refine r_cons (s_box H 32 (.agg #[.int .i64 o, .int .i64 n, .int .i64 e, .int .i64 k, .slice sp sn sc, .int .i64 t]) rfl (cs := #[.int .i64 o, .int .i64 n, .int .i64 e, .int .i64 k, .slice sp sn sc, .int .i64 t]) rfl rfl ?_); intro bk1 w2 H3
  refine r_cons (s_box H3 51 (.agg #[.int .i64 o2, .int .i64 m, .int .i64 i0, .slice dp dn dc]) rfl (cs := #[.int .i64 o2, .int .i64 m, .int .i64 i0, .slice dp dn dc]) rfl rfl ?_); intro bk4 w5 H6
  refine r_cons (s_assign (.bool false) rfl rfl ?_)
  refine r_nil ?_
  refine g_seq ?_
  refine g_seq ?_
  refine g_region ?_
  refine r_cons (s_call [] pl_10 rfl rfl (begun_ H6) ?_)
  rintro _ w7 ⟨rfl, H8⟩
  refine r_cons (s_not true rfl false rfl rfl ?_)
  refine r_nil ?_
  refine g_false rfl ?_
  refine g_skip ?_
  refine g_seq ?_
  refine g_seq ?_
  refine g_region ?_
  refine r_cons (s_build (cs := #[.bool false, .int .i64 0, .slice none 0 0]) (by kernel_rfl) rfl ?_)
  refine r_cons (s_box H8 80 (.agg #[.bool false, .int .i64 0, .slice none 0 0]) rfl (cs := #[.bool false, .int .i64 0, .slice none 0 0]) rfl rfl ?_); intro bk9 w10 H11
  refine r_cons (s_buildSlice H11 1 2 (cs := #[.pointer none, .pointer (some ⟨bk9, 0, none⟩)]) #[.pointer none] el_81 ze_24 (by decide) (by decide) (by kernel_rfl) rfl ?_); intro bk12 w13 H14
  refine r_cons (s_len 2 rfl ⟨_, un_81⟩ rfl ?_)
  refine r_cons (s_move (.int .i64 0) rfl rfl ?_)
  refine r_nil ?_
  refine g_block ?_
  refine g_loop ?_
  refine g_seq ?_
  refine g_region ?_
  refine r_cons (s_lss true rfl rfl (dtrue (by decide)) rfl ?_)
  refine r_nil ?_
  refine g_seq ?_
  refine g_true rfl ?_
  refine g_skip ?_
  refine g_seq ?_
  refine g_block ?_
  refine g_seq ?_
  refine g_region ?_
  refine r_cons (s_indexAddr bk12 0 1 0 rfl rfl el_81 (by omega) rfl rfl ?_)
  refine r_cons (s_load (.pointer none) ag_24 rfl (H14.blk_at (i := 0) rfl) rfl rfl ?_)
  refine r_cons (s_assign (.pointer none) rfl rfl ?_)
  refine r_nil ?_
  refine g_seq ?_
  refine g_region ?_
  refine r_cons (s_move (.pointer none) rfl rfl ?_)
  refine r_cons (s_loadAgg [.int .i64 o, .int .i64 n, .int .i64 e, .int .i64 k, .slice sp sn sc, .int .i64 t] 6 ag_32 rfl (H14.blk_at (i := 3) rfl) (Nat.le_of_ble_eq_true rfl) rfl rfl ?_)
  refine r_cons (s_call [.pointer none, .agg #[.int .i64 o, .int .i64 n, .int .i64 e, .int .i64 k, .slice sp sn sc, .int .i64 t]] pl_14 rfl rfl (GN_Take_nil o n e k t sp sn sc H14) ?_)
  rintro _ w15 ⟨rfl, H16⟩
  refine r_cons (s_move (.tuple #[.slice none 0 0, .int .i64 2]) rfl rfl ?_)
  refine r_cons (s_extract (.slice none 0 0) #[.slice none 0 0, .int .i64 2] rfl rfl rfl ?_)
  refine r_cons (s_extract (.int .i64 2) #[.slice none 0 0, .int .i64 2] rfl rfl rfl ?_)
  refine r_cons (s_assign (.slice none 0 0) rfl rfl ?_)
  refine r_cons (s_assign (.int .i64 2) rfl rfl ?_)
  refine r_nil ?_
  refine g_seq ?_
  refine g_region ?_
  refine r_cons (s_move (.pointer none) rfl rfl ?_)
  refine r_cons (s_call [.pointer none] pl_42 rfl rfl (GN_Bytes_nil  H16) ?_)
  rintro _ w17 ⟨rfl, H18⟩
  refine r_cons (s_move (.tuple #[.slice none 0 0, .int .i64 2]) rfl rfl ?_)
  refine r_cons (s_extract (.slice none 0 0) #[.slice none 0 0, .int .i64 2] rfl rfl rfl ?_)
  refine r_cons (s_extract (.int .i64 2) #[.slice none 0 0, .int .i64 2] rfl rfl rfl ?_)
  refine r_cons (s_assign (.slice none 0 0) rfl rfl ?_)
  refine r_cons (s_assign (.int .i64 2) rfl rfl ?_)
  refine r_nil ?_
  refine g_seq ?_
  refine g_region ?_
  refine r_cons (s_move (.slice none 0 0) rfl rfl ?_)
  refine r_cons (s_len 0 rfl ⟨_, un_22⟩ rfl ?_)
  refine r_cons (s_move (.slice none 0 0) rfl rfl ?_)
  refine r_cons (s_len 0 rfl ⟨_, un_23⟩ rfl ?_)
  refine r_cons (s_add 0 rfl rfl (wi64 (by omega)) rfl ?_)
  refine r_cons (s_neq false rfl rfl (ntrue (by decide)) rfl ?_)
  refine r_cons (s_move (.bool false) rfl rfl ?_)
  refine r_cons (r_take rfl rfl ?_)
  refine s_move (.int .i64 2) rfl rfl ?_
  refine r_cons (r_take rfl rfl ?_)
  refine s_neq false rfl rfl (ntrue (by decide)) rfl ?_
  refine r_cons (s_pick_f (.bool false) rfl rfl rfl ?_)
  refine r_cons (s_move (.bool false) rfl rfl ?_)
  refine r_cons (r_take rfl rfl ?_)
  refine s_move (.int .i64 2) rfl rfl ?_
  refine r_cons (r_take rfl rfl ?_)
  refine s_neq false rfl rfl (ntrue (by decide)) rfl ?_
  refine r_cons (s_pick_f (.bool false) rfl rfl rfl ?_)
  refine r_cons (s_move (.bool false) rfl rfl ?_)
  refine r_cons (r_take rfl rfl ?_)
  refine s_move (.pointer none) rfl rfl ?_
  refine r_cons (r_take rfl rfl ?_)
  refine s_call [.pointer none] pl_16 rfl rfl (GN_Epoch_nil  H18) ?_
  rintro _ w19 ⟨rfl, H20⟩
  refine r_cons (r_take rfl rfl ?_)
  refine s_neq false rfl rfl (ntrue (by decide)) rfl ?_
  refine r_cons (s_pick_f (.bool false) rfl rfl rfl ?_)
  refine r_cons (s_move (.bool false) rfl rfl ?_)
  refine r_cons (r_take rfl rfl ?_)
  refine s_move (.pointer none) rfl rfl ?_
  refine r_cons (r_take rfl rfl ?_)
  refine s_call [.pointer none] pl_17 rfl rfl (GN_Waiting_nil  H20) ?_
  rintro _ w21 ⟨rfl, H22⟩
  refine r_cons (r_take rfl rfl ?_)
  refine s_neq false rfl rfl (ntrue (by decide)) rfl ?_
  refine r_cons (s_pick_f (.bool false) rfl rfl rfl ?_)
  refine r_cons (s_move (.bool false) rfl rfl ?_)
  refine r_cons (r_take rfl rfl ?_)
  refine s_move (.pointer none) rfl rfl ?_
  refine r_cons (r_take rfl rfl ?_)
  refine s_call [.pointer none] pl_44 rfl rfl (GN_All_nil  H22) ?_
  rintro _ w24 ⟨bk23, rfl, H25⟩
  refine r_cons (r_take rfl rfl ?_)
  refine s_call [.func (.func 95) #[] #[.pointer (some ⟨bk23, 0, none⟩)], .slice none 0 0] pl_43 rfl rfl (told_none bk23 (i := 0) rfl H25) ?_
  rintro _ w26 ⟨rfl, H27⟩
  refine r_cons (r_take rfl rfl ?_)
  refine s_not true rfl false rfl rfl ?_
  refine r_cons (s_pick_f (.bool false) rfl rfl rfl ?_)
  refine r_cons (s_move (.bool false) rfl rfl ?_)
  refine r_cons (r_take rfl rfl ?_)
  refine s_move (.pointer none) rfl rfl ?_
  refine r_cons (r_take rfl rfl ?_)
  refine s_call [.pointer none] pl_45 rfl rfl (GN_Clone_nil  H27) ?_
  rintro _ w28 ⟨rfl, H29⟩
  refine r_cons (r_take rfl rfl ?_)
  refine s_pneq false un_24 rfl rfl rfl rfl ?_
  refine r_cons (s_pick_f (.bool false) rfl rfl rfl ?_)
  refine r_nil ?_
  refine g_false rfl ?_
  refine g_skip ?_
  refine g_inBlock ?_
  refine g_region ?_
  refine r_cons (s_add 1 rfl rfl (wi64 (by omega)) rfl ?_)
  refine r_cons (s_move (.int .i64 1) rfl rfl ?_)
  refine r_nil ?_
  refine g_inLoop ?_
  refine g_seq ?_
  refine g_region ?_
  refine r_cons (s_lss true rfl rfl (dtrue (by decide)) rfl ?_)
  refine r_nil ?_
  refine g_seq ?_
  refine g_true rfl ?_
  refine g_skip ?_
  refine g_seq ?_
  refine g_block ?_
  refine g_seq ?_
  refine g_region ?_
  refine r_cons (s_indexAddr bk12 1 1 1 rfl rfl el_81 (by omega) rfl rfl ?_)
  refine r_cons (s_load (.pointer (some ⟨bk9, 0, none⟩)) ag_24 rfl (H29.blk_at (i := 1) rfl) rfl rfl ?_)
  refine r_cons (s_assign (.pointer (some ⟨bk9, 0, none⟩)) rfl rfl ?_)
  refine r_nil ?_
  refine g_seq ?_
  refine g_region ?_
  refine r_cons (s_move (.pointer (some ⟨bk9, 0, none⟩)) rfl rfl ?_)
  refine r_cons (s_loadAgg [.int .i64 o, .int .i64 n, .int .i64 e, .int .i64 k, .slice sp sn sc, .int .i64 t] 6 ag_32 rfl (H29.blk_at (i := 4) rfl) (Nat.le_of_ble_eq_true rfl) rfl rfl ?_)
  refine r_cons (s_call [.pointer (some ⟨bk9, 0, none⟩), .agg #[.int .i64 o, .int .i64 n, .int .i64 e, .int .i64 k, .slice sp sn sc, .int .i64 t]] pl_14 rfl rfl (GN_Take_zero bk9 o n e k t sp sn sc (i := 2) rfl H29) ?_)
  rintro _ w30 ⟨rfl, H31⟩
  refine r_cons (s_move (.tuple #[.slice none 0 0, .int .i64 2]) rfl rfl ?_)
  refine r_cons (s_extract (.slice none 0 0) #[.slice none 0 0, .int .i64 2] rfl rfl rfl ?_)
  refine r_cons (s_extract (.int .i64 2) #[.slice none 0 0, .int .i64 2] rfl rfl rfl ?_)
  refine r_cons (s_assign (.slice none 0 0) rfl rfl ?_)
  refine r_cons (s_assign (.int .i64 2) rfl rfl ?_)
  refine r_nil ?_
  refine g_seq ?_
  refine g_region ?_
  refine r_cons (s_move (.pointer (some ⟨bk9, 0, none⟩)) rfl rfl ?_)
  refine r_cons (s_call [.pointer (some ⟨bk9, 0, none⟩)] pl_42 rfl rfl (GN_Bytes_zero bk9  (i := 2) rfl H31) ?_)
  rintro _ w32 ⟨rfl, H33⟩
  refine r_cons (s_move (.tuple #[.slice none 0 0, .int .i64 2]) rfl rfl ?_)
  refine r_cons (s_extract (.slice none 0 0) #[.slice none 0 0, .int .i64 2] rfl rfl rfl ?_)
  refine r_cons (s_extract (.int .i64 2) #[.slice none 0 0, .int .i64 2] rfl rfl rfl ?_)
  refine r_cons (s_assign (.slice none 0 0) rfl rfl ?_)
  refine r_cons (s_assign (.int .i64 2) rfl rfl ?_)
  refine r_nil ?_
  refine g_seq ?_
  refine g_region ?_
  refine r_cons (s_move (.slice none 0 0) rfl rfl ?_)
  refine r_cons (s_len 0 rfl ⟨_, un_22⟩ rfl ?_)
  refine r_cons (s_move (.slice none 0 0) rfl rfl ?_)
  refine r_cons (s_len 0 rfl ⟨_, un_23⟩ rfl ?_)
  refine r_cons (s_add 0 rfl rfl (wi64 (by omega)) rfl ?_)
  refine r_cons (s_neq false rfl rfl (ntrue (by decide)) rfl ?_)
  refine r_cons (s_move (.bool false) rfl rfl ?_)
  refine r_cons (r_take rfl rfl ?_)
  refine s_move (.int .i64 2) rfl rfl ?_
  refine r_cons (r_take rfl rfl ?_)
  refine s_neq false rfl rfl (ntrue (by decide)) rfl ?_
  refine r_cons (s_pick_f (.bool false) rfl rfl rfl ?_)
  refine r_cons (s_move (.bool false) rfl rfl ?_)
  refine r_cons (r_take rfl rfl ?_)
  refine s_move (.int .i64 2) rfl rfl ?_
  refine r_cons (r_take rfl rfl ?_)
  refine s_neq false rfl rfl (ntrue (by decide)) rfl ?_
  refine r_cons (s_pick_f (.bool false) rfl rfl rfl ?_)
  refine r_cons (s_move (.bool false) rfl rfl ?_)
  refine r_cons (r_take rfl rfl ?_)
  refine s_move (.pointer (some ⟨bk9, 0, none⟩)) rfl rfl ?_
  refine r_cons (r_take rfl rfl ?_)
  refine s_call [.pointer (some ⟨bk9, 0, none⟩)] pl_16 rfl rfl (GN_Epoch_zero bk9  (i := 2) rfl H33) ?_
  rintro _ w34 ⟨rfl, H35⟩
  refine r_cons (r_take rfl rfl ?_)
  refine s_neq false rfl rfl (ntrue (by decide)) rfl ?_
  refine r_cons (s_pick_f (.bool false) rfl rfl rfl ?_)
  refine r_cons (s_move (.bool false) rfl rfl ?_)
  refine r_cons (r_take rfl rfl ?_)
  refine s_move (.pointer (some ⟨bk9, 0, none⟩)) rfl rfl ?_
  refine r_cons (r_take rfl rfl ?_)
  refine s_call [.pointer (some ⟨bk9, 0, none⟩)] pl_17 rfl rfl (GN_Waiting_zero bk9  (i := 2) rfl H35) ?_
  rintro _ w36 ⟨rfl, H37⟩
  refine r_cons (r_take rfl rfl ?_)
  refine s_neq false rfl rfl (ntrue (by decide)) rfl ?_
  refine r_cons (s_pick_f (.bool false) rfl rfl rfl ?_)
  refine r_cons (s_move (.bool false) rfl rfl ?_)
  refine r_cons (r_take rfl rfl ?_)
  refine s_move (.pointer (some ⟨bk9, 0, none⟩)) rfl rfl ?_
  refine r_cons (r_take rfl rfl ?_)
  refine s_call [.pointer (some ⟨bk9, 0, none⟩)] pl_44 rfl rfl (GN_All_zero bk9  (i := 2) rfl H37) ?_
  rintro _ w39 ⟨bk38, rfl, H40⟩
  refine r_cons (r_take rfl rfl ?_)
  refine s_call [.func (.func 95) #[] #[.pointer (some ⟨bk38, 0, none⟩)], .slice none 0 0] pl_43 rfl rfl (told_none bk38 (i := 0) rfl H40) ?_
  rintro _ w41 ⟨rfl, H42⟩
  refine r_cons (r_take rfl rfl ?_)
  refine s_not true rfl false rfl rfl ?_
  refine r_cons (s_pick_f (.bool false) rfl rfl rfl ?_)
  refine r_cons (s_move (.bool false) rfl rfl ?_)
  refine r_cons (r_take rfl rfl ?_)
  refine s_move (.pointer (some ⟨bk9, 0, none⟩)) rfl rfl ?_
  refine r_cons (r_take rfl rfl ?_)
  refine s_call [.pointer (some ⟨bk9, 0, none⟩)] pl_45 rfl rfl (GN_Clone_zero bk9  (i := 3) rfl H42) ?_
  rintro _ w43 ⟨rfl, H44⟩
  refine r_cons (r_take rfl rfl ?_)
  refine s_pneq false un_24 rfl rfl rfl rfl ?_
  refine r_cons (s_pick_f (.bool false) rfl rfl rfl ?_)
  refine r_nil ?_
  refine g_false rfl ?_
  refine g_skip ?_
  refine g_inBlock ?_
  refine g_region ?_
  refine r_cons (s_add 2 rfl rfl (wi64 (by omega)) rfl ?_)
  refine r_cons (s_move (.int .i64 2) rfl rfl ?_)
  refine r_nil ?_
  refine g_inLoop ?_
  refine g_seq ?_
  refine g_region ?_
  refine r_cons (s_lss false rfl rfl (dfalse (by decide)) rfl ?_)
  refine r_nil ?_
  refine g_seq ?_
  refine g_false rfl ?_
  refine g_exit (by rfl) ?_
  refine g_seq ?_
  refine g_seq ?_
  refine g_region ?_
  refine r_cons (s_build (cs := #[.bool false, .int .i64 0, .map none, .map none, .int .i64 0]) (by kernel_rfl) rfl ?_)
  refine r_cons (s_box H44 90 (.agg #[.bool false, .int .i64 0, .map none, .map none, .int .i64 0]) rfl (cs := #[.bool false, .int .i64 0, .map none, .map none, .int .i64 0]) rfl rfl ?_); intro bk45 w46 H47
  refine r_cons (s_buildSlice H47 1 2 (cs := #[.pointer none, .pointer (some ⟨bk45, 0, none⟩)]) #[.pointer none] el_91 ze_87 (by decide) (by decide) (by kernel_rfl) rfl ?_); intro bk48 w49 H50
  refine r_cons (s_len 2 rfl ⟨_, un_91⟩ rfl ?_)
  refine r_cons (s_move (.int .i64 0) rfl rfl ?_)
  refine r_nil ?_
  refine g_block ?_
  refine g_loop ?_
  refine g_seq ?_
  refine g_region ?_
  refine r_cons (s_lss true rfl rfl (dtrue (by decide)) rfl ?_)
  refine r_nil ?_
  refine g_seq ?_
  refine g_true rfl ?_
  refine g_skip ?_
  refine g_seq ?_
  refine g_block ?_
  refine g_seq ?_
  refine g_region ?_
  refine r_cons (s_indexAddr bk48 0 1 0 rfl rfl el_91 (by omega) rfl rfl ?_)
  refine r_cons (s_load (.pointer none) ag_87 rfl (H50.blk_at (i := 0) rfl) rfl rfl ?_)
  refine r_cons (s_assign (.pointer none) rfl rfl ?_)
  refine r_nil ?_
  refine g_seq ?_
  refine g_region ?_
  refine r_cons (s_move (.pointer none) rfl rfl ?_)
  refine r_cons (s_move (.int .i64 q) rfl rfl ?_)
  refine r_cons (s_call [.pointer none, .int .i64 q] pl_46 rfl rfl (MN_Marker_nil q H50) ?_)
  rintro _ w51 ⟨rfl, H52⟩
  refine r_cons (s_move (.tuple #[.bool false, .int .i64 2]) rfl rfl ?_)
  refine r_cons (s_extract (.bool false) #[.bool false, .int .i64 2] rfl rfl rfl ?_)
  refine r_cons (s_extract (.int .i64 2) #[.bool false, .int .i64 2] rfl rfl rfl ?_)
  refine r_cons (s_assign (.bool false) rfl rfl ?_)
  refine r_cons (s_assign (.int .i64 2) rfl rfl ?_)
  refine r_nil ?_
  refine g_seq ?_
  refine g_region ?_
  refine r_cons (s_move (.pointer none) rfl rfl ?_)
  refine r_cons (s_call [.pointer none, .slice none 0 0] pl_47 rfl rfl (MN_Send_nil  H52) ?_)
  rintro _ w53 ⟨rfl, H54⟩
  refine r_cons (s_move (.tuple #[.slice none 0 0, .int .i64 2]) rfl rfl ?_)
  refine r_cons (s_extract (.slice none 0 0) #[.slice none 0 0, .int .i64 2] rfl rfl rfl ?_)
  refine r_cons (s_extract (.int .i64 2) #[.slice none 0 0, .int .i64 2] rfl rfl rfl ?_)
  refine r_cons (s_assign (.slice none 0 0) rfl rfl ?_)
  refine r_cons (s_assign (.int .i64 2) rfl rfl ?_)
  refine r_nil ?_
  refine g_seq ?_
  refine g_region ?_
  refine r_cons (s_move (.bool false) rfl rfl ?_)
  refine r_cons (s_move (.bool false) rfl rfl ?_)
  refine r_cons (r_take rfl rfl ?_)
  refine s_move (.int .i64 2) rfl rfl ?_
  refine r_cons (r_take rfl rfl ?_)
  refine s_neq false rfl rfl (ntrue (by decide)) rfl ?_
  refine r_cons (s_pick_f (.bool false) rfl rfl rfl ?_)
  refine r_cons (s_move (.bool false) rfl rfl ?_)
  refine r_cons (r_take rfl rfl ?_)
  refine s_move (.slice none 0 0) rfl rfl ?_
  refine r_cons (r_take rfl rfl ?_)
  refine s_len 0 rfl ⟨_, un_60⟩ rfl ?_
  refine r_cons (r_take rfl rfl ?_)
  refine s_neq false rfl rfl (ntrue (by decide)) rfl ?_
  refine r_cons (s_pick_f (.bool false) rfl rfl rfl ?_)
  refine r_cons (s_move (.bool false) rfl rfl ?_)
  refine r_cons (r_take rfl rfl ?_)
  refine s_move (.int .i64 2) rfl rfl ?_
  refine r_cons (r_take rfl rfl ?_)
  refine s_neq false rfl rfl (ntrue (by decide)) rfl ?_
  refine r_cons (s_pick_f (.bool false) rfl rfl rfl ?_)
  refine r_cons (s_move (.bool false) rfl rfl ?_)
  refine r_cons (r_take rfl rfl ?_)
  refine s_move (.pointer none) rfl rfl ?_
  refine r_cons (r_take rfl rfl ?_)
  refine s_call [.pointer none] pl_48 rfl rfl (MN_Landed_nil  H54) ?_
  rintro _ w55 ⟨rfl, H56⟩
  refine r_cons (r_take rfl rfl ?_)
  refine s_neq false rfl rfl (ntrue (by decide)) rfl ?_
  refine r_cons (s_pick_f (.bool false) rfl rfl rfl ?_)
  refine r_cons (s_move (.bool false) rfl rfl ?_)
  refine r_cons (r_take rfl rfl ?_)
  refine s_move (.pointer none) rfl rfl ?_
  refine r_cons (r_take rfl rfl ?_)
  refine s_call [.pointer none] pl_49 rfl rfl (MN_Phase_nil  H56) ?_
  rintro _ w57 ⟨rfl, H58⟩
  refine r_cons (r_take rfl rfl ?_)
  refine s_neq false rfl rfl (ntrue (by decide)) rfl ?_
  refine r_cons (s_pick_f (.bool false) rfl rfl rfl ?_)
  refine r_cons (s_move (.bool false) rfl rfl ?_)
  refine r_cons (r_take rfl rfl ?_)
  refine s_move (.pointer none) rfl rfl ?_
  refine r_cons (r_take rfl rfl ?_)
  refine s_call [.pointer none] pl_50 rfl rfl (MN_Clone_nil  H58) ?_
  rintro _ w59 ⟨rfl, H60⟩
  refine r_cons (r_take rfl rfl ?_)
  refine s_pneq false un_87 rfl rfl rfl rfl ?_
  refine r_cons (s_pick_f (.bool false) rfl rfl rfl ?_)
  refine r_nil ?_
  refine g_false rfl ?_
  refine g_skip ?_
  refine g_inBlock ?_
  refine g_region ?_
  refine r_cons (s_add 1 rfl rfl (wi64 (by omega)) rfl ?_)
  refine r_cons (s_move (.int .i64 1) rfl rfl ?_)
  refine r_nil ?_
  refine g_inLoop ?_
  refine g_seq ?_
  refine g_region ?_
  refine r_cons (s_lss true rfl rfl (dtrue (by decide)) rfl ?_)
  refine r_nil ?_
  refine g_seq ?_
  refine g_true rfl ?_
  refine g_skip ?_
  refine g_seq ?_
  refine g_block ?_
  refine g_seq ?_
  refine g_region ?_
  refine r_cons (s_indexAddr bk48 1 1 1 rfl rfl el_91 (by omega) rfl rfl ?_)
  refine r_cons (s_load (.pointer (some ⟨bk45, 0, none⟩)) ag_87 rfl (H60.blk_at (i := 0) rfl) rfl rfl ?_)
  refine r_cons (s_assign (.pointer (some ⟨bk45, 0, none⟩)) rfl rfl ?_)
  refine r_nil ?_
  refine g_seq ?_
  refine g_region ?_
  refine r_cons (s_move (.pointer (some ⟨bk45, 0, none⟩)) rfl rfl ?_)
  refine r_cons (s_move (.int .i64 q) rfl rfl ?_)
  refine r_cons (s_call [.pointer (some ⟨bk45, 0, none⟩), .int .i64 q] pl_46 rfl rfl (MN_Marker_zero bk45 q (i := 1) rfl H60) ?_)
  rintro _ w61 ⟨rfl, H62⟩
  refine r_cons (s_move (.tuple #[.bool false, .int .i64 2]) rfl rfl ?_)
  refine r_cons (s_extract (.bool false) #[.bool false, .int .i64 2] rfl rfl rfl ?_)
  refine r_cons (s_extract (.int .i64 2) #[.bool false, .int .i64 2] rfl rfl rfl ?_)
  refine r_cons (s_assign (.bool false) rfl rfl ?_)
  refine r_cons (s_assign (.int .i64 2) rfl rfl ?_)
  refine r_nil ?_
  refine g_seq ?_
  refine g_region ?_
  refine r_cons (s_move (.pointer (some ⟨bk45, 0, none⟩)) rfl rfl ?_)
  refine r_cons (s_call [.pointer (some ⟨bk45, 0, none⟩), .slice none 0 0] pl_47 rfl rfl (MN_Send_zero bk45  (i := 1) rfl H62) ?_)
  rintro _ w63 ⟨rfl, H64⟩
  refine r_cons (s_move (.tuple #[.slice none 0 0, .int .i64 2]) rfl rfl ?_)
  refine r_cons (s_extract (.slice none 0 0) #[.slice none 0 0, .int .i64 2] rfl rfl rfl ?_)
  refine r_cons (s_extract (.int .i64 2) #[.slice none 0 0, .int .i64 2] rfl rfl rfl ?_)
  refine r_cons (s_assign (.slice none 0 0) rfl rfl ?_)
  refine r_cons (s_assign (.int .i64 2) rfl rfl ?_)
  refine r_nil ?_
  refine g_seq ?_
  refine g_region ?_
  refine r_cons (s_move (.bool false) rfl rfl ?_)
  refine r_cons (s_move (.bool false) rfl rfl ?_)
  refine r_cons (r_take rfl rfl ?_)
  refine s_move (.int .i64 2) rfl rfl ?_
  refine r_cons (r_take rfl rfl ?_)
  refine s_neq false rfl rfl (ntrue (by decide)) rfl ?_
  refine r_cons (s_pick_f (.bool false) rfl rfl rfl ?_)
  refine r_cons (s_move (.bool false) rfl rfl ?_)
  refine r_cons (r_take rfl rfl ?_)
  refine s_move (.slice none 0 0) rfl rfl ?_
  refine r_cons (r_take rfl rfl ?_)
  refine s_len 0 rfl ⟨_, un_60⟩ rfl ?_
  refine r_cons (r_take rfl rfl ?_)
  refine s_neq false rfl rfl (ntrue (by decide)) rfl ?_
  refine r_cons (s_pick_f (.bool false) rfl rfl rfl ?_)
  refine r_cons (s_move (.bool false) rfl rfl ?_)
  refine r_cons (r_take rfl rfl ?_)
  refine s_move (.int .i64 2) rfl rfl ?_
  refine r_cons (r_take rfl rfl ?_)
  refine s_neq false rfl rfl (ntrue (by decide)) rfl ?_
  refine r_cons (s_pick_f (.bool false) rfl rfl rfl ?_)
  refine r_cons (s_move (.bool false) rfl rfl ?_)
  refine r_cons (r_take rfl rfl ?_)
  refine s_move (.pointer (some ⟨bk45, 0, none⟩)) rfl rfl ?_
  refine r_cons (r_take rfl rfl ?_)
  refine s_call [.pointer (some ⟨bk45, 0, none⟩)] pl_48 rfl rfl (MN_Landed_zero bk45  (i := 1) rfl H64) ?_
  rintro _ w65 ⟨rfl, H66⟩
  refine r_cons (r_take rfl rfl ?_)
  refine s_neq false rfl rfl (ntrue (by decide)) rfl ?_
  refine r_cons (s_pick_f (.bool false) rfl rfl rfl ?_)
  refine r_cons (s_move (.bool false) rfl rfl ?_)
  refine r_cons (r_take rfl rfl ?_)
  refine s_move (.pointer (some ⟨bk45, 0, none⟩)) rfl rfl ?_
  refine r_cons (r_take rfl rfl ?_)
  refine s_call [.pointer (some ⟨bk45, 0, none⟩)] pl_49 rfl rfl (MN_Phase_zero bk45  (i := 1) rfl H66) ?_
  rintro _ w67 ⟨rfl, H68⟩
  refine r_cons (r_take rfl rfl ?_)
  refine s_neq false rfl rfl (ntrue (by decide)) rfl ?_
  refine r_cons (s_pick_f (.bool false) rfl rfl rfl ?_)
  refine r_cons (s_move (.bool false) rfl rfl ?_)
  refine r_cons (r_take rfl rfl ?_)
  refine s_move (.pointer (some ⟨bk45, 0, none⟩)) rfl rfl ?_
  refine r_cons (r_take rfl rfl ?_)
  refine s_call [.pointer (some ⟨bk45, 0, none⟩)] pl_50 rfl rfl (MN_Clone_zero bk45  (i := 1) rfl H68) ?_
  rintro _ w69 ⟨rfl, H70⟩
  refine r_cons (r_take rfl rfl ?_)
  refine s_pneq false un_87 rfl rfl rfl rfl ?_
  refine r_cons (s_pick_f (.bool false) rfl rfl rfl ?_)
  refine r_nil ?_
  refine g_false rfl ?_
  refine g_skip ?_
  refine g_inBlock ?_
  refine g_region ?_
  refine r_cons (s_add 2 rfl rfl (wi64 (by omega)) rfl ?_)
  refine r_cons (s_move (.int .i64 2) rfl rfl ?_)
  refine r_nil ?_
  refine g_inLoop ?_
  refine g_seq ?_
  refine g_region ?_
  refine r_cons (s_lss false rfl rfl (dfalse (by decide)) rfl ?_)
  refine r_nil ?_
  refine g_seq ?_
  refine g_false rfl ?_
  refine g_exit (by rfl) ?_
  refine g_seq ?_
  refine g_seq ?_
  refine g_region ?_
  refine r_cons (s_build (cs := #[.bool false, .bool false, .int .i64 0, .int .i64 0, .map none, .slice none 0 0]) (by kernel_rfl) rfl ?_)
  refine r_cons (s_box H70 98 (.agg #[.bool false, .bool false, .int .i64 0, .int .i64 0, .map none, .slice none 0 0]) rfl (cs := #[.bool false, .bool false, .int .i64 0, .int .i64 0, .map none, .slice none 0 0]) rfl rfl ?_); intro bk71 w72 H73
  refine r_cons (s_buildSlice H73 1 2 (cs := #[.pointer none, .pointer (some ⟨bk71, 0, none⟩)]) #[.pointer none] el_99 ze_44 (by decide) (by decide) (by kernel_rfl) rfl ?_); intro bk74 w75 H76
  refine r_cons (s_len 2 rfl ⟨_, un_99⟩ rfl ?_)
  refine r_cons (s_move (.int .i64 0) rfl rfl ?_)
  refine r_nil ?_
  refine g_block ?_
  refine g_loop ?_
  refine g_seq ?_
  refine g_region ?_
  refine r_cons (s_lss true rfl rfl (dtrue (by decide)) rfl ?_)
  refine r_nil ?_
  refine g_seq ?_
  refine g_true rfl ?_
  refine g_skip ?_
  refine g_seq ?_
  refine g_block ?_
  refine g_seq ?_
  refine g_region ?_
  refine r_cons (s_indexAddr bk74 0 1 0 rfl rfl el_99 (by omega) rfl rfl ?_)
  refine r_cons (s_load (.pointer none) ag_44 rfl (H76.blk_at (i := 0) rfl) rfl rfl ?_)
  refine r_cons (s_assign (.pointer none) rfl rfl ?_)
  refine r_nil ?_
  refine g_seq ?_
  refine g_region ?_
  refine r_cons (s_move (.pointer none) rfl rfl ?_)
  refine r_cons (s_loadAgg [.int .i64 o2, .int .i64 m, .int .i64 i0, .slice dp dn dc] 4 ag_51 rfl (H76.blk_at (i := 8) rfl) (Nat.le_of_ble_eq_true rfl) rfl rfl ?_)
  refine r_cons (s_call [.pointer none, .agg #[.int .i64 o2, .int .i64 m, .int .i64 i0, .slice dp dn dc]] pl_22 rfl rfl (LN_Piece_nil o2 m i0 dp dn dc H76) ?_)
  rintro _ w77 ⟨rfl, H78⟩
  refine r_cons (s_move (.tuple #[.bool false, .int .i64 2]) rfl rfl ?_)
  refine r_cons (s_extract (.bool false) #[.bool false, .int .i64 2] rfl rfl rfl ?_)
  refine r_cons (s_extract (.int .i64 2) #[.bool false, .int .i64 2] rfl rfl rfl ?_)
  refine r_cons (s_assign (.bool false) rfl rfl ?_)
  refine r_cons (s_assign (.int .i64 2) rfl rfl ?_)
  refine r_nil ?_
  refine g_seq ?_
  refine g_region ?_
  refine r_cons (s_move (.pointer none) rfl rfl ?_)
  refine r_cons (s_call [.pointer none] pl_25 rfl rfl (LN_Take_nil  H78) ?_)
  rintro _ w79 ⟨rfl, H80⟩
  refine r_cons (s_move (.tuple #[.slice none 0 0, .slice none 0 0, .int .i64 2]) rfl rfl ?_)
  refine r_cons (s_extract (.slice none 0 0) #[.slice none 0 0, .slice none 0 0, .int .i64 2] rfl rfl rfl ?_)
  refine r_cons (s_extract (.slice none 0 0) #[.slice none 0 0, .slice none 0 0, .int .i64 2] rfl rfl rfl ?_)
  refine r_cons (s_extract (.int .i64 2) #[.slice none 0 0, .slice none 0 0, .int .i64 2] rfl rfl rfl ?_)
  refine r_cons (s_assign (.slice none 0 0) rfl rfl ?_)
  refine r_cons (s_assign (.slice none 0 0) rfl rfl ?_)
  refine r_cons (s_assign (.int .i64 2) rfl rfl ?_)
  refine r_nil ?_
  refine g_seq ?_
  refine g_region ?_
  refine r_cons (s_move (.pointer none) rfl rfl ?_)
  refine r_cons (s_loadAgg [.int .i64 o, .int .i64 n, .int .i64 e, .int .i64 k, .slice sp sn sc, .int .i64 t] 6 ag_32 rfl (H80.blk_at (i := 9) rfl) (Nat.le_of_ble_eq_true rfl) rfl rfl ?_)
  refine r_cons (s_call [.pointer none, .agg #[.int .i64 o, .int .i64 n, .int .i64 e, .int .i64 k, .slice sp sn sc, .int .i64 t]] pl_21 rfl rfl (LN_Arrive_nil o n e k t sp sn sc H80) ?_)
  rintro _ w81 ⟨rfl, H82⟩
  refine r_cons (s_neq false rfl rfl (ntrue (by decide)) rfl ?_)
  refine r_cons (s_move (.bool false) rfl rfl ?_)
  refine r_cons (r_take rfl rfl ?_)
  refine s_move (.bool false) rfl rfl ?_
  refine r_cons (s_pick_f (.bool false) rfl rfl rfl ?_)
  refine r_cons (s_move (.bool false) rfl rfl ?_)
  refine r_cons (r_take rfl rfl ?_)
  refine s_move (.int .i64 2) rfl rfl ?_
  refine r_cons (r_take rfl rfl ?_)
  refine s_neq false rfl rfl (ntrue (by decide)) rfl ?_
  refine r_cons (s_pick_f (.bool false) rfl rfl rfl ?_)
  refine r_cons (s_move (.bool false) rfl rfl ?_)
  refine r_cons (r_take rfl rfl ?_)
  refine s_move (.slice none 0 0) rfl rfl ?_
  refine r_cons (r_take rfl rfl ?_)
  refine s_len 0 rfl ⟨_, un_23⟩ rfl ?_
  refine r_cons (r_take rfl rfl ?_)
  refine s_move (.slice none 0 0) rfl rfl ?_
  refine r_cons (r_take rfl rfl ?_)
  refine s_len 0 rfl ⟨_, un_22⟩ rfl ?_
  refine r_cons (r_take rfl rfl ?_)
  refine s_add 0 rfl rfl (wi64 (by omega)) rfl ?_
  refine r_cons (r_take rfl rfl ?_)
  refine s_neq false rfl rfl (ntrue (by decide)) rfl ?_
  refine r_cons (s_pick_f (.bool false) rfl rfl rfl ?_)
  refine r_cons (s_move (.bool false) rfl rfl ?_)
  refine r_cons (r_take rfl rfl ?_)
  refine s_move (.int .i64 2) rfl rfl ?_
  refine r_cons (r_take rfl rfl ?_)
  refine s_neq false rfl rfl (ntrue (by decide)) rfl ?_
  refine r_cons (s_pick_f (.bool false) rfl rfl rfl ?_)
  refine r_cons (s_move (.bool false) rfl rfl ?_)
  refine r_cons (r_take rfl rfl ?_)
  refine s_move (.pointer none) rfl rfl ?_
  refine r_cons (r_take rfl rfl ?_)
  refine s_call [.pointer none] pl_28 rfl rfl (LN_Waiting_nil  H82) ?_
  rintro _ w83 ⟨rfl, H84⟩
  refine r_cons (r_take rfl rfl ?_)
  refine s_neq false rfl rfl (ntrue (by decide)) rfl ?_
  refine r_cons (s_pick_f (.bool false) rfl rfl rfl ?_)
  refine r_cons (s_move (.bool false) rfl rfl ?_)
  refine r_cons (r_take rfl rfl ?_)
  refine s_move (.pointer none) rfl rfl ?_
  refine r_cons (r_take rfl rfl ?_)
  refine s_call [.pointer none] pl_20 rfl rfl (LN_Clone_nil  H84) ?_
  rintro _ w85 ⟨rfl, H86⟩
  refine r_cons (r_take rfl rfl ?_)
  refine s_pneq false un_44 rfl rfl rfl rfl ?_
  refine r_cons (s_pick_f (.bool false) rfl rfl rfl ?_)
  refine r_nil ?_
  refine g_false rfl ?_
  refine g_skip ?_
  refine g_inBlock ?_
  refine g_region ?_
  refine r_cons (s_add 1 rfl rfl (wi64 (by omega)) rfl ?_)
  refine r_cons (s_move (.int .i64 1) rfl rfl ?_)
  refine r_nil ?_
  refine g_inLoop ?_
  refine g_seq ?_
  refine g_region ?_
  refine r_cons (s_lss true rfl rfl (dtrue (by decide)) rfl ?_)
  refine r_nil ?_
  refine g_seq ?_
  refine g_true rfl ?_
  refine g_skip ?_
  refine g_seq ?_
  refine g_block ?_
  refine g_seq ?_
  refine g_region ?_
  refine r_cons (s_indexAddr bk74 1 1 1 rfl rfl el_99 (by omega) rfl rfl ?_)
  refine r_cons (s_load (.pointer (some ⟨bk71, 0, none⟩)) ag_44 rfl (H86.blk_at (i := 0) rfl) rfl rfl ?_)
  refine r_cons (s_assign (.pointer (some ⟨bk71, 0, none⟩)) rfl rfl ?_)
  refine r_nil ?_
  refine g_seq ?_
  refine g_region ?_
  refine r_cons (s_move (.pointer (some ⟨bk71, 0, none⟩)) rfl rfl ?_)
  refine r_cons (s_loadAgg [.int .i64 o2, .int .i64 m, .int .i64 i0, .slice dp dn dc] 4 ag_51 rfl (H86.blk_at (i := 8) rfl) (Nat.le_of_ble_eq_true rfl) rfl rfl ?_)
  refine r_cons (s_call [.pointer (some ⟨bk71, 0, none⟩), .agg #[.int .i64 o2, .int .i64 m, .int .i64 i0, .slice dp dn dc]] pl_22 rfl rfl (LN_Piece_zero bk71 o2 m i0 dp dn dc (i := 1) rfl H86) ?_)
  rintro _ w87 ⟨rfl, H88⟩
  refine r_cons (s_move (.tuple #[.bool false, .int .i64 2]) rfl rfl ?_)
  refine r_cons (s_extract (.bool false) #[.bool false, .int .i64 2] rfl rfl rfl ?_)
  refine r_cons (s_extract (.int .i64 2) #[.bool false, .int .i64 2] rfl rfl rfl ?_)
  refine r_cons (s_assign (.bool false) rfl rfl ?_)
  refine r_cons (s_assign (.int .i64 2) rfl rfl ?_)
  refine r_nil ?_
  refine g_seq ?_
  refine g_region ?_
  refine r_cons (s_move (.pointer (some ⟨bk71, 0, none⟩)) rfl rfl ?_)
  refine r_cons (s_call [.pointer (some ⟨bk71, 0, none⟩)] pl_25 rfl rfl (LN_Take_zero bk71  (i := 1) rfl H88) ?_)
  rintro _ w89 ⟨rfl, H90⟩
  refine r_cons (s_move (.tuple #[.slice none 0 0, .slice none 0 0, .int .i64 2]) rfl rfl ?_)
  refine r_cons (s_extract (.slice none 0 0) #[.slice none 0 0, .slice none 0 0, .int .i64 2] rfl rfl rfl ?_)
  refine r_cons (s_extract (.slice none 0 0) #[.slice none 0 0, .slice none 0 0, .int .i64 2] rfl rfl rfl ?_)
  refine r_cons (s_extract (.int .i64 2) #[.slice none 0 0, .slice none 0 0, .int .i64 2] rfl rfl rfl ?_)
  refine r_cons (s_assign (.slice none 0 0) rfl rfl ?_)
  refine r_cons (s_assign (.slice none 0 0) rfl rfl ?_)
  refine r_cons (s_assign (.int .i64 2) rfl rfl ?_)
  refine r_nil ?_
  refine g_seq ?_
  refine g_region ?_
  refine r_cons (s_move (.pointer (some ⟨bk71, 0, none⟩)) rfl rfl ?_)
  refine r_cons (s_loadAgg [.int .i64 o, .int .i64 n, .int .i64 e, .int .i64 k, .slice sp sn sc, .int .i64 t] 6 ag_32 rfl (H90.blk_at (i := 9) rfl) (Nat.le_of_ble_eq_true rfl) rfl rfl ?_)
  refine r_cons (s_call [.pointer (some ⟨bk71, 0, none⟩), .agg #[.int .i64 o, .int .i64 n, .int .i64 e, .int .i64 k, .slice sp sn sc, .int .i64 t]] pl_21 rfl rfl (LN_Arrive_zero bk71 o n e k t sp sn sc (i := 1) rfl H90) ?_)
  rintro _ w91 ⟨rfl, H92⟩
  refine r_cons (s_neq false rfl rfl (ntrue (by decide)) rfl ?_)
  refine r_cons (s_move (.bool false) rfl rfl ?_)
  refine r_cons (r_take rfl rfl ?_)
  refine s_move (.bool false) rfl rfl ?_
  refine r_cons (s_pick_f (.bool false) rfl rfl rfl ?_)
  refine r_cons (s_move (.bool false) rfl rfl ?_)
  refine r_cons (r_take rfl rfl ?_)
  refine s_move (.int .i64 2) rfl rfl ?_
  refine r_cons (r_take rfl rfl ?_)
  refine s_neq false rfl rfl (ntrue (by decide)) rfl ?_
  refine r_cons (s_pick_f (.bool false) rfl rfl rfl ?_)
  refine r_cons (s_move (.bool false) rfl rfl ?_)
  refine r_cons (r_take rfl rfl ?_)
  refine s_move (.slice none 0 0) rfl rfl ?_
  refine r_cons (r_take rfl rfl ?_)
  refine s_len 0 rfl ⟨_, un_23⟩ rfl ?_
  refine r_cons (r_take rfl rfl ?_)
  refine s_move (.slice none 0 0) rfl rfl ?_
  refine r_cons (r_take rfl rfl ?_)
  refine s_len 0 rfl ⟨_, un_22⟩ rfl ?_
  refine r_cons (r_take rfl rfl ?_)
  refine s_add 0 rfl rfl (wi64 (by omega)) rfl ?_
  refine r_cons (r_take rfl rfl ?_)
  refine s_neq false rfl rfl (ntrue (by decide)) rfl ?_
  refine r_cons (s_pick_f (.bool false) rfl rfl rfl ?_)
  refine r_cons (s_move (.bool false) rfl rfl ?_)
  refine r_cons (r_take rfl rfl ?_)
  refine s_move (.int .i64 2) rfl rfl ?_
  refine r_cons (r_take rfl rfl ?_)
  refine s_neq false rfl rfl (ntrue (by decide)) rfl ?_
  refine r_cons (s_pick_f (.bool false) rfl rfl rfl ?_)
  refine r_cons (s_move (.bool false) rfl rfl ?_)
  refine r_cons (r_take rfl rfl ?_)
  refine s_move (.pointer (some ⟨bk71, 0, none⟩)) rfl rfl ?_
  refine r_cons (r_take rfl rfl ?_)
  refine s_call [.pointer (some ⟨bk71, 0, none⟩)] pl_28 rfl rfl (LN_Waiting_zero bk71  (i := 1) rfl H92) ?_
  rintro _ w93 ⟨rfl, H94⟩
  refine r_cons (r_take rfl rfl ?_)
  refine s_neq false rfl rfl (ntrue (by decide)) rfl ?_
  refine r_cons (s_pick_f (.bool false) rfl rfl rfl ?_)
  refine r_cons (s_move (.bool false) rfl rfl ?_)
  refine r_cons (r_take rfl rfl ?_)
  refine s_move (.pointer (some ⟨bk71, 0, none⟩)) rfl rfl ?_
  refine r_cons (r_take rfl rfl ?_)
  refine s_call [.pointer (some ⟨bk71, 0, none⟩)] pl_20 rfl rfl (LN_Clone_zero bk71  (i := 1) rfl H94) ?_
  rintro _ w95 ⟨rfl, H96⟩
  refine r_cons (r_take rfl rfl ?_)
  refine s_pneq false un_44 rfl rfl rfl rfl ?_
  refine r_cons (s_pick_f (.bool false) rfl rfl rfl ?_)
  refine r_nil ?_
  refine g_false rfl ?_
  refine g_skip ?_
  refine g_inBlock ?_
  refine g_region ?_
  refine r_cons (s_add 2 rfl rfl (wi64 (by omega)) rfl ?_)
  refine r_cons (s_move (.int .i64 2) rfl rfl ?_)
  refine r_nil ?_
  refine g_inLoop ?_
  refine g_seq ?_
  refine g_region ?_
  refine r_cons (s_lss false rfl rfl (dfalse (by decide)) rfl ?_)
  refine r_nil ?_
  refine g_seq ?_
  refine g_false rfl ?_
  refine g_exit (by rfl) ?_
  refine g_seq ?_
  refine g_region ?_
  refine r_cons (s_assign (.bool true) rfl rfl ?_)
  refine r_nil ?_
  refine g_ret' [.bool true] Try.func7 Try.results7 ⟨rfl, trivial⟩ ?_
  have H97 : St W w95 (blk bk38 (.cells #[.slice none 0 0] 22 (0, 0)) :: blk bk23 (.cells #[.slice none 0 0] 22 (0, 0)) :: blk bk12 (.cells #[.pointer none, .pointer (some ⟨bk9, 0, none⟩)] 24 (0, 0)) :: blk bk9 (.cells #[.bool false, .int .i64 0, .slice none 0 0] 80 (0, 0)) :: blk bk4 (.cells #[.int .i64 o2, .int .i64 m, .int .i64 i0, .slice dp dn dc] 51 (0, 0)) :: blk bk1 (.cells #[.int .i64 o, .int .i64 n, .int .i64 e, .int .i64 k, .slice sp sn sc, .int .i64 t] 32 (0, 0)) :: F) := ((((H96.drop 0 rfl).drop 0 rfl).drop 0 rfl).drop 0 rfl)
  have H98 : St W w95 (blk bk4 (.cells #[.int .i64 o2, .int .i64 m, .int .i64 i0, .slice dp dn dc] 51 (0, 0)) :: blk bk1 (.cells #[.int .i64 o, .int .i64 n, .int .i64 e, .int .i64 k, .slice sp sn sc, .int .i64 t] 32 (0, 0)) :: F) := ((((H97.drop 0 rfl).drop 0 rfl).drop 0 rfl).drop 0 rfl)
  have H99 : St W w95 F := ((H98.drop 0 rfl).drop 0 rfl)
  exact ⟨rfl, H99⟩
end Sl
