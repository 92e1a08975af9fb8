/- Walks of the program's functions. Printed by a program of this claim's author. No condition. -/
import Derived.Test.YteogdknlofcpiaaSlBA
import Derived.Test.YteogdknlofcpiaaSlDB
import Derived.Test.YteogdknlofcpiaaSlQ
import Derived.Test.YteogdknlofcpiaaSlP
import Derived.Test.YteogdknlofcpiaaSlDF
import Derived.Test.YteogdknlofcpiaaSlDG
import Derived.Test.YteogdknlofcpiaaProg
namespace Sl
open _root_.Go _root_.Go.RowKit _root_.Go.Proofs
set_option linter.all false
theorem un_174 : Try.prog.underlying 174 = some (.slice 2) := by kernel_rfl
theorem el_174 : elemSize Try.prog 174 = some (2, 1) := by kernel_rfl
theorem ag_2 : isAggB Try.prog 2 = false ∧ (Try.prog.underlying 2).isSome = true := ⟨by kernel_rfl, by kernel_rfl⟩
theorem fi_32_0 : fieldOff Try.prog 32 0 = some (0, 3) := by kernel_rfl
theorem ag_3 : isAggB Try.prog 3 = false ∧ (Try.prog.underlying 3).isSome = true := ⟨by kernel_rfl, by kernel_rfl⟩
theorem fi_32_1 : fieldOff Try.prog 32 1 = some (1, 3) := by kernel_rfl
theorem fi_32_2 : fieldOff Try.prog 32 2 = some (2, 2) := by kernel_rfl
theorem ze_2 : zeroOf Try.prog 2 = some #[.int .i64 0] := by kernel_rfl
theorem pl_68 : plainFn Try.prog 68 = true := by kernel_rfl
theorem fi_32_3 : fieldOff Try.prog 32 3 = some (3, 3) := by kernel_rfl
theorem fi_32_5 : fieldOff Try.prog 32 5 = some (5, 2) := by kernel_rfl
theorem fi_32_4 : fieldOff Try.prog 32 4 = some (4, 30) := by kernel_rfl
theorem fi_30_0 : fieldOff Try.prog 30 0 = some (0, 28) := by kernel_rfl
theorem ag_28 : isAggB Try.prog 28 = false ∧ (Try.prog.underlying 28).isSome = true := ⟨by kernel_rfl, by kernel_rfl⟩
theorem un_28 : Try.prog.underlying 28 = some (.slice 170) := by kernel_rfl
theorem ze_30 : zeroOf Try.prog 30 = some #[.slice none 0 0] := by kernel_rfl
theorem sz_30 : (Try.prog.info? 30).map (·.size) = some 1 := by kernel_rfl
theorem ag_30 : isAggB Try.prog 30 = true ∧ (Try.prog.info? 30).map (·.size) = some 1 := ⟨by kernel_rfl, by kernel_rfl⟩
theorem ze_32 : zeroOf Try.prog 32 = some #[.int .i64 0, .int .i64 0, .int .i64 0, .int .i64 0, .slice none 0 0, .int .i64 0] := by kernel_rfl
theorem pl_105 : plainFn Try.prog 105 = true := by kernel_rfl
theorem ag_32 : isAggB Try.prog 32 = true ∧ (Try.prog.info? 32).map (·.size) = some 6 := ⟨by kernel_rfl, by kernel_rfl⟩
theorem sz_32 : (Try.prog.info? 32).map (·.size) = some 6 := by kernel_rfl
theorem un_24 : Try.prog.underlying 24 = some (.pointer 80) := by kernel_rfl
theorem fi_80_0 : fieldOff Try.prog 80 0 = some (0, 4) := by kernel_rfl
theorem ag_4 : isAggB Try.prog 4 = false ∧ (Try.prog.underlying 4).isSome = true := ⟨by kernel_rfl, by kernel_rfl⟩
theorem pl_62 : plainFn Try.prog 62 = true := by kernel_rfl
theorem fi_80_1 : fieldOff Try.prog 80 1 = some (1, 2) := by kernel_rfl
theorem pl_63 : plainFn Try.prog 63 = true := by kernel_rfl
theorem mixed : Try.prog.follows .mixedOrders = true := by kernel_rfl
theorem fi_80_2 : fieldOff Try.prog 80 2 = some (2, 22) := by kernel_rfl
theorem ag_22 : isAggB Try.prog 22 = false ∧ (Try.prog.underlying 22).isSome = true := ⟨by kernel_rfl, by kernel_rfl⟩
theorem un_22 : Try.prog.underlying 22 = some (.slice 32) := by kernel_rfl
theorem pl_64 : plainFn Try.prog 64 = true := by kernel_rfl
theorem el_22 : elemSize Try.prog 22 = some (32, 6) := by kernel_rfl
theorem in_32 : (Try.prog.info? 32).map (fun i => (i.zero, i.size, i.bytes)) = some (some (.agg #[.int .i64 0, .int .i64 0, .int .i64 0, .int .i64 0, .slice none 0 0, .int .i64 0]), 6, 64) := by kernel_rfl
theorem ap_22 : appInfo Try.prog 22 32 6 64 6 := appInfo_mk un_22 in_32 rfl
theorem sz_22 : (Try.prog.info? 22).map (·.size) = some 1 := by kernel_rfl
theorem sz_2 : (Try.prog.info? 2).map (·.size) = some 1 := by kernel_rfl
theorem pl_65 : plainFn Try.prog 65 = true := by kernel_rfl
theorem pl_9 : plainFn Try.prog 9 = true := by kernel_rfl
theorem pl_59 : plainFn Try.prog 59 = true := by kernel_rfl
theorem pl_14 : plainFn Try.prog 14 = true := by kernel_rfl
theorem pl_16 : plainFn Try.prog 16 = true := by kernel_rfl
theorem ze_3 : zeroOf Try.prog 3 = some #[.int .i64 0] := by kernel_rfl
theorem sz_3 : (Try.prog.info? 3).map (·.size) = some 1 := by kernel_rfl
theorem sz_4 : (Try.prog.info? 4).map (·.size) = some 1 := by kernel_rfl
theorem un_87 : Try.prog.underlying 87 = some (.pointer 90) := by kernel_rfl
theorem fi_90_0 : fieldOff Try.prog 90 0 = some (0, 4) := by kernel_rfl
theorem pl_96 : plainFn Try.prog 96 = true := by kernel_rfl
theorem pl_10 : plainFn Try.prog 10 = true := by kernel_rfl
theorem un_23 : Try.prog.underlying 23 = some (.slice 5) := by kernel_rfl
theorem pl_46 : plainFn Try.prog 46 = true := by kernel_rfl
theorem pl_47 : plainFn Try.prog 47 = true := by kernel_rfl
theorem un_60 : Try.prog.underlying 60 = some (.slice 51) := by kernel_rfl
theorem pl_48 : plainFn Try.prog 48 = true := by kernel_rfl
theorem pl_49 : plainFn Try.prog 49 = true := by kernel_rfl
theorem pl_50 : plainFn Try.prog 50 = true := by kernel_rfl
theorem ag_51 : isAggB Try.prog 51 = true ∧ (Try.prog.info? 51).map (·.size) = some 4 := ⟨by kernel_rfl, by kernel_rfl⟩
theorem el_23 : elemSize Try.prog 23 = some (5, 1) := by kernel_rfl
theorem in_5 : (Try.prog.info? 5).map (fun i => (i.zero, i.size, i.bytes)) = some (some (.int .u8 0), 1, 1) := by kernel_rfl
theorem ap_23 : appInfo Try.prog 23 5 1 1 1 := appInfo_mk un_23 in_5 rfl
theorem pl_73 : plainFn Try.prog 73 = true := by kernel_rfl
theorem el_60 : elemSize Try.prog 60 = some (51, 4) := by kernel_rfl
theorem ze_51 : zeroOf Try.prog 51 = some #[.int .i64 0, .int .i64 0, .int .i64 0, .slice none 0 0] := by kernel_rfl
theorem in_51 : (Try.prog.info? 51).map (fun i => (i.zero, i.size, i.bytes)) = some (some (.agg #[.int .i64 0, .int .i64 0, .int .i64 0, .slice none 0 0]), 4, 48) := by kernel_rfl
theorem ap_60 : appInfo Try.prog 60 51 4 48 4 := appInfo_mk un_60 in_51 rfl
theorem pl_60 : plainFn Try.prog 60 = true := by kernel_rfl
theorem fi_51_0 : fieldOff Try.prog 51 0 = some (0, 3) := by kernel_rfl
theorem fi_51_1 : fieldOff Try.prog 51 1 = some (1, 3) := by kernel_rfl
theorem fi_51_2 : fieldOff Try.prog 51 2 = some (2, 3) := by kernel_rfl
theorem fi_51_3 : fieldOff Try.prog 51 3 = some (3, 23) := by kernel_rfl
theorem ag_23 : isAggB Try.prog 23 = false ∧ (Try.prog.underlying 23).isSome = true := ⟨by kernel_rfl, by kernel_rfl⟩
theorem un_5 : Try.prog.underlying 5 = some (.int .u8) := by kernel_rfl
theorem un_9 : Try.prog.underlying 9 = some (.string) := by kernel_rfl
theorem sz_51 : (Try.prog.info? 51).map (·.size) = some 4 := by kernel_rfl
theorem pl_39 : plainFn Try.prog 39 = true := by kernel_rfl
theorem un_3 : Try.prog.underlying 3 = some (.int .i64) := by kernel_rfl
theorem fi_90_4 : fieldOff Try.prog 90 4 = some (4, 3) := by kernel_rfl
theorem fi_90_2 : fieldOff Try.prog 90 2 = some (2, 88) := by kernel_rfl
theorem ag_88 : isAggB Try.prog 88 = false ∧ (Try.prog.underlying 88).isSome = true := ⟨by kernel_rfl, by kernel_rfl⟩
theorem un_88 : Try.prog.underlying 88 = some (.map 3 4) := by kernel_rfl
theorem fi_90_3 : fieldOff Try.prog 90 3 = some (3, 88) := by kernel_rfl
theorem zv_4 : ∀ w : World, (zeroValue 4).run Try.prog w = .ok (.bool false) w := fun w => by kernel_rfl
theorem pl_97 : plainFn Try.prog 97 = true := by kernel_rfl
theorem fi_90_1 : fieldOff Try.prog 90 1 = some (1, 3) := by kernel_rfl
theorem pl_33 : plainFn Try.prog 33 = true := by kernel_rfl
theorem pl_98 : plainFn Try.prog 98 = true := by kernel_rfl
theorem pl_128 : plainFn Try.prog 128 = true := by kernel_rfl
theorem ag_101 : isAggB Try.prog 101 = false ∧ (Try.prog.underlying 101).isSome = true := ⟨by kernel_rfl, by kernel_rfl⟩
theorem el_101 : elemSize Try.prog 101 = some (3, 1) := by kernel_rfl
theorem in_3 : (Try.prog.info? 3).map (fun i => (i.zero, i.size, i.bytes)) = some (some (.int .i64 0), 1, 8) := by kernel_rfl
theorem un_101 : Try.prog.underlying 101 = some (.slice 3) := by kernel_rfl
theorem ap_101 : appInfo Try.prog 101 3 1 8 1 := appInfo_mk un_101 in_3 rfl
theorem sz_101 : (Try.prog.info? 101).map (·.size) = some 1 := by kernel_rfl
theorem pl_146 : plainFn Try.prog 146 = true := by kernel_rfl
theorem pl_126 : plainFn Try.prog 126 = true := by kernel_rfl
theorem pl_127 : plainFn Try.prog 127 = true := by kernel_rfl
theorem pl_100 : plainFn Try.prog 100 = true := by kernel_rfl
theorem pl_99 : plainFn Try.prog 99 = true := by kernel_rfl
theorem pl_101 : plainFn Try.prog 101 = true := by kernel_rfl
theorem in_4 : (Try.prog.info? 4).map (fun i => (i.zero, i.size, i.bytes)) = some (some (.bool false), 1, 1) := by kernel_rfl
theorem un_113 : Try.prog.underlying 113 = some (.slice 4) := by kernel_rfl
theorem fi_115_3 : fieldOff Try.prog 115 3 = some (3, 3) := by kernel_rfl
theorem fi_115_1 : fieldOff Try.prog 115 1 = some (1, 101) := by kernel_rfl
theorem fi_115_2 : fieldOff Try.prog 115 2 = some (2, 113) := by kernel_rfl
theorem ag_113 : isAggB Try.prog 113 = false ∧ (Try.prog.underlying 113).isSome = true := ⟨by kernel_rfl, by kernel_rfl⟩
theorem el_113 : elemSize Try.prog 113 = some (4, 1) := by kernel_rfl
theorem fi_115_0 : fieldOff Try.prog 115 0 = some (0, 3) := by kernel_rfl
theorem pl_34 : plainFn Try.prog 34 = true := by kernel_rfl
theorem pl_51 : plainFn Try.prog 51 = true := by kernel_rfl
theorem pl_52 : plainFn Try.prog 52 = true := by kernel_rfl
theorem un_105 : Try.prog.underlying 105 = some (.pointer 115) := by kernel_rfl
theorem un_4 : Try.prog.underlying 4 = some (.bool) := by kernel_rfl
theorem un_102 : Try.prog.underlying 102 = some (.slice 109) := by kernel_rfl
theorem el_102 : elemSize Try.prog 102 = some (109, 3) := by kernel_rfl
theorem ag_109 : isAggB Try.prog 109 = true ∧ (Try.prog.info? 109).map (·.size) = some 3 := ⟨by kernel_rfl, by kernel_rfl⟩
theorem ze_109 : zeroOf Try.prog 109 = some #[.int .i64 0, .int .i64 0, .slice none 0 0] := by kernel_rfl
theorem sz_109 : (Try.prog.info? 109).map (·.size) = some 3 := by kernel_rfl
theorem fi_109_0 : fieldOff Try.prog 109 0 = some (0, 3) := by kernel_rfl
theorem ze_101 : zeroOf Try.prog 101 = some #[.slice none 0 0] := by kernel_rfl
theorem pl_56 : plainFn Try.prog 56 = true := by kernel_rfl
theorem pl_129 : plainFn Try.prog 129 = true := by kernel_rfl
theorem pl_58 : plainFn Try.prog 58 = true := by kernel_rfl
theorem pl_57 : plainFn Try.prog 57 = true := by kernel_rfl
theorem fi_109_1 : fieldOff Try.prog 109 1 = some (1, 3) := by kernel_rfl
theorem pl_53 : plainFn Try.prog 53 = true := by kernel_rfl
theorem fi_109_2 : fieldOff Try.prog 109 2 = some (2, 23) := by kernel_rfl
theorem pl_54 : plainFn Try.prog 54 = true := by kernel_rfl
theorem pl_40 : plainFn Try.prog 40 = true := by kernel_rfl
theorem pl_55 : plainFn Try.prog 55 = true := by kernel_rfl
set_option maxHeartbeats 4000000 in
set_option maxRecDepth 100000 in
theorem time3 {W w : World} {F : List Atom} (g : Nat) (x y z : Int) (h1 : 0 ≤ x ∧ x ≤ 1099511627776) (h2 : 0 ≤ y ∧ y ≤ 1099511627776) (h3 : 0 ≤ z ∧ z ≤ 1099511627776) (H : St W w (blk g (.cells #[.int .i64 x, .int .i64 y, .int .i64 z] 2 (0, 0)) :: F)) : Calls Try.prog 68 #[.slice (some ⟨g, 0, none⟩) 3 3] w (Ret fun v w' => v = .bool true ∧ St W w' (blk g (.cells #[.int .i64 x, .int .i64 y, .int .i64 z] 2 (0, 0)) :: F)) := by
  have H0 := H
  refine calls_of_go (n := 18) Try.func68 rfl Try.ntmps68 rfl ?_
  refine g_seq ?_
  refine g_region ?_
  refine r_cons (s_assign (.bool false) rfl rfl ?_)
  refine r_nil ?_
  refine g_seq ?_
  refine g_seq ?_
  refine g_region ?_
  refine r_cons (s_move (.slice (some ⟨g, 0, none⟩) 3 3) rfl rfl ?_)
  refine r_cons (s_len 3 rfl ⟨_, un_174⟩ rfl ?_)
  refine r_cons (s_move (.int .i64 0) rfl rfl ?_)
  refine r_nil ?_
  refine g_block ?_
  refine g_loop ?_
  refine g_seq ?_
  refine g_region ?_
  refine r_cons (s_lss true rfl rfl (dtrue (by decide)) rfl ?_)
  refine r_nil ?_
  refine g_seq ?_
  refine g_true rfl ?_
  refine g_skip ?_
  refine g_seq ?_
  refine g_block ?_
  refine g_seq ?_
  refine g_region ?_
  refine r_cons (s_indexAddr g 0 1 0 rfl rfl el_174 (by omega) rfl rfl ?_)
  refine r_cons (s_load (.int .i64 x) ag_2 rfl (H0.blk_at (i := 0) rfl) rfl rfl ?_)
  refine r_cons (s_assign (.int .i64 x) rfl rfl ?_)
  refine r_nil ?_
  refine g_seq ?_
  refine g_region ?_
  refine r_cons (s_move (.int .i64 x) rfl rfl ?_)
  refine r_cons (s_lss false rfl rfl (dfalse (by omega)) rfl ?_)
  refine r_cons (s_move (.bool false) rfl rfl ?_)
  refine r_cons (r_take rfl rfl ?_)
  refine s_move (.int .i64 x) rfl rfl ?_
  refine r_cons (r_take rfl rfl ?_)
  refine s_gtr false rfl rfl (dfalse (by omega)) rfl ?_
  refine r_cons (s_pick_f (.bool false) rfl rfl rfl ?_)
  refine r_nil ?_
  refine g_false rfl ?_
  refine g_skip ?_
  refine g_inBlock ?_
  refine g_region ?_
  refine r_cons (s_add 1 rfl rfl (wi64 (by omega)) rfl ?_)
  refine r_cons (s_move (.int .i64 1) rfl rfl ?_)
  refine r_nil ?_
  refine g_inLoop ?_
  refine g_seq ?_
  refine g_region ?_
  refine r_cons (s_lss true rfl rfl (dtrue (by decide)) rfl ?_)
  refine r_nil ?_
  refine g_seq ?_
  refine g_true rfl ?_
  refine g_skip ?_
  refine g_seq ?_
  refine g_block ?_
  refine g_seq ?_
  refine g_region ?_
  refine r_cons (s_indexAddr g 1 1 1 rfl rfl el_174 (by omega) rfl rfl ?_)
  refine r_cons (s_load (.int .i64 y) ag_2 rfl (H0.blk_at (i := 0) rfl) rfl rfl ?_)
  refine r_cons (s_assign (.int .i64 y) rfl rfl ?_)
  refine r_nil ?_
  refine g_seq ?_
  refine g_region ?_
  refine r_cons (s_move (.int .i64 y) rfl rfl ?_)
  refine r_cons (s_lss false rfl rfl (dfalse (by omega)) rfl ?_)
  refine r_cons (s_move (.bool false) rfl rfl ?_)
  refine r_cons (r_take rfl rfl ?_)
  refine s_move (.int .i64 y) rfl rfl ?_
  refine r_cons (r_take rfl rfl ?_)
  refine s_gtr false rfl rfl (dfalse (by omega)) rfl ?_
  refine r_cons (s_pick_f (.bool false) rfl rfl rfl ?_)
  refine r_nil ?_
  refine g_false rfl ?_
  refine g_skip ?_
  refine g_inBlock ?_
  refine g_region ?_
  refine r_cons (s_add 2 rfl rfl (wi64 (by omega)) rfl ?_)
  refine r_cons (s_move (.int .i64 2) rfl rfl ?_)
  refine r_nil ?_
  refine g_inLoop ?_
  refine g_seq ?_
  refine g_region ?_
  refine r_cons (s_lss true rfl rfl (dtrue (by decide)) rfl ?_)
  refine r_nil ?_
  refine g_seq ?_
  refine g_true rfl ?_
  refine g_skip ?_
  refine g_seq ?_
  refine g_block ?_
  refine g_seq ?_
  refine g_region ?_
  refine r_cons (s_indexAddr g 2 1 2 rfl rfl el_174 (by omega) rfl rfl ?_)
  refine r_cons (s_load (.int .i64 z) ag_2 rfl (H0.blk_at (i := 0) rfl) rfl rfl ?_)
  refine r_cons (s_assign (.int .i64 z) rfl rfl ?_)
  refine r_nil ?_
  refine g_seq ?_
  refine g_region ?_
  refine r_cons (s_move (.int .i64 z) rfl rfl ?_)
  refine r_cons (s_lss false rfl rfl (dfalse (by omega)) rfl ?_)
  refine r_cons (s_move (.bool false) rfl rfl ?_)
  refine r_cons (r_take rfl rfl ?_)
  refine s_move (.int .i64 z) rfl rfl ?_
  refine r_cons (r_take rfl rfl ?_)
  refine s_gtr false rfl rfl (dfalse (by omega)) rfl ?_
  refine r_cons (s_pick_f (.bool false) rfl rfl rfl ?_)
  refine r_nil ?_
  refine g_false rfl ?_
  refine g_skip ?_
  refine g_inBlock ?_
  refine g_region ?_
  refine r_cons (s_add 3 rfl rfl (wi64 (by omega)) rfl ?_)
  refine r_cons (s_move (.int .i64 3) rfl rfl ?_)
  refine r_nil ?_
  refine g_inLoop ?_
  refine g_seq ?_
  refine g_region ?_
  refine r_cons (s_lss false rfl rfl (dfalse (by decide)) rfl ?_)
  refine r_nil ?_
  refine g_seq ?_
  refine g_false rfl ?_
  refine g_exit (by rfl) ?_
  refine g_seq ?_
  refine g_region ?_
  refine r_cons (s_assign (.bool true) rfl rfl ?_)
  refine r_nil ?_
  refine g_ret' [.bool true] Try.func68 Try.results68 ⟨rfl, trivial⟩ ?_
  have H1 : St W w (blk g (.cells #[.int .i64 x, .int .i64 y, .int .i64 z] 2 (0, 0)) :: F) := H0
  exact ⟨rfl, H1⟩
set_option maxHeartbeats 4000000 in
set_option maxRecDepth 100000 in
theorem CheckItem_mark {W w : World} {F : List Atom} (o n e t : Int) (ho : 0 ≤ o ∧ o ≤ 1099511627776) (hn : 0 ≤ n ∧ n ≤ 1099511627776) (he : 0 ≤ e ∧ e ≤ 1099511627776) (ht : 0 ≤ t ∧ t ≤ 1099511627777) (H : St W w F) : Calls Try.prog 63 #[.agg #[.int .i64 o, .int .i64 n, .int .i64 e, .int .i64 2, .slice none 0 0, .int .i64 t]] w (Ret fun v w' => v = .int .i64 0 ∧ St W w' F) := by
  refine calls_of_go (n := 55) Try.func63 rfl Try.ntmps63 rfl ?_
  refine g_seq ?_
  refine g_region ?_
  refine r_cons (s_box H 32 (.agg #[.int .i64 o, .int .i64 n, .int .i64 e, .int .i64 2, .slice none 0 0, .int .i64 t]) rfl (cs := #[.int .i64 o, .int .i64 n, .int .i64 e, .int .i64 2, .slice none 0 0, .int .i64 t]) rfl rfl ?_); intro bk1 w2 H3
  refine r_cons (s_assign (.int .i64 0) rfl rfl ?_)
  refine r_nil ?_
  refine g_seq ?_
  refine g_region ?_
  refine r_cons (s_fieldAddr 32 0 0 0 3 rfl fi_32_0 rfl rfl ?_)
  refine r_cons (s_load (.int .i64 o) ag_3 rfl (H3.blk_at (i := 0) rfl) rfl rfl ?_)
  refine r_cons (s_fieldAddr 32 1 1 1 3 rfl fi_32_1 rfl rfl ?_)
  refine r_cons (s_load (.int .i64 n) ag_3 rfl (H3.blk_at (i := 0) rfl) rfl rfl ?_)
  refine r_cons (s_fieldAddr 32 2 2 2 2 rfl fi_32_2 rfl rfl ?_)
  refine r_cons (s_load (.int .i64 e) ag_2 rfl (H3.blk_at (i := 0) rfl) rfl rfl ?_)
  refine r_cons (s_buildSlice H3 1 3 (cs := #[.int .i64 o, .int .i64 n, .int .i64 e]) #[.int .i64 0] el_174 ze_2 (by decide) (by decide) (by kernel_rfl) rfl ?_); intro bk4 w5 H6
  refine r_cons (s_call [.slice (some ⟨bk4, 0, none⟩) 3 3] pl_68 rfl rfl (time3 bk4 o n e (by omega) (by omega) (by omega) H6) ?_)
  rintro _ w7 ⟨rfl, H8⟩
  refine r_cons (s_assign (.bool true) rfl rfl ?_)
  refine r_nil ?_
  refine g_seq ?_
  refine g_seq ?_
  refine g_region ?_
  refine r_cons (s_fieldAddr 32 3 3 3 3 rfl fi_32_3 rfl rfl ?_)
  refine r_cons (s_load (.int .i64 2) ag_3 rfl (H8.blk_at (i := 1) rfl) rfl rfl ?_)
  refine r_nil ?_
  refine g_block ?_
  refine g_seq ?_
  refine g_region ?_
  refine r_cons (s_eql false rfl rfl (dfalse (by decide)) rfl ?_)
  refine r_cons (s_assign (.bool false) rfl rfl ?_)
  refine r_nil ?_
  refine g_false rfl ?_
  refine g_seq ?_
  refine g_region ?_
  refine r_cons (s_eql true rfl rfl (dtrue (by decide)) rfl ?_)
  refine r_cons (s_assign (.bool true) rfl rfl ?_)
  refine r_nil ?_
  refine g_true rfl ?_
  refine g_region ?_
  refine r_cons (s_move (.bool true) rfl rfl ?_)
  refine r_cons (s_move (.bool true) rfl rfl ?_)
  refine r_cons (r_take rfl rfl ?_)
  refine s_fieldAddr 32 5 5 5 2 rfl fi_32_5 rfl rfl ?_
  refine r_cons (r_take rfl rfl ?_)
  refine s_load (.int .i64 t) ag_2 rfl (H8.blk_at (i := 1) rfl) rfl rfl ?_
  refine r_cons (r_take rfl rfl ?_)
  refine s_geq true rfl rfl (dtrue (by omega)) rfl ?_
  refine r_cons (s_pick_t (.bool true) rfl rfl rfl ?_)
  refine r_cons (s_move (.bool true) rfl rfl ?_)
  refine r_cons (r_take rfl rfl ?_)
  refine s_fieldAddr 32 5 5 5 2 rfl fi_32_5 rfl rfl ?_
  refine r_cons (r_take rfl rfl ?_)
  refine s_load (.int .i64 t) ag_2 rfl (H8.blk_at (i := 1) rfl) rfl rfl ?_
  refine r_cons (r_take rfl rfl ?_)
  refine s_leq true rfl rfl (dtrue (by omega)) rfl ?_
  refine r_cons (s_pick_t (.bool true) rfl rfl rfl ?_)
  refine r_cons (s_assign (.bool true) rfl rfl ?_)
  refine r_nil ?_
  refine g_inBlock ?_
  refine g_seq ?_
  refine g_seq ?_
  refine g_region ?_
  refine r_cons (s_move (.bool true) rfl rfl ?_)
  refine r_cons (s_not true rfl false rfl rfl ?_)
  refine r_cons (s_move (.bool false) rfl rfl ?_)
  refine r_cons (r_take rfl rfl ?_)
  refine s_fieldAddr 32 4 4 4 30 rfl fi_32_4 rfl rfl ?_
  refine r_cons (r_take rfl rfl ?_)
  refine s_fieldAddr 30 0 0 4 28 rfl fi_30_0 rfl rfl ?_
  refine r_cons (r_take rfl rfl ?_)
  refine s_load (.slice none 0 0) ag_28 rfl (H8.blk_at (i := 1) rfl) rfl rfl ?_
  refine r_cons (r_take rfl rfl ?_)
  refine s_len 0 rfl ⟨_, un_28⟩ rfl ?_
  refine r_cons (r_take rfl rfl ?_)
  refine s_gtr false rfl rfl (dfalse (by decide)) rfl ?_
  refine r_cons (s_pick_f (.bool false) rfl rfl rfl ?_)
  refine r_nil ?_
  refine g_false rfl ?_
  refine g_skip ?_
  refine g_seq ?_
  refine g_region ?_
  refine r_cons (s_assign (.int .i64 0) rfl rfl ?_)
  refine r_nil ?_
  refine g_ret' [.int .i64 0] Try.func63 Try.results63 ⟨rfl, trivial⟩ ?_
  have H9 : St W w7 F := ((H8.drop 0 rfl).drop 0 rfl)
  exact ⟨rfl, H9⟩
set_option maxHeartbeats 4000000 in
set_option maxRecDepth 100000 in
theorem CheckItem_end {W w : World} {F : List Atom} (o n e : Int) (ho : 0 ≤ o ∧ o ≤ 1099511627776) (hn : 0 ≤ n ∧ n ≤ 1099511627776) (he : 0 ≤ e ∧ e ≤ 1099511627776) (H : St W w F) : Calls Try.prog 63 #[.agg #[.int .i64 o, .int .i64 n, .int .i64 e, .int .i64 3, .slice none 0 0, .int .i64 0]] w (Ret fun v w' => v = .int .i64 0 ∧ St W w' F) := by
  refine calls_of_go (n := 55) Try.func63 rfl Try.ntmps63 rfl ?_
  refine g_seq ?_
  refine g_region ?_
  refine r_cons (s_box H 32 (.agg #[.int .i64 o, .int .i64 n, .int .i64 e, .int .i64 3, .slice none 0 0, .int .i64 0]) rfl (cs := #[.int .i64 o, .int .i64 n, .int .i64 e, .int .i64 3, .slice none 0 0, .int .i64 0]) rfl rfl ?_); intro bk1 w2 H3
  refine r_cons (s_assign (.int .i64 0) rfl rfl ?_)
  refine r_nil ?_
  refine g_seq ?_
  refine g_region ?_
  refine r_cons (s_fieldAddr 32 0 0 0 3 rfl fi_32_0 rfl rfl ?_)
  refine r_cons (s_load (.int .i64 o) ag_3 rfl (H3.blk_at (i := 0) rfl) rfl rfl ?_)
  refine r_cons (s_fieldAddr 32 1 1 1 3 rfl fi_32_1 rfl rfl ?_)
  refine r_cons (s_load (.int .i64 n) ag_3 rfl (H3.blk_at (i := 0) rfl) rfl rfl ?_)
  refine r_cons (s_fieldAddr 32 2 2 2 2 rfl fi_32_2 rfl rfl ?_)
  refine r_cons (s_load (.int .i64 e) ag_2 rfl (H3.blk_at (i := 0) rfl) rfl rfl ?_)
  refine r_cons (s_buildSlice H3 1 3 (cs := #[.int .i64 o, .int .i64 n, .int .i64 e]) #[.int .i64 0] el_174 ze_2 (by decide) (by decide) (by kernel_rfl) rfl ?_); intro bk4 w5 H6
  refine r_cons (s_call [.slice (some ⟨bk4, 0, none⟩) 3 3] pl_68 rfl rfl (time3 bk4 o n e (by omega) (by omega) (by omega) H6) ?_)
  rintro _ w7 ⟨rfl, H8⟩
  refine r_cons (s_assign (.bool true) rfl rfl ?_)
  refine r_nil ?_
  refine g_seq ?_
  refine g_seq ?_
  refine g_region ?_
  refine r_cons (s_fieldAddr 32 3 3 3 3 rfl fi_32_3 rfl rfl ?_)
  refine r_cons (s_load (.int .i64 3) ag_3 rfl (H8.blk_at (i := 1) rfl) rfl rfl ?_)
  refine r_nil ?_
  refine g_block ?_
  refine g_seq ?_
  refine g_region ?_
  refine r_cons (s_eql false rfl rfl (dfalse (by decide)) rfl ?_)
  refine r_cons (s_assign (.bool false) rfl rfl ?_)
  refine r_nil ?_
  refine g_false rfl ?_
  refine g_seq ?_
  refine g_region ?_
  refine r_cons (s_eql false rfl rfl (dfalse (by decide)) rfl ?_)
  refine r_cons (s_assign (.bool false) rfl rfl ?_)
  refine r_nil ?_
  refine g_false rfl ?_
  refine g_seq ?_
  refine g_region ?_
  refine r_cons (s_eql true rfl rfl (dtrue (by decide)) rfl ?_)
  refine r_cons (s_assign (.bool true) rfl rfl ?_)
  refine r_nil ?_
  refine g_true rfl ?_
  refine g_region ?_
  refine r_cons (s_move (.bool true) rfl rfl ?_)
  refine r_cons (s_move (.bool true) rfl rfl ?_)
  refine r_cons (r_take rfl rfl ?_)
  refine s_fieldAddr 32 5 5 5 2 rfl fi_32_5 rfl rfl ?_
  refine r_cons (r_take rfl rfl ?_)
  refine s_load (.int .i64 0) ag_2 rfl (H8.blk_at (i := 1) rfl) rfl rfl ?_
  refine r_cons (r_take rfl rfl ?_)
  refine s_eql true rfl rfl (dtrue (by decide)) rfl ?_
  refine r_cons (s_pick_t (.bool true) rfl rfl rfl ?_)
  refine r_cons (s_assign (.bool true) rfl rfl ?_)
  refine r_nil ?_
  refine g_inBlock ?_
  refine g_seq ?_
  refine g_seq ?_
  refine g_region ?_
  refine r_cons (s_move (.bool true) rfl rfl ?_)
  refine r_cons (s_not true rfl false rfl rfl ?_)
  refine r_cons (s_move (.bool false) rfl rfl ?_)
  refine r_cons (r_take rfl rfl ?_)
  refine s_fieldAddr 32 4 4 4 30 rfl fi_32_4 rfl rfl ?_
  refine r_cons (r_take rfl rfl ?_)
  refine s_fieldAddr 30 0 0 4 28 rfl fi_30_0 rfl rfl ?_
  refine r_cons (r_take rfl rfl ?_)
  refine s_load (.slice none 0 0) ag_28 rfl (H8.blk_at (i := 1) rfl) rfl rfl ?_
  refine r_cons (r_take rfl rfl ?_)
  refine s_len 0 rfl ⟨_, un_28⟩ rfl ?_
  refine r_cons (r_take rfl rfl ?_)
  refine s_gtr false rfl rfl (dfalse (by decide)) rfl ?_
  refine r_cons (s_pick_f (.bool false) rfl rfl rfl ?_)
  refine r_nil ?_
  refine g_false rfl ?_
  refine g_skip ?_
  refine g_seq ?_
  refine g_region ?_
  refine r_cons (s_assign (.int .i64 0) rfl rfl ?_)
  refine r_nil ?_
  refine g_ret' [.int .i64 0] Try.func63 Try.results63 ⟨rfl, trivial⟩ ?_
  have H9 : St W w7 F := ((H8.drop 0 rfl).drop 0 rfl)
  exact ⟨rfl, H9⟩
set_option maxHeartbeats 4000000 in
set_option maxRecDepth 100000 in
theorem clone_nobounds {W w : World} {F : List Atom}  (H : St W w F) : Calls Try.prog 105 #[.agg #[.slice none 0 0]] w (Ret fun v w' => v = .agg #[.slice none 0 0] ∧ St W w' F) := by
  refine calls_of_go (n := 25) Try.func105 rfl Try.ntmps105 rfl ?_
  refine g_seq ?_
  refine g_region ?_
  refine r_cons (s_box H 30 (.agg #[.slice none 0 0]) rfl (cs := #[.slice none 0 0]) rfl rfl ?_); intro bk1 w2 H3
  refine r_cons (s_alloc H3 30 ze_30 rfl ?_); intro bk4 w5 H6
  refine r_nil ?_
  refine g_seq ?_
  refine g_region ?_
  refine r_cons (s_assign (.slice none 0 0) rfl rfl ?_)
  refine r_nil ?_
  refine g_seq ?_
  refine g_seq ?_
  refine g_region ?_
  refine r_cons (s_fieldAddr 30 0 0 0 28 rfl fi_30_0 rfl rfl ?_)
  refine r_cons (s_load (.slice none 0 0) ag_28 rfl (H6.blk_at (i := 1) rfl) rfl rfl ?_)
  refine r_cons (s_len 0 rfl ⟨_, un_28⟩ rfl ?_)
  refine r_cons (s_move (.int .i64 0) rfl rfl ?_)
  refine r_nil ?_
  refine g_block ?_
  refine g_loop ?_
  refine g_seq ?_
  refine g_region ?_
  refine r_cons (s_lss false rfl rfl (dfalse (by decide)) rfl ?_)
  refine r_nil ?_
  refine g_seq ?_
  refine g_false rfl ?_
  refine g_exit (by rfl) ?_
  refine g_seq ?_
  refine g_region ?_
  refine r_cons (s_move (.slice none 0 0) rfl rfl ?_)
  refine r_cons (s_build (cs := #[.slice none 0 0]) (by kernel_rfl) rfl ?_)
  refine r_cons (s_storeAgg H6 0 #[.slice none 0 0] 1 rfl rfl rfl sz_30 rfl (by simp [Value.oneCell']) (Nat.le_of_ble_eq_true rfl) (fun o h1 h2 => by first | (simp; done) | (simp; omega)) (cs' := #[.slice none 0 0]) rfl ?_); intro w7 H8
  refine r_nil ?_
  refine g_ret' [.agg #[.slice none 0 0]] Try.func105 Try.results105 ⟨(res_cellN rfl ag_30 (H8.blk_at (i := 0) rfl) (Nat.le_of_ble_eq_true rfl) rfl), trivial⟩ ?_
  have H9 : St W w7 F := ((H8.drop 0 rfl).drop 0 rfl)
  exact ⟨rfl, H9⟩
set_option maxHeartbeats 4000000 in
set_option maxRecDepth 100000 in
theorem own_plain {W w : World} {F : List Atom} (o n e k t : Int) (H : St W w F) : Calls Try.prog 64 #[.agg #[.int .i64 o, .int .i64 n, .int .i64 e, .int .i64 k, .slice none 0 0, .int .i64 t]] w (Ret fun v w' => v = .agg #[.int .i64 o, .int .i64 n, .int .i64 e, .int .i64 k, .slice none 0 0, .int .i64 t] ∧ St W w' F) := by
  refine calls_of_go (n := 8) Try.func64 rfl Try.ntmps64 rfl ?_
  refine g_seq ?_
  refine g_region ?_
  refine r_cons (s_box H 32 (.agg #[.int .i64 o, .int .i64 n, .int .i64 e, .int .i64 k, .slice none 0 0, .int .i64 t]) rfl (cs := #[.int .i64 o, .int .i64 n, .int .i64 e, .int .i64 k, .slice none 0 0, .int .i64 t]) rfl rfl ?_); intro bk1 w2 H3
  refine r_cons (s_alloc H3 32 ze_32 rfl ?_); intro bk4 w5 H6
  refine r_nil ?_
  refine g_seq ?_
  refine g_region ?_
  refine r_cons (s_fieldAddr 32 4 4 4 30 rfl fi_32_4 rfl rfl ?_)
  refine r_cons (s_loadAgg [.slice none 0 0] 1 ag_30 rfl (H6.blk_at (i := 1) rfl) (Nat.le_of_ble_eq_true rfl) rfl rfl ?_)
  refine r_cons (s_call [.agg #[.slice none 0 0]] pl_105 rfl rfl (clone_nobounds H6) ?_)
  rintro _ w7 ⟨rfl, H8⟩
  refine r_cons (s_fieldAddr 32 4 4 4 30 rfl fi_32_4 rfl rfl ?_)
  refine r_cons (s_storeAgg H8 1 #[.slice none 0 0] 1 rfl rfl rfl sz_30 rfl (by simp [Value.oneCell']) (Nat.le_of_ble_eq_true rfl) (fun o h1 h2 => by first | (simp; done) | (simp; omega)) (cs' := #[.int .i64 o, .int .i64 n, .int .i64 e, .int .i64 k, .slice none 0 0, .int .i64 t]) rfl ?_); intro w9 H10
  refine r_nil ?_
  refine g_seq ?_
  refine g_region ?_
  refine r_cons (s_loadAgg [.int .i64 o, .int .i64 n, .int .i64 e, .int .i64 k, .slice none 0 0, .int .i64 t] 6 ag_32 rfl (H10.blk_at (i := 1) rfl) (Nat.le_of_ble_eq_true rfl) rfl rfl ?_)
  refine r_cons (s_storeAgg H10 0 #[.int .i64 o, .int .i64 n, .int .i64 e, .int .i64 k, .slice none 0 0, .int .i64 t] 6 rfl rfl rfl sz_32 rfl (by simp [Value.oneCell']) (Nat.le_of_ble_eq_true rfl) (fun o h1 h2 => by first | (simp; done) | (simp; omega)) (cs' := #[.int .i64 o, .int .i64 n, .int .i64 e, .int .i64 k, .slice none 0 0, .int .i64 t]) rfl ?_); intro w11 H12
  refine r_nil ?_
  refine g_ret' [.agg #[.int .i64 o, .int .i64 n, .int .i64 e, .int .i64 k, .slice none 0 0, .int .i64 t]] Try.func64 Try.results64 ⟨(res_cellN rfl ag_32 (H12.blk_at (i := 0) rfl) (Nat.le_of_ble_eq_true rfl) rfl), trivial⟩ ?_
  have H13 : St W w11 F := ((H12.drop 0 rfl).drop 0 rfl)
  exact ⟨rfl, H13⟩
set_option maxHeartbeats 4000000 in
set_option maxRecDepth 100000 in
theorem NewGate_ {W w : World} {F : List Atom}  (H : St W w F) : Calls Try.prog 9 #[] w (Ret fun v w' => ∃ g, v = .pointer (some ⟨g, 0, none⟩) ∧ St W w' (blk g (.cells #[.bool true, .int .i64 0, .slice none 0 0] 80 (0, 0)) :: F)) := by
  refine calls_of_go (n := 3) Try.func9 rfl Try.ntmps9 rfl ?_
  refine g_seq ?_
  refine g_region ?_
  refine r_cons (s_assign (.pointer none) rfl rfl ?_)
  refine r_nil ?_
  refine g_seq ?_
  refine g_region ?_
  refine r_cons (s_build (cs := #[.bool true, .int .i64 0, .slice none 0 0]) (by kernel_rfl) rfl ?_)
  refine r_cons (s_box H 80 (.agg #[.bool true, .int .i64 0, .slice none 0 0]) rfl (cs := #[.bool true, .int .i64 0, .slice none 0 0]) rfl rfl ?_); intro bk1 w2 H3
  refine r_cons (s_assign (.pointer (some ⟨bk1, 0, none⟩)) rfl rfl ?_)
  refine r_nil ?_
  refine g_ret' [.pointer (some ⟨bk1, 0, none⟩)] Try.func9 Try.results9 ⟨rfl, trivial⟩ ?_
  have H4 : St W w2 (blk bk1 (.cells #[.bool true, .int .i64 0, .slice none 0 0] 80 (0, 0)) :: F) := H3
  exact ⟨bk1, rfl, H4⟩
set_option maxHeartbeats 4000000 in
set_option maxRecDepth 100000 in
theorem Gate_none {W w : World} {F : List Atom} (g : Nat) (e : Int) (sv : Value) {i : Nat} (hi : F[i]? = some (blk g (.cells #[.bool true, .int .i64 e, sv] 80 (0, 0)))) (H : St W w F) : Calls Try.prog 62 #[.pointer (some ⟨g, 0, none⟩)] w (Ret fun v w' => v = .bool false ∧ St W w' F) := by
  have H0 := H.front hi
  refine calls_of_go (n := 12) Try.func62 rfl Try.ntmps62 rfl ?_
  refine g_seq ?_
  refine g_region ?_
  refine r_cons (s_assign (.bool false) rfl rfl ?_)
  refine r_nil ?_
  refine g_seq ?_
  refine g_region ?_
  refine r_cons (s_move (.pointer (some ⟨g, 0, none⟩)) rfl rfl ?_)
  refine r_cons (s_peql false un_24 rfl rfl rfl rfl ?_)
  refine r_cons (s_move (.bool false) rfl rfl ?_)
  refine r_cons (r_take rfl rfl ?_)
  refine s_move (.pointer (some ⟨g, 0, none⟩)) rfl rfl ?_
  refine r_cons (r_take rfl rfl ?_)
  refine s_nilCheck (.pointer (some ⟨g, 0, none⟩)) rfl ⟨_, rfl⟩ rfl ?_
  refine r_cons (r_take rfl rfl ?_)
  refine s_fieldAddr 80 0 0 0 4 rfl fi_80_0 rfl rfl ?_
  refine r_cons (r_take rfl rfl ?_)
  refine s_load (.bool true) ag_4 rfl (H0.blk_at (i := 0) rfl) rfl rfl ?_
  refine r_cons (r_take rfl rfl ?_)
  refine s_not true rfl false rfl rfl ?_
  refine r_cons (s_pick_f (.bool false) rfl rfl rfl ?_)
  refine r_cons (s_assign (.bool false) rfl rfl ?_)
  refine r_nil ?_
  refine g_ret' [.bool false] Try.func62 Try.results62 ⟨rfl, trivial⟩ ?_
  have H1 : St W w (blk g (.cells #[.bool true, .int .i64 e, sv] 80 (0, 0)) :: (F.set i emp)) := H0
  exact ⟨rfl, St.back_same hi H1⟩
set_option maxHeartbeats 4000000 in
set_option maxRecDepth 100000 in
theorem Gate_Epoch {W w : World} {F : List Atom} (g : Nat) (e : Int) (sv : Value) {i : Nat} (hi : F[i]? = some (blk g (.cells #[.bool true, .int .i64 e, sv] 80 (0, 0)))) (H : St W w F) : Calls Try.prog 16 #[.pointer (some ⟨g, 0, none⟩)] w (Ret fun v w' => v = .int .i64 e ∧ St W w' F) := by
  have H0 := H.front hi
  refine calls_of_go (n := 9) Try.func16 rfl Try.ntmps16 rfl ?_
  refine g_seq ?_
  refine g_region ?_
  refine r_cons (s_assign (.int .i64 0) rfl rfl ?_)
  refine r_nil ?_
  refine g_seq ?_
  refine g_seq ?_
  refine g_region ?_
  refine r_cons (s_move (.pointer (some ⟨g, 0, none⟩)) rfl rfl ?_)
  refine r_cons (s_call [.pointer (some ⟨g, 0, none⟩)] pl_62 rfl rfl (Gate_none g (e : Int) sv (i := 0) rfl H0) ?_)
  rintro _ w1 ⟨rfl, H2⟩
  refine r_nil ?_
  refine g_false rfl ?_
  refine g_skip ?_
  refine g_seq ?_
  refine g_region ?_
  refine r_cons (s_move (.pointer (some ⟨g, 0, none⟩)) rfl rfl ?_)
  refine r_cons (s_nilCheck (.pointer (some ⟨g, 0, none⟩)) rfl ⟨_, rfl⟩ rfl ?_)
  refine r_cons (s_fieldAddr 80 1 1 1 2 rfl fi_80_1 rfl rfl ?_)
  refine r_cons (s_load (.int .i64 e) ag_2 rfl (H2.blk_at (i := 0) rfl) rfl rfl ?_)
  refine r_cons (s_assign (.int .i64 e) rfl rfl ?_)
  refine r_nil ?_
  refine g_ret' [.int .i64 e] Try.func16 Try.results16 ⟨rfl, trivial⟩ ?_
  have H3 : St W w1 (blk g (.cells #[.bool true, .int .i64 e, sv] 80 (0, 0)) :: (F.set i emp)) := H2
  exact ⟨rfl, St.back_same hi H3⟩
set_option maxHeartbeats 4000000 in
set_option maxRecDepth 100000 in
theorem Take_old {W w : World} {F : List Atom} (g : Nat) (a : Int) (sv : Value) (o n e t : Int) (ho : 0 ≤ o ∧ o ≤ 1099511627776) (hn : 0 ≤ n ∧ n ≤ 1099511627776) (he : 0 ≤ e ∧ e ≤ 1099511627776) (ht : 0 ≤ t ∧ t ≤ 1099511627777) (hlt : e < a) (H : St W w (blk g (.cells #[.bool true, .int .i64 a, sv] 80 (0, 0)) :: F)) : Calls Try.prog 14 #[.pointer (some ⟨g, 0, none⟩), .agg #[.int .i64 o, .int .i64 n, .int .i64 e, .int .i64 2, .slice none 0 0, .int .i64 t]] w (Ret fun v w' => v = .tuple #[.slice none 0 0, .int .i64 240] ∧ St W w' (blk g (.cells #[.bool true, .int .i64 a, sv] 80 (0, 0)) :: F)) := by
  refine calls_of_go (n := 74) Try.func14 rfl Try.ntmps14 rfl ?_
  refine g_seq ?_
  refine g_region ?_
  refine r_cons (s_box H 32 (.agg #[.int .i64 o, .int .i64 n, .int .i64 e, .int .i64 2, .slice none 0 0, .int .i64 t]) rfl (cs := #[.int .i64 o, .int .i64 n, .int .i64 e, .int .i64 2, .slice none 0 0, .int .i64 t]) rfl rfl ?_); intro bk1 w2 H3
  refine r_cons (s_assign (.slice none 0 0) rfl rfl ?_)
  refine r_cons (s_assign (.int .i64 0) rfl rfl ?_)
  refine r_nil ?_
  refine g_seq ?_
  refine g_seq ?_
  refine g_region ?_
  refine r_cons (s_move (.pointer (some ⟨g, 0, none⟩)) rfl rfl ?_)
  refine r_cons (s_call [.pointer (some ⟨g, 0, none⟩)] pl_62 rfl rfl (Gate_none g (a : Int) sv (i := 1) rfl H3) ?_)
  rintro _ w4 ⟨rfl, H5⟩
  refine r_nil ?_
  refine g_false rfl ?_
  refine g_skip ?_
  refine g_seq ?_
  refine g_seq ?_
  refine g_region ?_
  refine r_cons (s_loadAgg [.int .i64 o, .int .i64 n, .int .i64 e, .int .i64 2, .slice none 0 0, .int .i64 t] 6 ag_32 rfl (H5.blk_at (i := 0) rfl) (Nat.le_of_ble_eq_true rfl) rfl rfl ?_)
  refine r_cons (s_call [.agg #[.int .i64 o, .int .i64 n, .int .i64 e, .int .i64 2, .slice none 0 0, .int .i64 t]] pl_63 rfl rfl (CheckItem_mark (o : Int) (n : Int) (e : Int) (t : Int) (by omega) (by omega) (by omega) (by omega) H5) ?_)
  rintro _ w6 ⟨rfl, H7⟩
  refine r_cons (s_assign (.int .i64 0) rfl rfl ?_)
  refine r_nil ?_
  refine g_seq ?_
  refine g_region ?_
  refine r_cons (s_move (.int .i64 0) rfl rfl ?_)
  refine r_cons (s_neq false rfl rfl (ntrue (by decide)) rfl ?_)
  refine r_nil ?_
  refine g_false rfl ?_
  refine g_skip ?_
  refine g_seq ?_
  refine g_block ?_
  refine g_seq ?_
  refine g_quiet (fun w' => St W w' (blk bk1 (.cells #[.int .i64 o, .int .i64 n, .int .i64 e, .int .i64 2, .slice none 0 0, .int .i64 t] 32 (0, 0)) :: blk g (.cells #[.bool true, .int .i64 a, sv] 80 (0, 0)) :: F)) mixed (by kernel_rfl) H7.drew ?_
  refine q_cons (q_val rfl rfl rfl (by intro w hw; exact x_fieldAddr 32 2 2 2 2 rfl fi_32_2 rfl w) ?_)
  refine q_cons (q_val rfl rfl rfl (by intro w hw; exact x_load (.int .i64 e) ag_2 rfl (hw.blk_at (i := 0) rfl) rfl) ?_)
  refine q_cons (q_val rfl rfl rfl (by intro w hw; exact x_move (.pointer (some ⟨g, 0, none⟩)) rfl w) ?_)
  refine q_cons (q_val rfl rfl rfl (by intro w hw; exact x_nilCheck (.pointer (some ⟨g, 0, none⟩)) rfl ⟨_, rfl⟩ w) ?_)
  refine q_cons (q_val rfl rfl rfl (by intro w hw; exact x_fieldAddr 80 1 1 1 2 rfl fi_80_1 rfl w) ?_)
  refine q_cons (q_val rfl rfl rfl (by intro w hw; exact x_load (.int .i64 a) ag_2 rfl (hw.blk_at (i := 1) rfl) rfl) ?_)
  refine q_cons (q_val rfl rfl rfl (by intro w hw; exact x_lss true rfl rfl (dtrue hlt) w) ?_)
  refine q_cons (q_val rfl rfl rfl (by intro w hw; exact x_assign (.bool true) rfl w) ?_)
  refine q_nil ?_
  intro w8 H9
  refine g_true rfl ?_
  refine g_seq ?_
  refine g_region ?_
  refine r_cons (s_assign (.slice none 0 0) rfl rfl ?_)
  refine r_cons (s_assign (.int .i64 240) rfl rfl ?_)
  refine r_nil ?_
  refine g_ret' [.slice none 0 0, .int .i64 240] Try.func14 Try.results14 ⟨rfl, rfl, trivial⟩ ?_
  have H10 : St W w8 (blk g (.cells #[.bool true, .int .i64 a, sv] 80 (0, 0)) :: F) := ((H9.move 1 rfl).drop 1 rfl)
  exact ⟨rfl, H10⟩
set_option maxHeartbeats 4000000 in
set_option maxRecDepth 100000 in
theorem Take_wait {W w : World} {F : List Atom} (g : Nat) (a : Int) (o n e t : Int) (ho : 0 ≤ o ∧ o ≤ 1099511627776) (hn : 0 ≤ n ∧ n ≤ 1099511627776) (he : 0 ≤ e ∧ e ≤ 1099511627776) (ht : 0 ≤ t ∧ t ≤ 1099511627777) (hlt : a < e) (H : St W w (blk g (.cells #[.bool true, .int .i64 a, .slice none 0 0] 80 (0, 0)) :: F)) : Calls Try.prog 14 #[.pointer (some ⟨g, 0, none⟩), .agg #[.int .i64 o, .int .i64 n, .int .i64 e, .int .i64 2, .slice none 0 0, .int .i64 t]] w (Ret fun v w' => v = .tuple #[.slice none 0 0, .int .i64 0] ∧ ∃ p c, St W w' (blk g (.cells #[.bool true, .int .i64 a, .slice p 1 c] 80 (0, 0)) :: Row 32 6 (.slice p 1 c) 1 [.int .i64 o, .int .i64 n, .int .i64 e, .int .i64 2, .slice none 0 0, .int .i64 t] :: F)) := by
  refine calls_of_go (n := 74) Try.func14 rfl Try.ntmps14 rfl ?_
  refine g_seq ?_
  refine g_region ?_
  refine r_cons (s_box H 32 (.agg #[.int .i64 o, .int .i64 n, .int .i64 e, .int .i64 2, .slice none 0 0, .int .i64 t]) rfl (cs := #[.int .i64 o, .int .i64 n, .int .i64 e, .int .i64 2, .slice none 0 0, .int .i64 t]) rfl rfl ?_); intro bk1 w2 H3
  refine r_cons (s_assign (.slice none 0 0) rfl rfl ?_)
  refine r_cons (s_assign (.int .i64 0) rfl rfl ?_)
  refine r_nil ?_
  refine g_seq ?_
  refine g_seq ?_
  refine g_region ?_
  refine r_cons (s_move (.pointer (some ⟨g, 0, none⟩)) rfl rfl ?_)
  refine r_cons (s_call [.pointer (some ⟨g, 0, none⟩)] pl_62 rfl rfl (Gate_none g (a : Int) (.slice none 0 0) (i := 1) rfl H3) ?_)
  rintro _ w4 ⟨rfl, H5⟩
  refine r_nil ?_
  refine g_false rfl ?_
  refine g_skip ?_
  refine g_seq ?_
  refine g_seq ?_
  refine g_region ?_
  refine r_cons (s_loadAgg [.int .i64 o, .int .i64 n, .int .i64 e, .int .i64 2, .slice none 0 0, .int .i64 t] 6 ag_32 rfl (H5.blk_at (i := 0) rfl) (Nat.le_of_ble_eq_true rfl) rfl rfl ?_)
  refine r_cons (s_call [.agg #[.int .i64 o, .int .i64 n, .int .i64 e, .int .i64 2, .slice none 0 0, .int .i64 t]] pl_63 rfl rfl (CheckItem_mark (o : Int) (n : Int) (e : Int) (t : Int) (by omega) (by omega) (by omega) (by omega) H5) ?_)
  rintro _ w6 ⟨rfl, H7⟩
  refine r_cons (s_assign (.int .i64 0) rfl rfl ?_)
  refine r_nil ?_
  refine g_seq ?_
  refine g_region ?_
  refine r_cons (s_move (.int .i64 0) rfl rfl ?_)
  refine r_cons (s_neq false rfl rfl (ntrue (by decide)) rfl ?_)
  refine r_nil ?_
  refine g_false rfl ?_
  refine g_skip ?_
  refine g_seq ?_
  refine g_block ?_
  refine g_seq ?_
  refine g_quiet (fun w' => St W w' (blk bk1 (.cells #[.int .i64 o, .int .i64 n, .int .i64 e, .int .i64 2, .slice none 0 0, .int .i64 t] 32 (0, 0)) :: blk g (.cells #[.bool true, .int .i64 a, .slice none 0 0] 80 (0, 0)) :: F)) mixed (by kernel_rfl) H7.drew ?_
  refine q_cons (q_val rfl rfl rfl (by intro w hw; exact x_fieldAddr 32 2 2 2 2 rfl fi_32_2 rfl w) ?_)
  refine q_cons (q_val rfl rfl rfl (by intro w hw; exact x_load (.int .i64 e) ag_2 rfl (hw.blk_at (i := 0) rfl) rfl) ?_)
  refine q_cons (q_val rfl rfl rfl (by intro w hw; exact x_move (.pointer (some ⟨g, 0, none⟩)) rfl w) ?_)
  refine q_cons (q_val rfl rfl rfl (by intro w hw; exact x_nilCheck (.pointer (some ⟨g, 0, none⟩)) rfl ⟨_, rfl⟩ w) ?_)
  refine q_cons (q_val rfl rfl rfl (by intro w hw; exact x_fieldAddr 80 1 1 1 2 rfl fi_80_1 rfl w) ?_)
  refine q_cons (q_val rfl rfl rfl (by intro w hw; exact x_load (.int .i64 a) ag_2 rfl (hw.blk_at (i := 1) rfl) rfl) ?_)
  refine q_cons (q_val rfl rfl rfl (by intro w hw; exact x_lss false rfl rfl (dfalse (by omega)) w) ?_)
  refine q_cons (q_val rfl rfl rfl (by intro w hw; exact x_assign (.bool false) rfl w) ?_)
  refine q_nil ?_
  intro w8 H9
  refine g_false rfl ?_
  refine g_seq ?_
  refine g_quiet (fun w' => St W w' (blk bk1 (.cells #[.int .i64 o, .int .i64 n, .int .i64 e, .int .i64 2, .slice none 0 0, .int .i64 t] 32 (0, 0)) :: blk g (.cells #[.bool true, .int .i64 a, .slice none 0 0] 80 (0, 0)) :: F)) mixed (by kernel_rfl) H9.drew ?_
  refine q_cons (q_val rfl rfl rfl (by intro w hw; exact x_fieldAddr 32 2 2 2 2 rfl fi_32_2 rfl w) ?_)
  refine q_cons (q_val rfl rfl rfl (by intro w hw; exact x_load (.int .i64 e) ag_2 rfl (hw.blk_at (i := 0) rfl) rfl) ?_)
  refine q_cons (q_val rfl rfl rfl (by intro w hw; exact x_move (.pointer (some ⟨g, 0, none⟩)) rfl w) ?_)
  refine q_cons (q_val rfl rfl rfl (by intro w hw; exact x_nilCheck (.pointer (some ⟨g, 0, none⟩)) rfl ⟨_, rfl⟩ w) ?_)
  refine q_cons (q_val rfl rfl rfl (by intro w hw; exact x_fieldAddr 80 1 1 1 2 rfl fi_80_1 rfl w) ?_)
  refine q_cons (q_val rfl rfl rfl (by intro w hw; exact x_load (.int .i64 a) ag_2 rfl (hw.blk_at (i := 1) rfl) rfl) ?_)
  refine q_cons (q_val rfl rfl rfl (by intro w hw; exact x_gtr true rfl rfl (dtrue (by omega)) w) ?_)
  refine q_cons (q_val rfl rfl rfl (by intro w hw; exact x_assign (.bool true) rfl w) ?_)
  refine q_nil ?_
  intro w10 H11
  refine g_true rfl ?_
  refine g_seq ?_
  refine g_seq ?_
  refine g_region ?_
  refine r_cons (s_move (.pointer (some ⟨g, 0, none⟩)) rfl rfl ?_)
  refine r_cons (s_nilCheck (.pointer (some ⟨g, 0, none⟩)) rfl ⟨_, rfl⟩ rfl ?_)
  refine r_cons (s_fieldAddr 80 2 2 2 22 rfl fi_80_2 rfl rfl ?_)
  refine r_cons (s_load (.slice none 0 0) ag_22 rfl (H11.blk_at (i := 1) rfl) rfl rfl ?_)
  refine r_cons (s_len 0 rfl ⟨_, un_22⟩ rfl ?_)
  refine r_cons (s_geq false rfl rfl (dfalse (by decide)) rfl ?_)
  refine r_nil ?_
  refine g_false rfl ?_
  refine g_skip ?_
  refine g_seq ?_
  refine g_cut (fun (x : Option Addr × Nat × Nat) => match x with | (pp22, cc23, bk14) => [(0, .pointer (some ⟨g, 0, none⟩)), (4, .slice none 0 0), (5, .int .i64 0)]) (fun (x : Option Addr × Nat × Nat) w => match x with | (pp22, cc23, bk14) => St W w (Row 32 6 (.slice pp22 1 cc23) 1 [.int .i64 o, .int .i64 n, .int .i64 e, .int .i64 2, .slice none 0 0, .int .i64 t] :: blk bk14 (.cells #[.int .i64 o, .int .i64 n, .int .i64 e, .int .i64 2, .slice none 0 0, .int .i64 t] 32 (0, 0)) :: blk bk1 (.cells #[.int .i64 o, .int .i64 n, .int .i64 e, .int .i64 2, .slice none 0 0, .int .i64 t] 32 (0, 0)) :: blk g (.cells #[.bool true, .int .i64 a, .slice pp22 1 cc23] 80 (0, 0)) :: F)) ?_ ?_
  · rintro ⟨pp22, cc23, bk14⟩ ρ15 w13 H14
    change Ends _ _ (upds ρ15 [(0, .pointer (some ⟨g, 0, none⟩)), (4, .slice none 0 0), (5, .int .i64 0)]) w13
    refine g_seq ?_
    refine g_region ?_
    refine r_cons (s_assign (.slice none 0 0) rfl rfl ?_)
    refine r_cons (s_assign (.int .i64 0) rfl rfl ?_)
    refine r_nil ?_
    refine g_ret' [.slice none 0 0, .int .i64 0] Try.func14 Try.results14 ⟨rfl, rfl, trivial⟩ ?_
    have H16 : St W w13 (blk g (.cells #[.bool true, .int .i64 a, .slice pp22 1 cc23] 80 (0, 0)) :: Row 32 6 (.slice pp22 1 cc23) 1 [.int .i64 o, .int .i64 n, .int .i64 e, .int .i64 2, .slice none 0 0, .int .i64 t] :: F) := (((H14.move 3 rfl).drop 2 rfl).drop 2 rfl)
    exact ⟨rfl, _, _, H16⟩
  · intro join12
    refine g_any mixed 12 rfl ?_
    intro w17 hw18
    have H19 := H11.drew
    rw [← hw18] at H19
    clear hw18
    refine a_take 0 (listed' := #[true, false, false, false, false, false, false, false, false, false, false, false]) rfl (by kernel_rfl) (by kernel_rfl) (by kernel_rfl) rfl rfl rfl rfl (fun w => x_move (.pointer (some ⟨g, 0, none⟩)) rfl w) ?_
    refine a_take 1 (listed' := #[true, true, false, false, false, false, false, false, false, false, false, false]) rfl (by kernel_rfl) (by kernel_rfl) (by kernel_rfl) rfl rfl rfl rfl (fun w => x_move (.pointer (some ⟨g, 0, none⟩)) rfl w) ?_
    refine a_take 2 (listed' := #[true, true, true, false, false, false, false, false, false, false, false, false]) rfl (by kernel_rfl) (by kernel_rfl) (by kernel_rfl) rfl rfl rfl rfl (fun w => x_nilCheck (.pointer (some ⟨g, 0, none⟩)) rfl ⟨_, rfl⟩ w) ?_
    refine a_take 3 (listed' := #[true, true, true, true, false, false, false, false, false, false, false, false]) rfl (by kernel_rfl) (by kernel_rfl) (by kernel_rfl) rfl rfl rfl rfl (fun w => x_fieldAddr 80 2 2 2 22 rfl fi_80_2 rfl w) ?_
    refine a_all (rs := [4, 5]) (by kernel_rfl) (by simp) ?_
    refine a_cons ⟨_, rfl, ?_⟩ (a_cons ⟨_, rfl, ?_⟩ (fun x hx => absurd hx (by simp)))
    · skip
      refine s_load (.slice none 0 0) ag_22 rfl (H19.blk_at (i := 1) rfl) rfl rfl ?_
      change AnyG _ _ _ _ #[true, true, true, true, true, false, false, false, false, false, false, false] _ _
      refine a_all (rs := [5]) (by kernel_rfl) (by simp) ?_
      refine a_cons ⟨_, rfl, ?_⟩ (fun x hx => absurd hx (by simp))
      refine s_loadAgg [.int .i64 o, .int .i64 n, .int .i64 e, .int .i64 2, .slice none 0 0, .int .i64 t] 6 ag_32 rfl (H19.blk_at (i := 0) rfl) (Nat.le_of_ble_eq_true rfl) rfl rfl ?_
      change AnyG _ _ _ _ #[true, true, true, true, true, true, false, false, false, false, false, false] _ _
      refine a_all (rs := [6]) (by kernel_rfl) (by simp) ?_
      refine a_cons ⟨_, rfl, ?_⟩ (fun x hx => absurd hx (by simp))
      refine s_call [.agg #[.int .i64 o, .int .i64 n, .int .i64 e, .int .i64 2, .slice none 0 0, .int .i64 t]] pl_64 rfl rfl (own_plain (o : Int) (n : Int) (e : Int) (2 : Int) (t : Int) H19) ?_
      rintro _ w20 ⟨rfl, H21⟩
      change AnyG _ _ _ _ #[true, true, true, true, true, true, true, false, false, false, false, false] _ _
      refine a_all (rs := [7]) (by kernel_rfl) (by simp) ?_
      refine a_cons ⟨_, rfl, ?_⟩ (fun x hx => absurd hx (by simp))
      refine s_buildSlice H21 6 1 (cs := #[.int .i64 o, .int .i64 n, .int .i64 e, .int .i64 2, .slice none 0 0, .int .i64 t]) #[.int .i64 0, .int .i64 0, .int .i64 0, .int .i64 0, .slice none 0 0, .int .i64 0] el_22 ze_32 (by decide) (by decide) (by kernel_rfl) rfl ?_; intro bk22 w23 H24
      change AnyG _ _ _ _ #[true, true, true, true, true, true, true, true, false, false, false, false] _ _
      refine a_all (rs := [8]) (by kernel_rfl) (by simp) ?_
      refine a_cons ⟨_, rfl, ?_⟩ (fun x hx => absurd hx (by simp))
      have H25 := Row.nil_intro H24 32 6
      refine s_append H25 0 rfl rfl rfl (rd_blk (H25.blk_at (i := 1) rfl) rfl (Nat.le_of_ble_eq_true rfl) (by simp [Value.oneCell'])) ap_22 (by decide) (by unfold maxLen; omega) (by omega) (n' := 1) (xs' := [.int .i64 o, .int .i64 n, .int .i64 e, .int .i64 2, .slice none 0 0, .int .i64 t]) (by omega) (by first | rfl | simp) rfl ?_; intro vv26 w27 H28 hn29
      obtain ⟨pp30, cc31, rfl⟩ := Row.slice H28 (i := 0) rfl
      change AnyG _ _ _ _ #[true, true, true, true, true, true, true, true, true, false, false, false] _ _
      refine a_take 9 (listed' := #[true, true, true, true, true, true, true, true, true, true, false, false]) rfl (by kernel_rfl) (by kernel_rfl) (by kernel_rfl) rfl rfl rfl rfl (fun w => x_nilCheck (.pointer (some ⟨g, 0, none⟩)) rfl ⟨_, rfl⟩ w) ?_
      refine a_take 10 (listed' := #[true, true, true, true, true, true, true, true, true, true, true, false]) rfl (by kernel_rfl) (by kernel_rfl) (by kernel_rfl) rfl rfl rfl rfl (fun w => x_fieldAddr 80 2 2 2 22 rfl fi_80_2 rfl w) ?_
      refine a_all (rs := [11]) (by kernel_rfl) (by simp) ?_
      refine a_cons ⟨_, rfl, ?_⟩ (fun x hx => absurd hx (by simp))
      refine s_store H28 3 (.slice pp30 1 cc31) rfl rfl rfl sz_22 rfl (Nat.le_of_ble_eq_true rfl) rfl (cs' := #[.bool true, .int .i64 a, .slice pp30 1 cc31]) rfl ?_; intro w32 H33
      change AnyG _ _ _ _ #[true, true, true, true, true, true, true, true, true, true, true, true] _ _
      refine a_done (by kernel_rfl) ?_
      exact join12 (pp30, cc31, bk22) _ _ H33 ⟨rfl, rfl, rfl, trivial⟩
    · skip
      refine s_loadAgg [.int .i64 o, .int .i64 n, .int .i64 e, .int .i64 2, .slice none 0 0, .int .i64 t] 6 ag_32 rfl (H19.blk_at (i := 0) rfl) (Nat.le_of_ble_eq_true rfl) rfl rfl ?_
      change AnyG _ _ _ _ #[true, true, true, true, false, true, false, false, false, false, false, false] _ _
      refine a_all (rs := [4, 6]) (by kernel_rfl) (by simp) ?_
      refine a_cons ⟨_, rfl, ?_⟩ (a_cons ⟨_, rfl, ?_⟩ (fun x hx => absurd hx (by simp)))
      · skip
        refine s_load (.slice none 0 0) ag_22 rfl (H19.blk_at (i := 1) rfl) rfl rfl ?_
        change AnyG _ _ _ _ #[true, true, true, true, true, true, false, false, false, false, false, false] _ _
        refine a_all (rs := [6]) (by kernel_rfl) (by simp) ?_
        refine a_cons ⟨_, rfl, ?_⟩ (fun x hx => absurd hx (by simp))
        refine s_call [.agg #[.int .i64 o, .int .i64 n, .int .i64 e, .int .i64 2, .slice none 0 0, .int .i64 t]] pl_64 rfl rfl (own_plain (o : Int) (n : Int) (e : Int) (2 : Int) (t : Int) H19) ?_
        rintro _ w34 ⟨rfl, H35⟩
        change AnyG _ _ _ _ #[true, true, true, true, true, true, true, false, false, false, false, false] _ _
        refine a_all (rs := [7]) (by kernel_rfl) (by simp) ?_
        refine a_cons ⟨_, rfl, ?_⟩ (fun x hx => absurd hx (by simp))
        refine s_buildSlice H35 6 1 (cs := #[.int .i64 o, .int .i64 n, .int .i64 e, .int .i64 2, .slice none 0 0, .int .i64 t]) #[.int .i64 0, .int .i64 0, .int .i64 0, .int .i64 0, .slice none 0 0, .int .i64 0] el_22 ze_32 (by decide) (by decide) (by kernel_rfl) rfl ?_; intro bk36 w37 H38
        change AnyG _ _ _ _ #[true, true, true, true, true, true, true, true, false, false, false, false] _ _
        refine a_all (rs := [8]) (by kernel_rfl) (by simp) ?_
        refine a_cons ⟨_, rfl, ?_⟩ (fun x hx => absurd hx (by simp))
        have H39 := Row.nil_intro H38 32 6
        refine s_append H39 0 rfl rfl rfl (rd_blk (H39.blk_at (i := 1) rfl) rfl (Nat.le_of_ble_eq_true rfl) (by simp [Value.oneCell'])) ap_22 (by decide) (by unfold maxLen; omega) (by omega) (n' := 1) (xs' := [.int .i64 o, .int .i64 n, .int .i64 e, .int .i64 2, .slice none 0 0, .int .i64 t]) (by omega) (by first | rfl | simp) rfl ?_; intro vv40 w41 H42 hn43
        obtain ⟨pp44, cc45, rfl⟩ := Row.slice H42 (i := 0) rfl
        change AnyG _ _ _ _ #[true, true, true, true, true, true, true, true, true, false, false, false] _ _
        refine a_take 9 (listed' := #[true, true, true, true, true, true, true, true, true, true, false, false]) rfl (by kernel_rfl) (by kernel_rfl) (by kernel_rfl) rfl rfl rfl rfl (fun w => x_nilCheck (.pointer (some ⟨g, 0, none⟩)) rfl ⟨_, rfl⟩ w) ?_
        refine a_take 10 (listed' := #[true, true, true, true, true, true, true, true, true, true, true, false]) rfl (by kernel_rfl) (by kernel_rfl) (by kernel_rfl) rfl rfl rfl rfl (fun w => x_fieldAddr 80 2 2 2 22 rfl fi_80_2 rfl w) ?_
        refine a_all (rs := [11]) (by kernel_rfl) (by simp) ?_
        refine a_cons ⟨_, rfl, ?_⟩ (fun x hx => absurd hx (by simp))
        refine s_store H42 3 (.slice pp44 1 cc45) rfl rfl rfl sz_22 rfl (Nat.le_of_ble_eq_true rfl) rfl (cs' := #[.bool true, .int .i64 a, .slice pp44 1 cc45]) rfl ?_; intro w46 H47
        change AnyG _ _ _ _ #[true, true, true, true, true, true, true, true, true, true, true, true] _ _
        refine a_done (by kernel_rfl) ?_
        exact join12 (pp44, cc45, bk36) _ _ H47 ⟨rfl, rfl, rfl, trivial⟩
      · skip
        refine s_call [.agg #[.int .i64 o, .int .i64 n, .int .i64 e, .int .i64 2, .slice none 0 0, .int .i64 t]] pl_64 rfl rfl (own_plain (o : Int) (n : Int) (e : Int) (2 : Int) (t : Int) H19) ?_
        rintro _ w48 ⟨rfl, H49⟩
        change AnyG _ _ _ _ #[true, true, true, true, false, true, true, false, false, false, false, false] _ _
        refine a_all (rs := [4, 7]) (by kernel_rfl) (by simp) ?_
        refine a_cons ⟨_, rfl, ?_⟩ (a_cons ⟨_, rfl, ?_⟩ (fun x hx => absurd hx (by simp)))
        · skip
          refine s_load (.slice none 0 0) ag_22 rfl (H49.blk_at (i := 1) rfl) rfl rfl ?_
          change AnyG _ _ _ _ #[true, true, true, true, true, true, true, false, false, false, false, false] _ _
          refine a_all (rs := [7]) (by kernel_rfl) (by simp) ?_
          refine a_cons ⟨_, rfl, ?_⟩ (fun x hx => absurd hx (by simp))
          refine s_buildSlice H49 6 1 (cs := #[.int .i64 o, .int .i64 n, .int .i64 e, .int .i64 2, .slice none 0 0, .int .i64 t]) #[.int .i64 0, .int .i64 0, .int .i64 0, .int .i64 0, .slice none 0 0, .int .i64 0] el_22 ze_32 (by decide) (by decide) (by kernel_rfl) rfl ?_; intro bk50 w51 H52
          change AnyG _ _ _ _ #[true, true, true, true, true, true, true, true, false, false, false, false] _ _
          refine a_all (rs := [8]) (by kernel_rfl) (by simp) ?_
          refine a_cons ⟨_, rfl, ?_⟩ (fun x hx => absurd hx (by simp))
          have H53 := Row.nil_intro H52 32 6
          refine s_append H53 0 rfl rfl rfl (rd_blk (H53.blk_at (i := 1) rfl) rfl (Nat.le_of_ble_eq_true rfl) (by simp [Value.oneCell'])) ap_22 (by decide) (by unfold maxLen; omega) (by omega) (n' := 1) (xs' := [.int .i64 o, .int .i64 n, .int .i64 e, .int .i64 2, .slice none 0 0, .int .i64 t]) (by omega) (by first | rfl | simp) rfl ?_; intro vv54 w55 H56 hn57
          obtain ⟨pp58, cc59, rfl⟩ := Row.slice H56 (i := 0) rfl
          change AnyG _ _ _ _ #[true, true, true, true, true, true, true, true, true, false, false, false] _ _
          refine a_take 9 (listed' := #[true, true, true, true, true, true, true, true, true, true, false, false]) rfl (by kernel_rfl) (by kernel_rfl) (by kernel_rfl) rfl rfl rfl rfl (fun w => x_nilCheck (.pointer (some ⟨g, 0, none⟩)) rfl ⟨_, rfl⟩ w) ?_
          refine a_take 10 (listed' := #[true, true, true, true, true, true, true, true, true, true, true, false]) rfl (by kernel_rfl) (by kernel_rfl) (by kernel_rfl) rfl rfl rfl rfl (fun w => x_fieldAddr 80 2 2 2 22 rfl fi_80_2 rfl w) ?_
          refine a_all (rs := [11]) (by kernel_rfl) (by simp) ?_
          refine a_cons ⟨_, rfl, ?_⟩ (fun x hx => absurd hx (by simp))
          refine s_store H56 3 (.slice pp58 1 cc59) rfl rfl rfl sz_22 rfl (Nat.le_of_ble_eq_true rfl) rfl (cs' := #[.bool true, .int .i64 a, .slice pp58 1 cc59]) rfl ?_; intro w60 H61
          change AnyG _ _ _ _ #[true, true, true, true, true, true, true, true, true, true, true, true] _ _
          refine a_done (by kernel_rfl) ?_
          exact join12 (pp58, cc59, bk50) _ _ H61 ⟨rfl, rfl, rfl, trivial⟩
        · skip
          refine s_buildSlice H49 6 1 (cs := #[.int .i64 o, .int .i64 n, .int .i64 e, .int .i64 2, .slice none 0 0, .int .i64 t]) #[.int .i64 0, .int .i64 0, .int .i64 0, .int .i64 0, .slice none 0 0, .int .i64 0] el_22 ze_32 (by decide) (by decide) (by kernel_rfl) rfl ?_; intro bk62 w63 H64
          change AnyG _ _ _ _ #[true, true, true, true, false, true, true, true, false, false, false, false] _ _
          refine a_all (rs := [4]) (by kernel_rfl) (by simp) ?_
          refine a_cons ⟨_, rfl, ?_⟩ (fun x hx => absurd hx (by simp))
          refine s_load (.slice none 0 0) ag_22 rfl (H64.blk_at (i := 2) rfl) rfl rfl ?_
          change AnyG _ _ _ _ #[true, true, true, true, true, true, true, true, false, false, false, false] _ _
          refine a_all (rs := [8]) (by kernel_rfl) (by simp) ?_
          refine a_cons ⟨_, rfl, ?_⟩ (fun x hx => absurd hx (by simp))
          have H65 := Row.nil_intro H64 32 6
          refine s_append H65 0 rfl rfl rfl (rd_blk (H65.blk_at (i := 1) rfl) rfl (Nat.le_of_ble_eq_true rfl) (by simp [Value.oneCell'])) ap_22 (by decide) (by unfold maxLen; omega) (by omega) (n' := 1) (xs' := [.int .i64 o, .int .i64 n, .int .i64 e, .int .i64 2, .slice none 0 0, .int .i64 t]) (by omega) (by first | rfl | simp) rfl ?_; intro vv66 w67 H68 hn69
          obtain ⟨pp70, cc71, rfl⟩ := Row.slice H68 (i := 0) rfl
          change AnyG _ _ _ _ #[true, true, true, true, true, true, true, true, true, false, false, false] _ _
          refine a_take 9 (listed' := #[true, true, true, true, true, true, true, true, true, true, false, false]) rfl (by kernel_rfl) (by kernel_rfl) (by kernel_rfl) rfl rfl rfl rfl (fun w => x_nilCheck (.pointer (some ⟨g, 0, none⟩)) rfl ⟨_, rfl⟩ w) ?_
          refine a_take 10 (listed' := #[true, true, true, true, true, true, true, true, true, true, true, false]) rfl (by kernel_rfl) (by kernel_rfl) (by kernel_rfl) rfl rfl rfl rfl (fun w => x_fieldAddr 80 2 2 2 22 rfl fi_80_2 rfl w) ?_
          refine a_all (rs := [11]) (by kernel_rfl) (by simp) ?_
          refine a_cons ⟨_, rfl, ?_⟩ (fun x hx => absurd hx (by simp))
          refine s_store H68 3 (.slice pp70 1 cc71) rfl rfl rfl sz_22 rfl (Nat.le_of_ble_eq_true rfl) rfl (cs' := #[.bool true, .int .i64 a, .slice pp70 1 cc71]) rfl ?_; intro w72 H73
          change AnyG _ _ _ _ #[true, true, true, true, true, true, true, true, true, true, true, true] _ _
          refine a_done (by kernel_rfl) ?_
          exact join12 (pp70, cc71, bk62) _ _ H73 ⟨rfl, rfl, rfl, trivial⟩
set_option maxHeartbeats 4000000 in
set_option maxRecDepth 100000 in
theorem Take_now {W w : World} {F : List Atom} (g : Nat) (a : Int) (sv : Value) (o n e t : Int) (ho : 0 ≤ o ∧ o ≤ 1099511627776) (hn : 0 ≤ n ∧ n ≤ 1099511627776) (he : 0 ≤ e ∧ e ≤ 1099511627776) (ht : 0 ≤ t ∧ t ≤ 1099511627777) (hea : e = a) (H : St W w (blk g (.cells #[.bool true, .int .i64 a, sv] 80 (0, 0)) :: F)) : Calls Try.prog 14 #[.pointer (some ⟨g, 0, none⟩), .agg #[.int .i64 o, .int .i64 n, .int .i64 e, .int .i64 2, .slice none 0 0, .int .i64 t]] w (Ret fun v w' => ∃ p c, v = .tuple #[.slice p 1 c, .int .i64 0] ∧ St W w' (Row 32 6 (.slice p 1 c) 1 [.int .i64 o, .int .i64 n, .int .i64 e, .int .i64 2, .slice none 0 0, .int .i64 t] :: blk g (.cells #[.bool true, .int .i64 a, sv] 80 (0, 0)) :: F)) := by
  refine calls_of_go (n := 74) Try.func14 rfl Try.ntmps14 rfl ?_
  refine g_seq ?_
  refine g_region ?_
  refine r_cons (s_box H 32 (.agg #[.int .i64 o, .int .i64 n, .int .i64 e, .int .i64 2, .slice none 0 0, .int .i64 t]) rfl (cs := #[.int .i64 o, .int .i64 n, .int .i64 e, .int .i64 2, .slice none 0 0, .int .i64 t]) rfl rfl ?_); intro bk1 w2 H3
  refine r_cons (s_assign (.slice none 0 0) rfl rfl ?_)
  refine r_cons (s_assign (.int .i64 0) rfl rfl ?_)
  refine r_nil ?_
  refine g_seq ?_
  refine g_seq ?_
  refine g_region ?_
  refine r_cons (s_move (.pointer (some ⟨g, 0, none⟩)) rfl rfl ?_)
  refine r_cons (s_call [.pointer (some ⟨g, 0, none⟩)] pl_62 rfl rfl (Gate_none g (a : Int) sv (i := 1) rfl H3) ?_)
  rintro _ w4 ⟨rfl, H5⟩
  refine r_nil ?_
  refine g_false rfl ?_
  refine g_skip ?_
  refine g_seq ?_
  refine g_seq ?_
  refine g_region ?_
  refine r_cons (s_loadAgg [.int .i64 o, .int .i64 n, .int .i64 e, .int .i64 2, .slice none 0 0, .int .i64 t] 6 ag_32 rfl (H5.blk_at (i := 0) rfl) (Nat.le_of_ble_eq_true rfl) rfl rfl ?_)
  refine r_cons (s_call [.agg #[.int .i64 o, .int .i64 n, .int .i64 e, .int .i64 2, .slice none 0 0, .int .i64 t]] pl_63 rfl rfl (CheckItem_mark (o : Int) (n : Int) (e : Int) (t : Int) (by omega) (by omega) (by omega) (by omega) H5) ?_)
  rintro _ w6 ⟨rfl, H7⟩
  refine r_cons (s_assign (.int .i64 0) rfl rfl ?_)
  refine r_nil ?_
  refine g_seq ?_
  refine g_region ?_
  refine r_cons (s_move (.int .i64 0) rfl rfl ?_)
  refine r_cons (s_neq false rfl rfl (ntrue (by decide)) rfl ?_)
  refine r_nil ?_
  refine g_false rfl ?_
  refine g_skip ?_
  refine g_seq ?_
  refine g_block ?_
  refine g_seq ?_
  refine g_quiet (fun w' => St W w' (blk bk1 (.cells #[.int .i64 o, .int .i64 n, .int .i64 e, .int .i64 2, .slice none 0 0, .int .i64 t] 32 (0, 0)) :: blk g (.cells #[.bool true, .int .i64 a, sv] 80 (0, 0)) :: F)) mixed (by kernel_rfl) H7.drew ?_
  refine q_cons (q_val rfl rfl rfl (by intro w hw; exact x_fieldAddr 32 2 2 2 2 rfl fi_32_2 rfl w) ?_)
  refine q_cons (q_val rfl rfl rfl (by intro w hw; exact x_load (.int .i64 e) ag_2 rfl (hw.blk_at (i := 0) rfl) rfl) ?_)
  refine q_cons (q_val rfl rfl rfl (by intro w hw; exact x_move (.pointer (some ⟨g, 0, none⟩)) rfl w) ?_)
  refine q_cons (q_val rfl rfl rfl (by intro w hw; exact x_nilCheck (.pointer (some ⟨g, 0, none⟩)) rfl ⟨_, rfl⟩ w) ?_)
  refine q_cons (q_val rfl rfl rfl (by intro w hw; exact x_fieldAddr 80 1 1 1 2 rfl fi_80_1 rfl w) ?_)
  refine q_cons (q_val rfl rfl rfl (by intro w hw; exact x_load (.int .i64 a) ag_2 rfl (hw.blk_at (i := 1) rfl) rfl) ?_)
  refine q_cons (q_val rfl rfl rfl (by intro w hw; exact x_lss false rfl rfl (dfalse (by omega)) w) ?_)
  refine q_cons (q_val rfl rfl rfl (by intro w hw; exact x_assign (.bool false) rfl w) ?_)
  refine q_nil ?_
  intro w8 H9
  refine g_false rfl ?_
  refine g_seq ?_
  refine g_quiet (fun w' => St W w' (blk bk1 (.cells #[.int .i64 o, .int .i64 n, .int .i64 e, .int .i64 2, .slice none 0 0, .int .i64 t] 32 (0, 0)) :: blk g (.cells #[.bool true, .int .i64 a, sv] 80 (0, 0)) :: F)) mixed (by kernel_rfl) H9.drew ?_
  refine q_cons (q_val rfl rfl rfl (by intro w hw; exact x_fieldAddr 32 2 2 2 2 rfl fi_32_2 rfl w) ?_)
  refine q_cons (q_val rfl rfl rfl (by intro w hw; exact x_load (.int .i64 e) ag_2 rfl (hw.blk_at (i := 0) rfl) rfl) ?_)
  refine q_cons (q_val rfl rfl rfl (by intro w hw; exact x_move (.pointer (some ⟨g, 0, none⟩)) rfl w) ?_)
  refine q_cons (q_val rfl rfl rfl (by intro w hw; exact x_nilCheck (.pointer (some ⟨g, 0, none⟩)) rfl ⟨_, rfl⟩ w) ?_)
  refine q_cons (q_val rfl rfl rfl (by intro w hw; exact x_fieldAddr 80 1 1 1 2 rfl fi_80_1 rfl w) ?_)
  refine q_cons (q_val rfl rfl rfl (by intro w hw; exact x_load (.int .i64 a) ag_2 rfl (hw.blk_at (i := 1) rfl) rfl) ?_)
  refine q_cons (q_val rfl rfl rfl (by intro w hw; exact x_gtr false rfl rfl (dfalse (by omega)) w) ?_)
  refine q_cons (q_val rfl rfl rfl (by intro w hw; exact x_assign (.bool false) rfl w) ?_)
  refine q_nil ?_
  intro w10 H11
  refine g_false rfl ?_
  refine g_seq ?_
  refine g_region ?_
  refine r_cons (s_fieldAddr 32 3 3 3 3 rfl fi_32_3 rfl rfl ?_)
  refine r_cons (s_load (.int .i64 2) ag_3 rfl (H11.blk_at (i := 0) rfl) rfl rfl ?_)
  refine r_cons (s_neq true rfl rfl (nfalse (by decide)) rfl ?_)
  refine r_cons (s_assign (.bool true) rfl rfl ?_)
  refine r_nil ?_
  refine g_true rfl ?_
  refine g_seq ?_
  refine g_region ?_
  refine r_cons (s_loadAgg [.int .i64 o, .int .i64 n, .int .i64 e, .int .i64 2, .slice none 0 0, .int .i64 t] 6 ag_32 rfl (H11.blk_at (i := 0) rfl) (Nat.le_of_ble_eq_true rfl) rfl rfl ?_)
  refine r_cons (s_call [.agg #[.int .i64 o, .int .i64 n, .int .i64 e, .int .i64 2, .slice none 0 0, .int .i64 t]] pl_64 rfl rfl (own_plain (o : Int) (n : Int) (e : Int) (2 : Int) (t : Int) H11) ?_)
  rintro _ w12 ⟨rfl, H13⟩
  refine r_cons (s_buildSlice H13 6 1 (cs := #[.int .i64 o, .int .i64 n, .int .i64 e, .int .i64 2, .slice none 0 0, .int .i64 t]) #[.int .i64 0, .int .i64 0, .int .i64 0, .int .i64 0, .slice none 0 0, .int .i64 0] el_22 ze_32 (by decide) (by decide) (by kernel_rfl) rfl ?_); intro bk14 w15 H16
  refine r_cons (s_assign (.slice (some ⟨bk14, 0, none⟩) 1 1) rfl rfl ?_)
  refine r_cons (s_assign (.int .i64 0) rfl rfl ?_)
  refine r_nil ?_
  refine g_ret' [.slice (some ⟨bk14, 0, none⟩) 1 1, .int .i64 0] Try.func14 Try.results14 ⟨rfl, rfl, trivial⟩ ?_
  have H17 : St W w15 (Row 32 6 (.slice (some ⟨bk14, 0, none⟩) 1 1) 1 [.int .i64 o, .int .i64 n, .int .i64 e, .int .i64 2, .slice none 0 0, .int .i64 t] :: blk bk1 (.cells #[.int .i64 o, .int .i64 n, .int .i64 e, .int .i64 2, .slice none 0 0, .int .i64 t] 32 (0, 0)) :: blk g (.cells #[.bool true, .int .i64 a, sv] 80 (0, 0)) :: F) := Row.of_blk (n := 1) (size := 6) H16 (i := 0) rfl (by unfold maxLen; omega) rfl (by simp [Value.oneCell'])
  have H18 : St W w15 (Row 32 6 (.slice (some ⟨bk14, 0, none⟩) 1 1) 1 [.int .i64 o, .int .i64 n, .int .i64 e, .int .i64 2, .slice none 0 0, .int .i64 t] :: blk g (.cells #[.bool true, .int .i64 a, sv] 80 (0, 0)) :: F) := (((H17.move 2 rfl).move 1 rfl).drop 2 rfl)
  exact ⟨_, _, rfl, H18⟩
set_option maxHeartbeats 4000000 in
set_option maxRecDepth 100000 in
theorem turn_1 {W w : World} {F : List Atom} (g : Nat) (p : Option Addr) (c : Nat) (H : St W w (blk g (.cells #[.bool true, .int .i64 1, .slice p 1 c] 80 (0, 0)) :: Row 32 6 (.slice p 1 c) 1 [.int .i64 1, .int .i64 0, .int .i64 1, .int .i64 2, .slice none 0 0, .int .i64 9] :: F)) : Calls Try.prog 65 #[.pointer (some ⟨g, 0, none⟩)] w (Ret fun v w' => ∃ q d, v = .tuple #[.slice q 1 d, .bool false] ∧ St W w' (Row 32 6 (.slice q 1 d) 1 [.int .i64 1, .int .i64 0, .int .i64 1, .int .i64 2, .slice none 0 0, .int .i64 9] :: blk g (.cells #[.bool true, .int .i64 1, .slice none 0 0] 80 (0, 0)) :: F)) := by
  refine calls_of_go (n := 47) Try.func65 rfl Try.ntmps65 rfl ?_
  refine g_seq ?_
  refine g_region ?_
  refine r_cons (s_assign (.slice none 0 0) rfl rfl ?_)
  refine r_cons (s_assign (.bool false) rfl rfl ?_)
  refine r_nil ?_
  refine g_seq ?_
  refine g_region ?_
  refine r_cons (s_assign (.slice none 0 0) rfl rfl ?_)
  refine r_cons (s_assign (.slice none 0 0) rfl rfl ?_)
  refine r_nil ?_
  refine g_seq ?_
  refine g_region ?_
  refine r_cons (s_assign (.bool false) rfl rfl ?_)
  refine r_nil ?_
  refine g_seq ?_
  refine g_seq ?_
  refine g_region ?_
  refine r_cons (s_move (.pointer (some ⟨g, 0, none⟩)) rfl rfl ?_)
  refine r_cons (s_nilCheck (.pointer (some ⟨g, 0, none⟩)) rfl ⟨_, rfl⟩ rfl ?_)
  refine r_cons (s_fieldAddr 80 2 2 2 22 rfl fi_80_2 rfl rfl ?_)
  refine r_cons (s_load (.slice p 1 c) ag_22 rfl (H.blk_at (i := 0) rfl) rfl rfl ?_)
  refine r_cons (s_len 1 rfl ⟨_, un_22⟩ rfl ?_)
  refine r_cons (s_move (.int .i64 0) rfl rfl ?_)
  refine r_nil ?_
  refine g_block ?_
  refine g_loop ?_
  refine g_seq ?_
  refine g_region ?_
  refine r_cons (s_lss true rfl rfl (dtrue (by decide)) rfl ?_)
  refine r_nil ?_
  refine g_seq ?_
  refine g_true rfl ?_
  refine g_skip ?_
  refine g_seq ?_
  refine g_block ?_
  refine g_seq ?_
  refine g_region ?_
  obtain ⟨bk1, cur2, hp3, h4, h5, h6, h7, h8, H9⟩ := Row.open2 H (i := 1) rfl (by omega)
  refine r_cons (s_indexAddr bk1 (off := 0) 0 6 (0 + 0 * 6) (by exact congrArg (fun z_ => Value.slice z_ 1 c) ((fun (_ : 0 < 1) => hp3) (by omega))) rfl el_22 (by omega) rfl rfl ?_)
  refine r_cons (s_loadAgg [.int .i64 1, .int .i64 0, .int .i64 1, .int .i64 2, .slice none 0 0, .int .i64 9] 6 ag_32 rfl (H9.blk_at (i := 1) rfl) (by omega) (by exact h7) rfl ?_)
  refine r_cons (s_alloc H9 32 ze_32 rfl ?_); intro bk10 w11 H12
  refine r_cons (s_storeAgg H12 0 #[.int .i64 1, .int .i64 0, .int .i64 1, .int .i64 2, .slice none 0 0, .int .i64 9] 6 rfl rfl rfl sz_32 rfl (by simp [Value.oneCell']) (Nat.le_of_ble_eq_true rfl) (fun o h1 h2 => by first | (simp; done) | (simp; omega)) (cs' := #[.int .i64 1, .int .i64 0, .int .i64 1, .int .i64 2, .slice none 0 0, .int .i64 9]) rfl ?_); intro w13 H14
  refine r_nil ?_
  refine g_block ?_
  refine g_seq ?_
  refine g_quiet (fun w' => St W w' (blk bk10 (.cells #[.int .i64 1, .int .i64 0, .int .i64 1, .int .i64 2, .slice none 0 0, .int .i64 9] 32 (0, 0)) :: blk g (.cells #[.bool true, .int .i64 1, .slice p 1 c] 80 (0, 0)) :: blk bk1 (.cells cur2 32 (0, 0)) :: F)) mixed (by kernel_rfl) H14.drew ?_
  refine q_cons (q_val rfl rfl rfl (by intro w hw; exact x_fieldAddr 32 2 2 2 2 rfl fi_32_2 rfl w) ?_)
  refine q_cons (q_val rfl rfl rfl (by intro w hw; exact x_load (.int .i64 1) ag_2 rfl (hw.blk_at (i := 0) rfl) rfl) ?_)
  refine q_cons (q_val rfl rfl rfl (by intro w hw; exact x_move (.pointer (some ⟨g, 0, none⟩)) rfl w) ?_)
  refine q_cons (q_val rfl rfl rfl (by intro w hw; exact x_nilCheck (.pointer (some ⟨g, 0, none⟩)) rfl ⟨_, rfl⟩ w) ?_)
  refine q_cons (q_val rfl rfl rfl (by intro w hw; exact x_fieldAddr 80 1 1 1 2 rfl fi_80_1 rfl w) ?_)
  refine q_cons (q_val rfl rfl rfl (by intro w hw; exact x_load (.int .i64 1) ag_2 rfl (hw.blk_at (i := 1) rfl) rfl) ?_)
  refine q_cons (q_val rfl rfl rfl (by intro w hw; exact x_neq false rfl rfl (ntrue (by decide)) w) ?_)
  refine q_cons (q_val rfl rfl rfl (by intro w hw; exact x_assign (.bool false) rfl w) ?_)
  refine q_nil ?_
  intro w15 H16
  refine g_false rfl ?_
  refine g_seq ?_
  refine g_region ?_
  refine r_cons (s_move (.bool false) rfl rfl ?_)
  refine r_cons (s_assign (.bool false) rfl rfl ?_)
  refine r_nil ?_
  refine g_false rfl ?_
  refine g_seq ?_
  refine g_region ?_
  refine r_cons (s_fieldAddr 32 3 3 3 3 rfl fi_32_3 rfl rfl ?_)
  refine r_cons (s_load (.int .i64 2) ag_3 rfl (H16.blk_at (i := 0) rfl) rfl rfl ?_)
  refine r_cons (s_eql false rfl rfl (dfalse (by decide)) rfl ?_)
  refine r_cons (s_assign (.bool false) rfl rfl ?_)
  refine r_nil ?_
  refine g_false rfl ?_
  refine g_region ?_
  refine r_cons (s_move (.slice none 0 0) rfl rfl ?_)
  refine r_cons (s_loadAgg [.int .i64 1, .int .i64 0, .int .i64 1, .int .i64 2, .slice none 0 0, .int .i64 9] 6 ag_32 rfl (H16.blk_at (i := 0) rfl) (Nat.le_of_ble_eq_true rfl) rfl rfl ?_)
  refine r_cons (s_buildSlice H16 6 1 (cs := #[.int .i64 1, .int .i64 0, .int .i64 1, .int .i64 2, .slice none 0 0, .int .i64 9]) #[.int .i64 0, .int .i64 0, .int .i64 0, .int .i64 0, .slice none 0 0, .int .i64 0] el_22 ze_32 (by decide) (by decide) (by kernel_rfl) rfl ?_); intro bk17 w18 H19
  have H20 := Row.nil_intro H19 32 6
  refine r_cons (s_append H20 0 rfl rfl rfl (rd_blk (H20.blk_at (i := 1) rfl) rfl (Nat.le_of_ble_eq_true rfl) (by simp [Value.oneCell'])) ap_22 (by decide) (by unfold maxLen; omega) (by omega) (n' := 1) (xs' := [.int .i64 1, .int .i64 0, .int .i64 1, .int .i64 2, .slice none 0 0, .int .i64 9]) (by omega) (by first | rfl | simp) rfl ?_); intro vv21 w22 H23 hn24
  obtain ⟨pp25, cc26, rfl⟩ := Row.slice H23 (i := 0) rfl
  refine r_cons (s_assign (.slice pp25 1 cc26) rfl rfl ?_)
  refine r_nil ?_
  refine g_inBlock ?_
  refine g_inBlock ?_
  refine g_region ?_
  refine r_cons (s_add 1 rfl rfl (wi64 (by omega)) rfl ?_)
  refine r_cons (s_move (.int .i64 1) rfl rfl ?_)
  refine r_nil ?_
  refine g_inLoop ?_
  refine g_seq ?_
  refine g_region ?_
  refine r_cons (s_lss false rfl rfl (dfalse (by decide)) rfl ?_)
  refine r_nil ?_
  refine g_seq ?_
  refine g_false rfl ?_
  refine g_exit (by rfl) ?_
  refine g_seq ?_
  refine g_region ?_
  refine r_cons (s_move (.pointer (some ⟨g, 0, none⟩)) rfl rfl ?_)
  refine r_cons (s_move (.slice none 0 0) rfl rfl ?_)
  refine r_cons (s_nilCheck (.pointer (some ⟨g, 0, none⟩)) rfl ⟨_, rfl⟩ rfl ?_)
  refine r_cons (s_fieldAddr 80 2 2 2 22 rfl fi_80_2 rfl rfl ?_)
  refine r_cons (s_store H23 3 (.slice none 0 0) rfl rfl rfl sz_22 rfl (Nat.le_of_ble_eq_true rfl) rfl (cs' := #[.bool true, .int .i64 1, .slice none 0 0]) rfl ?_); intro w27 H28
  refine r_nil ?_
  refine g_seq ?_
  refine g_region ?_
  refine r_cons (s_move (.slice pp25 1 cc26) rfl rfl ?_)
  refine r_cons (s_move (.bool false) rfl rfl ?_)
  refine r_cons (s_assign (.slice pp25 1 cc26) rfl rfl ?_)
  refine r_cons (s_assign (.bool false) rfl rfl ?_)
  refine r_nil ?_
  refine g_ret' [.slice pp25 1 cc26, .bool false] Try.func65 Try.results65 ⟨rfl, rfl, trivial⟩ ?_
  have H29 : St W w27 (Row 32 6 (.slice pp25 1 cc26) 1 [.int .i64 1, .int .i64 0, .int .i64 1, .int .i64 2, .slice none 0 0, .int .i64 9] :: blk g (.cells #[.bool true, .int .i64 1, .slice none 0 0] 80 (0, 0)) :: F) := (((((H28.move 3 rfl).move 1 rfl).drop 2 rfl).drop 2 rfl).drop 2 rfl)
  exact ⟨_, _, rfl, H29⟩
set_option maxHeartbeats 4000000 in
set_option maxRecDepth 100000 in
theorem Take_end {W w : World} {F : List Atom} (g : Nat) (p : Option Addr) (c : Nat) (H : St W w (blk g (.cells #[.bool true, .int .i64 0, .slice p 1 c] 80 (0, 0)) :: Row 32 6 (.slice p 1 c) 1 [.int .i64 1, .int .i64 0, .int .i64 1, .int .i64 2, .slice none 0 0, .int .i64 9] :: F)) : Calls Try.prog 14 #[.pointer (some ⟨g, 0, none⟩), .agg #[.int .i64 1, .int .i64 0, .int .i64 0, .int .i64 3, .slice none 0 0, .int .i64 0]] w (Ret fun v w' => ∃ q d, v = .tuple #[.slice q 1 d, .int .i64 0] ∧ St W w' (Row 32 6 (.slice q 1 d) 1 [.int .i64 1, .int .i64 0, .int .i64 1, .int .i64 2, .slice none 0 0, .int .i64 9] :: blk g (.cells #[.bool true, .int .i64 1, .slice none 0 0] 80 (0, 0)) :: F)) := by
  refine calls_of_go (n := 74) Try.func14 rfl Try.ntmps14 rfl ?_
  refine g_seq ?_
  refine g_region ?_
  refine r_cons (s_box H 32 (.agg #[.int .i64 1, .int .i64 0, .int .i64 0, .int .i64 3, .slice none 0 0, .int .i64 0]) rfl (cs := #[.int .i64 1, .int .i64 0, .int .i64 0, .int .i64 3, .slice none 0 0, .int .i64 0]) rfl rfl ?_); intro bk1 w2 H3
  refine r_cons (s_assign (.slice none 0 0) rfl rfl ?_)
  refine r_cons (s_assign (.int .i64 0) rfl rfl ?_)
  refine r_nil ?_
  refine g_seq ?_
  refine g_seq ?_
  refine g_region ?_
  refine r_cons (s_move (.pointer (some ⟨g, 0, none⟩)) rfl rfl ?_)
  refine r_cons (s_call [.pointer (some ⟨g, 0, none⟩)] pl_62 rfl rfl (Gate_none g (0 : Int) (.slice p 1 c) (i := 1) rfl H3) ?_)
  rintro _ w4 ⟨rfl, H5⟩
  refine r_nil ?_
  refine g_false rfl ?_
  refine g_skip ?_
  refine g_seq ?_
  refine g_seq ?_
  refine g_region ?_
  refine r_cons (s_loadAgg [.int .i64 1, .int .i64 0, .int .i64 0, .int .i64 3, .slice none 0 0, .int .i64 0] 6 ag_32 rfl (H5.blk_at (i := 0) rfl) (Nat.le_of_ble_eq_true rfl) rfl rfl ?_)
  refine r_cons (s_call [.agg #[.int .i64 1, .int .i64 0, .int .i64 0, .int .i64 3, .slice none 0 0, .int .i64 0]] pl_63 rfl rfl (CheckItem_end (1 : Int) (0 : Int) (0 : Int) (by omega) (by omega) (by omega) H5) ?_)
  rintro _ w6 ⟨rfl, H7⟩
  refine r_cons (s_assign (.int .i64 0) rfl rfl ?_)
  refine r_nil ?_
  refine g_seq ?_
  refine g_region ?_
  refine r_cons (s_move (.int .i64 0) rfl rfl ?_)
  refine r_cons (s_neq false rfl rfl (ntrue (by decide)) rfl ?_)
  refine r_nil ?_
  refine g_false rfl ?_
  refine g_skip ?_
  refine g_seq ?_
  refine g_block ?_
  refine g_seq ?_
  refine g_quiet (fun w' => St W w' (blk bk1 (.cells #[.int .i64 1, .int .i64 0, .int .i64 0, .int .i64 3, .slice none 0 0, .int .i64 0] 32 (0, 0)) :: blk g (.cells #[.bool true, .int .i64 0, .slice p 1 c] 80 (0, 0)) :: Row 32 6 (.slice p 1 c) 1 [.int .i64 1, .int .i64 0, .int .i64 1, .int .i64 2, .slice none 0 0, .int .i64 9] :: F)) mixed (by kernel_rfl) H7.drew ?_
  refine q_cons (q_val rfl rfl rfl (by intro w hw; exact x_fieldAddr 32 2 2 2 2 rfl fi_32_2 rfl w) ?_)
  refine q_cons (q_val rfl rfl rfl (by intro w hw; exact x_load (.int .i64 0) ag_2 rfl (hw.blk_at (i := 0) rfl) rfl) ?_)
  refine q_cons (q_val rfl rfl rfl (by intro w hw; exact x_move (.pointer (some ⟨g, 0, none⟩)) rfl w) ?_)
  refine q_cons (q_val rfl rfl rfl (by intro w hw; exact x_nilCheck (.pointer (some ⟨g, 0, none⟩)) rfl ⟨_, rfl⟩ w) ?_)
  refine q_cons (q_val rfl rfl rfl (by intro w hw; exact x_fieldAddr 80 1 1 1 2 rfl fi_80_1 rfl w) ?_)
  refine q_cons (q_val rfl rfl rfl (by intro w hw; exact x_load (.int .i64 0) ag_2 rfl (hw.blk_at (i := 1) rfl) rfl) ?_)
  refine q_cons (q_val rfl rfl rfl (by intro w hw; exact x_lss false rfl rfl (dfalse (by decide)) w) ?_)
  refine q_cons (q_val rfl rfl rfl (by intro w hw; exact x_assign (.bool false) rfl w) ?_)
  refine q_nil ?_
  intro w8 H9
  refine g_false rfl ?_
  refine g_seq ?_
  refine g_quiet (fun w' => St W w' (blk bk1 (.cells #[.int .i64 1, .int .i64 0, .int .i64 0, .int .i64 3, .slice none 0 0, .int .i64 0] 32 (0, 0)) :: blk g (.cells #[.bool true, .int .i64 0, .slice p 1 c] 80 (0, 0)) :: Row 32 6 (.slice p 1 c) 1 [.int .i64 1, .int .i64 0, .int .i64 1, .int .i64 2, .slice none 0 0, .int .i64 9] :: F)) mixed (by kernel_rfl) H9.drew ?_
  refine q_cons (q_val rfl rfl rfl (by intro w hw; exact x_fieldAddr 32 2 2 2 2 rfl fi_32_2 rfl w) ?_)
  refine q_cons (q_val rfl rfl rfl (by intro w hw; exact x_load (.int .i64 0) ag_2 rfl (hw.blk_at (i := 0) rfl) rfl) ?_)
  refine q_cons (q_val rfl rfl rfl (by intro w hw; exact x_move (.pointer (some ⟨g, 0, none⟩)) rfl w) ?_)
  refine q_cons (q_val rfl rfl rfl (by intro w hw; exact x_nilCheck (.pointer (some ⟨g, 0, none⟩)) rfl ⟨_, rfl⟩ w) ?_)
  refine q_cons (q_val rfl rfl rfl (by intro w hw; exact x_fieldAddr 80 1 1 1 2 rfl fi_80_1 rfl w) ?_)
  refine q_cons (q_val rfl rfl rfl (by intro w hw; exact x_load (.int .i64 0) ag_2 rfl (hw.blk_at (i := 1) rfl) rfl) ?_)
  refine q_cons (q_val rfl rfl rfl (by intro w hw; exact x_gtr false rfl rfl (dfalse (by decide)) w) ?_)
  refine q_cons (q_val rfl rfl rfl (by intro w hw; exact x_assign (.bool false) rfl w) ?_)
  refine q_nil ?_
  intro w10 H11
  refine g_false rfl ?_
  refine g_seq ?_
  refine g_region ?_
  refine r_cons (s_fieldAddr 32 3 3 3 3 rfl fi_32_3 rfl rfl ?_)
  refine r_cons (s_load (.int .i64 3) ag_3 rfl (H11.blk_at (i := 0) rfl) rfl rfl ?_)
  refine r_cons (s_neq false rfl rfl (ntrue (by decide)) rfl ?_)
  refine r_cons (s_assign (.bool false) rfl rfl ?_)
  refine r_nil ?_
  refine g_false rfl ?_
  refine g_skip ?_
  refine g_inBlock ?_
  refine g_seq ?_
  refine g_region ?_
  refine r_cons (s_assign (.slice none 0 0) rfl rfl ?_)
  refine r_nil ?_
  refine g_seq ?_
  refine g_seq ?_
  refine g_region ?_
  refine r_cons (s_assign (.bool true) rfl rfl ?_)
  refine r_nil ?_
  refine g_block ?_
  refine g_loop ?_
  refine g_seq ?_
  refine g_seq ?_
  refine g_region ?_
  refine r_cons (s_move (.bool true) rfl rfl ?_)
  refine r_nil ?_
  refine g_true rfl ?_
  refine g_skip ?_
  refine g_block ?_
  refine g_seq ?_
  refine g_region ?_
  refine r_cons (s_move (.pointer (some ⟨g, 0, none⟩)) rfl rfl ?_)
  refine r_cons (s_nilCheck (.pointer (some ⟨g, 0, none⟩)) rfl ⟨_, rfl⟩ rfl ?_)
  refine r_cons (s_fieldAddr 80 1 1 1 2 rfl fi_80_1 rfl rfl ?_)
  refine r_cons (s_load (.int .i64 0) ag_2 rfl (H11.blk_at (i := 1) rfl) rfl rfl ?_)
  refine r_cons (s_add 1 rfl rfl (wi64 (by omega)) rfl ?_)
  refine r_cons (s_nilCheck (.pointer (some ⟨g, 0, none⟩)) rfl ⟨_, rfl⟩ rfl ?_)
  refine r_cons (s_fieldAddr 80 1 1 1 2 rfl fi_80_1 rfl rfl ?_)
  refine r_cons (s_store H11 1 (.int .i64 1) rfl rfl rfl sz_2 rfl (Nat.le_of_ble_eq_true rfl) rfl (cs' := #[.bool true, .int .i64 1, .slice p 1 c]) rfl ?_); intro w12 H13
  refine r_nil ?_
  refine g_seq ?_
  refine g_region ?_
  refine r_cons (s_assign (.slice none 0 0) rfl rfl ?_)
  refine r_nil ?_
  refine g_seq ?_
  refine g_region ?_
  refine r_cons (s_move (.pointer (some ⟨g, 0, none⟩)) rfl rfl ?_)
  have H14 : St W w12 (blk g (.cells #[.bool true, .int .i64 1, .slice p 1 c] 80 (0, 0)) :: Row 32 6 (.slice p 1 c) 1 [.int .i64 1, .int .i64 0, .int .i64 1, .int .i64 2, .slice none 0 0, .int .i64 9] :: blk bk1 (.cells #[.int .i64 1, .int .i64 0, .int .i64 0, .int .i64 3, .slice none 0 0, .int .i64 0] 32 (0, 0)) :: F) := ((H13.move 2 rfl).move 2 rfl)
  refine r_cons (s_call [.pointer (some ⟨g, 0, none⟩)] pl_65 rfl rfl (turn_1 g p c H14) ?_)
  rintro _ w17 ⟨pp15, cc16, rfl, H18⟩
  refine r_cons (s_move (.tuple #[.slice pp15 1 cc16, .bool false]) rfl rfl ?_)
  refine r_cons (s_extract (.slice pp15 1 cc16) #[.slice pp15 1 cc16, .bool false] rfl rfl rfl ?_)
  refine r_cons (s_extract (.bool false) #[.slice pp15 1 cc16, .bool false] rfl rfl rfl ?_)
  refine r_cons (s_assign (.slice pp15 1 cc16) rfl rfl ?_)
  refine r_cons (s_assign (.bool false) rfl rfl ?_)
  refine r_nil ?_
  refine g_region ?_
  refine r_cons (s_move (.slice none 0 0) rfl rfl ?_)
  refine r_cons (s_move (.slice pp15 1 cc16) rfl rfl ?_)
  have H19 := Row.nil_intro H18 32 6
  refine r_cons (s_append H19 0 rfl rfl rfl (Row.rd H19 (i := 1) rfl) ap_22 (by decide) (by unfold maxLen; omega) (by omega) (n' := 1) (xs' := [.int .i64 1, .int .i64 0, .int .i64 1, .int .i64 2, .slice none 0 0, .int .i64 9]) (by omega) (by first | rfl | simp) rfl ?_); intro vv20 w21 H22 hn23
  obtain ⟨pp24, cc25, rfl⟩ := Row.slice H22 (i := 0) rfl
  refine r_cons (s_assign (.slice pp24 1 cc25) rfl rfl ?_)
  refine r_nil ?_
  refine g_inBlock ?_
  refine g_inLoop ?_
  refine g_seq ?_
  refine g_seq ?_
  refine g_region ?_
  refine r_cons (s_move (.bool false) rfl rfl ?_)
  refine r_nil ?_
  refine g_false rfl ?_
  refine g_exit (by rfl) ?_
  refine g_seq ?_
  refine g_region ?_
  refine r_cons (s_move (.slice pp24 1 cc25) rfl rfl ?_)
  refine r_cons (s_assign (.slice pp24 1 cc25) rfl rfl ?_)
  refine r_cons (s_assign (.int .i64 0) rfl rfl ?_)
  refine r_nil ?_
  refine g_ret' [.slice pp24 1 cc25, .int .i64 0] Try.func14 Try.results14 ⟨rfl, rfl, trivial⟩ ?_
  have H26 : St W w21 (Row 32 6 (.slice pp24 1 cc25) 1 [.int .i64 1, .int .i64 0, .int .i64 1, .int .i64 2, .slice none 0 0, .int .i64 9] :: blk g (.cells #[.bool true, .int .i64 1, .slice none 0 0] 80 (0, 0)) :: F) := ((((H22.move 2 rfl).move 1 rfl).drop 2 rfl).drop 2 rfl)
  exact ⟨_, _, rfl, H26⟩
set_option maxHeartbeats 4000000 in
set_option maxRecDepth 100000 in
theorem begun_mark {W w : World} {F : List Atom} (e t : Int) (H : St W w F) : Calls Try.prog 59 #[.int .i64 e, .int .i64 t] w (Ret fun v w' => v = .agg #[.int .i64 1, .int .i64 0, .int .i64 e, .int .i64 2, .slice none 0 0, .int .i64 t] ∧ St W w' F) := by
  refine calls_of_go (n := 8) Try.func59 rfl Try.ntmps59 rfl ?_
  refine g_seq ?_
  refine g_region ?_
  refine r_cons (s_alloc H 32 ze_32 rfl ?_); intro bk1 w2 H3
  refine r_nil ?_
  refine g_seq ?_
  refine g_region ?_
  refine r_cons (s_move (.int .i64 e) rfl rfl ?_)
  refine r_cons (s_move (.int .i64 t) rfl rfl ?_)
  refine r_cons (s_build (cs := #[.int .i64 1, .int .i64 0, .int .i64 e, .int .i64 2, .slice none 0 0, .int .i64 t]) (by kernel_rfl) rfl ?_)
  refine r_cons (s_storeAgg H3 0 #[.int .i64 1, .int .i64 0, .int .i64 e, .int .i64 2, .slice none 0 0, .int .i64 t] 6 rfl rfl rfl sz_32 rfl (by simp [Value.oneCell']) (Nat.le_of_ble_eq_true rfl) (fun o h1 h2 => by first | (simp; done) | (simp; omega)) (cs' := #[.int .i64 1, .int .i64 0, .int .i64 e, .int .i64 2, .slice none 0 0, .int .i64 t]) rfl ?_); intro w4 H5
  refine r_nil ?_
  refine g_ret' [.agg #[.int .i64 1, .int .i64 0, .int .i64 e, .int .i64 2, .slice none 0 0, .int .i64 t]] Try.func59 Try.results59 ⟨(res_cellN rfl ag_32 (H5.blk_at (i := 0) rfl) (Nat.le_of_ble_eq_true rfl) rfl), trivial⟩ ?_
  have H6 : St W w4 F := (H5.drop 0 rfl)
  exact ⟨rfl, H6⟩
set_option maxHeartbeats 4000000 in
set_option maxRecDepth 100000 in
theorem begun_ {W w : World} {F : List Atom}  (H : St W w F) : Calls Try.prog 10 #[] w (Ret fun v w' => v = .bool true ∧ St W w' F) := by
  refine calls_of_go (n := 82) Try.func10 rfl Try.ntmps10 rfl ?_
  refine g_seq ?_
  refine g_region ?_
  refine r_cons (s_assign (.bool false) rfl rfl ?_)
  refine r_nil ?_
  refine g_seq ?_
  refine g_region ?_
  refine r_cons (s_call [] pl_9 rfl rfl (NewGate_ H) ?_)
  rintro _ w2 ⟨bk1, rfl, H3⟩
  refine r_cons (s_assign (.pointer (some ⟨bk1, 0, none⟩)) rfl rfl ?_)
  refine r_nil ?_
  refine g_seq ?_
  refine g_seq ?_
  refine g_region ?_
  refine r_cons (s_move (.pointer (some ⟨bk1, 0, none⟩)) rfl rfl ?_)
  refine r_cons (s_peql false un_24 rfl rfl rfl rfl ?_)
  refine r_nil ?_
  refine g_false rfl ?_
  refine g_skip ?_
  refine g_seq ?_
  refine g_region ?_
  refine r_cons (s_assign (.func (.func 59) #[] #[]) rfl rfl ?_)
  refine r_nil ?_
  refine g_seq ?_
  refine g_region ?_
  refine r_cons (s_move (.pointer (some ⟨bk1, 0, none⟩)) rfl rfl ?_)
  refine r_cons (s_move (.func (.func 59) #[] #[]) rfl rfl ?_)
  refine r_cons (s_callv [] [.int .i64 1, .int .i64 9] rfl pl_59 rfl rfl (begun_mark (1 : Int) (9 : Int) H3) ?_)
  rintro _ w4 ⟨rfl, H5⟩
  refine r_cons (s_call [.pointer (some ⟨bk1, 0, none⟩), .agg #[.int .i64 1, .int .i64 0, .int .i64 1, .int .i64 2, .slice none 0 0, .int .i64 9]] pl_14 rfl rfl (Take_wait bk1 (0 : Int) (1 : Int) (0 : Int) (1 : Int) (9 : Int) (by omega) (by omega) (by omega) (by omega) (by omega) H5) ?_)
  rintro _ w8 ⟨rfl, pp6, cc7, H9⟩
  refine r_cons (s_move (.tuple #[.slice none 0 0, .int .i64 0]) rfl rfl ?_)
  refine r_cons (s_extract (.slice none 0 0) #[.slice none 0 0, .int .i64 0] rfl rfl rfl ?_)
  refine r_cons (s_extract (.int .i64 0) #[.slice none 0 0, .int .i64 0] rfl rfl rfl ?_)
  refine r_cons (s_assign (.slice none 0 0) rfl rfl ?_)
  refine r_cons (s_assign (.int .i64 0) rfl rfl ?_)
  refine r_nil ?_
  refine g_seq ?_
  refine g_region ?_
  refine r_cons (s_move (.pointer (some ⟨bk1, 0, none⟩)) rfl rfl ?_)
  refine r_cons (s_move (.func (.func 59) #[] #[]) rfl rfl ?_)
  refine r_cons (s_callv [] [.int .i64 0, .int .i64 4] rfl pl_59 rfl rfl (begun_mark (0 : Int) (4 : Int) H9) ?_)
  rintro _ w10 ⟨rfl, H11⟩
  refine r_cons (s_call [.pointer (some ⟨bk1, 0, none⟩), .agg #[.int .i64 1, .int .i64 0, .int .i64 0, .int .i64 2, .slice none 0 0, .int .i64 4]] pl_14 rfl rfl (Take_now bk1 (0 : Int) (.slice pp6 1 cc7) (1 : Int) (0 : Int) (0 : Int) (4 : Int) (by omega) (by omega) (by omega) (by omega) (by omega) H11) ?_)
  rintro _ w14 ⟨pp12, cc13, rfl, H15⟩
  refine r_cons (s_move (.tuple #[.slice pp12 1 cc13, .int .i64 0]) rfl rfl ?_)
  refine r_cons (s_extract (.slice pp12 1 cc13) #[.slice pp12 1 cc13, .int .i64 0] rfl rfl rfl ?_)
  refine r_cons (s_extract (.int .i64 0) #[.slice pp12 1 cc13, .int .i64 0] rfl rfl rfl ?_)
  refine r_cons (s_assign (.slice pp12 1 cc13) rfl rfl ?_)
  refine r_cons (s_assign (.int .i64 0) rfl rfl ?_)
  refine r_nil ?_
  refine g_seq ?_
  refine g_region ?_
  refine r_cons (s_move (.pointer (some ⟨bk1, 0, none⟩)) rfl rfl ?_)
  refine r_cons (s_build (cs := #[.int .i64 1, .int .i64 0, .int .i64 0, .int .i64 3, .slice none 0 0, .int .i64 0]) (by kernel_rfl) rfl ?_)
  have H16 : St W w14 (blk bk1 (.cells #[.bool true, .int .i64 0, .slice pp6 1 cc7] 80 (0, 0)) :: Row 32 6 (.slice pp6 1 cc7) 1 [.int .i64 1, .int .i64 0, .int .i64 1, .int .i64 2, .slice none 0 0, .int .i64 9] :: Row 32 6 (.slice pp12 1 cc13) 1 [.int .i64 1, .int .i64 0, .int .i64 0, .int .i64 2, .slice none 0 0, .int .i64 4] :: F) := ((H15.move 2 rfl).move 2 rfl)
  refine r_cons (s_call [.pointer (some ⟨bk1, 0, none⟩), .agg #[.int .i64 1, .int .i64 0, .int .i64 0, .int .i64 3, .slice none 0 0, .int .i64 0]] pl_14 rfl rfl (Take_end bk1 pp6 cc7 H16) ?_)
  rintro _ w19 ⟨pp17, cc18, rfl, H20⟩
  refine r_cons (s_move (.tuple #[.slice pp17 1 cc18, .int .i64 0]) rfl rfl ?_)
  refine r_cons (s_extract (.slice pp17 1 cc18) #[.slice pp17 1 cc18, .int .i64 0] rfl rfl rfl ?_)
  refine r_cons (s_extract (.int .i64 0) #[.slice pp17 1 cc18, .int .i64 0] rfl rfl rfl ?_)
  refine r_cons (s_assign (.slice pp17 1 cc18) rfl rfl ?_)
  refine r_cons (s_assign (.int .i64 0) rfl rfl ?_)
  refine r_nil ?_
  refine g_seq ?_
  refine g_region ?_
  refine r_cons (s_move (.pointer (some ⟨bk1, 0, none⟩)) rfl rfl ?_)
  refine r_cons (s_move (.func (.func 59) #[] #[]) rfl rfl ?_)
  refine r_cons (s_callv [] [.int .i64 0, .int .i64 5] rfl pl_59 rfl rfl (begun_mark (0 : Int) (5 : Int) H20) ?_)
  rintro _ w21 ⟨rfl, H22⟩
  have H23 : St W w21 (blk bk1 (.cells #[.bool true, .int .i64 1, .slice none 0 0] 80 (0, 0)) :: Row 32 6 (.slice pp17 1 cc18) 1 [.int .i64 1, .int .i64 0, .int .i64 1, .int .i64 2, .slice none 0 0, .int .i64 9] :: Row 32 6 (.slice pp12 1 cc13) 1 [.int .i64 1, .int .i64 0, .int .i64 0, .int .i64 2, .slice none 0 0, .int .i64 4] :: F) := (H22.move 1 rfl)
  refine r_cons (s_call [.pointer (some ⟨bk1, 0, none⟩), .agg #[.int .i64 1, .int .i64 0, .int .i64 0, .int .i64 2, .slice none 0 0, .int .i64 5]] pl_14 rfl rfl (Take_old bk1 (1 : Int) (.slice none 0 0) (1 : Int) (0 : Int) (0 : Int) (5 : Int) (by omega) (by omega) (by omega) (by omega) (by omega) H23) ?_)
  rintro _ w24 ⟨rfl, H25⟩
  refine r_cons (s_move (.tuple #[.slice none 0 0, .int .i64 240]) rfl rfl ?_)
  refine r_cons (s_extract (.slice none 0 0) #[.slice none 0 0, .int .i64 240] rfl rfl rfl ?_)
  refine r_cons (s_extract (.int .i64 240) #[.slice none 0 0, .int .i64 240] rfl rfl rfl ?_)
  refine r_cons (s_assign (.slice none 0 0) rfl rfl ?_)
  refine r_cons (s_assign (.int .i64 240) rfl rfl ?_)
  refine r_nil ?_
  refine g_seq ?_
  refine g_region ?_
  refine r_cons (s_move (.slice none 0 0) rfl rfl ?_)
  refine r_cons (s_len 0 rfl ⟨_, un_22⟩ rfl ?_)
  refine r_cons (s_eql true rfl rfl (dtrue (by decide)) rfl ?_)
  refine r_cons (s_move (.bool true) rfl rfl ?_)
  refine r_cons (r_take rfl rfl ?_)
  refine s_move (.int .i64 0) rfl rfl ?_
  refine r_cons (r_take rfl rfl ?_)
  refine s_eql true rfl rfl (dtrue (by decide)) rfl ?_
  refine r_cons (s_pick_t (.bool true) rfl rfl rfl ?_)
  refine r_cons (s_move (.bool true) rfl rfl ?_)
  refine r_cons (r_take rfl rfl ?_)
  refine s_move (.slice pp12 1 cc13) rfl rfl ?_
  refine r_cons (r_take rfl rfl ?_)
  refine s_len 1 rfl ⟨_, un_22⟩ rfl ?_
  refine r_cons (r_take rfl rfl ?_)
  refine s_eql true rfl rfl (dtrue (by decide)) rfl ?_
  refine r_cons (s_pick_t (.bool true) rfl rfl rfl ?_)
  refine r_cons (s_move (.bool true) rfl rfl ?_)
  refine r_cons (r_take rfl rfl ?_)
  refine s_move (.int .i64 0) rfl rfl ?_
  refine r_cons (r_take rfl rfl ?_)
  refine s_eql true rfl rfl (dtrue (by decide)) rfl ?_
  refine r_cons (s_pick_t (.bool true) rfl rfl rfl ?_)
  refine r_cons (s_move (.bool true) rfl rfl ?_)
  refine r_cons (r_take rfl rfl ?_)
  refine s_move (.slice pp17 1 cc18) rfl rfl ?_
  refine r_cons (r_take rfl rfl ?_)
  refine s_len 1 rfl ⟨_, un_22⟩ rfl ?_
  refine r_cons (r_take rfl rfl ?_)
  refine s_eql true rfl rfl (dtrue (by decide)) rfl ?_
  refine r_cons (s_pick_t (.bool true) rfl rfl rfl ?_)
  refine r_cons (s_move (.bool true) rfl rfl ?_)
  refine r_cons (r_take rfl rfl ?_)
  refine s_move (.slice pp17 1 cc18) rfl rfl ?_
  refine r_cons (r_take rfl rfl ?_)
  obtain ⟨bk26, cur27, hp28, h29, h30, h31, h32, h33, H34⟩ := Row.open2 H25 (i := 1) rfl (by omega)
  have hc35 : cur27[5]? = some (.int .i64 9) := cell_of_take (k := 5) (xs := [.int .i64 1, .int .i64 0, .int .i64 1, .int .i64 2, .slice none 0 0, .int .i64 9]) h32 (by decide) rfl
  refine s_indexAddr bk26 (off := 0) 0 6 (0 + 0 * 6) (by exact congrArg (fun z_ => Value.slice z_ 1 cc18) ((fun (_ : 0 < 1) => hp28) (by omega))) rfl el_22 (by omega) rfl rfl ?_
  refine r_cons (r_take rfl rfl ?_)
  refine s_fieldAddr 32 5 5 (0 + 0 * 6 + 5) 2 rfl fi_32_5 rfl rfl ?_
  refine r_cons (r_take rfl rfl ?_)
  refine s_load (.int .i64 9) ag_2 rfl (H34.blk_at (i := 1) rfl) hc35 rfl ?_
  refine r_cons (r_take rfl rfl ?_)
  refine s_eql true rfl rfl (dtrue (by decide)) rfl ?_
  refine r_cons (s_pick_t (.bool true) rfl rfl rfl ?_)
  refine r_cons (s_move (.bool true) rfl rfl ?_)
  refine r_cons (r_take rfl rfl ?_)
  refine s_move (.int .i64 0) rfl rfl ?_
  refine r_cons (r_take rfl rfl ?_)
  refine s_eql true rfl rfl (dtrue (by decide)) rfl ?_
  refine r_cons (s_pick_t (.bool true) rfl rfl rfl ?_)
  refine r_cons (s_move (.bool true) rfl rfl ?_)
  refine r_cons (r_take rfl rfl ?_)
  refine s_move (.int .i64 240) rfl rfl ?_
  refine r_cons (r_take rfl rfl ?_)
  refine s_eql true rfl rfl (dtrue (by decide)) rfl ?_
  refine r_cons (s_pick_t (.bool true) rfl rfl rfl ?_)
  refine r_cons (s_move (.bool true) rfl rfl ?_)
  refine r_cons (r_take rfl rfl ?_)
  refine s_move (.pointer (some ⟨bk1, 0, none⟩)) rfl rfl ?_
  refine r_cons (r_take rfl rfl ?_)
  refine s_call [.pointer (some ⟨bk1, 0, none⟩)] pl_16 rfl rfl (Gate_Epoch bk1 (1 : Int) (.slice none 0 0) (i := 0) rfl H34) ?_
  rintro _ w36 ⟨rfl, H37⟩
  refine r_cons (r_take rfl rfl ?_)
  refine s_eql true rfl rfl (dtrue (by decide)) rfl ?_
  refine r_cons (s_pick_t (.bool true) rfl rfl rfl ?_)
  refine r_cons (s_assign (.bool true) rfl rfl ?_)
  refine r_nil ?_
  refine g_ret' [.bool true] Try.func10 Try.results10 ⟨rfl, trivial⟩ ?_
  have H38 : St W w36 F := (((H37.drop 0 rfl).drop 0 rfl).drop 0 rfl)
  exact ⟨rfl, H38⟩
set_option maxHeartbeats 4000000 in
set_option maxRecDepth 100000 in
theorem bytes_Clone {W w : World} {F : List Atom} (A : Atom) (v0 : Value) (n : Nat) (xs : List Value) (hA : RdA A 1 v0 n xs) (hn : n ≤ 140737488355328) {j : Nat} (hj : F[j]? = some A) (H : St W w F) : Calls Try.prog 73 #[v0] w (Ret fun v w' => ∃ p c, v = .slice p n c ∧ St W w' (Row 5 1 (.slice p n c) n xs :: F)) := by
  have hml := (hA _ _ _ j H hj).2
  obtain ⟨pp1, cc2, rfl, hn3⟩ := Rd.shape (hA _ _ _ j H hj).1
  refine calls_of_go (n := 8) Try.func73 rfl Try.ntmps73 rfl ?_
  refine g_seq ?_
  refine g_region ?_
  refine r_cons (s_assign (.slice none 0 0) rfl rfl ?_)
  refine r_nil ?_
  refine g_seq ?_
  refine g_seq ?_
  refine g_region ?_
  refine r_cons (s_move (.slice pp1 n cc2) rfl rfl ?_)
  by_cases hc4 : pp1 = none
  · skip
    refine r_cons (s_sleql true un_23 rfl rfl (isNone_t hc4) rfl ?_)
    refine r_nil ?_
    refine g_true rfl ?_
    refine g_seq ?_
    refine g_region ?_
    refine r_cons (s_assign (.slice none 0 0) rfl rfl ?_)
    refine r_nil ?_
    refine g_ret' [.slice none 0 0] Try.func73 Try.results73 ⟨rfl, trivial⟩ ?_
    have H5 : St W w F := H
    obtain ⟨h1, h2, h3⟩ := hn3 ‹_›
    subst h1 h3
    exact ⟨none, 0, rfl, Row.nil_intro H5 5 1⟩
  · skip
    refine r_cons (s_sleql false un_23 rfl rfl (isNone_f hc4) rfl ?_)
    refine r_nil ?_
    refine g_false rfl ?_
    refine g_skip ?_
    refine g_seq ?_
    refine g_region ?_
    refine r_cons (s_buildSlice0 H 1 el_23 rfl ?_); intro bk7 w8 H9
    have H10 := Row.of_blk (n := 0) (size := 1) H9 (i := 0) rfl (by unfold maxLen; omega) (by simp) (by simp)
    refine r_cons (s_move (.slice pp1 n cc2) rfl rfl ?_)
    refine r_cons (s_append H10 0 rfl rfl rfl (hA _ _ _ (j + 1) H10 (by exact hj)).1 ap_23 (by decide) (by unfold maxLen; omega) (by omega) (n' := n) (xs' := xs) (by omega) (by first | rfl | simp) rfl ?_); intro vv11 w12 H13 hn14
    obtain ⟨pp15, cc16, rfl⟩ := Row.slice H13 (i := 0) rfl
    refine r_cons (s_assign (.slice pp15 n cc16) rfl rfl ?_)
    refine r_nil ?_
    refine g_ret' [.slice pp15 n cc16] Try.func73 Try.results73 ⟨rfl, trivial⟩ ?_
    have H17 : St W w12 (Row 5 1 (.slice pp15 n cc16) n xs :: F) := H13
    exact ⟨_, _, rfl, H17⟩
set_option maxHeartbeats 4000000 in
set_option maxRecDepth 100000 in
theorem time1 {W w : World} {F : List Atom} (g : Nat) (x : Int) (H : St W w (blk g (.cells #[.int .i64 x] 2 (0, 0)) :: F)) : Calls Try.prog 68 #[.slice (some ⟨g, 0, none⟩) 1 1] w (Ret fun v w' => v = .bool (timeB x) ∧ St W w' (blk g (.cells #[.int .i64 x] 2 (0, 0)) :: F)) := by
  refine calls_of_go (n := 18) Try.func68 rfl Try.ntmps68 rfl ?_
  refine g_seq ?_
  refine g_region ?_
  refine r_cons (s_assign (.bool false) rfl rfl ?_)
  refine r_nil ?_
  refine g_seq ?_
  refine g_seq ?_
  refine g_region ?_
  refine r_cons (s_move (.slice (some ⟨g, 0, none⟩) 1 1) rfl rfl ?_)
  refine r_cons (s_len 1 rfl ⟨_, un_174⟩ rfl ?_)
  refine r_cons (s_move (.int .i64 0) rfl rfl ?_)
  refine r_nil ?_
  refine g_block ?_
  refine g_loop ?_
  refine g_seq ?_
  refine g_region ?_
  refine r_cons (s_lss true rfl rfl (dtrue (by decide)) rfl ?_)
  refine r_nil ?_
  refine g_seq ?_
  refine g_true rfl ?_
  refine g_skip ?_
  refine g_seq ?_
  refine g_block ?_
  refine g_seq ?_
  refine g_region ?_
  refine r_cons (s_indexAddr g 0 1 0 rfl rfl el_174 (by omega) rfl rfl ?_)
  refine r_cons (s_load (.int .i64 x) ag_2 rfl (H.blk_at (i := 0) rfl) rfl rfl ?_)
  refine r_cons (s_assign (.int .i64 x) rfl rfl ?_)
  refine r_nil ?_
  refine g_seq ?_
  refine g_region ?_
  refine r_cons (s_move (.int .i64 x) rfl rfl ?_)
  by_cases hc1 : x < 0
  · skip
    refine r_cons (s_lss true rfl rfl (dtrue hc1) rfl ?_)
    refine r_cons (s_move (.bool true) rfl rfl ?_)
    refine r_cons (r_pass rfl rfl rfl rfl rfl ?_)
    refine r_cons (r_pass rfl rfl rfl rfl rfl ?_)
    refine r_cons (s_pick_t (.bool true) rfl rfl rfl ?_)
    refine r_nil ?_
    refine g_true rfl ?_
    refine g_seq ?_
    refine g_region ?_
    refine r_cons (s_assign (.bool false) rfl rfl ?_)
    refine r_nil ?_
    refine g_ret' [.bool false] Try.func68 Try.results68 ⟨rfl, trivial⟩ ?_
    have H2 : St W w (blk g (.cells #[.int .i64 x] 2 (0, 0)) :: F) := H
    exact ⟨congrArg Value.bool (by unfold timeB; first | exact (decide_eq_true (by omega)).symm | exact (decide_eq_false (by omega)).symm), H2⟩
  · skip
    refine r_cons (s_lss false rfl rfl (dfalse hc1) rfl ?_)
    refine r_cons (s_move (.bool false) rfl rfl ?_)
    refine r_cons (r_take rfl rfl ?_)
    refine s_move (.int .i64 x) rfl rfl ?_
    refine r_cons (r_take rfl rfl ?_)
    by_cases hc3 : (1099511627776 : Int) < x
    · skip
      refine s_gtr true rfl rfl (dtrue hc3) rfl ?_
      refine r_cons (s_pick_f (.bool true) rfl rfl rfl ?_)
      refine r_nil ?_
      refine g_true rfl ?_
      refine g_seq ?_
      refine g_region ?_
      refine r_cons (s_assign (.bool false) rfl rfl ?_)
      refine r_nil ?_
      refine g_ret' [.bool false] Try.func68 Try.results68 ⟨rfl, trivial⟩ ?_
      have H4 : St W w (blk g (.cells #[.int .i64 x] 2 (0, 0)) :: F) := H
      exact ⟨congrArg Value.bool (by unfold timeB; first | exact (decide_eq_true (by omega)).symm | exact (decide_eq_false (by omega)).symm), H4⟩
    · skip
      refine s_gtr false rfl rfl (dfalse hc3) rfl ?_
      refine r_cons (s_pick_f (.bool false) rfl rfl rfl ?_)
      refine r_nil ?_
      refine g_false rfl ?_
      refine g_skip ?_
      refine g_inBlock ?_
      refine g_region ?_
      refine r_cons (s_add 1 rfl rfl (wi64 (by omega)) rfl ?_)
      refine r_cons (s_move (.int .i64 1) rfl rfl ?_)
      refine r_nil ?_
      refine g_inLoop ?_
      refine g_seq ?_
      refine g_region ?_
      refine r_cons (s_lss false rfl rfl (dfalse (by decide)) rfl ?_)
      refine r_nil ?_
      refine g_seq ?_
      refine g_false rfl ?_
      refine g_exit (by rfl) ?_
      refine g_seq ?_
      refine g_region ?_
      refine r_cons (s_assign (.bool true) rfl rfl ?_)
      refine r_nil ?_
      refine g_ret' [.bool true] Try.func68 Try.results68 ⟨rfl, trivial⟩ ?_
      have H5 : St W w (blk g (.cells #[.int .i64 x] 2 (0, 0)) :: F) := H
      exact ⟨congrArg Value.bool (by unfold timeB; first | exact (decide_eq_true (by omega)).symm | exact (decide_eq_false (by omega)).symm), H5⟩
set_option maxHeartbeats 4000000 in
set_option maxRecDepth 100000 in
theorem ref24_time {W w : World} {F : List Atom} (n : Int) (H : St W w F) : Calls Try.prog 60 #[.int .i64 n] w (Ret fun v w' => v = .bool (timeB n) ∧ St W w' F) := by
  refine calls_of_go (n := 9) Try.func60 rfl Try.ntmps60 rfl ?_
  refine g_seq ?_
  refine g_region ?_
  refine r_cons (s_assign (.bool false) rfl rfl ?_)
  refine r_nil ?_
  refine g_seq ?_
  refine g_region ?_
  refine r_cons (s_move (.int .i64 n) rfl rfl ?_)
  by_cases hc1 : (0 : Int) ≤ n
  · skip
    refine r_cons (s_geq true rfl rfl (dtrue hc1) rfl ?_)
    refine r_cons (s_move (.bool true) rfl rfl ?_)
    refine r_cons (r_take rfl rfl ?_)
    refine s_move (.int .i64 n) rfl rfl ?_
    refine r_cons (r_take rfl rfl ?_)
    by_cases hc2 : n ≤ 1099511627776
    · skip
      refine s_leq true rfl rfl (dtrue hc2) rfl ?_
      refine r_cons (s_pick_t (.bool true) rfl rfl rfl ?_)
      refine r_cons (s_assign (.bool true) rfl rfl ?_)
      refine r_nil ?_
      refine g_ret' [.bool true] Try.func60 Try.results60 ⟨rfl, trivial⟩ ?_
      exact ⟨congrArg Value.bool (by simp only [timeB]; first | (exact (decide_eq_true (by omega)).symm) | (exact (decide_eq_false (by omega)).symm)), H⟩
    · skip
      refine s_leq false rfl rfl (dfalse hc2) rfl ?_
      refine r_cons (s_pick_t (.bool false) rfl rfl rfl ?_)
      refine r_cons (s_assign (.bool false) rfl rfl ?_)
      refine r_nil ?_
      refine g_ret' [.bool false] Try.func60 Try.results60 ⟨rfl, trivial⟩ ?_
      exact ⟨congrArg Value.bool (by simp only [timeB]; first | (exact (decide_eq_true (by omega)).symm) | (exact (decide_eq_false (by omega)).symm)), H⟩
  · skip
    refine r_cons (s_geq false rfl rfl (dfalse hc1) rfl ?_)
    refine r_cons (s_move (.bool false) rfl rfl ?_)
    refine r_cons (r_pass rfl rfl rfl rfl rfl ?_)
    refine r_cons (r_pass rfl rfl rfl rfl rfl ?_)
    refine r_cons (s_pick_f (.bool false) rfl rfl rfl ?_)
    refine r_cons (s_assign (.bool false) rfl rfl ?_)
    refine r_nil ?_
    refine g_ret' [.bool false] Try.func60 Try.results60 ⟨rfl, trivial⟩ ?_
    exact ⟨congrArg Value.bool (by simp only [timeB]; first | (exact (decide_eq_true (by omega)).symm) | (exact (decide_eq_false (by omega)).symm)), H⟩
set_option maxHeartbeats 4000000 in
set_option maxRecDepth 100000 in
theorem migrate_Cut {W w : World} {F : List Atom} (op : I64) (s : List UInt8) (v0 : Value) (hs : s.length ≤ 140737488355328) {j : Nat} (hj : F[j]? = some (Im 1 v0 s.length (s.flatMap u8c))) (H : St W w F) : Calls Try.prog 33 #[.int .i64 op.v, v0] w (Ret fun v w' => ∃ (L : List PieceD) (p : Option Addr) (c : Nat), v = .tuple #[.slice p L.length c, .int .i64 (cutE op s)] ∧ L.map PieceD.v = cutV op s ∧ St W w' (Row 51 4 (.slice p L.length c) L.length (L.flatMap pcCell) :: pcA L :: F)) := by
  obtain ⟨pp1, cc2, rfl, hsh3⟩ := Rd.shape (Im.rd H (i := j) hj)
  have H4 := H.dup (i := j) hj (Im_pers _ _ _ _)
  have hmlH4 := Im.len H4 (i := 0) rfl
  refine calls_of_go (n := 48) Try.func33 rfl Try.ntmps33 rfl ?_
  refine g_seq ?_
  refine g_region ?_
  refine r_cons (s_assign (.slice none 0 0) rfl rfl ?_)
  refine r_cons (s_assign (.int .i64 0) rfl rfl ?_)
  refine r_nil ?_
  refine g_seq ?_
  refine g_seq ?_
  refine g_region ?_
  refine r_cons (s_move (.int .i64 op.v) rfl rfl ?_)
  refine r_cons (s_buildSlice H4 1 1 (cs := #[.int .i64 op.v]) #[.int .i64 0] el_174 ze_2 (by decide) (by decide) (by kernel_rfl) rfl ?_); intro bk5 w6 H7
  refine r_cons (s_call [.slice (some ⟨bk5, 0, none⟩) 1 1] pl_68 rfl rfl (time1 bk5 op.v H7) ?_)
  rintro _ w8 ⟨rfl, H9⟩
  refine r_cons (s_not (timeB op.v) rfl (!(timeB op.v)) rfl rfl ?_)
  refine r_nil ?_
  by_cases hb10 : (!(timeB op.v)) = true
  · skip
    refine g_true (congrArg Value.bool hb10) ?_
    refine g_seq ?_
    refine g_region ?_
    refine r_cons (s_assign (.slice none 0 0) rfl rfl ?_)
    refine r_cons (s_assign (.int .i64 1) rfl rfl ?_)
    refine r_nil ?_
    refine g_ret' [.slice none 0 0, .int .i64 1] Try.func33 Try.results33 ⟨rfl, rfl, trivial⟩ ?_
    have hE : cutE op s = 1 := by first | exact cutE_1 (nottrue ‹_›) | exact cutE_3 (notfalse ‹_›) (by omega)
    have H11 := Row.nil_intro H9 51 4
    have H12 := pcA_nil H11
    have H13 : St W w8 (Row 51 4 (.slice none 0 0) 0 [] :: pcA [] :: F) := (((H12.move 1 rfl).drop 2 rfl).drop 2 rfl)
    exact ⟨[], none, 0, by rw [hE]; rfl, by rw [cutV_no (by rw [hE]; decide)]; rfl, H13⟩
  · have hb10 := eq_false_of_ne_true hb10
    refine g_false (congrArg Value.bool hb10) ?_
    refine g_skip ?_
    refine g_seq ?_
    refine g_seq ?_
    refine g_region ?_
    refine r_cons (s_move (.slice pp1 s.length cc2) rfl rfl ?_)
    refine r_cons (s_len s.length rfl ⟨_, un_23⟩ rfl ?_)
    by_cases hc14 : (4194304 : Int) < (s.length : Int)
    · skip
      refine r_cons (s_gtr true rfl rfl (dtrue hc14) rfl ?_)
      refine r_nil ?_
      refine g_true rfl ?_
      refine g_seq ?_
      refine g_region ?_
      refine r_cons (s_assign (.slice none 0 0) rfl rfl ?_)
      refine r_cons (s_assign (.int .i64 3) rfl rfl ?_)
      refine r_nil ?_
      refine g_ret' [.slice none 0 0, .int .i64 3] Try.func33 Try.results33 ⟨rfl, rfl, trivial⟩ ?_
      have hE : cutE op s = 3 := by first | exact cutE_1 (nottrue ‹_›) | exact cutE_3 (notfalse ‹_›) (by omega)
      have H15 := Row.nil_intro H9 51 4
      have H16 := pcA_nil H15
      have H17 : St W w8 (Row 51 4 (.slice none 0 0) 0 [] :: pcA [] :: F) := (((H16.move 1 rfl).drop 2 rfl).drop 2 rfl)
      exact ⟨[], none, 0, by rw [hE]; rfl, by rw [cutV_no (by rw [hE]; decide)]; rfl, H17⟩
    · skip
      refine r_cons (s_gtr false rfl rfl (dfalse hc14) rfl ?_)
      refine r_nil ?_
      refine g_false rfl ?_
      refine g_skip ?_
      refine g_seq ?_
      refine g_region ?_
      refine r_cons (s_move (.slice pp1 s.length cc2) rfl rfl ?_)
      refine r_cons (s_len s.length rfl ⟨_, un_23⟩ rfl ?_)
      refine r_cons (s_add ((s.length : Int) + 4096) rfl rfl (wi64 (by omega)) rfl ?_)
      refine r_cons (s_sub ((s.length : Int) + 4096 - 1) rfl rfl (wi64 (by omega)) rfl ?_)
      refine r_cons (s_quo (((s.length + 4095) / 4096 : Nat) : Int) rfl rfl (by omega) (by rw [tdiv_pos (by omega)]; refine (wi64 (by omega)).trans ?_; omega) rfl ?_)
      refine r_cons (s_max2 ((manyOf s.length : Nat) : Int) rfl rfl (by unfold manyOf; omega) rfl ?_)
      refine r_cons (s_assign (.int .i64 ((manyOf s.length : Nat) : Int)) rfl rfl ?_)
      refine r_nil ?_
      refine g_seq ?_
      refine g_region ?_
      refine r_cons (s_assign (.slice none 0 0) rfl rfl ?_)
      refine r_nil ?_
      refine g_seq ?_
      refine g_seq ?_
      refine g_region ?_
      refine r_cons (s_move (.int .i64 ((manyOf s.length : Nat) : Int)) rfl rfl ?_)
      refine r_cons (s_move (.int .i64 0) rfl rfl ?_)
      refine r_nil ?_
      refine g_block ?_
      have hmm := manyOf_le (n := s.length) (by omega)
      have H18 := Row.nil_intro H9 51 4
      have H19 := pcA_nil H18
      have H20 : St W w8 (Row 51 4 (.slice none 0 0) 0 [] :: pcA ([] : List PieceD) :: Im 1 (.slice pp1 s.length cc2) s.length (s.flatMap u8c) :: F) := ((((H19.move 3 rfl).move 1 rfl).move 2 rfl).drop 3 rfl)
      refine g_loop_inv (fun (x_ : Nat × (List PieceD) × (Option Addr) × Nat) => match x_ with | (j, pre, q, d) => [(0, .int .i64 op.v), (1, .slice pp1 s.length cc2), (4, .slice none 0 0), (5, .int .i64 0), (6, .int .i64 ((manyOf s.length : Nat) : Int)), (7, .slice q pre.length d), (23, .int .i64 ((manyOf s.length : Nat) : Int)), (24, .int .i64 (j : Int))]) (fun (x_ : Nat × (List PieceD) × (Option Addr) × Nat) w => match x_ with | (j, pre, q, d) => (j ≤ manyOf s.length) ∧ (pre.map PieceD.v = cutL op s j) ∧ St W w (Row 51 4 (.slice q pre.length d) pre.length (pre.flatMap pcCell) :: pcA pre :: Im 1 (.slice pp1 s.length cc2) s.length (s.flatMap u8c) :: F)) (fun (x_ : Nat × (List PieceD) × (Option Addr) × Nat) => match x_ with | (j, pre, q, d) => manyOf s.length - j) (0, [], none, 0) ?_ ?_ ?_
      · exact ⟨by first | rfl | exact vint (by omega), by first | rfl | exact vint (by omega), by first | rfl | exact vint (by omega), by first | rfl | exact vint (by omega), by first | rfl | exact vint (by omega), by first | rfl | exact vint (by omega), by first | rfl | exact vint (by omega), by first | rfl | exact vint (by omega), trivial⟩
      · exact ⟨(by omega), rfl, H20⟩
      · rintro ⟨j, pre, q, d⟩ ρ21 w22 ⟨hjn, hp, H23⟩ nx24
        change Ends _ _ (upds ρ21 [(0, .int .i64 op.v), (1, .slice pp1 s.length cc2), (4, .slice none 0 0), (5, .int .i64 0), (6, .int .i64 ((manyOf s.length : Nat) : Int)), (7, .slice q pre.length d), (23, .int .i64 ((manyOf s.length : Nat) : Int)), (24, .int .i64 (j : Int))]) w22
        have hpl := mapP_len hp
        rw [cutL_len] at hpl
        refine g_seq ?_
        refine g_region ?_
        by_cases hc25 : (j : Int) < ((manyOf s.length : Nat) : Int)
        · skip
          refine r_cons (s_lss true rfl rfl (dtrue hc25) rfl ?_)
          refine r_nil ?_
          refine g_seq ?_
          refine g_true rfl ?_
          refine g_skip ?_
          refine g_seq ?_
          refine g_block ?_
          refine g_seq ?_
          refine g_region ?_
          refine r_cons (s_move (.int .i64 (j : Int)) rfl rfl ?_)
          refine r_cons (s_assign (.int .i64 (j : Int)) rfl rfl ?_)
          refine r_nil ?_
          refine g_seq ?_
          refine g_region ?_
          have hj4 := manyOf_lt (n := s.length) (j := j) (by omega)
          have hcl := cut_len s j hj4
          have hcd := cut_data s j hj4
          have hmv := i64N_v (n := manyOf s.length) (by omega)
          have hjv := i64N_v (n := j) (by omega)
          refine r_cons (s_move (.slice pp1 s.length cc2) rfl rfl ?_)
          refine r_cons (s_len s.length rfl ⟨_, un_23⟩ rfl ?_)
          refine r_cons (s_move (.int .i64 (j : Int)) rfl rfl ?_)
          refine r_cons (s_add ((j : Int) + 1) rfl rfl (wi64 (by omega)) rfl ?_)
          refine r_cons (s_mul (((j + 1) * 4096 : Nat) : Int) rfl rfl (wi64 (by omega)) rfl ?_)
          refine r_cons (s_min2 ((min s.length ((j + 1) * 4096) : Nat) : Int) rfl rfl (by omega) rfl ?_)
          refine r_cons (s_assign (.int .i64 ((min s.length ((j + 1) * 4096) : Nat) : Int)) rfl rfl ?_)
          refine r_nil ?_
          refine g_region ?_
          refine r_cons (s_move (.slice q pre.length d) rfl rfl ?_)
          refine r_cons (s_move (.int .i64 op.v) rfl rfl ?_)
          refine r_cons (s_move (.int .i64 ((manyOf s.length : Nat) : Int)) rfl rfl ?_)
          refine r_cons (s_move (.int .i64 (j : Int)) rfl rfl ?_)
          refine r_cons (s_move (.slice pp1 s.length cc2) rfl rfl ?_)
          refine r_cons (s_move (.int .i64 (j : Int)) rfl rfl ?_)
          refine r_cons (s_mul ((j * 4096 : Nat) : Int) rfl rfl (wi64 (by omega)) rfl ?_)
          refine r_cons (s_move (.int .i64 ((min s.length ((j + 1) * 4096) : Nat) : Int)) rfl rfl ?_)
          have hc26 := Im.cap H23 (i := 2) rfl
          refine r_cons (s_slice pp1 ((j * 4096 : Nat) : Int) ((min s.length ((j + 1) * 4096) : Nat) : Int) 1 (.slice (cutAt pp1 (j * 4096) cc2 1) ((min s.length ((j + 1) * 4096)) - (j * 4096)) (cc2 - (j * 4096))) rfl rfl rfl el_23 (by omega) (by first | rfl | (congr 1; omega)) rfl ?_)
          have H27 : St W w22 (Im 1 (.slice (cutAt pp1 (j * 4096) cc2 1) ((min s.length ((j + 1) * 4096)) - (j * 4096)) (cc2 - (j * 4096))) ((min s.length ((j + 1) * 4096)) - (j * 4096)) (((s.drop (j * 4096)).take ((min s.length ((j + 1) * 4096)) - (j * 4096))).flatMap u8c) :: Row 51 4 (.slice q pre.length d) pre.length (pre.flatMap pcCell) :: pcA pre :: Im 1 (.slice pp1 s.length cc2) s.length (s.flatMap u8c) :: F) := Im.cut u8c_len (j * 4096) (min s.length ((j + 1) * 4096)) H23 (i := 2) rfl (by omega) (by omega)
          refine r_cons (s_call [.slice (cutAt pp1 (j * 4096) cc2 1) ((min s.length ((j + 1) * 4096)) - (j * 4096)) (cc2 - (j * 4096))] pl_73 rfl rfl (bytes_Clone _ _ ((min s.length ((j + 1) * 4096)) - (j * 4096)) (((s.drop (j * 4096)).take ((min s.length ((j + 1) * 4096)) - (j * 4096))).flatMap u8c) RdA.im (by first | omega | (have hlp := Nat.le_refl 0; omega)) (j := 0) rfl H27) ?_)
          rintro _ w30 ⟨pp28, cc29, rfl, H31⟩
          refine r_cons (s_build (cs := #[.int .i64 op.v, .int .i64 ((manyOf s.length : Nat) : Int), .int .i64 (j : Int), .slice pp28 ((min s.length ((j + 1) * 4096)) - (j * 4096)) cc29]) (by kernel_rfl) rfl ?_)
          refine r_cons (s_buildSlice H31 4 1 (cs := #[.int .i64 op.v, .int .i64 ((manyOf s.length : Nat) : Int), .int .i64 (j : Int), .slice pp28 ((min s.length ((j + 1) * 4096)) - (j * 4096)) cc29]) #[.int .i64 0, .int .i64 0, .int .i64 0, .slice none 0 0] el_60 ze_51 (by decide) (by decide) (by kernel_rfl) rfl ?_); intro bk32 w33 H34
          refine r_cons (s_append H34 3 rfl rfl rfl (rd_blk (H34.blk_at (i := 0) rfl) rfl (Nat.le_of_ble_eq_true rfl) (by simp [Value.oneCell'])) ap_60 (by decide) (by unfold maxLen; omega) (by omega) (n' := pre.length + 1) (xs' := pre.flatMap pcCell ++ ([.int .i64 op.v, .int .i64 ((manyOf s.length : Nat) : Int), .int .i64 (j : Int), .slice pp28 ((min s.length ((j + 1) * 4096)) - (j * 4096)) cc29] : List Value)) (by omega) (by first | rfl | simp) rfl ?_); intro vv35 w36 H37 hn38
          obtain ⟨pp39, cc40, rfl⟩ := Row.slice H37 (i := 3) rfl
          refine r_cons (s_assign (.slice pp39 (pre.length + 1) cc40) rfl rfl ?_)
          refine r_nil ?_
          refine g_inBlock ?_
          refine g_region ?_
          refine r_cons (s_add ((j : Int) + 1) rfl rfl (wi64 (by omega)) rfl ?_)
          refine r_cons (s_move (.int .i64 ((j : Int) + 1)) rfl rfl ?_)
          refine r_nil ?_
          have H41 : St W w36 (blk bk32 (.cells #[.int .i64 op.v, .int .i64 ((manyOf s.length : Nat) : Int), .int .i64 (j : Int), .slice pp28 ((min s.length ((j + 1) * 4096)) - (j * 4096)) cc29] 51 (0, 0)) :: Row 5 1 (.slice pp28 ((pcAt op s j).data.length) cc29) ((pcAt op s j).data.length) ((pcAt op s j).data.flatMap u8c) :: Im 1 (.slice (cutAt pp1 (j * 4096) cc2 1) ((min s.length ((j + 1) * 4096)) - (j * 4096)) (cc2 - (j * 4096))) ((min s.length ((j + 1) * 4096)) - (j * 4096)) (((s.drop (j * 4096)).take ((min s.length ((j + 1) * 4096)) - (j * 4096))).flatMap u8c) :: Row 51 4 (.slice pp39 (pre.length + 1) cc40) (pre.length + 1) (pre.flatMap pcCell ++ ([.int .i64 op.v, .int .i64 ((manyOf s.length : Nat) : Int), .int .i64 (j : Int), .slice pp28 ((min s.length ((j + 1) * 4096)) - (j * 4096)) cc29] : List Value)) :: pcA pre :: Im 1 (.slice pp1 s.length cc2) s.length (s.flatMap u8c) :: F) := by rw [show ((pcAt op s j).data).length = min s.length ((j + 1) * 4096) - j * 4096 from hcl, show (pcAt op s j).data = (s.drop (j * 4096)).take (min s.length ((j + 1) * 4096) - j * 4096) from hcd.symm]; exact H37
          have H42 : St W w36 (blk bk32 (.cells #[.int .i64 op.v, .int .i64 ((manyOf s.length : Nat) : Int), .int .i64 (j : Int), .slice pp28 ((min s.length ((j + 1) * 4096)) - (j * 4096)) cc29] 51 (0, 0)) :: Im 1 (.slice pp28 ((pcAt op s j).data.length) cc29) (((pcAt op s j).data).length) (((pcAt op s j).data).flatMap u8c) :: Im 1 (.slice (cutAt pp1 (j * 4096) cc2 1) ((min s.length ((j + 1) * 4096)) - (j * 4096)) (cc2 - (j * 4096))) ((min s.length ((j + 1) * 4096)) - (j * 4096)) (((s.drop (j * 4096)).take ((min s.length ((j + 1) * 4096)) - (j * 4096))).flatMap u8c) :: Row 51 4 (.slice pp39 (pre.length + 1) cc40) (pre.length + 1) (pre.flatMap pcCell ++ ([.int .i64 op.v, .int .i64 ((manyOf s.length : Nat) : Int), .int .i64 (j : Int), .slice pp28 ((min s.length ((j + 1) * 4096)) - (j * 4096)) cc29] : List Value)) :: pcA pre :: Im 1 (.slice pp1 s.length cc2) s.length (s.flatMap u8c) :: F) := Row.im H41 (i := 1) rfl
          have H43 : St W w36 (Im 1 (.slice pp28 ((pcAt op s j).data.length) cc29) (((pcAt op s j).data).length) (((pcAt op s j).data).flatMap u8c) :: pcA pre :: blk bk32 (.cells #[.int .i64 op.v, .int .i64 ((manyOf s.length : Nat) : Int), .int .i64 (j : Int), .slice pp28 ((min s.length ((j + 1) * 4096)) - (j * 4096)) cc29] 51 (0, 0)) :: Im 1 (.slice (cutAt pp1 (j * 4096) cc2 1) ((min s.length ((j + 1) * 4096)) - (j * 4096)) (cc2 - (j * 4096))) ((min s.length ((j + 1) * 4096)) - (j * 4096)) (((s.drop (j * 4096)).take ((min s.length ((j + 1) * 4096)) - (j * 4096))).flatMap u8c) :: Row 51 4 (.slice pp39 (pre.length + 1) cc40) (pre.length + 1) (pre.flatMap pcCell ++ ([.int .i64 op.v, .int .i64 ((manyOf s.length : Nat) : Int), .int .i64 (j : Int), .slice pp28 ((min s.length ((j + 1) * 4096)) - (j * 4096)) cc29] : List Value)) :: Im 1 (.slice pp1 s.length cc2) s.length (s.flatMap u8c) :: F) := ((H42.move 4 rfl).move 2 rfl)
          have H44 : St W w36 (pcA (pre ++ [(⟨pcAt op s j, pp28, cc29⟩ : PieceD)]) :: blk bk32 (.cells #[.int .i64 op.v, .int .i64 ((manyOf s.length : Nat) : Int), .int .i64 (j : Int), .slice pp28 ((min s.length ((j + 1) * 4096)) - (j * 4096)) cc29] 51 (0, 0)) :: Im 1 (.slice (cutAt pp1 (j * 4096) cc2 1) ((min s.length ((j + 1) * 4096)) - (j * 4096)) (cc2 - (j * 4096))) ((min s.length ((j + 1) * 4096)) - (j * 4096)) (((s.drop (j * 4096)).take ((min s.length ((j + 1) * 4096)) - (j * 4096))).flatMap u8c) :: Row 51 4 (.slice pp39 (pre.length + 1) cc40) (pre.length + 1) (pre.flatMap pcCell ++ ([.int .i64 op.v, .int .i64 ((manyOf s.length : Nat) : Int), .int .i64 (j : Int), .slice pp28 ((min s.length ((j + 1) * 4096)) - (j * 4096)) cc29] : List Value)) :: Im 1 (.slice pp1 s.length cc2) s.length (s.flatMap u8c) :: F) := pcA_snoc (x := (⟨pcAt op s j, pp28, cc29⟩ : PieceD)) H43
          have hpc : pcCell (⟨pcAt op s j, pp28, cc29⟩ : PieceD) = [.int .i64 op.v, .int .i64 ((manyOf s.length : Nat) : Int), .int .i64 (j : Int), .slice pp28 ((min s.length ((j + 1) * 4096)) - (j * 4096)) cc29] := by show [_, Value.int .i64 (i64N _).v, Value.int .i64 (i64N _).v, Value.slice _ (pcAt op s j).data.length _] = _; rw [hmv, hjv, show (pcAt op s j).data.length = min s.length ((j + 1) * 4096) - j * 4096 from hcl]; rfl
          have H45 : St W w36 (pcA (pre ++ [(⟨pcAt op s j, pp28, cc29⟩ : PieceD)]) :: blk bk32 (.cells #[.int .i64 op.v, .int .i64 ((manyOf s.length : Nat) : Int), .int .i64 (j : Int), .slice pp28 ((min s.length ((j + 1) * 4096)) - (j * 4096)) cc29] 51 (0, 0)) :: Im 1 (.slice (cutAt pp1 (j * 4096) cc2 1) ((min s.length ((j + 1) * 4096)) - (j * 4096)) (cc2 - (j * 4096))) ((min s.length ((j + 1) * 4096)) - (j * 4096)) (((s.drop (j * 4096)).take ((min s.length ((j + 1) * 4096)) - (j * 4096))).flatMap u8c) :: Row 51 4 (.slice pp39 ((pre ++ [(⟨pcAt op s j, pp28, cc29⟩ : PieceD)]).length) cc40) ((pre ++ [(⟨pcAt op s j, pp28, cc29⟩ : PieceD)]).length) ((pre ++ [(⟨pcAt op s j, pp28, cc29⟩ : PieceD)]).flatMap pcCell) :: Im 1 (.slice pp1 s.length cc2) s.length (s.flatMap u8c) :: F) := by rw [flat_snocP, List.length_append, hpc]; exact H44
          have H46 : St W w36 (Row 51 4 (.slice pp39 ((pre ++ [(⟨pcAt op s j, pp28, cc29⟩ : PieceD)]).length) cc40) ((pre ++ [(⟨pcAt op s j, pp28, cc29⟩ : PieceD)]).length) ((pre ++ [(⟨pcAt op s j, pp28, cc29⟩ : PieceD)]).flatMap pcCell) :: pcA (pre ++ [(⟨pcAt op s j, pp28, cc29⟩ : PieceD)]) :: Im 1 (.slice pp1 s.length cc2) s.length (s.flatMap u8c) :: F) := (((((H45.move 4 rfl).move 1 rfl).move 4 rfl).drop 3 rfl).drop 3 rfl)
          exact nx24 (j + 1, (pre ++ [(⟨pcAt op s j, pp28, cc29⟩ : PieceD)]), pp39, cc40) _ _ ⟨(by omega), (cut_step hp), H46⟩ (by first | (dsimp only; omega) | omega) ⟨by first | rfl | exact vint (by omega), by first | rfl | exact vint (by omega), by first | rfl | exact vint (by omega), by first | rfl | exact vint (by omega), by first | rfl | exact vint (by omega), by first | rfl | (show Value.slice _ _ _ = _; rw [List.length_append]; rfl), by first | rfl | exact vint (by omega), by first | rfl | exact vint (by omega), trivial⟩
        · skip
          refine r_cons (s_lss false rfl rfl (dfalse hc25) rfl ?_)
          refine r_nil ?_
          refine g_seq ?_
          refine g_false rfl ?_
          refine g_exit (by rfl) ?_
          refine g_seq ?_
          refine g_region ?_
          refine r_cons (s_move (.slice q pre.length d) rfl rfl ?_)
          refine r_cons (s_assign (.slice q pre.length d) rfl rfl ?_)
          refine r_cons (s_assign (.int .i64 0) rfl rfl ?_)
          refine r_nil ?_
          refine g_ret' [.slice q pre.length d, .int .i64 0] Try.func33 Try.results33 ⟨rfl, rfl, trivial⟩ ?_
          have hE : cutE op s = 0 := cutE_0 (notfalse ‹_›) (by omega)
          have H47 : St W w22 (Row 51 4 (.slice q pre.length d) pre.length (pre.flatMap pcCell) :: pcA pre :: F) := (((H23.move 1 rfl).move 1 rfl).drop 2 rfl)
          have hje : j = manyOf s.length := by omega
          exact ⟨pre, _, _, by rw [hE]; rfl, by rw [cutV_yes hE, ← hje]; exact hp, H47⟩
set_option maxHeartbeats 4000000 in
set_option maxRecDepth 100000 in
theorem ref24_Cut {W w : World} {F : List Atom} (op : I64) (s : List UInt8) (v0 : Value) (hs : s.length ≤ 140737488355328) {j : Nat} (hj : F[j]? = some (Im 1 v0 s.length (s.flatMap u8c))) (H : St W w F) : Calls Try.prog 34 #[.int .i64 op.v, v0] w (Ret fun v w' => ∃ (L : List PieceD) (p : Option Addr) (c : Nat), v = .tuple #[.slice p L.length c, .int .i64 (cutE op s)] ∧ L.map PieceD.v = cutV op s ∧ St W w' (Row 51 4 (.slice p L.length c) L.length (L.flatMap pcCell) :: pcA L :: F)) := by
  obtain ⟨pp1, cc2, rfl, hsh3⟩ := Rd.shape (Im.rd H (i := j) hj)
  have H4 := H.dup (i := j) hj (Im_pers _ _ _ _)
  have hmlH4 := Im.len H4 (i := 0) rfl
  refine calls_of_go (n := 47) Try.func34 rfl Try.ntmps34 rfl ?_
  refine g_seq ?_
  refine g_region ?_
  refine r_cons (s_assign (.slice none 0 0) rfl rfl ?_)
  refine r_cons (s_assign (.int .i64 0) rfl rfl ?_)
  refine r_nil ?_
  refine g_seq ?_
  refine g_seq ?_
  refine g_region ?_
  refine r_cons (s_move (.int .i64 op.v) rfl rfl ?_)
  refine r_cons (s_call [.int .i64 op.v] pl_60 rfl rfl (ref24_time op.v H4) ?_)
  rintro _ w5 ⟨rfl, H6⟩
  refine r_cons (s_not (timeB op.v) rfl (!(timeB op.v)) rfl rfl ?_)
  refine r_nil ?_
  by_cases hb7 : (!(timeB op.v)) = true
  · skip
    refine g_true (congrArg Value.bool hb7) ?_
    refine g_seq ?_
    refine g_region ?_
    refine r_cons (s_assign (.slice none 0 0) rfl rfl ?_)
    refine r_cons (s_assign (.int .i64 1) rfl rfl ?_)
    refine r_nil ?_
    refine g_ret' [.slice none 0 0, .int .i64 1] Try.func34 Try.results34 ⟨rfl, rfl, trivial⟩ ?_
    have hE : cutE op s = 1 := by first | exact cutE_1 (nottrue ‹_›) | exact cutE_3 (notfalse ‹_›) (by omega)
    have H8 := Row.nil_intro H6 51 4
    have H9 := pcA_nil H8
    have H10 : St W w5 (Row 51 4 (.slice none 0 0) 0 [] :: pcA [] :: F) := ((H9.move 1 rfl).drop 2 rfl)
    exact ⟨[], none, 0, by rw [hE]; rfl, by rw [cutV_no (by rw [hE]; decide)]; rfl, H10⟩
  · have hb7 := eq_false_of_ne_true hb7
    refine g_false (congrArg Value.bool hb7) ?_
    refine g_skip ?_
    refine g_seq ?_
    refine g_seq ?_
    refine g_region ?_
    refine r_cons (s_move (.slice pp1 s.length cc2) rfl rfl ?_)
    refine r_cons (s_len s.length rfl ⟨_, un_23⟩ rfl ?_)
    by_cases hc11 : (4194304 : Int) < (s.length : Int)
    · skip
      refine r_cons (s_gtr true rfl rfl (dtrue hc11) rfl ?_)
      refine r_nil ?_
      refine g_true rfl ?_
      refine g_seq ?_
      refine g_region ?_
      refine r_cons (s_assign (.slice none 0 0) rfl rfl ?_)
      refine r_cons (s_assign (.int .i64 3) rfl rfl ?_)
      refine r_nil ?_
      refine g_ret' [.slice none 0 0, .int .i64 3] Try.func34 Try.results34 ⟨rfl, rfl, trivial⟩ ?_
      have hE : cutE op s = 3 := by first | exact cutE_1 (nottrue ‹_›) | exact cutE_3 (notfalse ‹_›) (by omega)
      have H12 := Row.nil_intro H6 51 4
      have H13 := pcA_nil H12
      have H14 : St W w5 (Row 51 4 (.slice none 0 0) 0 [] :: pcA [] :: F) := ((H13.move 1 rfl).drop 2 rfl)
      exact ⟨[], none, 0, by rw [hE]; rfl, by rw [cutV_no (by rw [hE]; decide)]; rfl, H14⟩
    · skip
      refine r_cons (s_gtr false rfl rfl (dfalse hc11) rfl ?_)
      refine r_nil ?_
      refine g_false rfl ?_
      refine g_skip ?_
      refine g_seq ?_
      refine g_region ?_
      refine r_cons (s_move (.slice pp1 s.length cc2) rfl rfl ?_)
      refine r_cons (s_len s.length rfl ⟨_, un_23⟩ rfl ?_)
      refine r_cons (s_add ((s.length : Int) + 4096) rfl rfl (wi64 (by omega)) rfl ?_)
      refine r_cons (s_sub ((s.length : Int) + 4096 - 1) rfl rfl (wi64 (by omega)) rfl ?_)
      refine r_cons (s_quo (((s.length + 4095) / 4096 : Nat) : Int) rfl rfl (by omega) (by rw [tdiv_pos (by omega)]; refine (wi64 (by omega)).trans ?_; omega) rfl ?_)
      refine r_cons (s_max2 ((manyOf s.length : Nat) : Int) rfl rfl (by unfold manyOf; omega) rfl ?_)
      refine r_cons (s_assign (.int .i64 ((manyOf s.length : Nat) : Int)) rfl rfl ?_)
      refine r_nil ?_
      refine g_seq ?_
      refine g_region ?_
      refine r_cons (s_assign (.slice none 0 0) rfl rfl ?_)
      refine r_nil ?_
      refine g_seq ?_
      refine g_seq ?_
      refine g_region ?_
      refine r_cons (s_assign (.int .i64 0) rfl rfl ?_)
      refine r_nil ?_
      refine g_block ?_
      have hmm := manyOf_le (n := s.length) (by omega)
      have H15 := Row.nil_intro H6 51 4
      have H16 := pcA_nil H15
      have H17 : St W w5 (Row 51 4 (.slice none 0 0) 0 [] :: pcA ([] : List PieceD) :: Im 1 (.slice pp1 s.length cc2) s.length (s.flatMap u8c) :: F) := (((H16.move 2 rfl).move 1 rfl).move 2 rfl)
      refine g_loop_inv (fun (x_ : Nat × (List PieceD) × (Option Addr) × Nat) => match x_ with | (j, pre, q, d) => [(0, .int .i64 op.v), (1, .slice pp1 s.length cc2), (4, .slice none 0 0), (5, .int .i64 0), (6, .int .i64 ((manyOf s.length : Nat) : Int)), (7, .slice q pre.length d), (8, .int .i64 (j : Int))]) (fun (x_ : Nat × (List PieceD) × (Option Addr) × Nat) w => match x_ with | (j, pre, q, d) => (j ≤ manyOf s.length) ∧ (pre.map PieceD.v = cutL op s j) ∧ St W w (Row 51 4 (.slice q pre.length d) pre.length (pre.flatMap pcCell) :: pcA pre :: Im 1 (.slice pp1 s.length cc2) s.length (s.flatMap u8c) :: F)) (fun (x_ : Nat × (List PieceD) × (Option Addr) × Nat) => match x_ with | (j, pre, q, d) => manyOf s.length - j) (0, [], none, 0) ?_ ?_ ?_
      · exact ⟨by first | rfl | exact vint (by omega), by first | rfl | exact vint (by omega), by first | rfl | exact vint (by omega), by first | rfl | exact vint (by omega), by first | rfl | exact vint (by omega), by first | rfl | exact vint (by omega), by first | rfl | exact vint (by omega), trivial⟩
      · exact ⟨(by omega), rfl, H17⟩
      · rintro ⟨j, pre, q, d⟩ ρ18 w19 ⟨hjn, hp, H20⟩ nx21
        change Ends _ _ (upds ρ18 [(0, .int .i64 op.v), (1, .slice pp1 s.length cc2), (4, .slice none 0 0), (5, .int .i64 0), (6, .int .i64 ((manyOf s.length : Nat) : Int)), (7, .slice q pre.length d), (8, .int .i64 (j : Int))]) w19
        have hpl := mapP_len hp
        rw [cutL_len] at hpl
        refine g_seq ?_
        refine g_seq ?_
        refine g_region ?_
        refine r_cons (s_move (.int .i64 (j : Int)) rfl rfl ?_)
        refine r_cons (s_move (.int .i64 ((manyOf s.length : Nat) : Int)) rfl rfl ?_)
        by_cases hc22 : (j : Int) < ((manyOf s.length : Nat) : Int)
        · skip
          refine r_cons (s_lss true rfl rfl (dtrue hc22) rfl ?_)
          refine r_nil ?_
          refine g_true rfl ?_
          refine g_skip ?_
          refine g_seq ?_
          refine g_block ?_
          refine g_seq ?_
          refine g_region ?_
          have hj4 := manyOf_lt (n := s.length) (j := j) (by omega)
          have hcl := cut_len s j hj4
          have hcd := cut_data s j hj4
          have hmv := i64N_v (n := manyOf s.length) (by omega)
          have hjv := i64N_v (n := j) (by omega)
          refine r_cons (s_move (.slice pp1 s.length cc2) rfl rfl ?_)
          refine r_cons (s_len s.length rfl ⟨_, un_23⟩ rfl ?_)
          refine r_cons (s_move (.int .i64 (j : Int)) rfl rfl ?_)
          refine r_cons (s_add ((j : Int) + 1) rfl rfl (wi64 (by omega)) rfl ?_)
          refine r_cons (s_mul (((j + 1) * 4096 : Nat) : Int) rfl rfl (wi64 (by omega)) rfl ?_)
          refine r_cons (s_min2 ((min s.length ((j + 1) * 4096) : Nat) : Int) rfl rfl (by omega) rfl ?_)
          refine r_cons (s_assign (.int .i64 ((min s.length ((j + 1) * 4096) : Nat) : Int)) rfl rfl ?_)
          refine r_nil ?_
          refine g_region ?_
          refine r_cons (s_move (.slice q pre.length d) rfl rfl ?_)
          refine r_cons (s_move (.int .i64 op.v) rfl rfl ?_)
          refine r_cons (s_move (.int .i64 ((manyOf s.length : Nat) : Int)) rfl rfl ?_)
          refine r_cons (s_move (.int .i64 (j : Int)) rfl rfl ?_)
          refine r_cons (s_move (.slice pp1 s.length cc2) rfl rfl ?_)
          refine r_cons (s_move (.int .i64 (j : Int)) rfl rfl ?_)
          refine r_cons (s_mul ((j * 4096 : Nat) : Int) rfl rfl (wi64 (by omega)) rfl ?_)
          refine r_cons (s_move (.int .i64 ((min s.length ((j + 1) * 4096) : Nat) : Int)) rfl rfl ?_)
          have hc23 := Im.cap H20 (i := 2) rfl
          refine r_cons (s_slice pp1 ((j * 4096 : Nat) : Int) ((min s.length ((j + 1) * 4096) : Nat) : Int) 1 (.slice (cutAt pp1 (j * 4096) cc2 1) ((min s.length ((j + 1) * 4096)) - (j * 4096)) (cc2 - (j * 4096))) rfl rfl rfl el_23 (by omega) (by first | rfl | (congr 1; omega)) rfl ?_)
          have H24 : St W w19 (Im 1 (.slice (cutAt pp1 (j * 4096) cc2 1) ((min s.length ((j + 1) * 4096)) - (j * 4096)) (cc2 - (j * 4096))) ((min s.length ((j + 1) * 4096)) - (j * 4096)) (((s.drop (j * 4096)).take ((min s.length ((j + 1) * 4096)) - (j * 4096))).flatMap u8c) :: Row 51 4 (.slice q pre.length d) pre.length (pre.flatMap pcCell) :: pcA pre :: Im 1 (.slice pp1 s.length cc2) s.length (s.flatMap u8c) :: F) := Im.cut u8c_len (j * 4096) (min s.length ((j + 1) * 4096)) H20 (i := 2) rfl (by omega) (by omega)
          have H25 := Row.nil_intro H24 5 1
          refine r_cons (s_append H25 0 rfl rfl rfl (Im.rd H25 (i := 1) rfl) ap_23 (by decide) (by unfold maxLen; omega) (by omega) (n' := (min s.length ((j + 1) * 4096)) - (j * 4096)) (xs' := ((s.drop (j * 4096)).take ((min s.length ((j + 1) * 4096)) - (j * 4096))).flatMap u8c) (by omega) (by first | rfl | simp) rfl ?_); intro vv26 w27 H28 hn29
          obtain ⟨pp30, cc31, rfl⟩ := Row.slice H28 (i := 0) rfl
          refine r_cons (s_build (cs := #[.int .i64 op.v, .int .i64 ((manyOf s.length : Nat) : Int), .int .i64 (j : Int), .slice pp30 ((min s.length ((j + 1) * 4096)) - (j * 4096)) cc31]) (by kernel_rfl) rfl ?_)
          refine r_cons (s_buildSlice H28 4 1 (cs := #[.int .i64 op.v, .int .i64 ((manyOf s.length : Nat) : Int), .int .i64 (j : Int), .slice pp30 ((min s.length ((j + 1) * 4096)) - (j * 4096)) cc31]) #[.int .i64 0, .int .i64 0, .int .i64 0, .slice none 0 0] el_60 ze_51 (by decide) (by decide) (by kernel_rfl) rfl ?_); intro bk32 w33 H34
          refine r_cons (s_append H34 3 rfl rfl rfl (rd_blk (H34.blk_at (i := 0) rfl) rfl (Nat.le_of_ble_eq_true rfl) (by simp [Value.oneCell'])) ap_60 (by decide) (by unfold maxLen; omega) (by omega) (n' := pre.length + 1) (xs' := pre.flatMap pcCell ++ ([.int .i64 op.v, .int .i64 ((manyOf s.length : Nat) : Int), .int .i64 (j : Int), .slice pp30 ((min s.length ((j + 1) * 4096)) - (j * 4096)) cc31] : List Value)) (by omega) (by first | rfl | simp) rfl ?_); intro vv35 w36 H37 hn38
          obtain ⟨pp39, cc40, rfl⟩ := Row.slice H37 (i := 3) rfl
          refine r_cons (s_assign (.slice pp39 (pre.length + 1) cc40) rfl rfl ?_)
          refine r_nil ?_
          refine g_inBlock ?_
          refine g_region ?_
          refine r_cons (s_move (.int .i64 (j : Int)) rfl rfl ?_)
          refine r_cons (s_add ((j : Int) + 1) rfl rfl (wi64 (by omega)) rfl ?_)
          refine r_cons (s_assign (.int .i64 ((j : Int) + 1)) rfl rfl ?_)
          refine r_nil ?_
          have H41 : St W w36 (blk bk32 (.cells #[.int .i64 op.v, .int .i64 ((manyOf s.length : Nat) : Int), .int .i64 (j : Int), .slice pp30 ((min s.length ((j + 1) * 4096)) - (j * 4096)) cc31] 51 (0, 0)) :: Row 5 1 (.slice pp30 ((pcAt op s j).data.length) cc31) ((pcAt op s j).data.length) ((pcAt op s j).data.flatMap u8c) :: Im 1 (.slice (cutAt pp1 (j * 4096) cc2 1) ((min s.length ((j + 1) * 4096)) - (j * 4096)) (cc2 - (j * 4096))) ((min s.length ((j + 1) * 4096)) - (j * 4096)) (((s.drop (j * 4096)).take ((min s.length ((j + 1) * 4096)) - (j * 4096))).flatMap u8c) :: Row 51 4 (.slice pp39 (pre.length + 1) cc40) (pre.length + 1) (pre.flatMap pcCell ++ ([.int .i64 op.v, .int .i64 ((manyOf s.length : Nat) : Int), .int .i64 (j : Int), .slice pp30 ((min s.length ((j + 1) * 4096)) - (j * 4096)) cc31] : List Value)) :: pcA pre :: Im 1 (.slice pp1 s.length cc2) s.length (s.flatMap u8c) :: F) := by rw [show ((pcAt op s j).data).length = min s.length ((j + 1) * 4096) - j * 4096 from hcl, show (pcAt op s j).data = (s.drop (j * 4096)).take (min s.length ((j + 1) * 4096) - j * 4096) from hcd.symm]; exact H37
          have H42 : St W w36 (blk bk32 (.cells #[.int .i64 op.v, .int .i64 ((manyOf s.length : Nat) : Int), .int .i64 (j : Int), .slice pp30 ((min s.length ((j + 1) * 4096)) - (j * 4096)) cc31] 51 (0, 0)) :: Im 1 (.slice pp30 ((pcAt op s j).data.length) cc31) (((pcAt op s j).data).length) (((pcAt op s j).data).flatMap u8c) :: Im 1 (.slice (cutAt pp1 (j * 4096) cc2 1) ((min s.length ((j + 1) * 4096)) - (j * 4096)) (cc2 - (j * 4096))) ((min s.length ((j + 1) * 4096)) - (j * 4096)) (((s.drop (j * 4096)).take ((min s.length ((j + 1) * 4096)) - (j * 4096))).flatMap u8c) :: Row 51 4 (.slice pp39 (pre.length + 1) cc40) (pre.length + 1) (pre.flatMap pcCell ++ ([.int .i64 op.v, .int .i64 ((manyOf s.length : Nat) : Int), .int .i64 (j : Int), .slice pp30 ((min s.length ((j + 1) * 4096)) - (j * 4096)) cc31] : List Value)) :: pcA pre :: Im 1 (.slice pp1 s.length cc2) s.length (s.flatMap u8c) :: F) := Row.im H41 (i := 1) rfl
          have H43 : St W w36 (Im 1 (.slice pp30 ((pcAt op s j).data.length) cc31) (((pcAt op s j).data).length) (((pcAt op s j).data).flatMap u8c) :: pcA pre :: blk bk32 (.cells #[.int .i64 op.v, .int .i64 ((manyOf s.length : Nat) : Int), .int .i64 (j : Int), .slice pp30 ((min s.length ((j + 1) * 4096)) - (j * 4096)) cc31] 51 (0, 0)) :: Im 1 (.slice (cutAt pp1 (j * 4096) cc2 1) ((min s.length ((j + 1) * 4096)) - (j * 4096)) (cc2 - (j * 4096))) ((min s.length ((j + 1) * 4096)) - (j * 4096)) (((s.drop (j * 4096)).take ((min s.length ((j + 1) * 4096)) - (j * 4096))).flatMap u8c) :: Row 51 4 (.slice pp39 (pre.length + 1) cc40) (pre.length + 1) (pre.flatMap pcCell ++ ([.int .i64 op.v, .int .i64 ((manyOf s.length : Nat) : Int), .int .i64 (j : Int), .slice pp30 ((min s.length ((j + 1) * 4096)) - (j * 4096)) cc31] : List Value)) :: Im 1 (.slice pp1 s.length cc2) s.length (s.flatMap u8c) :: F) := ((H42.move 4 rfl).move 2 rfl)
          have H44 : St W w36 (pcA (pre ++ [(⟨pcAt op s j, pp30, cc31⟩ : PieceD)]) :: blk bk32 (.cells #[.int .i64 op.v, .int .i64 ((manyOf s.length : Nat) : Int), .int .i64 (j : Int), .slice pp30 ((min s.length ((j + 1) * 4096)) - (j * 4096)) cc31] 51 (0, 0)) :: Im 1 (.slice (cutAt pp1 (j * 4096) cc2 1) ((min s.length ((j + 1) * 4096)) - (j * 4096)) (cc2 - (j * 4096))) ((min s.length ((j + 1) * 4096)) - (j * 4096)) (((s.drop (j * 4096)).take ((min s.length ((j + 1) * 4096)) - (j * 4096))).flatMap u8c) :: Row 51 4 (.slice pp39 (pre.length + 1) cc40) (pre.length + 1) (pre.flatMap pcCell ++ ([.int .i64 op.v, .int .i64 ((manyOf s.length : Nat) : Int), .int .i64 (j : Int), .slice pp30 ((min s.length ((j + 1) * 4096)) - (j * 4096)) cc31] : List Value)) :: Im 1 (.slice pp1 s.length cc2) s.length (s.flatMap u8c) :: F) := pcA_snoc (x := (⟨pcAt op s j, pp30, cc31⟩ : PieceD)) H43
          have hpc : pcCell (⟨pcAt op s j, pp30, cc31⟩ : PieceD) = [.int .i64 op.v, .int .i64 ((manyOf s.length : Nat) : Int), .int .i64 (j : Int), .slice pp30 ((min s.length ((j + 1) * 4096)) - (j * 4096)) cc31] := by show [_, Value.int .i64 (i64N _).v, Value.int .i64 (i64N _).v, Value.slice _ (pcAt op s j).data.length _] = _; rw [hmv, hjv, show (pcAt op s j).data.length = min s.length ((j + 1) * 4096) - j * 4096 from hcl]; rfl
          have H45 : St W w36 (pcA (pre ++ [(⟨pcAt op s j, pp30, cc31⟩ : PieceD)]) :: blk bk32 (.cells #[.int .i64 op.v, .int .i64 ((manyOf s.length : Nat) : Int), .int .i64 (j : Int), .slice pp30 ((min s.length ((j + 1) * 4096)) - (j * 4096)) cc31] 51 (0, 0)) :: Im 1 (.slice (cutAt pp1 (j * 4096) cc2 1) ((min s.length ((j + 1) * 4096)) - (j * 4096)) (cc2 - (j * 4096))) ((min s.length ((j + 1) * 4096)) - (j * 4096)) (((s.drop (j * 4096)).take ((min s.length ((j + 1) * 4096)) - (j * 4096))).flatMap u8c) :: Row 51 4 (.slice pp39 ((pre ++ [(⟨pcAt op s j, pp30, cc31⟩ : PieceD)]).length) cc40) ((pre ++ [(⟨pcAt op s j, pp30, cc31⟩ : PieceD)]).length) ((pre ++ [(⟨pcAt op s j, pp30, cc31⟩ : PieceD)]).flatMap pcCell) :: Im 1 (.slice pp1 s.length cc2) s.length (s.flatMap u8c) :: F) := by rw [flat_snocP, List.length_append, hpc]; exact H44
          have H46 : St W w36 (Row 51 4 (.slice pp39 ((pre ++ [(⟨pcAt op s j, pp30, cc31⟩ : PieceD)]).length) cc40) ((pre ++ [(⟨pcAt op s j, pp30, cc31⟩ : PieceD)]).length) ((pre ++ [(⟨pcAt op s j, pp30, cc31⟩ : PieceD)]).flatMap pcCell) :: pcA (pre ++ [(⟨pcAt op s j, pp30, cc31⟩ : PieceD)]) :: Im 1 (.slice pp1 s.length cc2) s.length (s.flatMap u8c) :: F) := (((((H45.move 4 rfl).move 1 rfl).move 4 rfl).drop 3 rfl).drop 3 rfl)
          exact nx21 (j + 1, (pre ++ [(⟨pcAt op s j, pp30, cc31⟩ : PieceD)]), pp39, cc40) _ _ ⟨(by omega), (cut_step hp), H46⟩ (by first | (dsimp only; omega) | omega) ⟨by first | rfl | exact vint (by omega), by first | rfl | exact vint (by omega), by first | rfl | exact vint (by omega), by first | rfl | exact vint (by omega), by first | rfl | exact vint (by omega), by first | rfl | (show Value.slice _ _ _ = _; rw [List.length_append]; rfl), by first | rfl | exact vint (by omega), trivial⟩
        · skip
          refine r_cons (s_lss false rfl rfl (dfalse hc22) rfl ?_)
          refine r_nil ?_
          refine g_false rfl ?_
          refine g_exit (by rfl) ?_
          refine g_seq ?_
          refine g_region ?_
          refine r_cons (s_move (.slice q pre.length d) rfl rfl ?_)
          refine r_cons (s_assign (.slice q pre.length d) rfl rfl ?_)
          refine r_cons (s_assign (.int .i64 0) rfl rfl ?_)
          refine r_nil ?_
          refine g_ret' [.slice q pre.length d, .int .i64 0] Try.func34 Try.results34 ⟨rfl, rfl, trivial⟩ ?_
          have hE : cutE op s = 0 := cutE_0 (notfalse ‹_›) (by omega)
          have H47 : St W w19 (Row 51 4 (.slice q pre.length d) pre.length (pre.flatMap pcCell) :: pcA pre :: F) := (((H20.move 1 rfl).move 1 rfl).drop 2 rfl)
          have hje : j = manyOf s.length := by omega
          exact ⟨pre, _, _, by rw [hE]; rfl, by rw [cutV_yes hE, ← hje]; exact hp, H47⟩
set_option maxHeartbeats 4000000 in
set_option maxRecDepth 100000 in
theorem SamePiece_ {W w : World} {F : List Atom} (x y : PieceD) {j k : Nat} (hj : F[j]? = some (DtA x.p x.c x.v.data)) (hk : F[k]? = some (DtA y.p y.c y.v.data)) (H : St W w F) : Calls Try.prog 39 #[.agg #[.int .i64 x.v.op.v, .int .i64 x.v.many.v, .int .i64 x.v.index.v, .slice x.p x.v.data.length x.c], .agg #[.int .i64 y.v.op.v, .int .i64 y.v.many.v, .int .i64 y.v.index.v, .slice y.p y.v.data.length y.c]] w (Ret fun v w' => v = .bool (samePc x.v y.v) ∧ St W w' F) := by
  have H0 := (H.dup hj (DtA_pers _ _ _)).dup (i := k + 1) (by exact hk) (DtA_pers _ _ _)
  have H1 : St W w (Im 1 (.slice y.p y.v.data.length y.c) y.v.data.length (y.v.data.flatMap u8c) :: Im 1 (.slice x.p x.v.data.length x.c) x.v.data.length (x.v.data.flatMap u8c) :: F) := H0
  refine calls_of_go (n := 33) Try.func39 rfl Try.ntmps39 rfl ?_
  refine g_seq ?_
  refine g_region ?_
  refine r_cons (s_box H1 51 (.agg #[.int .i64 x.v.op.v, .int .i64 x.v.many.v, .int .i64 x.v.index.v, .slice x.p x.v.data.length x.c]) rfl (cs := #[.int .i64 x.v.op.v, .int .i64 x.v.many.v, .int .i64 x.v.index.v, .slice x.p x.v.data.length x.c]) rfl rfl ?_); intro bk2 w3 H4
  refine r_cons (s_box H4 51 (.agg #[.int .i64 y.v.op.v, .int .i64 y.v.many.v, .int .i64 y.v.index.v, .slice y.p y.v.data.length y.c]) rfl (cs := #[.int .i64 y.v.op.v, .int .i64 y.v.many.v, .int .i64 y.v.index.v, .slice y.p y.v.data.length y.c]) rfl rfl ?_); intro bk5 w6 H7
  refine r_cons (s_assign (.bool false) rfl rfl ?_)
  refine r_nil ?_
  refine g_seq ?_
  refine g_region ?_
  refine r_cons (s_fieldAddr 51 0 0 0 3 rfl fi_51_0 rfl rfl ?_)
  refine r_cons (s_load (.int .i64 x.v.op.v) ag_3 rfl (H7.blk_at (i := 1) rfl) rfl rfl ?_)
  refine r_cons (s_fieldAddr 51 0 0 0 3 rfl fi_51_0 rfl rfl ?_)
  refine r_cons (s_load (.int .i64 y.v.op.v) ag_3 rfl (H7.blk_at (i := 0) rfl) rfl rfl ?_)
  by_cases hc8 : x.v.op.v = y.v.op.v
  · skip
    refine r_cons (s_eql true rfl rfl (dtrue hc8) rfl ?_)
    refine r_cons (s_move (.bool true) rfl rfl ?_)
    refine r_cons (r_take rfl rfl ?_)
    refine s_fieldAddr 51 1 1 1 3 rfl fi_51_1 rfl rfl ?_
    refine r_cons (r_take rfl rfl ?_)
    refine s_load (.int .i64 x.v.many.v) ag_3 rfl (H7.blk_at (i := 1) rfl) rfl rfl ?_
    refine r_cons (r_take rfl rfl ?_)
    refine s_fieldAddr 51 1 1 1 3 rfl fi_51_1 rfl rfl ?_
    refine r_cons (r_take rfl rfl ?_)
    refine s_load (.int .i64 y.v.many.v) ag_3 rfl (H7.blk_at (i := 0) rfl) rfl rfl ?_
    refine r_cons (r_take rfl rfl ?_)
    by_cases hc9 : x.v.many.v = y.v.many.v
    · skip
      refine s_eql true rfl rfl (dtrue hc9) rfl ?_
      refine r_cons (s_pick_t (.bool true) rfl rfl rfl ?_)
      refine r_cons (s_move (.bool true) rfl rfl ?_)
      refine r_cons (r_take rfl rfl ?_)
      refine s_fieldAddr 51 2 2 2 3 rfl fi_51_2 rfl rfl ?_
      refine r_cons (r_take rfl rfl ?_)
      refine s_load (.int .i64 x.v.index.v) ag_3 rfl (H7.blk_at (i := 1) rfl) rfl rfl ?_
      refine r_cons (r_take rfl rfl ?_)
      refine s_fieldAddr 51 2 2 2 3 rfl fi_51_2 rfl rfl ?_
      refine r_cons (r_take rfl rfl ?_)
      refine s_load (.int .i64 y.v.index.v) ag_3 rfl (H7.blk_at (i := 0) rfl) rfl rfl ?_
      refine r_cons (r_take rfl rfl ?_)
      by_cases hc10 : x.v.index.v = y.v.index.v
      · skip
        refine s_eql true rfl rfl (dtrue hc10) rfl ?_
        refine r_cons (s_pick_t (.bool true) rfl rfl rfl ?_)
        refine r_cons (s_move (.bool true) rfl rfl ?_)
        refine r_cons (r_take rfl rfl ?_)
        refine s_fieldAddr 51 3 3 3 23 rfl fi_51_3 rfl rfl ?_
        refine r_cons (r_take rfl rfl ?_)
        refine s_load (.slice x.p x.v.data.length x.c) ag_23 rfl (H7.blk_at (i := 1) rfl) rfl rfl ?_
        refine r_cons (r_take rfl rfl ?_)
        refine (s_bytes_str (xs := x.v.data) rfl (by rw [bytesV_flat]; exact (Im.rd H7 (i := 3) rfl)) un_23 un_5 un_9 rfl ?_)
        refine r_cons (r_take rfl rfl ?_)
        refine s_fieldAddr 51 3 3 3 23 rfl fi_51_3 rfl rfl ?_
        refine r_cons (r_take rfl rfl ?_)
        refine s_load (.slice y.p y.v.data.length y.c) ag_23 rfl (H7.blk_at (i := 0) rfl) rfl rfl ?_
        refine r_cons (r_take rfl rfl ?_)
        refine (s_bytes_str (xs := y.v.data) rfl (by rw [bytesV_flat]; exact (Im.rd H7 (i := 2) rfl)) un_23 un_5 un_9 rfl ?_)
        refine r_cons (r_take rfl rfl ?_)
        refine s_seql (decide ((⟨(x.v.data).toArray⟩ : ByteArray) = ⟨(y.v.data).toArray⟩)) rfl rfl rfl rfl ?_
        refine r_cons (s_pick_t (.bool (decide ((⟨(x.v.data).toArray⟩ : ByteArray) = ⟨(y.v.data).toArray⟩))) rfl rfl rfl ?_)
        refine r_cons (s_assign (.bool (decide ((⟨(x.v.data).toArray⟩ : ByteArray) = ⟨(y.v.data).toArray⟩))) rfl rfl ?_)
        refine r_nil ?_
        refine g_ret' [.bool (decide ((⟨(x.v.data).toArray⟩ : ByteArray) = ⟨(y.v.data).toArray⟩))] Try.func39 Try.results39 ⟨rfl, trivial⟩ ?_
        have H11 : St W w6 F := ((((H7.drop 0 rfl).drop 0 rfl).drop 0 rfl).drop 0 rfl)
        exact ⟨congrArg Value.bool (by unfold samePc; (try simp only [Bool.and_true, Bool.and_eq_true, Bool.and_eq_false_iff, decide_eq_true_eq, decide_eq_false_iff_not] at *); first | (simp_all; done) | (simp_all; omega)), H11⟩
      · skip
        refine s_eql false rfl rfl (dfalse hc10) rfl ?_
        refine r_cons (s_pick_t (.bool false) rfl rfl rfl ?_)
        refine r_cons (s_move (.bool false) rfl rfl ?_)
        refine r_cons (r_pass rfl rfl rfl rfl rfl ?_)
        refine r_cons (r_pass rfl rfl rfl rfl rfl ?_)
        refine r_cons (r_pass rfl rfl rfl rfl rfl ?_)
        refine r_cons (r_pass rfl rfl rfl rfl rfl ?_)
        refine r_cons (r_pass rfl rfl rfl rfl rfl ?_)
        refine r_cons (r_pass rfl rfl rfl rfl rfl ?_)
        refine r_cons (r_pass rfl rfl rfl rfl rfl ?_)
        refine r_cons (s_pick_f (.bool false) rfl rfl rfl ?_)
        refine r_cons (s_assign (.bool false) rfl rfl ?_)
        refine r_nil ?_
        refine g_ret' [.bool false] Try.func39 Try.results39 ⟨rfl, trivial⟩ ?_
        have H12 : St W w6 F := ((((H7.drop 0 rfl).drop 0 rfl).drop 0 rfl).drop 0 rfl)
        exact ⟨congrArg Value.bool (by unfold samePc; (try simp only [Bool.and_true, Bool.and_eq_true, Bool.and_eq_false_iff, decide_eq_true_eq, decide_eq_false_iff_not] at *); first | (simp_all; done) | (simp_all; omega)), H12⟩
    · skip
      refine s_eql false rfl rfl (dfalse hc9) rfl ?_
      refine r_cons (s_pick_t (.bool false) rfl rfl rfl ?_)
      refine r_cons (s_move (.bool false) rfl rfl ?_)
      refine r_cons (r_pass rfl rfl rfl rfl rfl ?_)
      refine r_cons (r_pass rfl rfl rfl rfl rfl ?_)
      refine r_cons (r_pass rfl rfl rfl rfl rfl ?_)
      refine r_cons (r_pass rfl rfl rfl rfl rfl ?_)
      refine r_cons (r_pass rfl rfl rfl rfl rfl ?_)
      refine r_cons (s_pick_f (.bool false) rfl rfl rfl ?_)
      refine r_cons (s_move (.bool false) rfl rfl ?_)
      refine r_cons (r_pass rfl rfl rfl rfl rfl ?_)
      refine r_cons (r_pass rfl rfl rfl rfl rfl ?_)
      refine r_cons (r_pass rfl rfl rfl rfl rfl ?_)
      refine r_cons (r_pass rfl rfl rfl rfl rfl ?_)
      refine r_cons (r_pass rfl rfl rfl rfl rfl ?_)
      refine r_cons (r_pass rfl rfl rfl rfl rfl ?_)
      refine r_cons (r_pass rfl rfl rfl rfl rfl ?_)
      refine r_cons (s_pick_f (.bool false) rfl rfl rfl ?_)
      refine r_cons (s_assign (.bool false) rfl rfl ?_)
      refine r_nil ?_
      refine g_ret' [.bool false] Try.func39 Try.results39 ⟨rfl, trivial⟩ ?_
      have H13 : St W w6 F := ((((H7.drop 0 rfl).drop 0 rfl).drop 0 rfl).drop 0 rfl)
      exact ⟨congrArg Value.bool (by unfold samePc; (try simp only [Bool.and_true, Bool.and_eq_true, Bool.and_eq_false_iff, decide_eq_true_eq, decide_eq_false_iff_not] at *); first | (simp_all; done) | (simp_all; omega)), H13⟩
  · skip
    refine r_cons (s_eql false rfl rfl (dfalse hc8) rfl ?_)
    refine r_cons (s_move (.bool false) rfl rfl ?_)
    refine r_cons (r_pass rfl rfl rfl rfl rfl ?_)
    refine r_cons (r_pass rfl rfl rfl rfl rfl ?_)
    refine r_cons (r_pass rfl rfl rfl rfl rfl ?_)
    refine r_cons (r_pass rfl rfl rfl rfl rfl ?_)
    refine r_cons (r_pass rfl rfl rfl rfl rfl ?_)
    refine r_cons (s_pick_f (.bool false) rfl rfl rfl ?_)
    refine r_cons (s_move (.bool false) rfl rfl ?_)
    refine r_cons (r_pass rfl rfl rfl rfl rfl ?_)
    refine r_cons (r_pass rfl rfl rfl rfl rfl ?_)
    refine r_cons (r_pass rfl rfl rfl rfl rfl ?_)
    refine r_cons (r_pass rfl rfl rfl rfl rfl ?_)
    refine r_cons (r_pass rfl rfl rfl rfl rfl ?_)
    refine r_cons (s_pick_f (.bool false) rfl rfl rfl ?_)
    refine r_cons (s_move (.bool false) rfl rfl ?_)
    refine r_cons (r_pass rfl rfl rfl rfl rfl ?_)
    refine r_cons (r_pass rfl rfl rfl rfl rfl ?_)
    refine r_cons (r_pass rfl rfl rfl rfl rfl ?_)
    refine r_cons (r_pass rfl rfl rfl rfl rfl ?_)
    refine r_cons (r_pass rfl rfl rfl rfl rfl ?_)
    refine r_cons (r_pass rfl rfl rfl rfl rfl ?_)
    refine r_cons (r_pass rfl rfl rfl rfl rfl ?_)
    refine r_cons (s_pick_f (.bool false) rfl rfl rfl ?_)
    refine r_cons (s_assign (.bool false) rfl rfl ?_)
    refine r_nil ?_
    refine g_ret' [.bool false] Try.func39 Try.results39 ⟨rfl, trivial⟩ ?_
    have H14 : St W w6 F := ((((H7.drop 0 rfl).drop 0 rfl).drop 0 rfl).drop 0 rfl)
    exact ⟨congrArg Value.bool (by unfold samePc; (try simp only [Bool.and_true, Bool.and_eq_true, Bool.and_eq_false_iff, decide_eq_true_eq, decide_eq_false_iff_not] at *); first | (simp_all; done) | (simp_all; omega)), H14⟩
set_option maxHeartbeats 4000000 in
set_option maxRecDepth 100000 in
theorem EqualFunc_pieces {W w : World} {F : List Atom} (L M : List PieceD) (u v : Value) (heq : L.map PieceD.v = M.map PieceD.v) {j k a b : Nat} (hj : F[j]? = some (Im 4 u L.length (L.flatMap pcCell))) (hk : F[k]? = some (Im 4 v M.length (M.flatMap pcCell))) (ha : F[a]? = some (pcA L)) (hb : F[b]? = some (pcA M)) (H : St W w F) : Calls Try.prog 40 #[u, v, .func (.func 39) #[] #[]] w (Ret fun v w' => v = .bool true ∧ St W w' F) := by
  obtain ⟨pp1, cc2, rfl, hsh3⟩ := Rd.shape (Im.rd H (i := j) hj)
  have H4 := H.dup (i := j) hj (Im_pers _ _ _ _)
  have hmlH4 := Im.len H4 (i := 0) rfl
  obtain ⟨pp5, cc6, rfl, hsh7⟩ := Rd.shape (Im.rd H (i := k) hk)
  have H8 := ((H4.dup (i := k + 1) (by exact hk) (Im_pers _ _ _ _)).dup (i := a + 2) (by exact ha) (pcA_pers _)).dup (i := b + 3) (by exact hb) (pcA_pers _)
  have H9 : St W w (pcA M :: pcA L :: Im 4 (.slice pp5 M.length cc6) M.length (M.flatMap pcCell) :: Im 4 (.slice pp1 L.length cc2) L.length (L.flatMap pcCell) :: F) := H8
  have hl : L.length = M.length := by rw [mapP_len heq, List.length_map]
  refine calls_of_go (n := 32) Try.func40 rfl Try.ntmps40 rfl ?_
  refine g_seq ?_
  refine g_region ?_
  refine r_cons (s_assign (.bool false) rfl rfl ?_)
  refine r_nil ?_
  refine g_seq ?_
  refine g_seq ?_
  refine g_region ?_
  refine r_cons (s_move (.slice pp1 L.length cc2) rfl rfl ?_)
  refine r_cons (s_len L.length rfl ⟨_, un_60⟩ rfl ?_)
  refine r_cons (s_move (.slice pp5 M.length cc6) rfl rfl ?_)
  refine r_cons (s_len M.length rfl ⟨_, un_60⟩ rfl ?_)
  refine r_cons (s_neq false rfl rfl (ntrue (by omega)) rfl ?_)
  refine r_nil ?_
  refine g_false rfl ?_
  refine g_skip ?_
  refine g_seq ?_
  refine g_seq ?_
  refine g_region ?_
  refine r_cons (s_move (.slice pp1 L.length cc2) rfl rfl ?_)
  refine r_cons (s_len L.length rfl ⟨_, un_60⟩ rfl ?_)
  refine r_cons (s_move (.int .i64 0) rfl rfl ?_)
  refine r_nil ?_
  refine g_block ?_
  obtain ⟨pA10, cA11, gA12, oA13, kA14, eA15, zA16, he22, hn17, hp18, hx19, hs20, hml, H21⟩ := Im.open_ H9 (i := 3) rfl
  obtain ⟨rfl, rfl⟩ : pp1 = pA10 ∧ cc2 = cA11 := by injection he22 with a_ b_ c_; exact ⟨a_, c_⟩
  obtain ⟨pA23, cA24, gA25, oA26, kA27, eA28, zA29, he35, hn30, hp31, hx32, hs33, hml, H34⟩ := Im.open_ H21 (i := 3) rfl
  obtain ⟨rfl, rfl⟩ : pp5 = pA23 ∧ cc6 = cA24 := by injection he35 with a_ b_ c_; exact ⟨a_, c_⟩
  refine g_loop_inv (fun (x_ : Nat) => match x_ with | j2 => [(1, .slice pp5 M.length cc6), (2, .func (.func 39) #[] #[]), (6, .bool false), (15, .slice pp1 L.length cc2), (16, .int .i64 (L.length : Int)), (17, .int .i64 (j2 : Int))]) (fun (x_ : Nat) w => match x_ with | j2 => (j2 ≤ L.length) ∧ St W w (imi (0 < M.length) gA25 (.cells kA27 eA28 zA29) :: imi (0 < L.length) gA12 (.cells kA14 eA15 zA16) :: pcA M :: pcA L :: Im 4 (.slice pp5 M.length cc6) M.length (M.flatMap pcCell) :: Im 4 (.slice pp1 L.length cc2) L.length (L.flatMap pcCell) :: F)) (fun (x_ : Nat) => match x_ with | j2 => L.length - j2) (0) ?_ ?_ ?_
  · exact ⟨by first | rfl | exact vint (by omega), by first | rfl | exact vint (by omega), by first | rfl | exact vint (by omega), by first | rfl | exact vint (by omega), by first | rfl | exact vint (by omega), by first | rfl | exact vint (by omega), trivial⟩
  · exact ⟨(by omega), H34⟩
  · rintro j2 ρ36 w37 ⟨hjn, H38⟩ nx39
    change Ends _ _ (upds ρ36 [(1, .slice pp5 M.length cc6), (2, .func (.func 39) #[] #[]), (6, .bool false), (15, .slice pp1 L.length cc2), (16, .int .i64 (L.length : Int)), (17, .int .i64 (j2 : Int))]) w37
    refine g_seq ?_
    refine g_region ?_
    by_cases hc40 : (j2 : Int) < (L.length : Int)
    · skip
      refine r_cons (s_lss true rfl rfl (dtrue hc40) rfl ?_)
      refine r_nil ?_
      refine g_seq ?_
      refine g_true rfl ?_
      refine g_skip ?_
      refine g_seq ?_
      refine g_block ?_
      refine g_seq ?_
      refine g_region ?_
      refine r_cons (s_move (.int .i64 (j2 : Int)) rfl rfl ?_)
      refine r_cons (s_indexAddr gA12 (off := oA13) (j2 : Int) 4 (oA13 + j2 * 4) (by exact congrArg (fun z_ => Value.slice z_ L.length cc2) (hp18 (by omega))) rfl el_60 (by omega) rfl rfl ?_)
      refine r_cons (s_loadAgg [.int .i64 ((L.getD j2 default).v.op.v), .int .i64 ((L.getD j2 default).v.many.v), .int .i64 ((L.getD j2 default).v.index.v), .slice ((L.getD j2 default).p) ((L.getD j2 default).v.data.length) ((L.getD j2 default).c)] 4 ag_51 rfl (H38.imi_at (i := 1) rfl (by omega)) (by have := elem_size (i := j2) (s := 4) (hs20 (by omega)) (by omega); omega) (elem_take pcCell_len (hx19 (by omega)) (by omega) default) rfl ?_)
      refine r_cons (s_alloc H38 51 ze_51 rfl ?_); intro bk41 w42 H43
      refine r_cons (s_assign (.int .i64 (j2 : Int)) rfl rfl ?_)
      refine r_cons (s_storeAgg H43 0 #[.int .i64 ((L.getD j2 default).v.op.v), .int .i64 ((L.getD j2 default).v.many.v), .int .i64 ((L.getD j2 default).v.index.v), .slice ((L.getD j2 default).p) ((L.getD j2 default).v.data.length) ((L.getD j2 default).c)] 4 rfl rfl rfl sz_51 rfl (by simp [Value.oneCell']) (Nat.le_of_ble_eq_true rfl) (fun o h1 h2 => by first | (simp; done) | (simp; omega)) (cs' := #[.int .i64 ((L.getD j2 default).v.op.v), .int .i64 ((L.getD j2 default).v.many.v), .int .i64 ((L.getD j2 default).v.index.v), .slice ((L.getD j2 default).p) ((L.getD j2 default).v.data.length) ((L.getD j2 default).c)]) rfl ?_); intro w44 H45
      refine r_nil ?_
      refine g_seq ?_
      refine g_region ?_
      refine r_cons (s_move (.slice pp5 M.length cc6) rfl rfl ?_)
      refine r_cons (s_move (.int .i64 (j2 : Int)) rfl rfl ?_)
      refine r_cons (s_indexAddr gA25 (off := oA26) (j2 : Int) 4 (oA26 + j2 * 4) (by exact congrArg (fun z_ => Value.slice z_ M.length cc6) (hp31 (by omega))) rfl el_60 (by omega) rfl rfl ?_)
      refine r_cons (s_loadAgg [.int .i64 ((M.getD j2 default).v.op.v), .int .i64 ((M.getD j2 default).v.many.v), .int .i64 ((M.getD j2 default).v.index.v), .slice ((M.getD j2 default).p) ((M.getD j2 default).v.data.length) ((M.getD j2 default).c)] 4 ag_51 rfl (H45.imi_at (i := 1) rfl (by omega)) (by have := elem_size (i := j2) (s := 4) (hs33 (by omega)) (by omega); omega) (elem_take pcCell_len (hx32 (by omega)) (by omega) default) rfl ?_)
      refine r_cons (s_alloc H45 51 ze_51 rfl ?_); intro bk46 w47 H48
      refine r_cons (s_storeAgg H48 0 #[.int .i64 ((M.getD j2 default).v.op.v), .int .i64 ((M.getD j2 default).v.many.v), .int .i64 ((M.getD j2 default).v.index.v), .slice ((M.getD j2 default).p) ((M.getD j2 default).v.data.length) ((M.getD j2 default).c)] 4 rfl rfl rfl sz_51 rfl (by simp [Value.oneCell']) (Nat.le_of_ble_eq_true rfl) (fun o h1 h2 => by first | (simp; done) | (simp; omega)) (cs' := #[.int .i64 ((M.getD j2 default).v.op.v), .int .i64 ((M.getD j2 default).v.many.v), .int .i64 ((M.getD j2 default).v.index.v), .slice ((M.getD j2 default).p) ((M.getD j2 default).v.data.length) ((M.getD j2 default).c)]) rfl ?_); intro w49 H50
      refine r_nil ?_
      refine g_seq ?_
      refine g_region ?_
      have H51 : St W w49 (Im 1 (.slice ((L.getD j2 default).p) ((L.getD j2 default).v.data.length) ((L.getD j2 default).c)) (((L.getD j2 default).v.data).length) (((L.getD j2 default).v.data).flatMap u8c) :: blk bk46 (.cells #[.int .i64 ((M.getD j2 default).v.op.v), .int .i64 ((M.getD j2 default).v.many.v), .int .i64 ((M.getD j2 default).v.index.v), .slice ((M.getD j2 default).p) ((M.getD j2 default).v.data.length) ((M.getD j2 default).c)] 51 (0, 0)) :: blk bk41 (.cells #[.int .i64 ((L.getD j2 default).v.op.v), .int .i64 ((L.getD j2 default).v.many.v), .int .i64 ((L.getD j2 default).v.index.v), .slice ((L.getD j2 default).p) ((L.getD j2 default).v.data.length) ((L.getD j2 default).c)] 51 (0, 0)) :: imi (0 < M.length) gA25 (.cells kA27 eA28 zA29) :: imi (0 < L.length) gA12 (.cells kA14 eA15 zA16) :: pcA M :: pcA L :: Im 4 (.slice pp5 M.length cc6) M.length (M.flatMap pcCell) :: Im 4 (.slice pp1 L.length cc2) L.length (L.flatMap pcCell) :: F) := pcA_at H50 (i := 5) rfl (j := j2) (by omega)
      have H52 : St W w49 (Im 1 (.slice ((M.getD j2 default).p) ((M.getD j2 default).v.data.length) ((M.getD j2 default).c)) (((M.getD j2 default).v.data).length) (((M.getD j2 default).v.data).flatMap u8c) :: Im 1 (.slice ((L.getD j2 default).p) ((L.getD j2 default).v.data.length) ((L.getD j2 default).c)) (((L.getD j2 default).v.data).length) (((L.getD j2 default).v.data).flatMap u8c) :: blk bk46 (.cells #[.int .i64 ((M.getD j2 default).v.op.v), .int .i64 ((M.getD j2 default).v.many.v), .int .i64 ((M.getD j2 default).v.index.v), .slice ((M.getD j2 default).p) ((M.getD j2 default).v.data.length) ((M.getD j2 default).c)] 51 (0, 0)) :: blk bk41 (.cells #[.int .i64 ((L.getD j2 default).v.op.v), .int .i64 ((L.getD j2 default).v.many.v), .int .i64 ((L.getD j2 default).v.index.v), .slice ((L.getD j2 default).p) ((L.getD j2 default).v.data.length) ((L.getD j2 default).c)] 51 (0, 0)) :: imi (0 < M.length) gA25 (.cells kA27 eA28 zA29) :: imi (0 < L.length) gA12 (.cells kA14 eA15 zA16) :: pcA M :: pcA L :: Im 4 (.slice pp5 M.length cc6) M.length (M.flatMap pcCell) :: Im 4 (.slice pp1 L.length cc2) L.length (L.flatMap pcCell) :: F) := pcA_at H51 (i := 5) rfl (j := j2) (by omega)
      refine r_cons (s_move (.func (.func 39) #[] #[]) rfl rfl ?_)
      refine r_cons (s_loadAgg [.int .i64 ((L.getD j2 default).v.op.v), .int .i64 ((L.getD j2 default).v.many.v), .int .i64 ((L.getD j2 default).v.index.v), .slice ((L.getD j2 default).p) ((L.getD j2 default).v.data.length) ((L.getD j2 default).c)] 4 ag_51 rfl (H52.blk_at (i := 3) rfl) (Nat.le_of_ble_eq_true rfl) rfl rfl ?_)
      refine r_cons (s_loadAgg [.int .i64 ((M.getD j2 default).v.op.v), .int .i64 ((M.getD j2 default).v.many.v), .int .i64 ((M.getD j2 default).v.index.v), .slice ((M.getD j2 default).p) ((M.getD j2 default).v.data.length) ((M.getD j2 default).c)] 4 ag_51 rfl (H52.blk_at (i := 2) rfl) (Nat.le_of_ble_eq_true rfl) rfl rfl ?_)
      refine r_cons (s_callv [] [.agg #[.int .i64 ((L.getD j2 default).v.op.v), .int .i64 ((L.getD j2 default).v.many.v), .int .i64 ((L.getD j2 default).v.index.v), .slice ((L.getD j2 default).p) ((L.getD j2 default).v.data.length) ((L.getD j2 default).c)], .agg #[.int .i64 ((M.getD j2 default).v.op.v), .int .i64 ((M.getD j2 default).v.many.v), .int .i64 ((M.getD j2 default).v.index.v), .slice ((M.getD j2 default).p) ((M.getD j2 default).v.data.length) ((M.getD j2 default).c)]] rfl pl_39 rfl rfl (SamePiece_ (L.getD j2 default) (M.getD j2 default) (j := 1) (k := 0) rfl rfl H52) ?_)
      rintro _ w53 ⟨rfl, H54⟩
      have hsm : samePc (L.getD j2 default).v (M.getD j2 default).v = true := samePc_at heq (by omega)
      refine r_cons (s_not (samePc (L.getD j2 default).v (M.getD j2 default).v) rfl false (by rw [hsm]; rfl) rfl ?_)
      refine r_nil ?_
      refine g_false rfl ?_
      refine g_skip ?_
      refine g_inBlock ?_
      refine g_region ?_
      refine r_cons (s_add ((j2 : Int) + 1) rfl rfl (wi64 (by omega)) rfl ?_)
      refine r_cons (s_move (.int .i64 ((j2 : Int) + 1)) rfl rfl ?_)
      refine r_nil ?_
      have H55 : St W w53 (imi (0 < M.length) gA25 (.cells kA27 eA28 zA29) :: imi (0 < L.length) gA12 (.cells kA14 eA15 zA16) :: pcA M :: pcA L :: Im 4 (.slice pp5 M.length cc6) M.length (M.flatMap pcCell) :: Im 4 (.slice pp1 L.length cc2) L.length (L.flatMap pcCell) :: F) := ((((((((((H54.move 9 rfl).move 9 rfl).move 9 rfl).move 9 rfl).move 9 rfl).move 9 rfl).drop 6 rfl).drop 6 rfl).drop 6 rfl).drop 6 rfl)
      exact nx39 (j2 + 1) _ _ ⟨(by omega), H55⟩ (by first | (dsimp only; omega) | omega) ⟨by first | rfl | exact vint (by omega), by first | rfl | exact vint (by omega), by first | rfl | exact vint (by omega), by first | rfl | exact vint (by omega), by first | rfl | exact vint (by omega), by first | rfl | exact vint (by omega), trivial⟩
    · skip
      refine r_cons (s_lss false rfl rfl (dfalse hc40) rfl ?_)
      refine r_nil ?_
      refine g_seq ?_
      refine g_false rfl ?_
      refine g_exit (by rfl) ?_
      refine g_seq ?_
      refine g_region ?_
      refine r_cons (s_assign (.bool true) rfl rfl ?_)
      refine r_nil ?_
      refine g_ret' [.bool true] Try.func40 Try.results40 ⟨rfl, trivial⟩ ?_
      have H56 : St W w37 F := ((((((H38.drop 0 rfl).drop 0 rfl).drop 0 rfl).drop 0 rfl).drop 0 rfl).drop 0 rfl)
      exact ⟨rfl, H56⟩
/-- An old place: the program's. -/
def MvA (g : Nat) (op : I64) (M K : List I64) (ph : Int) : Atom := ex fun q : Nat × Nat => star [blk g (.cells #[.bool true, .int .i64 op.v, .map (some q.1), .map (some q.2), .int .i64 ph] 90 (0, 0)), MapA q.1 (ents (kI .i64) vB (setOf M)), MapA q.2 (ents (kI .i64) vB (setOf K))]
set_option maxHeartbeats 4000000 in
set_option maxRecDepth 100000 in
theorem Mv_none {W w : World} {F : List Atom} (g : Nat) (op : I64) (M K : List I64) (ph : Int)  {i : Nat} (hi : F[i]? = some (MvA g op M K ph)) (H : St W w F) : Calls Try.prog 96 #[.pointer (some ⟨g, 0, none⟩)] w (Ret fun v w' => v = .bool false ∧ St W w' F) := by
  have H0 := H.front hi
  refine calls_of_go (n := 12) Try.func96 rfl Try.ntmps96 rfl ?_
  refine g_seq ?_
  refine g_region ?_
  refine r_cons (s_assign (.bool false) rfl rfl ?_)
  refine r_nil ?_
  refine g_seq ?_
  refine g_region ?_
  refine r_cons (s_move (.pointer (some ⟨g, 0, none⟩)) rfl rfl ?_)
  refine r_cons (s_peql false un_87 rfl rfl rfl rfl ?_)
  refine r_cons (s_move (.bool false) rfl rfl ?_)
  refine r_cons (r_take rfl rfl ?_)
  refine s_move (.pointer (some ⟨g, 0, none⟩)) rfl rfl ?_
  refine r_cons (r_take rfl rfl ?_)
  refine s_nilCheck (.pointer (some ⟨g, 0, none⟩)) rfl ⟨_, rfl⟩ rfl ?_
  refine r_cons (r_take rfl rfl ?_)
  refine s_fieldAddr 90 0 0 0 4 rfl fi_90_0 rfl rfl ?_
  refine r_cons (r_take rfl rfl ?_)
  have H1 := H0.move 0 rfl
  obtain ⟨⟨m2, m3⟩, H4⟩ := St.open_ex H1
  have H5 := St.open_star H4
  have H6 : St W w (blk g (.cells #[.bool true, .int .i64 op.v, .map (some m2), .map (some m3), .int .i64 ph] 90 (0, 0)) :: MapA m2 (ents (kI .i64) vB (setOf M)) :: MapA m3 (ents (kI .i64) vB (setOf K)) :: (F.set i emp)) := H5
  refine s_load (.bool true) ag_4 rfl (H6.blk_at (i := 0) rfl) rfl rfl ?_
  refine r_cons (r_take rfl rfl ?_)
  refine s_not true rfl false rfl rfl ?_
  refine r_cons (s_pick_f (.bool false) rfl rfl rfl ?_)
  refine r_cons (s_assign (.bool false) rfl rfl ?_)
  refine r_nil ?_
  refine g_ret' [.bool false] Try.func96 Try.results96 ⟨rfl, trivial⟩ ?_
  have H7 : St W w (MvA g op M K ph :: (F.set i emp)) := St.shut_ex (m2, m3) (St.shut_star (ls := [blk g (.cells #[.bool true, .int .i64 op.v, .map (some m2), .map (some m3), .int .i64 ph] 90 (0, 0)), MapA m2 (ents (kI .i64) vB (setOf M)), MapA m3 (ents (kI .i64) vB (setOf K))]) H6)
  have H8 : St W w (MvA g op M K ph :: (F.set i emp)) := H7
  exact ⟨rfl, St.back_same hi H8⟩
set_option maxHeartbeats 4000000 in
set_option maxRecDepth 100000 in
theorem Mv_Phase {W w : World} {F : List Atom} (g : Nat) (op : I64) (M K : List I64) (ph : Int)  {i : Nat} (hi : F[i]? = some (MvA g op M K ph)) (H : St W w F) : Calls Try.prog 49 #[.pointer (some ⟨g, 0, none⟩)] w (Ret fun v w' => v = .int .i64 ph ∧ St W w' F) := by
  have H0 := H.front hi
  refine calls_of_go (n := 9) Try.func49 rfl Try.ntmps49 rfl ?_
  refine g_seq ?_
  refine g_region ?_
  refine r_cons (s_assign (.int .i64 0) rfl rfl ?_)
  refine r_nil ?_
  refine g_seq ?_
  refine g_seq ?_
  refine g_region ?_
  refine r_cons (s_move (.pointer (some ⟨g, 0, none⟩)) rfl rfl ?_)
  refine r_cons (s_call [.pointer (some ⟨g, 0, none⟩)] pl_96 rfl rfl (Mv_none g op M K ph (i := 0) rfl H0) ?_)
  rintro _ w1 ⟨rfl, H2⟩
  refine r_nil ?_
  refine g_false rfl ?_
  refine g_skip ?_
  refine g_seq ?_
  refine g_region ?_
  refine r_cons (s_move (.pointer (some ⟨g, 0, none⟩)) rfl rfl ?_)
  refine r_cons (s_nilCheck (.pointer (some ⟨g, 0, none⟩)) rfl ⟨_, rfl⟩ rfl ?_)
  refine r_cons (s_fieldAddr 90 4 4 4 3 rfl fi_90_4 rfl rfl ?_)
  have H3 := H2.move 0 rfl
  obtain ⟨⟨m4, m5⟩, H6⟩ := St.open_ex H3
  have H7 := St.open_star H6
  have H8 : St W w1 (blk g (.cells #[.bool true, .int .i64 op.v, .map (some m4), .map (some m5), .int .i64 ph] 90 (0, 0)) :: MapA m4 (ents (kI .i64) vB (setOf M)) :: MapA m5 (ents (kI .i64) vB (setOf K)) :: (F.set i emp)) := H7
  refine r_cons (s_load (.int .i64 ph) ag_3 rfl (H8.blk_at (i := 0) rfl) rfl rfl ?_)
  refine r_cons (s_assign (.int .i64 ph) rfl rfl ?_)
  refine r_nil ?_
  refine g_ret' [.int .i64 ph] Try.func49 Try.results49 ⟨rfl, trivial⟩ ?_
  have H9 : St W w1 (MvA g op M K ph :: (F.set i emp)) := St.shut_ex (m4, m5) (St.shut_star (ls := [blk g (.cells #[.bool true, .int .i64 op.v, .map (some m4), .map (some m5), .int .i64 ph] 90 (0, 0)), MapA m4 (ents (kI .i64) vB (setOf M)), MapA m5 (ents (kI .i64) vB (setOf K))]) H8)
  have H10 : St W w1 (MvA g op M K ph :: (F.set i emp)) := H9
  exact ⟨rfl, St.back_same hi H10⟩
set_option maxHeartbeats 4000000 in
set_option maxRecDepth 100000 in
theorem Mv_looks {W w : World} {F : List Atom} (g : Nat) (op : I64) (M K : List I64) (ph : Int)  {i : Nat} (hi : F[i]? = some (MvA g op M K ph)) (H : St W w F) : Calls Try.prog 97 #[.pointer (some ⟨g, 0, none⟩)] w (Ret fun v w' => v = .bool (decide (M.length = 0)) ∧ St W w' (F.set i (MvA g op M K (if M.length = 0 then 2 else ph)))) := by
  have H0 := H.front hi
  refine calls_of_go (n := 18) Try.func97 rfl Try.ntmps97 rfl ?_
  refine g_seq ?_
  refine g_region ?_
  refine r_cons (s_assign (.bool false) rfl rfl ?_)
  refine r_nil ?_
  refine g_seq ?_
  refine g_seq ?_
  refine g_region ?_
  refine r_cons (s_move (.pointer (some ⟨g, 0, none⟩)) rfl rfl ?_)
  refine r_cons (s_nilCheck (.pointer (some ⟨g, 0, none⟩)) rfl ⟨_, rfl⟩ rfl ?_)
  refine r_cons (s_fieldAddr 90 2 2 2 88 rfl fi_90_2 rfl rfl ?_)
  have H1 := H0.move 0 rfl
  obtain ⟨⟨m2, m3⟩, H4⟩ := St.open_ex H1
  have H5 := St.open_star H4
  have H6 : St W w (blk g (.cells #[.bool true, .int .i64 op.v, .map (some m2), .map (some m3), .int .i64 ph] 90 (0, 0)) :: MapA m2 (ents (kI .i64) vB (setOf M)) :: MapA m3 (ents (kI .i64) vB (setOf K)) :: (F.set i emp)) := H5
  refine r_cons (s_load (.map (some m2)) ag_88 rfl (H6.blk_at (i := 0) rfl) rfl rfl ?_)
  refine r_cons (s_lenMap (ek := (kI .i64)) (ev := vB) (L := setOf M) (MapA.at H6 (i := 1) rfl) (M.length) (List.length_map ..) un_88 rfl rfl ?_)
  by_cases hc7 : (M.length : Int) = 0
  · skip
    refine r_cons (s_eql true rfl rfl (dtrue hc7) rfl ?_)
    refine r_nil ?_
    refine g_true rfl ?_
    refine g_region ?_
    refine r_cons (s_move (.pointer (some ⟨g, 0, none⟩)) rfl rfl ?_)
    refine r_cons (s_nilCheck (.pointer (some ⟨g, 0, none⟩)) rfl ⟨_, rfl⟩ rfl ?_)
    refine r_cons (s_fieldAddr 90 4 4 4 3 rfl fi_90_4 rfl rfl ?_)
    refine r_cons (s_store H6 0 (.int .i64 2) rfl rfl rfl sz_3 rfl (Nat.le_of_ble_eq_true rfl) rfl (cs' := #[.bool true, .int .i64 op.v, .map (some m2), .map (some m3), .int .i64 2]) rfl ?_); intro w8 H9
    refine r_nil ?_
    refine g_seq ?_
    refine g_region ?_
    refine r_cons (s_move (.pointer (some ⟨g, 0, none⟩)) rfl rfl ?_)
    refine r_cons (s_nilCheck (.pointer (some ⟨g, 0, none⟩)) rfl ⟨_, rfl⟩ rfl ?_)
    refine r_cons (s_fieldAddr 90 2 2 2 88 rfl fi_90_2 rfl rfl ?_)
    refine r_cons (s_load (.map (some m2)) ag_88 rfl (H9.blk_at (i := 0) rfl) rfl rfl ?_)
    refine r_cons (s_lenMap (ek := (kI .i64)) (ev := vB) (L := setOf M) (MapA.at H9 (i := 1) rfl) (M.length) (List.length_map ..) un_88 rfl rfl ?_)
    refine r_cons (s_eql true rfl rfl (dtrue (by omega)) rfl ?_)
    refine r_cons (s_assign (.bool true) rfl rfl ?_)
    refine r_nil ?_
    refine g_ret' [.bool true] Try.func97 Try.results97 ⟨rfl, trivial⟩ ?_
    have H10 : St W w8 (MvA g op M K 2 :: (F.set i emp)) := St.shut_ex (m2, m3) (St.shut_star (ls := [blk g (.cells #[.bool true, .int .i64 op.v, .map (some m2), .map (some m3), .int .i64 2] 90 (0, 0)), MapA m2 (ents (kI .i64) vB (setOf M)), MapA m3 (ents (kI .i64) vB (setOf K))]) H9)
    have H11 : St W w8 (MvA g op M K 2 :: (F.set i emp)) := H10
    have h912 : M.length = 0 := by omega
    exact ⟨congrArg Value.bool ((decide_eq_true h912).symm), by rw [if_pos h912]; exact St.back hi H11⟩
  · skip
    refine r_cons (s_eql false rfl rfl (dfalse hc7) rfl ?_)
    refine r_nil ?_
    refine g_false rfl ?_
    refine g_skip ?_
    refine g_seq ?_
    refine g_region ?_
    refine r_cons (s_move (.pointer (some ⟨g, 0, none⟩)) rfl rfl ?_)
    refine r_cons (s_nilCheck (.pointer (some ⟨g, 0, none⟩)) rfl ⟨_, rfl⟩ rfl ?_)
    refine r_cons (s_fieldAddr 90 2 2 2 88 rfl fi_90_2 rfl rfl ?_)
    refine r_cons (s_load (.map (some m2)) ag_88 rfl (H6.blk_at (i := 0) rfl) rfl rfl ?_)
    refine r_cons (s_lenMap (ek := (kI .i64)) (ev := vB) (L := setOf M) (MapA.at H6 (i := 1) rfl) (M.length) (List.length_map ..) un_88 rfl rfl ?_)
    refine r_cons (s_eql false rfl rfl (dfalse (by omega)) rfl ?_)
    refine r_cons (s_assign (.bool false) rfl rfl ?_)
    refine r_nil ?_
    refine g_ret' [.bool false] Try.func97 Try.results97 ⟨rfl, trivial⟩ ?_
    have H13 : St W w (MvA g op M K ph :: (F.set i emp)) := St.shut_ex (m2, m3) (St.shut_star (ls := [blk g (.cells #[.bool true, .int .i64 op.v, .map (some m2), .map (some m3), .int .i64 ph] 90 (0, 0)), MapA m2 (ents (kI .i64) vB (setOf M)), MapA m3 (ents (kI .i64) vB (setOf K))]) H6)
    have H14 : St W w (MvA g op M K ph :: (F.set i emp)) := H13
    have h915 : ¬ M.length = 0 := by omega
    exact ⟨congrArg Value.bool ((decide_eq_false h915).symm), by rw [if_neg h915]; exact St.back hi H14⟩
set_option maxHeartbeats 4000000 in
set_option maxRecDepth 100000 in
theorem Mv_Marker {W w : World} {F : List Atom} (g : Nat) (op : I64) (M K : List I64) (ph : Int) (n : I64) {i : Nat} (hi : F[i]? = some (MvA g op M K ph)) (H : St W w F) : Calls Try.prog 46 #[.pointer (some ⟨g, 0, none⟩), .int .i64 n.v] w (Ret fun v w' => v = .tuple #[.bool (mkAll M K n), .int .i64 (mkE M K n)] ∧ St W w' (F.set i (MvA g op (mkM M K n) K (mkP M K n ph)))) := by
  have H0 := H.front hi
  refine calls_of_go (n := 32) Try.func46 rfl Try.ntmps46 rfl ?_
  refine g_seq ?_
  refine g_region ?_
  refine r_cons (s_assign (.bool false) rfl rfl ?_)
  refine r_cons (s_assign (.int .i64 0) rfl rfl ?_)
  refine r_nil ?_
  refine g_seq ?_
  refine g_block ?_
  refine g_seq ?_
  refine g_region ?_
  refine r_cons (s_move (.pointer (some ⟨g, 0, none⟩)) rfl rfl ?_)
  refine r_cons (s_call [.pointer (some ⟨g, 0, none⟩)] pl_96 rfl rfl (Mv_none g op M K ph (i := 0) rfl H0) ?_)
  rintro _ w1 ⟨rfl, H2⟩
  refine r_cons (s_assign (.bool false) rfl rfl ?_)
  refine r_nil ?_
  refine g_false rfl ?_
  refine g_seq ?_
  refine g_region ?_
  refine r_cons (s_move (.pointer (some ⟨g, 0, none⟩)) rfl rfl ?_)
  refine r_cons (s_nilCheck (.pointer (some ⟨g, 0, none⟩)) rfl ⟨_, rfl⟩ rfl ?_)
  refine r_cons (s_fieldAddr 90 3 3 3 88 rfl fi_90_3 rfl rfl ?_)
  have H3 := H2.move 0 rfl
  obtain ⟨⟨m4, m5⟩, H6⟩ := St.open_ex H3
  have H7 := St.open_star H6
  have H8 : St W w1 (blk g (.cells #[.bool true, .int .i64 op.v, .map (some m4), .map (some m5), .int .i64 ph] 90 (0, 0)) :: MapA m4 (ents (kI .i64) vB (setOf M)) :: MapA m5 (ents (kI .i64) vB (setOf K)) :: (F.set i emp)) := H7
  refine r_cons (s_load (.map (some m5)) ag_88 rfl (H8.blk_at (i := 0) rfl) rfl rfl ?_)
  refine r_cons (s_move (.int .i64 n.v) rfl rfl ?_)
  refine r_cons (s_lookup (ek := (kI .i64)) (ev := vB) (L := setOf K) n (.bool (decide (n ∈ K))) (MapA.at H8 (i := 2) rfl) (KeyLaw.I un_3) un_88 zv_4 rfl rfl (setOf_look _ _) rfl ?_)
  refine r_cons (s_not (decide (n ∈ K)) rfl (!(decide (n ∈ K))) rfl rfl ?_)
  refine r_cons (s_assign (.bool (!(decide (n ∈ K)))) rfl rfl ?_)
  refine r_nil ?_
  by_cases hb9 : (!(decide (n ∈ K))) = true
  · skip
    refine g_true (congrArg Value.bool hb9) ?_
    refine g_seq ?_
    refine g_region ?_
    refine r_cons (s_assign (.bool false) rfl rfl ?_)
    refine r_cons (s_assign (.int .i64 4) rfl rfl ?_)
    refine r_nil ?_
    refine g_ret' [.bool false, .int .i64 4] Try.func46 Try.results46 ⟨rfl, rfl, trivial⟩ ?_
    have H10 : St W w1 (MvA g op M K ph :: (F.set i emp)) := St.shut_ex (m4, m5) (St.shut_star (ls := [blk g (.cells #[.bool true, .int .i64 op.v, .map (some m4), .map (some m5), .int .i64 ph] 90 (0, 0)), MapA m4 (ents (kI .i64) vB (setOf M)), MapA m5 (ents (kI .i64) vB (setOf K))]) H8)
    have H11 : St W w1 (MvA g op M K ph :: (F.set i emp)) := H10
    obtain ⟨q1, q2, q3, q4⟩ := mk_4 (M := M) (K := K) (n := n) (ph := ph) (nottrue ‹_›)
    exact ⟨by rw [q1, q3]; rfl, by rw [q2, q4]; exact St.back hi H11⟩
  · have hb9 := eq_false_of_ne_true hb9
    refine g_false (congrArg Value.bool hb9) ?_
    refine g_seq ?_
    refine g_region ?_
    refine r_cons (s_move (.pointer (some ⟨g, 0, none⟩)) rfl rfl ?_)
    refine r_cons (s_nilCheck (.pointer (some ⟨g, 0, none⟩)) rfl ⟨_, rfl⟩ rfl ?_)
    refine r_cons (s_fieldAddr 90 2 2 2 88 rfl fi_90_2 rfl rfl ?_)
    refine r_cons (s_load (.map (some m4)) ag_88 rfl (H8.blk_at (i := 0) rfl) rfl rfl ?_)
    refine r_cons (s_move (.int .i64 n.v) rfl rfl ?_)
    refine r_cons (s_lookup (ek := (kI .i64)) (ev := vB) (L := setOf M) n (.bool (decide (n ∈ M))) (MapA.at H8 (i := 1) rfl) (KeyLaw.I un_3) un_88 zv_4 rfl rfl (setOf_look _ _) rfl ?_)
    refine r_cons (s_not (decide (n ∈ M)) rfl (!(decide (n ∈ M))) rfl rfl ?_)
    refine r_cons (s_assign (.bool (!(decide (n ∈ M)))) rfl rfl ?_)
    refine r_nil ?_
    by_cases hb12 : (!(decide (n ∈ M))) = true
    · skip
      refine g_true (congrArg Value.bool hb12) ?_
      refine g_seq ?_
      refine g_region ?_
      refine r_cons (s_assign (.bool false) rfl rfl ?_)
      refine r_cons (s_assign (.int .i64 5) rfl rfl ?_)
      refine r_nil ?_
      refine g_ret' [.bool false, .int .i64 5] Try.func46 Try.results46 ⟨rfl, rfl, trivial⟩ ?_
      have H13 : St W w1 (MvA g op M K ph :: (F.set i emp)) := St.shut_ex (m4, m5) (St.shut_star (ls := [blk g (.cells #[.bool true, .int .i64 op.v, .map (some m4), .map (some m5), .int .i64 ph] 90 (0, 0)), MapA m4 (ents (kI .i64) vB (setOf M)), MapA m5 (ents (kI .i64) vB (setOf K))]) H8)
      have H14 : St W w1 (MvA g op M K ph :: (F.set i emp)) := H13
      obtain ⟨q1, q2, q3, q4⟩ := mk_5 (M := M) (K := K) (n := n) (ph := ph) (notfalse (by assumption)) (nottrue (by assumption))
      exact ⟨by rw [q1, q3]; rfl, by rw [q2, q4]; exact St.back hi H14⟩
    · have hb12 := eq_false_of_ne_true hb12
      refine g_false (congrArg Value.bool hb12) ?_
      refine g_skip ?_
      refine g_inBlock ?_
      refine g_seq ?_
      refine g_region ?_
      refine r_cons (s_move (.pointer (some ⟨g, 0, none⟩)) rfl rfl ?_)
      refine r_cons (s_nilCheck (.pointer (some ⟨g, 0, none⟩)) rfl ⟨_, rfl⟩ rfl ?_)
      refine r_cons (s_fieldAddr 90 2 2 2 88 rfl fi_90_2 rfl rfl ?_)
      refine r_cons (s_load (.map (some m4)) ag_88 rfl (H8.blk_at (i := 0) rfl) rfl rfl ?_)
      refine r_cons (s_move (.int .i64 n.v) rfl rfl ?_)
      refine r_cons (s_delete (ek := (kI .i64)) (ev := vB) (L := setOf M) n H8 (i := 1) rfl (KeyLaw.I un_3) un_88 rfl rfl ?_); intro w15 H16
      have H17 : St W w15 (blk g (.cells #[.bool true, .int .i64 op.v, .map (some m4), .map (some m5), .int .i64 ph] 90 (0, 0)) :: MapA m4 (ents (kI .i64) vB (setOf (delS M n))) :: MapA m5 (ents (kI .i64) vB (setOf K)) :: (F.set i emp)) := by have h9 := H16; rw [setOf_del] at h9; exact h9
      refine r_nil ?_
      refine g_seq ?_
      refine g_region ?_
      refine r_cons (s_move (.pointer (some ⟨g, 0, none⟩)) rfl rfl ?_)
      have H18 : St W w15 (MvA g op (delS M n) K ph :: (F.set i emp)) := St.shut_ex (m4, m5) (St.shut_star (ls := [blk g (.cells #[.bool true, .int .i64 op.v, .map (some m4), .map (some m5), .int .i64 ph] 90 (0, 0)), MapA m4 (ents (kI .i64) vB (setOf (delS M n))), MapA m5 (ents (kI .i64) vB (setOf K))]) H17)
      refine r_cons (s_call [.pointer (some ⟨g, 0, none⟩)] pl_97 rfl rfl (Mv_looks g op (delS M n) K ph (i := 0) rfl H18) ?_)
      rintro _ w19 ⟨rfl, H20⟩
      refine r_cons (s_assign (.bool (decide ((delS M n).length = 0))) rfl rfl ?_)
      refine r_cons (s_assign (.int .i64 0) rfl rfl ?_)
      refine r_nil ?_
      refine g_ret' [.bool (decide ((delS M n).length = 0)), .int .i64 0] Try.func46 Try.results46 ⟨rfl, rfl, trivial⟩ ?_
      have H21 : St W w19 (MvA g op (delS M n) K (if (delS M n).length = 0 then 2 else ph) :: (F.set i emp)) := H20
      obtain ⟨q1, q2⟩ := mk_0 (M := M) (K := K) (n := n) (notfalse (by assumption)) (notfalse (by assumption))
      by_cases q0 : (delS M n).length = 0
      · obtain ⟨q3, q4⟩ := mk_0y (M := M) (K := K) (n := n) (ph := ph) q1 q0
        exact ⟨by rw [q1, q3, decide_eq_true q0]; rfl, by have hx := St.back hi H21; rw [if_pos q0] at hx; rw [q2, q4]; exact hx⟩
      · obtain ⟨q3, q4⟩ := mk_0n (M := M) (K := K) (n := n) (ph := ph) q0
        exact ⟨by rw [q1, q3, decide_eq_false q0]; rfl, by have hx := St.back hi H21; rw [if_neg q0] at hx; rw [q2, q4]; exact hx⟩
set_option maxHeartbeats 4000000 in
set_option maxRecDepth 100000 in
theorem Mv_Landed {W w : World} {F : List Atom} (g : Nat) (op : I64) (M K : List I64) (ph : Int)  {i : Nat} (hi : F[i]? = some (MvA g op M K ph)) (H : St W w F) : Calls Try.prog 48 #[.pointer (some ⟨g, 0, none⟩)] w (Ret fun v w' => v = .int .i64 (if ph = 3 then 0 else 241) ∧ St W w' (F.set i (MvA g op M K (if ph = 3 then 4 else ph)))) := by
  have H0 := H.front hi
  refine calls_of_go (n := 15) Try.func48 rfl Try.ntmps48 rfl ?_
  refine g_seq ?_
  refine g_region ?_
  refine r_cons (s_assign (.int .i64 0) rfl rfl ?_)
  refine r_nil ?_
  refine g_seq ?_
  refine g_block ?_
  refine g_seq ?_
  refine g_region ?_
  refine r_cons (s_move (.pointer (some ⟨g, 0, none⟩)) rfl rfl ?_)
  refine r_cons (s_call [.pointer (some ⟨g, 0, none⟩)] pl_96 rfl rfl (Mv_none g op M K ph (i := 0) rfl H0) ?_)
  rintro _ w1 ⟨rfl, H2⟩
  refine r_cons (s_assign (.bool false) rfl rfl ?_)
  refine r_nil ?_
  refine g_false rfl ?_
  refine g_seq ?_
  refine g_region ?_
  refine r_cons (s_move (.pointer (some ⟨g, 0, none⟩)) rfl rfl ?_)
  refine r_cons (s_nilCheck (.pointer (some ⟨g, 0, none⟩)) rfl ⟨_, rfl⟩ rfl ?_)
  refine r_cons (s_fieldAddr 90 4 4 4 3 rfl fi_90_4 rfl rfl ?_)
  have H3 := H2.move 0 rfl
  obtain ⟨⟨m4, m5⟩, H6⟩ := St.open_ex H3
  have H7 := St.open_star H6
  have H8 : St W w1 (blk g (.cells #[.bool true, .int .i64 op.v, .map (some m4), .map (some m5), .int .i64 ph] 90 (0, 0)) :: MapA m4 (ents (kI .i64) vB (setOf M)) :: MapA m5 (ents (kI .i64) vB (setOf K)) :: (F.set i emp)) := H7
  refine r_cons (s_load (.int .i64 ph) ag_3 rfl (H8.blk_at (i := 0) rfl) rfl rfl ?_)
  by_cases hc9 : ph = 3
  · skip
    refine r_cons (s_neq false rfl rfl (ntrue hc9) rfl ?_)
    refine r_cons (s_assign (.bool false) rfl rfl ?_)
    refine r_nil ?_
    refine g_false rfl ?_
    refine g_skip ?_
    refine g_inBlock ?_
    refine g_seq ?_
    refine g_region ?_
    refine r_cons (s_move (.pointer (some ⟨g, 0, none⟩)) rfl rfl ?_)
    refine r_cons (s_nilCheck (.pointer (some ⟨g, 0, none⟩)) rfl ⟨_, rfl⟩ rfl ?_)
    refine r_cons (s_fieldAddr 90 4 4 4 3 rfl fi_90_4 rfl rfl ?_)
    refine r_cons (s_store H8 0 (.int .i64 4) rfl rfl rfl sz_3 rfl (Nat.le_of_ble_eq_true rfl) rfl (cs' := #[.bool true, .int .i64 op.v, .map (some m4), .map (some m5), .int .i64 4]) rfl ?_); intro w10 H11
    refine r_nil ?_
    refine g_seq ?_
    refine g_region ?_
    refine r_cons (s_assign (.int .i64 0) rfl rfl ?_)
    refine r_nil ?_
    refine g_ret' [.int .i64 0] Try.func48 Try.results48 ⟨rfl, trivial⟩ ?_
    have H12 : St W w10 (MvA g op M K 4 :: (F.set i emp)) := St.shut_ex (m4, m5) (St.shut_star (ls := [blk g (.cells #[.bool true, .int .i64 op.v, .map (some m4), .map (some m5), .int .i64 4] 90 (0, 0)), MapA m4 (ents (kI .i64) vB (setOf M)), MapA m5 (ents (kI .i64) vB (setOf K))]) H11)
    have H13 : St W w10 (MvA g op M K 4 :: (F.set i emp)) := H12
    have h3 : ph = 3 := by omega
    exact ⟨by rw [if_pos h3]; rfl, by rw [if_pos h3]; exact St.back hi H13⟩
  · skip
    refine r_cons (s_neq true rfl rfl (nfalse hc9) rfl ?_)
    refine r_cons (s_assign (.bool true) rfl rfl ?_)
    refine r_nil ?_
    refine g_true rfl ?_
    refine g_seq ?_
    refine g_region ?_
    refine r_cons (s_assign (.int .i64 241) rfl rfl ?_)
    refine r_nil ?_
    refine g_ret' [.int .i64 241] Try.func48 Try.results48 ⟨rfl, trivial⟩ ?_
    have H14 : St W w1 (MvA g op M K ph :: (F.set i emp)) := St.shut_ex (m4, m5) (St.shut_star (ls := [blk g (.cells #[.bool true, .int .i64 op.v, .map (some m4), .map (some m5), .int .i64 ph] 90 (0, 0)), MapA m4 (ents (kI .i64) vB (setOf M)), MapA m5 (ents (kI .i64) vB (setOf K))]) H8)
    have H15 : St W w1 (MvA g op M K ph :: (F.set i emp)) := H14
    have h3 : ¬ ph = 3 := by omega
    exact ⟨by rw [if_neg h3]; rfl, by rw [if_neg h3]; exact St.back hi H15⟩
def sdE (op : I64) (s : List UInt8) (ph : Int) : Int := if ph = 2 then cutE op s else 241
def sdV (op : I64) (s : List UInt8) (ph : Int) : List PieceV := if ph = 2 then cutV op s else []
def sdP (op : I64) (s : List UInt8) (ph : Int) : Int := if ph = 2 ∧ cutE op s = 0 then 3 else ph
set_option maxHeartbeats 4000000 in
set_option maxRecDepth 100000 in
theorem Mv_Send {W w : World} {F : List Atom} (g : Nat) (op : I64) (M K : List I64) (ph : Int) (s : List UInt8) (v0 : Value) (hs : s.length ≤ 140737488355328) {j : Nat} (hj : F[j]? = some (Im 1 v0 s.length (s.flatMap u8c))) {i : Nat} (hi : F[i]? = some (MvA g op M K ph)) (H : St W w F) : Calls Try.prog 47 #[.pointer (some ⟨g, 0, none⟩), v0] w (Ret fun v w' => ∃ (L : List PieceD) (p : Option Addr) (c : Nat), v = .tuple #[.slice p L.length c, .int .i64 (sdE op s ph)] ∧ L.map PieceD.v = sdV op s ph ∧ St W w' (Row 51 4 (.slice p L.length c) L.length (L.flatMap pcCell) :: pcA L :: F.set i (MvA g op M K (sdP op s ph)))) := by
  obtain ⟨pp1, cc2, rfl, hsh3⟩ := Rd.shape (Im.rd H (i := j) hj)
  have H4 := H.dup (i := j) hj (Im_pers _ _ _ _)
  have hmlH4 := Im.len H4 (i := 0) rfl
  have H5 := H4.front (i := i + 1) (by exact hi)
  have H6 : St W w (MvA g op M K ph :: Im 1 (.slice pp1 s.length cc2) s.length (s.flatMap u8c) :: (F.set i emp)) := H5
  refine calls_of_go (n := 33) Try.func47 rfl Try.ntmps47 rfl ?_
  refine g_seq ?_
  refine g_region ?_
  refine r_cons (s_assign (.slice none 0 0) rfl rfl ?_)
  refine r_cons (s_assign (.int .i64 0) rfl rfl ?_)
  refine r_nil ?_
  refine g_seq ?_
  refine g_block ?_
  refine g_seq ?_
  refine g_region ?_
  refine r_cons (s_move (.pointer (some ⟨g, 0, none⟩)) rfl rfl ?_)
  refine r_cons (s_call [.pointer (some ⟨g, 0, none⟩)] pl_96 rfl rfl (Mv_none g op M K ph (i := 0) rfl H6) ?_)
  rintro _ w7 ⟨rfl, H8⟩
  refine r_cons (s_assign (.bool false) rfl rfl ?_)
  refine r_nil ?_
  refine g_false rfl ?_
  refine g_seq ?_
  refine g_region ?_
  refine r_cons (s_move (.pointer (some ⟨g, 0, none⟩)) rfl rfl ?_)
  refine r_cons (s_nilCheck (.pointer (some ⟨g, 0, none⟩)) rfl ⟨_, rfl⟩ rfl ?_)
  refine r_cons (s_fieldAddr 90 4 4 4 3 rfl fi_90_4 rfl rfl ?_)
  have H9 := H8.move 0 rfl
  obtain ⟨⟨m10, m11⟩, H12⟩ := St.open_ex H9
  have H13 := St.open_star H12
  have H14 : St W w7 (blk g (.cells #[.bool true, .int .i64 op.v, .map (some m10), .map (some m11), .int .i64 ph] 90 (0, 0)) :: MapA m10 (ents (kI .i64) vB (setOf M)) :: MapA m11 (ents (kI .i64) vB (setOf K)) :: Im 1 (.slice pp1 s.length cc2) s.length (s.flatMap u8c) :: (F.set i emp)) := H13
  refine r_cons (s_load (.int .i64 ph) ag_3 rfl (H14.blk_at (i := 0) rfl) rfl rfl ?_)
  by_cases hc15 : ph = 2
  · skip
    refine r_cons (s_neq false rfl rfl (ntrue hc15) rfl ?_)
    refine r_cons (s_assign (.bool false) rfl rfl ?_)
    refine r_nil ?_
    refine g_false rfl ?_
    refine g_skip ?_
    refine g_inBlock ?_
    refine g_seq ?_
    refine g_region ?_
    refine r_cons (s_move (.pointer (some ⟨g, 0, none⟩)) rfl rfl ?_)
    refine r_cons (s_nilCheck (.pointer (some ⟨g, 0, none⟩)) rfl ⟨_, rfl⟩ rfl ?_)
    refine r_cons (s_fieldAddr 90 1 1 1 3 rfl fi_90_1 rfl rfl ?_)
    refine r_cons (s_load (.int .i64 op.v) ag_3 rfl (H14.blk_at (i := 0) rfl) rfl rfl ?_)
    refine r_cons (s_move (.slice pp1 s.length cc2) rfl rfl ?_)
    refine r_cons (s_call [.int .i64 op.v, .slice pp1 s.length cc2] pl_33 rfl rfl (migrate_Cut op s (.slice pp1 s.length cc2) (by omega) (j := 3) rfl H14) ?_)
    rintro _ w20 ⟨L16, pp17, cc18, rfl, hL19, H21⟩
    refine r_cons (s_move (.tuple #[.slice pp17 L16.length cc18, .int .i64 (cutE op s)]) rfl rfl ?_)
    refine r_cons (s_extract (.slice pp17 L16.length cc18) #[.slice pp17 L16.length cc18, .int .i64 (cutE op s)] rfl rfl rfl ?_)
    refine r_cons (s_extract (.int .i64 (cutE op s)) #[.slice pp17 L16.length cc18, .int .i64 (cutE op s)] rfl rfl rfl ?_)
    refine r_cons (s_assign (.slice pp17 L16.length cc18) rfl rfl ?_)
    refine r_cons (s_assign (.int .i64 (cutE op s)) rfl rfl ?_)
    refine r_nil ?_
    refine g_seq ?_
    refine g_seq ?_
    refine g_region ?_
    refine r_cons (s_move (.int .i64 (cutE op s)) rfl rfl ?_)
    by_cases hc22 : cutE op s = 0
    · skip
      refine r_cons (s_eql true rfl rfl (dtrue hc22) rfl ?_)
      refine r_nil ?_
      refine g_true rfl ?_
      refine g_region ?_
      refine r_cons (s_move (.pointer (some ⟨g, 0, none⟩)) rfl rfl ?_)
      refine r_cons (s_nilCheck (.pointer (some ⟨g, 0, none⟩)) rfl ⟨_, rfl⟩ rfl ?_)
      refine r_cons (s_fieldAddr 90 4 4 4 3 rfl fi_90_4 rfl rfl ?_)
      refine r_cons (s_store H21 2 (.int .i64 3) rfl rfl rfl sz_3 rfl (Nat.le_of_ble_eq_true rfl) rfl (cs' := #[.bool true, .int .i64 op.v, .map (some m10), .map (some m11), .int .i64 3]) rfl ?_); intro w23 H24
      refine r_nil ?_
      refine g_seq ?_
      refine g_region ?_
      refine r_cons (s_move (.slice pp17 L16.length cc18) rfl rfl ?_)
      refine r_cons (s_move (.int .i64 (cutE op s)) rfl rfl ?_)
      refine r_cons (s_assign (.slice pp17 L16.length cc18) rfl rfl ?_)
      refine r_cons (s_assign (.int .i64 (cutE op s)) rfl rfl ?_)
      refine r_nil ?_
      refine g_ret' [.slice pp17 L16.length cc18, .int .i64 (cutE op s)] Try.func47 Try.results47 ⟨rfl, rfl, trivial⟩ ?_
      have H25 : St W w23 (blk g (.cells #[.bool true, .int .i64 op.v, .map (some m10), .map (some m11), .int .i64 3] 90 (0, 0)) :: MapA m10 (ents (kI .i64) vB (setOf M)) :: MapA m11 (ents (kI .i64) vB (setOf K)) :: Row 51 4 (.slice pp17 L16.length cc18) L16.length (L16.flatMap pcCell) :: pcA L16 :: Im 1 (.slice pp1 s.length cc2) s.length (s.flatMap u8c) :: (F.set i emp)) := (((H24.move 4 rfl).move 4 rfl).move 4 rfl)
      have H26 : St W w23 (MvA g op M K 3 :: Row 51 4 (.slice pp17 L16.length cc18) L16.length (L16.flatMap pcCell) :: pcA L16 :: Im 1 (.slice pp1 s.length cc2) s.length (s.flatMap u8c) :: (F.set i emp)) := St.shut_ex (m10, m11) (St.shut_star (ls := [blk g (.cells #[.bool true, .int .i64 op.v, .map (some m10), .map (some m11), .int .i64 3] 90 (0, 0)), MapA m10 (ents (kI .i64) vB (setOf M)), MapA m11 (ents (kI .i64) vB (setOf K))]) H25)
      have H27 : St W w23 (Row 51 4 (.slice pp17 L16.length cc18) L16.length (L16.flatMap pcCell) :: pcA L16 :: MvA g op M K 3 :: (F.set i emp)) := (((H26.move 2 rfl).move 2 rfl).drop 3 rfl)
      have H28 : St W w23 (MvA g op M K 3 :: (Row 51 4 (.slice pp17 L16.length cc18) L16.length (L16.flatMap pcCell) :: pcA L16 :: F).set (i + 2) emp) := (H27.move 2 rfl)
      have h2 : ph = 2 := by omega
      have h0 : cutE op s = 0 := by assumption
      exact ⟨_, _, _, by unfold sdE; rw [if_pos h2]; rfl, by unfold sdV; rw [if_pos h2]; exact hL19, by unfold sdP; rw [if_pos ⟨h2, h0⟩]; exact St.back (i := i + 2) (by exact hi) H28⟩
    · skip
      refine r_cons (s_eql false rfl rfl (dfalse hc22) rfl ?_)
      refine r_nil ?_
      refine g_false rfl ?_
      refine g_skip ?_
      refine g_seq ?_
      refine g_region ?_
      refine r_cons (s_move (.slice pp17 L16.length cc18) rfl rfl ?_)
      refine r_cons (s_move (.int .i64 (cutE op s)) rfl rfl ?_)
      refine r_cons (s_assign (.slice pp17 L16.length cc18) rfl rfl ?_)
      refine r_cons (s_assign (.int .i64 (cutE op s)) rfl rfl ?_)
      refine r_nil ?_
      refine g_ret' [.slice pp17 L16.length cc18, .int .i64 (cutE op s)] Try.func47 Try.results47 ⟨rfl, rfl, trivial⟩ ?_
      have H29 : St W w20 (blk g (.cells #[.bool true, .int .i64 op.v, .map (some m10), .map (some m11), .int .i64 ph] 90 (0, 0)) :: MapA m10 (ents (kI .i64) vB (setOf M)) :: MapA m11 (ents (kI .i64) vB (setOf K)) :: Row 51 4 (.slice pp17 L16.length cc18) L16.length (L16.flatMap pcCell) :: pcA L16 :: Im 1 (.slice pp1 s.length cc2) s.length (s.flatMap u8c) :: (F.set i emp)) := (((H21.move 4 rfl).move 4 rfl).move 4 rfl)
      have H30 : St W w20 (MvA g op M K ph :: Row 51 4 (.slice pp17 L16.length cc18) L16.length (L16.flatMap pcCell) :: pcA L16 :: Im 1 (.slice pp1 s.length cc2) s.length (s.flatMap u8c) :: (F.set i emp)) := St.shut_ex (m10, m11) (St.shut_star (ls := [blk g (.cells #[.bool true, .int .i64 op.v, .map (some m10), .map (some m11), .int .i64 ph] 90 (0, 0)), MapA m10 (ents (kI .i64) vB (setOf M)), MapA m11 (ents (kI .i64) vB (setOf K))]) H29)
      have H31 : St W w20 (Row 51 4 (.slice pp17 L16.length cc18) L16.length (L16.flatMap pcCell) :: pcA L16 :: MvA g op M K ph :: (F.set i emp)) := (((H30.move 2 rfl).move 2 rfl).drop 3 rfl)
      have H32 : St W w20 (MvA g op M K ph :: (Row 51 4 (.slice pp17 L16.length cc18) L16.length (L16.flatMap pcCell) :: pcA L16 :: F).set (i + 2) emp) := (H31.move 2 rfl)
      have h2 : ph = 2 := by omega
      have h0 : ¬ cutE op s = 0 := by assumption
      exact ⟨_, _, _, by unfold sdE; rw [if_pos h2]; rfl, by unfold sdV; rw [if_pos h2]; exact hL19, by unfold sdP; rw [if_neg (fun e => h0 e.2)]; exact St.back (i := i + 2) (by exact hi) H32⟩
  · skip
    refine r_cons (s_neq true rfl rfl (nfalse hc15) rfl ?_)
    refine r_cons (s_assign (.bool true) rfl rfl ?_)
    refine r_nil ?_
    refine g_true rfl ?_
    refine g_seq ?_
    refine g_region ?_
    refine r_cons (s_assign (.slice none 0 0) rfl rfl ?_)
    refine r_cons (s_assign (.int .i64 241) rfl rfl ?_)
    refine r_nil ?_
    refine g_ret' [.slice none 0 0, .int .i64 241] Try.func47 Try.results47 ⟨rfl, rfl, trivial⟩ ?_
    have H33 := Row.nil_intro H14 51 4
    have H34 := pcA_nil H33
    have H35 : St W w7 (Row 51 4 (.slice none 0 0) 0 [] :: pcA [] :: blk g (.cells #[.bool true, .int .i64 op.v, .map (some m10), .map (some m11), .int .i64 ph] 90 (0, 0)) :: MapA m10 (ents (kI .i64) vB (setOf M)) :: MapA m11 (ents (kI .i64) vB (setOf K)) :: Im 1 (.slice pp1 s.length cc2) s.length (s.flatMap u8c) :: (F.set i emp)) := (H34.move 1 rfl)
    have H36 : St W w7 (blk g (.cells #[.bool true, .int .i64 op.v, .map (some m10), .map (some m11), .int .i64 ph] 90 (0, 0)) :: MapA m10 (ents (kI .i64) vB (setOf M)) :: MapA m11 (ents (kI .i64) vB (setOf K)) :: Row 51 4 (.slice none 0 0) 0 [] :: pcA [] :: Im 1 (.slice pp1 s.length cc2) s.length (s.flatMap u8c) :: (F.set i emp)) := (((H35.move 4 rfl).move 4 rfl).move 4 rfl)
    have H37 : St W w7 (MvA g op M K ph :: Row 51 4 (.slice none 0 0) 0 [] :: pcA [] :: Im 1 (.slice pp1 s.length cc2) s.length (s.flatMap u8c) :: (F.set i emp)) := St.shut_ex (m10, m11) (St.shut_star (ls := [blk g (.cells #[.bool true, .int .i64 op.v, .map (some m10), .map (some m11), .int .i64 ph] 90 (0, 0)), MapA m10 (ents (kI .i64) vB (setOf M)), MapA m11 (ents (kI .i64) vB (setOf K))]) H36)
    have H38 : St W w7 (Row 51 4 (.slice none 0 0) 0 [] :: pcA [] :: MvA g op M K ph :: (F.set i emp)) := (((H37.move 2 rfl).move 2 rfl).drop 3 rfl)
    have H39 : St W w7 (MvA g op M K ph :: (Row 51 4 (.slice none 0 0) 0 [] :: pcA [] :: F).set (i + 2) emp) := (H38.move 2 rfl)
    have h2 : ¬ ph = 2 := by omega
    exact ⟨[], none, 0, by unfold sdE; rw [if_neg h2]; rfl, by unfold sdV; rw [if_neg h2]; rfl, by unfold sdP; rw [if_neg (fun e => h2 e.1)]; exact St.back (i := i + 2) (by exact hi) H39⟩
def layMC_ren : Shelf.Ren := ⟨fun | 5 => 98 | 7 => 107 | n => n, fun | 23 => 88 | 25 => 3 | 3 => 4 | 4 => 4 | 20 => 20 | n => n, fun n => n⟩
theorem layMC : SlLaysW.n5 Try.prog layMC_ren where
  mixed := by kernel_rfl
  f5 := ⟨"maps.Clone[map[int]bool,int,bool]", by decide, Try.func98.trans (congrArg some (by kernel_rfl))⟩
  f7 := Try.func107.trans (congrArg some (by kernel_rfl))
  t4 := Try.underlying4
  a4 := Try.isAgg4
  z4 := Try.sizeOf4
  v4 := Try.zeroValue4
  t20 := Try.underlying20
  a20 := Try.isAgg20
  z20 := Try.sizeOf20
  v20 := Try.zeroValue20
  t23 := Try.underlying88
  a23 := Try.isAgg88
  z23 := Try.sizeOf88
  v23 := Try.zeroValue88
set_option maxHeartbeats 4000000 in
set_option maxRecDepth 100000 in
theorem Mv_Clone {W w : World} {F : List Atom} (g : Nat) (op : I64) (M K : List I64) (ph : Int)  {i : Nat} (hi : F[i]? = some (MvA g op M K ph)) (H : St W w F) : Calls Try.prog 50 #[.pointer (some ⟨g, 0, none⟩)] w (Ret fun v w' => ∃ g2, v = .pointer (some ⟨g2, 0, none⟩) ∧ St W w' (MvA g2 op M K ph :: F)) := by
  have H0 := H.front hi
  refine calls_of_go (n := 25) Try.func50 rfl Try.ntmps50 rfl ?_
  refine g_seq ?_
  refine g_region ?_
  refine r_cons (s_assign (.pointer none) rfl rfl ?_)
  refine r_nil ?_
  refine g_seq ?_
  refine g_seq ?_
  refine g_region ?_
  refine r_cons (s_move (.pointer (some ⟨g, 0, none⟩)) rfl rfl ?_)
  refine r_cons (s_call [.pointer (some ⟨g, 0, none⟩)] pl_96 rfl rfl (Mv_none g op M K ph (i := 0) rfl H0) ?_)
  rintro _ w1 ⟨rfl, H2⟩
  refine r_nil ?_
  refine g_false rfl ?_
  refine g_skip ?_
  refine g_seq ?_
  have H3 := H2.move 0 rfl
  obtain ⟨⟨m4, m5⟩, H6⟩ := St.open_ex H3
  have H7 := St.open_star H6
  have H8 : St W w1 (blk g (.cells #[.bool true, .int .i64 op.v, .map (some m4), .map (some m5), .int .i64 ph] 90 (0, 0)) :: MapA m4 (ents (kI .i64) vB (setOf M)) :: MapA m5 (ents (kI .i64) vB (setOf K)) :: (F.set i emp)) := H7
  refine g_mix (fun t_ w => St W w (blk g (.cells #[.bool true, .int .i64 op.v, .map (some m4), .map (some m5), .int .i64 ph] 90 (0, 0)) :: MapA m4 (ents (kI .i64) vB (setOf M)) :: MapA m5 (ents (kI .i64) vB (setOf K)) :: t_)) (F.set i emp) mixed 21 rfl H8.drew ?_
  refine f_first 0 (listed' := #[true, false, false, false, false, false, false, false, false, false, false, false, false, false, false, false, false, false, false, false, false]) rfl (by kernel_rfl) (by kernel_rfl) (by kernel_rfl) rfl ?_
  refine f_val rfl rfl rfl (by intro t_ w hw; exact x_move (.pointer (some ⟨g, 0, none⟩)) rfl w) ?_
  refine f_first 1 (listed' := #[true, true, false, false, false, false, false, false, false, false, false, false, false, false, false, false, false, false, false, false, false]) rfl (by kernel_rfl) (by kernel_rfl) (by kernel_rfl) rfl ?_
  refine f_val rfl rfl rfl (by intro t_ w hw; exact x_nilCheck (.pointer (some ⟨g, 0, none⟩)) rfl ⟨_, rfl⟩ w) ?_
  refine f_first 2 (listed' := #[true, true, true, false, false, false, false, false, false, false, false, false, false, false, false, false, false, false, false, false, false]) rfl (by kernel_rfl) (by kernel_rfl) (by kernel_rfl) rfl ?_
  refine f_val rfl rfl rfl (by intro t_ w hw; exact x_fieldAddr 90 1 1 1 3 rfl fi_90_1 rfl w) ?_
  refine f_first 3 (listed' := #[true, true, true, true, false, false, false, false, false, false, false, false, false, false, false, false, false, false, false, false, false]) rfl (by kernel_rfl) (by kernel_rfl) (by kernel_rfl) rfl ?_
  refine f_val rfl rfl rfl (by intro t_ w hw; exact x_load (.int .i64 op.v) ag_3 rfl (hw.blk_at (i := 0) rfl) rfl) ?_
  refine f_first 4 (listed' := #[true, true, true, true, true, false, false, false, false, false, false, false, false, false, false, false, false, false, false, false, false]) rfl (by kernel_rfl) (by kernel_rfl) (by kernel_rfl) rfl ?_
  refine f_val rfl rfl rfl (by intro t_ w hw; exact x_move (.pointer (some ⟨g, 0, none⟩)) rfl w) ?_
  refine f_first 5 (listed' := #[true, true, true, true, true, true, false, false, false, false, false, false, false, false, false, false, false, false, false, false, false]) rfl (by kernel_rfl) (by kernel_rfl) (by kernel_rfl) rfl ?_
  refine f_val rfl rfl rfl (by intro t_ w hw; exact x_nilCheck (.pointer (some ⟨g, 0, none⟩)) rfl ⟨_, rfl⟩ w) ?_
  refine f_first 6 (listed' := #[true, true, true, true, true, true, true, false, false, false, false, false, false, false, false, false, false, false, false, false, false]) rfl (by kernel_rfl) (by kernel_rfl) (by kernel_rfl) rfl ?_
  refine f_val rfl rfl rfl (by intro t_ w hw; exact x_fieldAddr 90 2 2 2 88 rfl fi_90_2 rfl w) ?_
  refine f_first 7 (listed' := #[true, true, true, true, true, true, true, true, false, false, false, false, false, false, false, false, false, false, false, false, false]) rfl (by kernel_rfl) (by kernel_rfl) (by kernel_rfl) rfl ?_
  refine f_val rfl rfl rfl (by intro t_ w hw; exact x_load (.map (some m4)) ag_88 rfl (hw.blk_at (i := 0) rfl) rfl) ?_
  refine f_first 9 (listed' := #[true, true, true, true, true, true, true, true, false, true, false, false, false, false, false, false, false, false, false, false, false]) rfl (by kernel_rfl) (by kernel_rfl) (by kernel_rfl) rfl ?_
  refine f_val rfl rfl rfl (by intro t_ w hw; exact x_move (.pointer (some ⟨g, 0, none⟩)) rfl w) ?_
  refine f_first 10 (listed' := #[true, true, true, true, true, true, true, true, false, true, true, false, false, false, false, false, false, false, false, false, false]) rfl (by kernel_rfl) (by kernel_rfl) (by kernel_rfl) rfl ?_
  refine f_val rfl rfl rfl (by intro t_ w hw; exact x_nilCheck (.pointer (some ⟨g, 0, none⟩)) rfl ⟨_, rfl⟩ w) ?_
  refine f_first 11 (listed' := #[true, true, true, true, true, true, true, true, false, true, true, true, false, false, false, false, false, false, false, false, false]) rfl (by kernel_rfl) (by kernel_rfl) (by kernel_rfl) rfl ?_
  refine f_val rfl rfl rfl (by intro t_ w hw; exact x_fieldAddr 90 3 3 3 88 rfl fi_90_3 rfl w) ?_
  refine f_first 12 (listed' := #[true, true, true, true, true, true, true, true, false, true, true, true, true, false, false, false, false, false, false, false, false]) rfl (by kernel_rfl) (by kernel_rfl) (by kernel_rfl) rfl ?_
  refine f_val rfl rfl rfl (by intro t_ w hw; exact x_load (.map (some m5)) ag_88 rfl (hw.blk_at (i := 0) rfl) rfl) ?_
  refine f_first 14 (listed' := #[true, true, true, true, true, true, true, true, false, true, true, true, true, false, true, false, false, false, false, false, false]) rfl (by kernel_rfl) (by kernel_rfl) (by kernel_rfl) rfl ?_
  refine f_val rfl rfl rfl (by intro t_ w hw; exact x_move (.pointer (some ⟨g, 0, none⟩)) rfl w) ?_
  refine f_first 15 (listed' := #[true, true, true, true, true, true, true, true, false, true, true, true, true, false, true, true, false, false, false, false, false]) rfl (by kernel_rfl) (by kernel_rfl) (by kernel_rfl) rfl ?_
  refine f_val rfl rfl rfl (by intro t_ w hw; exact x_nilCheck (.pointer (some ⟨g, 0, none⟩)) rfl ⟨_, rfl⟩ w) ?_
  refine f_first 16 (listed' := #[true, true, true, true, true, true, true, true, false, true, true, true, true, false, true, true, true, false, false, false, false]) rfl (by kernel_rfl) (by kernel_rfl) (by kernel_rfl) rfl ?_
  refine f_val rfl rfl rfl (by intro t_ w hw; exact x_fieldAddr 90 4 4 4 3 rfl fi_90_4 rfl w) ?_
  refine f_first 17 (listed' := #[true, true, true, true, true, true, true, true, false, true, true, true, true, false, true, true, true, true, false, false, false]) rfl (by kernel_rfl) (by kernel_rfl) (by kernel_rfl) rfl ?_
  refine f_val rfl rfl rfl (by intro t_ w hw; exact x_load (.int .i64 ph) ag_3 rfl (hw.blk_at (i := 0) rfl) rfl) ?_
  refine f_all (rs := [8]) (by kernel_rfl) (by simp) ?_
  refine a_cons ⟨_, rfl, ?_⟩ (fun x hx => absurd hx (by simp))
  intro w9 H10
  try dsimp only at H10
  refine s_call [.map (some m4)] pl_98 rfl rfl (clone_map layMC (i := 1) rfl H10) ?_
  rintro _ w12 ⟨mp11, rfl, H13⟩
  have H14 : St W w12 (blk g (.cells #[.bool true, .int .i64 op.v, .map (some m4), .map (some m5), .int .i64 ph] 90 (0, 0)) :: MapA m4 (ents (kI .i64) vB (setOf M)) :: MapA m5 (ents (kI .i64) vB (setOf K)) :: MapA mp11 (ents (kI .i64) vB (setOf M)) :: (F.set i emp)) := (((H13.move 3 rfl).move 3 rfl).move 3 rfl)
  refine ⟨MapA mp11 (ents (kI .i64) vB (setOf M)) :: (F.set i emp), ?_, H14⟩
  change FReg _ _ _ _ _ #[true, true, true, true, true, true, true, true, true, true, true, true, true, false, true, true, true, true, false, false, false] _ _
  refine f_all (rs := [13]) (by kernel_rfl) (by simp) ?_
  refine a_cons ⟨_, rfl, ?_⟩ (fun x hx => absurd hx (by simp))
  intro w15 H16
  try dsimp only at H16
  refine s_call [.map (some m5)] pl_98 rfl rfl (clone_map layMC (i := 2) rfl H16) ?_
  rintro _ w18 ⟨mp17, rfl, H19⟩
  have H20 : St W w18 (blk g (.cells #[.bool true, .int .i64 op.v, .map (some m4), .map (some m5), .int .i64 ph] 90 (0, 0)) :: MapA m4 (ents (kI .i64) vB (setOf M)) :: MapA m5 (ents (kI .i64) vB (setOf K)) :: MapA mp17 (ents (kI .i64) vB (setOf K)) :: MapA mp11 (ents (kI .i64) vB (setOf M)) :: (F.set i emp)) := (((((H19.move 4 rfl).move 1 rfl).move 4 rfl).move 4 rfl).move 4 rfl)
  refine ⟨MapA mp17 (ents (kI .i64) vB (setOf K)) :: MapA mp11 (ents (kI .i64) vB (setOf M)) :: (F.set i emp), ?_, H20⟩
  change FReg _ _ _ _ _ #[true, true, true, true, true, true, true, true, true, true, true, true, true, true, true, true, true, true, false, false, false] _ _
  refine f_first 18 (listed' := #[true, true, true, true, true, true, true, true, true, true, true, true, true, true, true, true, true, true, true, false, false]) rfl (by kernel_rfl) (by kernel_rfl) (by kernel_rfl) rfl ?_
  refine f_val rfl rfl rfl (by intro t_ w hw; exact x_build (cs := #[.bool true, .int .i64 op.v, .map (some mp11), .map (some mp17), .int .i64 ph]) (by kernel_rfl) w) ?_
  refine f_all (rs := [19]) (by kernel_rfl) (by simp) ?_
  refine a_cons ⟨_, rfl, ?_⟩ (fun x hx => absurd hx (by simp))
  intro w21 H22
  try dsimp only at H22
  refine s_box H22 90 (.agg #[.bool true, .int .i64 op.v, .map (some mp11), .map (some mp17), .int .i64 ph]) rfl (cs := #[.bool true, .int .i64 op.v, .map (some mp11), .map (some mp17), .int .i64 ph]) rfl rfl ?_; intro bk23 w24 H25
  have H26 : St W w24 (blk g (.cells #[.bool true, .int .i64 op.v, .map (some m4), .map (some m5), .int .i64 ph] 90 (0, 0)) :: MapA m4 (ents (kI .i64) vB (setOf M)) :: MapA m5 (ents (kI .i64) vB (setOf K)) :: blk bk23 (.cells #[.bool true, .int .i64 op.v, .map (some mp11), .map (some mp17), .int .i64 ph] 90 (0, 0)) :: MapA mp17 (ents (kI .i64) vB (setOf K)) :: MapA mp11 (ents (kI .i64) vB (setOf M)) :: (F.set i emp)) := ((((((H25.move 5 rfl).move 5 rfl).move 2 rfl).move 5 rfl).move 5 rfl).move 5 rfl)
  refine ⟨blk bk23 (.cells #[.bool true, .int .i64 op.v, .map (some mp11), .map (some mp17), .int .i64 ph] 90 (0, 0)) :: MapA mp17 (ents (kI .i64) vB (setOf K)) :: MapA mp11 (ents (kI .i64) vB (setOf M)) :: (F.set i emp), ?_, H26⟩
  change FReg _ _ _ _ _ #[true, true, true, true, true, true, true, true, true, true, true, true, true, true, true, true, true, true, true, true, false] _ _
  refine f_first 20 (listed' := #[true, true, true, true, true, true, true, true, true, true, true, true, true, true, true, true, true, true, true, true, true]) rfl (by kernel_rfl) (by kernel_rfl) (by kernel_rfl) rfl ?_
  refine f_val rfl rfl rfl (by intro t_ w hw; exact x_assign (.pointer (some ⟨bk23, 0, none⟩)) rfl w) ?_
  refine f_done (by kernel_rfl) ?_
  intro w27 H28
  refine g_ret' [.pointer (some ⟨bk23, 0, none⟩)] Try.func50 Try.results50 ⟨rfl, trivial⟩ ?_
  have H29 : St W w27 (blk bk23 (.cells #[.bool true, .int .i64 op.v, .map (some mp11), .map (some mp17), .int .i64 ph] 90 (0, 0)) :: MapA mp11 (ents (kI .i64) vB (setOf M)) :: MapA mp17 (ents (kI .i64) vB (setOf K)) :: blk g (.cells #[.bool true, .int .i64 op.v, .map (some m4), .map (some m5), .int .i64 ph] 90 (0, 0)) :: MapA m4 (ents (kI .i64) vB (setOf M)) :: MapA m5 (ents (kI .i64) vB (setOf K)) :: (F.set i emp)) := (((H28.move 4 rfl).move 5 rfl).move 5 rfl)
  have H30 : St W w27 (MvA bk23 op M K ph :: blk g (.cells #[.bool true, .int .i64 op.v, .map (some m4), .map (some m5), .int .i64 ph] 90 (0, 0)) :: MapA m4 (ents (kI .i64) vB (setOf M)) :: MapA m5 (ents (kI .i64) vB (setOf K)) :: (F.set i emp)) := St.shut_ex (mp11, mp17) (St.shut_star (ls := [blk bk23 (.cells #[.bool true, .int .i64 op.v, .map (some mp11), .map (some mp17), .int .i64 ph] 90 (0, 0)), MapA mp11 (ents (kI .i64) vB (setOf M)), MapA mp17 (ents (kI .i64) vB (setOf K))]) H29)
  have H31 : St W w27 (blk g (.cells #[.bool true, .int .i64 op.v, .map (some m4), .map (some m5), .int .i64 ph] 90 (0, 0)) :: MapA m4 (ents (kI .i64) vB (setOf M)) :: MapA m5 (ents (kI .i64) vB (setOf K)) :: MvA bk23 op M K ph :: (F.set i emp)) := (((H30.move 3 rfl).move 3 rfl).move 3 rfl)
  have H32 : St W w27 (MvA g op M K ph :: MvA bk23 op M K ph :: (F.set i emp)) := St.shut_ex (m4, m5) (St.shut_star (ls := [blk g (.cells #[.bool true, .int .i64 op.v, .map (some m4), .map (some m5), .int .i64 ph] 90 (0, 0)), MapA m4 (ents (kI .i64) vB (setOf M)), MapA m5 (ents (kI .i64) vB (setOf K))]) H31)
  have H33 : St W w27 (MvA bk23 op M K ph :: MvA g op M K ph :: (F.set i emp)) := (H32.move 1 rfl)
  have H34 : St W w27 (MvA g op M K ph :: (MvA bk23 op M K ph :: F).set (i + 1) emp) := (H33.move 1 rfl)
  exact ⟨bk23, rfl, St.back_same (i := i + 1) (by exact hi) H34⟩
set_option maxHeartbeats 4000000 in
set_option maxRecDepth 100000 in
theorem Keys1_I {W w : World} {F : List Atom} (g r l : Nat) (L : List I64) (N : Nat) (J Jx : List I64 → Atom) (hN : L.length ≤ N) {i j : Nat} (hi : F[i]? = some (imm g (.cells #[.map (some r)] 88 (0, 0)))) (hj : F[j]? = some (MapA r (ents (kI .i64) vB (setOf L)))) (hY : ∀ w G pre (x : I64), (pre ++ [x]).length ≤ N → St W w (J pre :: emp :: G) → YieldAt Try.prog l [.int .i64 x.v] w (fun v w' => (v = .bool true ∧ St W w' (J (pre ++ [x]) :: G)) ∨ (v = .bool false ∧ St W w' (Jx (pre ++ [x]) :: G)))) (H : St W w (J [] :: F)) : Calls Try.prog 128 #[.func (.yield l) #[] #[], .pointer (some ⟨g, 0, none⟩)] w (Ret fun v w' => ∃ M : List I64, (M.Perm L ∧ St W w' (J M :: F)) ∨ (True ∧ St W w' (Jx M :: F))) := by
  have H0 := (H.dup (i := i + 1) (by exact hi) (imm_pers _ _)).front (i := j + 2) (by exact hj)
  have H1 : St W w (MapA r (ents (kI .i64) vB (setOf L)) :: imm g (.cells #[.map (some r)] 88 (0, 0)) :: J [] :: (F.set j emp)) := H0
  refine calls_of_go (n := 14) Try.func128 rfl Try.ntmps128 rfl ?_
  refine g_seq ?_
  refine g_region ?_
  refine r_cons (s_load (.map (some r)) ag_88 rfl (H1.imm_at (i := 1) rfl) rfl rfl ?_)
  refine r_cons (s_range H1 0 rfl un_88 rfl rfl ?_); intro it2 w3 H4
  have H5 : St W w3 (MapIt it2 r (ents (kI .i64) vB (setOf L)) (ents (kI .i64) vB (setOf L)) none :: imm g (.cells #[.map (some r)] 88 (0, 0)) :: J [] :: (F.set j emp)) := H4.drop 1 rfl
  refine r_nil ?_
  refine g_block ?_
  have H6 : St W w3 (J [] :: MapIt it2 r (ents (kI .i64) vB (setOf L)) (ents (kI .i64) vB (setOf L)) none :: imm g (.cells #[.map (some r)] 88 (0, 0)) :: (F.set j emp)) := (((H5.move 1 rfl).move 1 rfl).move 2 rfl)
  refine g_loop_inv (fun (x_ : (List I64) × (List (I64 × Bool)) × (Option (Value × Value))) => match x_ with | (pre, rest, last) => [(0, .func (.yield l) #[] #[]), (5, .pointer (some ⟨it2, 0, none⟩))]) (fun (x_ : (List I64) × (List (I64 × Bool)) × (Option (Value × Value))) w => match x_ with | (pre, rest, last) => ((pre ++ rest.map (·.1)).Perm ((setOf L).map (·.1))) ∧ St W w (J pre :: MapIt it2 r (ents (kI .i64) vB (setOf L)) (ents (kI .i64) vB rest) last :: imm g (.cells #[.map (some r)] 88 (0, 0)) :: (F.set j emp))) (fun (x_ : (List I64) × (List (I64 × Bool)) × (Option (Value × Value))) => match x_ with | (pre, rest, last) => rest.length) ([], setOf L, none) ?_ ?_ ?_
  · exact ⟨by first | rfl | exact vint (by omega), by first | rfl | exact vint (by omega), trivial⟩
  · exact ⟨(List.Perm.refl _), H6⟩
  · rintro ⟨pre, rest, last⟩ ρ7 w8 ⟨hperm, H9⟩ nx10
    change Ends _ _ (upds ρ7 [(0, .func (.yield l) #[] #[]), (5, .pointer (some ⟨it2, 0, none⟩))]) w8
    refine g_seq ?_
    refine g_region ?_
    refine r_cons (s_nextT (ek := (kI .i64)) (ev := vB) (rest := rest) H9 1 rfl rfl rfl ?_ ?_)
    · intro h011
      refine r_cons (s_extract (.bool false) #[.bool false] rfl rfl rfl ?_)
      refine r_nil ?_
      refine g_seq ?_
      refine g_false rfl ?_
      refine g_exit (by rfl) ?_
      refine g_end' [] Try.func128 Try.results128 trivial ?_
      have H17 : St W w8 (MapIt it2 r (ents (kI .i64) vB (setOf L)) (ents (kI .i64) vB rest) last :: J pre :: (F.set j emp)) := ((H9.move 1 rfl).drop 2 rfl)
      have H18 : St W w8 (MapA r (ents (kI .i64) vB (setOf L)) :: (J pre :: F).set (j + 1) emp) := MapIt.shut (i := 0) H17 rfl
      have hr0 := h011
      exact ⟨_, .inl ⟨keys_end hr0 hperm, St.back_same (i := j + 1) (by exact hj) H18⟩⟩
    · intro jn12 en13 w14 hj15 H16
      have H19 : St W w14 (J pre :: MapIt it2 r (ents (kI .i64) vB (setOf L)) (ents (kI .i64) vB (rest.eraseIdx jn12)) (some ((kI .i64) en13.1, vB en13.2)) :: imm g (.cells #[.map (some r)] 88 (0, 0)) :: (F.set j emp)) := H16
      refine r_cons (s_extract (.bool true) #[.bool true, .int .i64 en13.1.v, .bool en13.2] rfl rfl rfl ?_)
      refine r_nil ?_
      refine g_seq ?_
      refine g_true rfl ?_
      refine g_skip ?_
      refine g_block ?_
      refine g_seq ?_
      refine g_region ?_
      refine r_cons (s_entry (.tuple #[.int .i64 en13.1.v, .bool en13.2]) H19 1 rfl rfl rfl rfl ?_)
      refine r_cons (s_extract (.int .i64 en13.1.v) #[.int .i64 en13.1.v, .bool en13.2] rfl rfl rfl ?_)
      refine r_cons (s_assign (.int .i64 en13.1.v) rfl rfl ?_)
      refine r_nil ?_
      refine g_seq ?_
      refine g_region ?_
      refine r_cons (s_move (.func (.yield l) #[] #[]) rfl rfl ?_)
      refine r_cons (s_move (.int .i64 en13.1.v) rfl rfl ?_)
      have hlen9 := keys_step hj15 hperm hN
      refine r_cons (s_yield l [.int .i64 en13.1.v] rfl rfl rfl (hY _ _ pre en13.1 hlen9 (H19.cons_emp.move 1 rfl)) ?_)
      rintro _ w20 (⟨rfl, H21⟩ | ⟨rfl, H21⟩)
      · skip
        have H22 : St W w20 (J (pre ++ [en13.1]) :: MapIt it2 r (ents (kI .i64) vB (setOf L)) (ents (kI .i64) vB (rest.eraseIdx jn12)) (some ((kI .i64) en13.1, vB en13.2)) :: imm g (.cells #[.map (some r)] 88 (0, 0)) :: (F.set j emp)) := H21
        refine r_cons (s_not true rfl false rfl rfl ?_)
        refine r_nil ?_
        refine g_false rfl ?_
        refine g_skip ?_
        refine g_inBlock ?_
        have H23 : St W w20 (J (pre ++ [en13.1]) :: MapIt it2 r (ents (kI .i64) vB (setOf L)) (ents (kI .i64) vB (rest.eraseIdx jn12)) (some ((kI .i64) en13.1, vB en13.2)) :: imm g (.cells #[.map (some r)] 88 (0, 0)) :: (F.set j emp)) := (((H22.move 2 rfl).move 2 rfl).move 2 rfl)
        exact nx10 ((pre ++ [en13.1]), (rest.eraseIdx jn12), (some ((kI .i64) en13.1, vB en13.2))) _ _ ⟨(perm_step hj15 hperm), H23⟩ (by first | (dsimp only; exact rest_len (by assumption)) | exact rest_len (by assumption)) ⟨by first | rfl | exact vint (by omega), by first | rfl | exact vint (by omega), trivial⟩
      · skip
        have H24 : St W w20 (Jx (pre ++ [en13.1]) :: MapIt it2 r (ents (kI .i64) vB (setOf L)) (ents (kI .i64) vB (rest.eraseIdx jn12)) (some ((kI .i64) en13.1, vB en13.2)) :: imm g (.cells #[.map (some r)] 88 (0, 0)) :: (F.set j emp)) := H21
        refine r_cons (s_not false rfl true rfl rfl ?_)
        refine r_nil ?_
        refine g_true rfl ?_
        refine g_ret' [] Try.func128 Try.results128 trivial ?_
        have H25 : St W w20 (MapIt it2 r (ents (kI .i64) vB (setOf L)) (ents (kI .i64) vB (rest.eraseIdx jn12)) (some ((kI .i64) en13.1, vB en13.2)) :: Jx (pre ++ [en13.1]) :: (F.set j emp)) := ((H24.move 1 rfl).drop 2 rfl)
        have H26 : St W w20 (MapA r (ents (kI .i64) vB (setOf L)) :: (Jx (pre ++ [en13.1]) :: F).set (j + 1) emp) := MapIt.shut (i := 0) H25 rfl
        exact ⟨_, .inr ⟨trivial, St.back_same (i := j + 1) (by exact hj) H26⟩⟩
set_option maxHeartbeats 4000000 in
set_option maxRecDepth 100000 in
theorem Keys_I {W w : World} {F : List Atom} (r : Nat) (H : St W w F) : Calls Try.prog 100 #[.map (some r)] w (Ret fun v w' => ∃ g, v = .func (.func 128) #[] #[.pointer (some ⟨g, 0, none⟩)] ∧ St W w' (imm g (.cells #[.map (some r)] 88 (0, 0)) :: F)) := by
  refine calls_of_go (n := 4) Try.func100 rfl Try.ntmps100 rfl ?_
  refine g_seq ?_
  refine g_region ?_
  refine r_cons (s_box H 88 (.map (some r)) rfl (cs := #[.map (some r)]) rfl rfl ?_); intro bk1 w2 H3
  refine r_cons (s_assign (.nilFunc) rfl rfl ?_)
  refine r_nil ?_
  refine g_seq ?_
  refine g_region ?_
  refine r_cons (s_makeFunc (.func (.func 128) #[] #[.pointer (some ⟨bk1, 0, none⟩)]) rfl rfl ?_)
  refine r_cons (s_assign (.func (.func 128) #[] #[.pointer (some ⟨bk1, 0, none⟩)]) rfl rfl ?_)
  refine r_nil ?_
  refine g_ret' [.func (.func 128) #[] #[.pointer (some ⟨bk1, 0, none⟩)]] Try.func100 Try.results100 ⟨rfl, trivial⟩ ?_
  have H4 : St W w2 (blk bk1 (.cells #[.map (some r)] 88 (0, 0)) :: F) := H3
  exact ⟨_, rfl, blk_imm H4 (i := 0) rfl⟩
set_option maxHeartbeats 4000000 in
set_option maxRecDepth 100000 in
theorem AppendSeq_I {W w : World} {F : List Atom} (g r : Nat) (L : List I64) {i j : Nat} (hi : F[i]? = some (imm g (.cells #[.map (some r)] 88 (0, 0)))) (hj : F[j]? = some (MapA r (ents (kI .i64) vB (setOf L)))) (hN : L.length * 8 ≤ 140737488355328) (H : St W w F) : Calls Try.prog 146 #[.slice none 0 0, .func (.func 128) #[] #[.pointer (some ⟨g, 0, none⟩)]] w (Ret fun v w' => ∃ (M : List I64) (p : Option Addr) (c : Nat), M.Perm L ∧ v = .slice p M.length c ∧ St W w' (Row 3 1 (.slice p M.length c) M.length (M.flatMap i64c) :: F)) := by
  have H0 := (H.dup (i := i) (by exact hi) (imm_pers _ _)).front (i := j + 1) (by exact hj)
  have H1 : St W w (MapA r (ents (kI .i64) vB (setOf L)) :: imm g (.cells #[.map (some r)] 88 (0, 0)) :: (F.set j emp)) := H0
  refine calls_of_go (n := 13) Try.func146 rfl Try.ntmps146 rfl ?_
  refine g_seq ?_
  refine g_region ?_
  refine r_cons (s_box H1 101 (.slice none 0 0) rfl (cs := #[.slice none 0 0]) rfl rfl ?_); intro bk2 w3 H4
  refine r_cons (s_assign (.slice none 0 0) rfl rfl ?_)
  refine r_nil ?_
  refine g_seq ?_
  refine g_seq ?_
  refine g_region ?_
  refine r_cons (s_move (.func (.func 128) #[] #[.pointer (some ⟨g, 0, none⟩)]) rfl rfl ?_)
  refine r_nil ?_
  refine g_block ?_
  have H5 := Row.nil_intro H4 3 1
  have H6 : St W w3 (blk bk2 (.cells #[.slice none 0 0] 101 (0, 0)) :: Row 3 1 (.slice none 0 0) 0 [] :: MapA r (ents (kI .i64) vB (setOf L)) :: imm g (.cells #[.map (some r)] 88 (0, 0)) :: (F.set j emp)) := (H5.move 1 rfl)
  have H7 : St W w3 ((ex fun q : Option Addr × Nat => star [blk bk2 (.cells #[.slice q.1 ([] : List I64).length q.2] 101 (0, 0)), Row 3 1 (.slice q.1 ([] : List I64).length q.2) ([] : List I64).length (([] : List I64).flatMap i64c)]) :: MapA r (ents (kI .i64) vB (setOf L)) :: imm g (.cells #[.map (some r)] 88 (0, 0)) :: (F.set j emp)) := St.shut_ex (none, 0) (St.shut_star (ls := [blk bk2 (.cells #[.slice none 0 0] 101 (0, 0)), Row 3 1 (.slice none 0 0) 0 []]) H6)
  refine g_range1 (W := W) (F := MapA r (ents (kI .i64) vB (setOf L)) :: imm g (.cells #[.map (some r)] 88 (0, 0)) :: (F.set j emp)) 128 [.pointer (some ⟨g, 0, none⟩)] rfl rfl pl_128 (fun x_ : I64 => .int .i64 x_.v) rfl (fun x_ : I64 => emp) (fun pre_ => (ex fun q : Option Addr × Nat => star [blk bk2 (.cells #[.slice q.1 pre_.length q.2] 101 (0, 0)), Row 3 1 (.slice q.1 pre_.length q.2) pre_.length (pre_.flatMap i64c)])) (fun c_ pre_ => pure' False) (fun pre_ x_ => (pre_ ++ [x_]).length ≤ L.length) (fun L_ => L_.Perm L) (fun L_ => True) H7 ?_ ?_ ?_ ?_
  · intro l8 r9 w10 G11 pre12 x13 hr14 hr15 hok16 H17
    try dsimp only at hok16 H17
    have H18 : St W w10 (blk l8 (.loop r9) :: (ex fun q : Option Addr × Nat => star [blk bk2 (.cells #[.slice q.1 pre12.length q.2] 101 (0, 0)), Row 3 1 (.slice q.1 pre12.length q.2) pre12.length (pre12.flatMap i64c)]) :: emp :: G11) := H17
    have H19 := H18.move 1 rfl
    obtain ⟨⟨pp20, cc21⟩, H22⟩ := St.open_ex H19
    have H23 := St.open_star H22
    have H24 : St W w10 (blk bk2 (.cells #[.slice pp20 pre12.length cc21] 101 (0, 0)) :: Row 3 1 (.slice pp20 pre12.length cc21) pre12.length (pre12.flatMap i64c) :: blk l8 (.loop r9) :: emp :: G11) := H23
    have hpl : pre12.length + 1 ≤ L.length := by have h9 := hok16; simp only [List.length_append, List.length_cons, List.length_nil] at h9; omega
    refine g_region ?_
    refine r_cons (s_assign (.int .i64 x13.v) rfl rfl ?_)
    refine r_nil ?_
    refine g_beginRound H24 (i := 2) rfl hr14 ?_; intro w25 H26
    have H27 : St W w25 (blk bk2 (.cells #[.slice pp20 pre12.length cc21] 101 (0, 0)) :: Row 3 1 (.slice pp20 pre12.length cc21) pre12.length (pre12.flatMap i64c) :: blk l8 (.loop { r9 with state := .busy }) :: emp :: G11) := H26
    refine g_block ?_
    refine g_region ?_
    refine r_cons (s_load (.slice pp20 pre12.length cc21) ag_101 rfl (H27.blk_at (i := 0) rfl) rfl rfl ?_)
    refine r_cons (s_move (.int .i64 x13.v) rfl rfl ?_)
    refine r_cons (s_buildSlice H27 1 1 (cs := #[.int .i64 x13.v]) #[.int .i64 0] el_101 ze_3 (by decide) (by decide) (by kernel_rfl) rfl ?_); intro bk28 w29 H30
    refine r_cons (s_append H30 2 rfl rfl rfl (rd_blk (H30.blk_at (i := 0) rfl) rfl (Nat.le_of_ble_eq_true rfl) (by simp [Value.oneCell'])) ap_101 (by decide) (by unfold maxLen; omega) (by omega) (n' := pre12.length + 1) (xs' := pre12.flatMap i64c ++ ([.int .i64 x13.v] : List Value)) (by omega) (by first | rfl | simp) rfl ?_); intro vv31 w32 H33 hn34
    obtain ⟨pp35, cc36, rfl⟩ := Row.slice H33 (i := 2) rfl
    refine r_cons (s_store H33 1 (.slice pp35 (pre12.length + 1) cc36) rfl rfl rfl sz_101 rfl (Nat.le_of_ble_eq_true rfl) rfl (cs' := #[.slice pp35 (pre12.length + 1) cc36]) rfl ?_); intro w37 H38
    refine r_nil ?_
    refine g_inBlock ?_
    have H39 : St W w37 (blk bk28 (.cells #[.int .i64 x13.v] 3 (0, 0)) :: blk bk2 (.cells #[.slice pp35 ((pre12 ++ [x13]).length) cc36] 101 (0, 0)) :: Row 3 1 (.slice pp35 ((pre12 ++ [x13]).length) cc36) ((pre12 ++ [x13]).length) ((pre12 ++ [x13]).flatMap i64c) :: blk l8 (.loop { r9 with state := .busy }) :: emp :: G11) := by rw [List.flatMap_append, List.length_append]; exact H38
    have H40 : St W w37 (blk bk2 (.cells #[.slice pp35 ((pre12 ++ [x13]).length) cc36] 101 (0, 0)) :: Row 3 1 (.slice pp35 ((pre12 ++ [x13]).length) cc36) ((pre12 ++ [x13]).length) ((pre12 ++ [x13]).flatMap i64c) :: blk bk28 (.cells #[.int .i64 x13.v] 3 (0, 0)) :: blk l8 (.loop { r9 with state := .busy }) :: emp :: G11) := ((H39.move 2 rfl).move 2 rfl)
    have H41 : St W w37 ((ex fun q : Option Addr × Nat => star [blk bk2 (.cells #[.slice q.1 (pre12 ++ [x13]).length q.2] 101 (0, 0)), Row 3 1 (.slice q.1 (pre12 ++ [x13]).length q.2) (pre12 ++ [x13]).length ((pre12 ++ [x13]).flatMap i64c)]) :: blk bk28 (.cells #[.int .i64 x13.v] 3 (0, 0)) :: blk l8 (.loop { r9 with state := .busy }) :: emp :: G11) := St.shut_ex (pp35, cc36) (St.shut_star (ls := [blk bk2 (.cells #[.slice pp35 ((pre12 ++ [x13]).length) cc36] 101 (0, 0)), Row 3 1 (.slice pp35 ((pre12 ++ [x13]).length) cc36) ((pre12 ++ [x13]).length) ((pre12 ++ [x13]).flatMap i64c)]) H40)
    have H42 : St W w37 (blk l8 (.loop { r9 with state := .busy }) :: (ex fun q : Option Addr × Nat => star [blk bk2 (.cells #[.slice q.1 (pre12 ++ [x13]).length q.2] 101 (0, 0)), Row 3 1 (.slice q.1 (pre12 ++ [x13]).length q.2) (pre12 ++ [x13]).length ((pre12 ++ [x13]).flatMap i64c)]) :: G11) := (((H41.move 2 rfl).drop 2 rfl).drop 2 rfl)
    refine g_round_end hr14 hr15 H42 (i := 0) rfl ?_; intro w43 H44
    exact .inl ⟨rfl, H44⟩
  · intro l J Jx B w H hY; exact Keys1_I g r l L L.length J Jx (Nat.le_refl _) (i := 2) rfl (j := 1) rfl hY H
  · intro D45 L46 w47 hS48 H49
    have H51 : St W w47 ((ex fun q : Option Addr × Nat => star [blk bk2 (.cells #[.slice q.1 L46.length q.2] 101 (0, 0)), Row 3 1 (.slice q.1 L46.length q.2) L46.length (L46.flatMap i64c)]) :: blk D45 (.deferred (some [])) :: MapA r (ents (kI .i64) vB (setOf L)) :: imm g (.cells #[.map (some r)] 88 (0, 0)) :: (F.set j emp)) := H49
    obtain ⟨⟨pp52, cc53⟩, H54⟩ := St.open_ex H51
    have H55 := St.open_star H54
    have H56 : St W w47 (blk bk2 (.cells #[.slice pp52 L46.length cc53] 101 (0, 0)) :: Row 3 1 (.slice pp52 L46.length cc53) L46.length (L46.flatMap i64c) :: blk D45 (.deferred (some [])) :: MapA r (ents (kI .i64) vB (setOf L)) :: imm g (.cells #[.map (some r)] 88 (0, 0)) :: (F.set j emp)) := H55
    refine g_inBlock ?_
    refine g_seq ?_
    refine g_region ?_
    refine r_cons (s_load (.slice pp52 L46.length cc53) ag_101 rfl (H56.blk_at (i := 0) rfl) rfl rfl ?_)
    refine r_cons (s_assign (.slice pp52 L46.length cc53) rfl rfl ?_)
    refine r_nil ?_
    obtain ⟨hd57, H58⟩ := H56.collect (i := 2) rfl
    refine g_retD _ [.slice pp52 L46.length cc53] Try.func146 Try.results146 rfl ⟨hd57, trivial⟩ ⟨rfl, trivial⟩ ?_
    have H59 : St W (w47.putObj D45 (.deferred none)) (MapA r (ents (kI .i64) vB (setOf L)) :: Row 3 1 (.slice pp52 L46.length cc53) L46.length (L46.flatMap i64c) :: (F.set j emp)) := ((((H58.move 1 rfl).move 2 rfl).drop 2 rfl).drop 2 rfl)
    have H60 : St W (w47.putObj D45 (.deferred none)) (MapA r (ents (kI .i64) vB (setOf L)) :: (Row 3 1 (.slice pp52 L46.length cc53) L46.length (L46.flatMap i64c) :: F).set (j + 1) emp) := H59
    exact ⟨L46, _, _, hS48, rfl, St.back_same (i := j + 1) (by exact hj) H60⟩
  · intro D61 c66 L62 w63 hS64 H65
    have H67 : St W w63 (pure' False :: blk D61 (.deferred (some [])) :: MapA r (ents (kI .i64) vB (setOf L)) :: imm g (.cells #[.map (some r)] 88 (0, 0)) :: (F.set j emp)) := H65
    exact (St.open_pure H67).1.elim
set_option maxHeartbeats 4000000 in
set_option maxRecDepth 100000 in
theorem Collect_I {W w : World} {F : List Atom} (g r : Nat) (L : List I64) {i j : Nat} (hi : F[i]? = some (imm g (.cells #[.map (some r)] 88 (0, 0)))) (hj : F[j]? = some (MapA r (ents (kI .i64) vB (setOf L)))) (hN : L.length * 8 ≤ 140737488355328) (H : St W w F) : Calls Try.prog 126 #[.func (.func 128) #[] #[.pointer (some ⟨g, 0, none⟩)]] w (Ret fun v w' => ∃ (M : List I64) (p : Option Addr) (c : Nat), M.Perm L ∧ v = .slice p M.length c ∧ St W w' (Row 3 1 (.slice p M.length c) M.length (M.flatMap i64c) :: F)) := by
  have H0 := (H.dup (i := i) (by exact hi) (imm_pers _ _)).front (i := j + 1) (by exact hj)
  have H1 : St W w (MapA r (ents (kI .i64) vB (setOf L)) :: imm g (.cells #[.map (some r)] 88 (0, 0)) :: (F.set j emp)) := H0
  refine calls_of_go (n := 5) Try.func126 rfl Try.ntmps126 rfl ?_
  refine g_seq ?_
  refine g_region ?_
  refine r_cons (s_assign (.slice none 0 0) rfl rfl ?_)
  refine r_nil ?_
  refine g_seq ?_
  refine g_region ?_
  refine r_cons (s_move (.func (.func 128) #[] #[.pointer (some ⟨g, 0, none⟩)]) rfl rfl ?_)
  refine r_cons (s_call [.slice none 0 0, .func (.func 128) #[] #[.pointer (some ⟨g, 0, none⟩)]] pl_146 rfl rfl (AppendSeq_I g r L (i := 1) rfl (j := 0) rfl hN H1) ?_)
  rintro _ w6 ⟨M2, pp3, cc4, hp5, rfl, H7⟩
  refine r_cons (s_assign (.slice pp3 M2.length cc4) rfl rfl ?_)
  refine r_nil ?_
  refine g_ret' [.slice pp3 M2.length cc4] Try.func126 Try.results126 ⟨rfl, trivial⟩ ?_
  have H8 : St W w6 (MapA r (ents (kI .i64) vB (setOf L)) :: Row 3 1 (.slice pp3 M2.length cc4) M2.length (M2.flatMap i64c) :: (F.set j emp)) := ((H7.move 1 rfl).drop 2 rfl)
  have H9 : St W w6 (MapA r (ents (kI .i64) vB (setOf L)) :: (Row 3 1 (.slice pp3 M2.length cc4) M2.length (M2.flatMap i64c) :: F).set (j + 1) emp) := H8
  exact ⟨M2, _, _, hp5, rfl, St.back_same (i := j + 1) (by exact hj) H9⟩
def sortLI_ren : Shelf.Ren := ⟨fun | 5 => 127 | 8 => 148 | 7 => 147 | 19 => 164 | 20 => 138 | 10 => 155 | 11 => 156 | 12 => 157 | 13 => 158 | 14 => 159 | 15 => 160 | 16 => 161 | 17 => 162 | 18 => 163 | 30 => 167 | 31 => 168 | 32 => 169 | 33 => 170 | 34 => 171 | 35 => 172 | 40 => 175 | n => n, fun | 23 => 101 | 25 => 3 | 3 => 3 | 32 => 156 | 22 => 101 | 0 => 0 | 44 => 228 | 46 => 137 | 4 => 4 | 36 => 220 | 35 => 219 | 41 => 225 | 5 => 5 | 9 => 9 | 53 => 230 | 57 => 233 | 63 => 237 | 64 => 238 | n => n, fun n => n⟩
theorem sortLI : SlLaysM.n5 Try.prog sortLI_ren where
  mixed := by kernel_rfl
  f5 := ⟨"slices.Sort[[]int,int]", by decide, Try.func127.trans (congrArg some (by kernel_rfl))⟩
  f7 := ⟨"slices.pdqsortOrdered[int]", by decide, Try.func147.trans (congrArg some (by kernel_rfl))⟩
  f8 := Try.func148.trans (congrArg some (by kernel_rfl))
  f10 := ⟨"slices.insertionSortOrdered[int]", by decide, Try.func155.trans (congrArg some (by kernel_rfl))⟩
  f11 := ⟨"slices.heapSortOrdered[int]", by decide, Try.func156.trans (congrArg some (by kernel_rfl))⟩
  f12 := ⟨"slices.breakPatternsOrdered[int]", by decide, Try.func157.trans (congrArg some (by kernel_rfl))⟩
  f13 := ⟨"slices.choosePivotOrdered[int]", by decide, Try.func158.trans (congrArg some (by kernel_rfl))⟩
  f14 := ⟨"slices.reverseRangeOrdered[int]", by decide, Try.func159.trans (congrArg some (by kernel_rfl))⟩
  f15 := ⟨"slices.partialInsertionSortOrdered[int]", by decide, Try.func160.trans (congrArg some (by kernel_rfl))⟩
  f16 := ⟨"cmp.Less[int]", by decide, Try.func161.trans (congrArg some (by kernel_rfl))⟩
  f17 := ⟨"slices.partitionEqualOrdered[int]", by decide, Try.func162.trans (congrArg some (by kernel_rfl))⟩
  f18 := ⟨"slices.partitionOrdered[int]", by decide, Try.func163.trans (congrArg some (by kernel_rfl))⟩
  f19 := Try.func164.trans (congrArg some (by kernel_rfl))
  f20 := Try.func138.trans (congrArg some (by kernel_rfl))
  f30 := ⟨"slices.siftDownOrdered[int]", by decide, Try.func167.trans (congrArg some (by kernel_rfl))⟩
  f31 := Try.func168.trans (congrArg some (by kernel_rfl))
  f32 := Try.func169.trans (congrArg some (by kernel_rfl))
  f33 := ⟨"slices.medianAdjacentOrdered[int]", by decide, Try.func170.trans (congrArg some (by kernel_rfl))⟩
  f34 := ⟨"slices.medianOrdered[int]", by decide, Try.func171.trans (congrArg some (by kernel_rfl))⟩
  f35 := ⟨"cmp.isNaN[int]", by decide, Try.func172.trans (congrArg some (by kernel_rfl))⟩
  f40 := ⟨"slices.order2Ordered[int]", by decide, Try.func175.trans (congrArg some (by kernel_rfl))⟩
  t0 := Try.underlying0
  a0 := Try.isAgg0
  z0 := Try.sizeOf0
  v0 := Try.zeroValue0
  t3 := Try.underlying3
  a3 := Try.isAgg3
  z3 := Try.sizeOf3
  v3 := Try.zeroValue3
  t4 := Try.underlying4
  a4 := Try.isAgg4
  z4 := Try.sizeOf4
  v4 := Try.zeroValue4
  t5 := Try.underlying5
  a5 := Try.isAgg5
  z5 := Try.sizeOf5
  v5 := Try.zeroValue5
  t9 := Try.underlying9
  a9 := Try.isAgg9
  z9 := Try.sizeOf9
  v9 := Try.zeroValue9
  t22 := Try.underlying101
  a22 := Try.isAgg101
  z22 := Try.sizeOf101
  v22 := Try.zeroValue101
  t23 := Try.underlying101
  a23 := Try.isAgg101
  z23 := Try.sizeOf101
  v23 := Try.zeroValue101
  t25 := Try.underlying3
  a25 := Try.isAgg3
  z25 := Try.sizeOf3
  v25 := Try.zeroValue3
  t32 := Try.underlying156
  a32 := Try.isAgg156
  z32 := Try.sizeOf156
  v32 := Try.zeroValue156
  t35 := Try.underlying219
  a35 := Try.isAgg219
  z35 := Try.sizeOf219
  v35 := Try.zeroValue219
  t36 := Try.underlying220
  a36 := Try.isAgg220
  z36 := Try.sizeOf220
  v36 := Try.zeroValue220
  t41 := Try.underlying225
  a41 := Try.isAgg225
  z41 := Try.sizeOf225
  v41 := Try.zeroValue225
  t44 := Try.underlying228
  a44 := Try.isAgg228
  z44 := Try.sizeOf228
  v44 := Try.zeroValue228
  t46 := Try.underlying137
  a46 := Try.isAgg137
  z46 := Try.sizeOf137
  v46 := Try.zeroValue137
  t53 := Try.underlying230
  a53 := Try.isAgg230
  z53 := Try.sizeOf230
  v53 := Try.zeroValue230
  t57 := Try.underlying233
  a57 := Try.isAgg233
  z57 := Try.sizeOf233
  v57 := Try.zeroValue233
  t63 := Try.underlying237
  a63 := Try.isAgg237
  z63 := Try.sizeOf237
  v63 := Try.zeroValue237
  t64 := Try.underlying238
  a64 := Try.isAgg238
  z64 := Try.sizeOf238
  v64 := Try.zeroValue238
set_option maxHeartbeats 4000000 in
set_option maxRecDepth 100000 in
theorem Sorted_I {W w : World} {F : List Atom} (g r : Nat) (L : List I64) {i j : Nat} (hi : F[i]? = some (imm g (.cells #[.map (some r)] 88 (0, 0)))) (hj : F[j]? = some (MapA r (ents (kI .i64) vB (setOf L)))) (hN : L.length * 8 ≤ 140737488355328) (H : St W w F) : Calls Try.prog 99 #[.func (.func 128) #[] #[.pointer (some ⟨g, 0, none⟩)]] w (Ret fun v w' => ∃ p c, v = .slice p L.length c ∧ St W w' (Im 1 (.slice p L.length c) L.length ((sortI L).flatMap i64c) :: F)) := by
  have H0 := (H.dup (i := i) (by exact hi) (imm_pers _ _)).front (i := j + 1) (by exact hj)
  have H1 : St W w (MapA r (ents (kI .i64) vB (setOf L)) :: imm g (.cells #[.map (some r)] 88 (0, 0)) :: (F.set j emp)) := H0
  refine calls_of_go (n := 9) Try.func99 rfl Try.ntmps99 rfl ?_
  refine g_seq ?_
  refine g_region ?_
  refine r_cons (s_assign (.slice none 0 0) rfl rfl ?_)
  refine r_nil ?_
  refine g_seq ?_
  refine g_region ?_
  refine r_cons (s_move (.func (.func 128) #[] #[.pointer (some ⟨g, 0, none⟩)]) rfl rfl ?_)
  refine r_cons (s_call [.func (.func 128) #[] #[.pointer (some ⟨g, 0, none⟩)]] pl_126 rfl rfl (Collect_I g r L (i := 1) rfl (j := 0) rfl hN H1) ?_)
  rintro _ w6 ⟨M2, pp3, cc4, hp5, rfl, H7⟩
  refine r_cons (s_assign (.slice pp3 M2.length cc4) rfl rfl ?_)
  refine r_nil ?_
  refine g_seq ?_
  refine g_region ?_
  refine r_cons (s_move (.slice pp3 M2.length cc4) rfl rfl ?_)
  refine r_cons (s_call [.slice pp3 M2.length cc4] pl_127 rfl rfl (sort_int sortLI H7 (i := 0) rfl (by have h9 := hp5.length_eq; omega)) ?_)
  rintro _ w8 ⟨rfl, H9⟩
  refine r_nil ?_
  refine g_seq ?_
  refine g_region ?_
  refine r_cons (s_move (.slice pp3 M2.length cc4) rfl rfl ?_)
  refine r_cons (s_assign (.slice pp3 M2.length cc4) rfl rfl ?_)
  refine r_nil ?_
  refine g_ret' [.slice pp3 M2.length cc4] Try.func99 Try.results99 ⟨rfl, trivial⟩ ?_
  have H10 : St W w8 (MapA r (ents (kI .i64) vB (setOf L)) :: Row 3 1 (.slice pp3 M2.length cc4) M2.length ((sortI M2).flatMap i64c) :: (F.set j emp)) := ((H9.move 1 rfl).drop 2 rfl)
  have H11 : St W w8 (MapA r (ents (kI .i64) vB (setOf L)) :: (Row 3 1 (.slice pp3 M2.length cc4) M2.length ((sortI M2).flatMap i64c) :: F).set (j + 1) emp) := H10
  have hx := St.back_same (i := j + 1) (by exact hj) H11
  have hq := Row.im hx (i := 0) rfl
  rw [sortI_of_perm hp5, hp5.length_eq] at hq
  exact ⟨_, _, by rw [← hp5.length_eq]; rfl, hq⟩
set_option maxHeartbeats 4000000 in
set_option maxRecDepth 100000 in
theorem Values_ {W w : World} {F : List Atom} (p : Option Addr) (n c : Nat) (H : St W w F) : Calls Try.prog 101 #[.slice p n c] w (Ret fun v w' => ∃ g, v = .func (.func 129) #[] #[.pointer (some ⟨g, 0, none⟩)] ∧ St W w' (imm g (.cells #[.slice p n c] 101 (0, 0)) :: F)) := by
  refine calls_of_go (n := 4) Try.func101 rfl Try.ntmps101 rfl ?_
  refine g_seq ?_
  refine g_region ?_
  refine r_cons (s_box H 101 (.slice p n c) rfl (cs := #[.slice p n c]) rfl rfl ?_); intro bk1 w2 H3
  refine r_cons (s_assign (.nilFunc) rfl rfl ?_)
  refine r_nil ?_
  refine g_seq ?_
  refine g_region ?_
  refine r_cons (s_makeFunc (.func (.func 129) #[] #[.pointer (some ⟨bk1, 0, none⟩)]) rfl rfl ?_)
  refine r_cons (s_assign (.func (.func 129) #[] #[.pointer (some ⟨bk1, 0, none⟩)]) rfl rfl ?_)
  refine r_nil ?_
  refine g_ret' [.func (.func 129) #[] #[.pointer (some ⟨bk1, 0, none⟩)]] Try.func101 Try.results101 ⟨rfl, trivial⟩ ?_
  have H4 : St W w2 (blk bk1 (.cells #[.slice p n c] 101 (0, 0)) :: F) := H3
  exact ⟨_, rfl, blk_imm H4 (i := 0) rfl⟩
set_option maxHeartbeats 4000000 in
set_option maxRecDepth 100000 in
theorem Mv_Missing {W w : World} {F : List Atom} (g : Nat) (op : I64) (M K : List I64) (ph : Int) (hN : M.length * 8 ≤ 140737488355328) {i : Nat} (hi : F[i]? = some (MvA g op M K ph)) (H : St W w F) : Calls Try.prog 56 #[.pointer (some ⟨g, 0, none⟩)] w (Ret fun v w' => ∃ g2 p c, v = .func (.func 129) #[] #[.pointer (some ⟨g2, 0, none⟩)] ∧ St W w' (imm g2 (.cells #[.slice p ((sortI M).length) c] 101 (0, 0)) :: Im 1 (.slice p ((sortI M).length) c) (sortI M).length ((sortI M).flatMap i64c) :: F)) := by
  have H0 := H.front hi
  refine calls_of_go (n := 15) Try.func56 rfl Try.ntmps56 rfl ?_
  refine g_seq ?_
  refine g_region ?_
  refine r_cons (s_assign (.nilFunc) rfl rfl ?_)
  refine r_nil ?_
  refine g_seq ?_
  refine g_region ?_
  refine r_cons (s_assign (.slice none 0 0) rfl rfl ?_)
  refine r_nil ?_
  refine g_seq ?_
  refine g_seq ?_
  refine g_region ?_
  refine r_cons (s_move (.pointer (some ⟨g, 0, none⟩)) rfl rfl ?_)
  refine r_cons (s_call [.pointer (some ⟨g, 0, none⟩)] pl_96 rfl rfl (Mv_none g op M K ph (i := 0) rfl H0) ?_)
  rintro _ w1 ⟨rfl, H2⟩
  refine r_cons (s_not false rfl true rfl rfl ?_)
  refine r_nil ?_
  refine g_true rfl ?_
  refine g_region ?_
  refine r_cons (s_move (.pointer (some ⟨g, 0, none⟩)) rfl rfl ?_)
  refine r_cons (s_nilCheck (.pointer (some ⟨g, 0, none⟩)) rfl ⟨_, rfl⟩ rfl ?_)
  refine r_cons (s_fieldAddr 90 2 2 2 88 rfl fi_90_2 rfl rfl ?_)
  have H3 := H2.move 0 rfl
  obtain ⟨⟨m4, m5⟩, H6⟩ := St.open_ex H3
  have H7 := St.open_star H6
  have H8 : St W w1 (blk g (.cells #[.bool true, .int .i64 op.v, .map (some m4), .map (some m5), .int .i64 ph] 90 (0, 0)) :: MapA m4 (ents (kI .i64) vB (setOf M)) :: MapA m5 (ents (kI .i64) vB (setOf K)) :: (F.set i emp)) := H7
  refine r_cons (s_load (.map (some m4)) ag_88 rfl (H8.blk_at (i := 0) rfl) rfl rfl ?_)
  refine r_cons (s_call [.map (some m4)] pl_100 rfl rfl (Keys_I m4 H8) ?_)
  rintro _ w10 ⟨bk9, rfl, H11⟩
  refine r_cons (s_call [.func (.func 128) #[] #[.pointer (some ⟨bk9, 0, none⟩)]] pl_99 rfl rfl (Sorted_I bk9 m4 M (i := 0) rfl (j := 2) rfl hN H11) ?_)
  rintro _ w14 ⟨pp12, cc13, rfl, H15⟩
  refine r_cons (s_assign (.slice pp12 M.length cc13) rfl rfl ?_)
  refine r_nil ?_
  refine g_seq ?_
  refine g_region ?_
  refine r_cons (s_move (.slice pp12 M.length cc13) rfl rfl ?_)
  refine r_cons (s_call [.slice pp12 M.length cc13] pl_101 rfl rfl (Values_ pp12 M.length cc13 H15) ?_)
  rintro _ w17 ⟨bk16, rfl, H18⟩
  refine r_cons (s_assign (.func (.func 129) #[] #[.pointer (some ⟨bk16, 0, none⟩)]) rfl rfl ?_)
  refine r_nil ?_
  refine g_ret' [.func (.func 129) #[] #[.pointer (some ⟨bk16, 0, none⟩)]] Try.func56 Try.results56 ⟨rfl, trivial⟩ ?_
  have H19 : St W w17 (imm bk16 (.cells #[.slice pp12 ((sortI M).length) cc13] 101 (0, 0)) :: Im 1 (.slice pp12 ((sortI M).length) cc13) ((sortI M).length) ((sortI M).flatMap i64c) :: imm bk9 (.cells #[.map (some m4)] 88 (0, 0)) :: blk g (.cells #[.bool true, .int .i64 op.v, .map (some m4), .map (some m5), .int .i64 ph] 90 (0, 0)) :: MapA m4 (ents (kI .i64) vB (setOf M)) :: MapA m5 (ents (kI .i64) vB (setOf K)) :: (F.set i emp)) := by rw [sortI_len]; exact H18
  have H20 : St W w17 (blk g (.cells #[.bool true, .int .i64 op.v, .map (some m4), .map (some m5), .int .i64 ph] 90 (0, 0)) :: MapA m4 (ents (kI .i64) vB (setOf M)) :: MapA m5 (ents (kI .i64) vB (setOf K)) :: imm bk16 (.cells #[.slice pp12 ((sortI M).length) cc13] 101 (0, 0)) :: Im 1 (.slice pp12 ((sortI M).length) cc13) ((sortI M).length) ((sortI M).flatMap i64c) :: imm bk9 (.cells #[.map (some m4)] 88 (0, 0)) :: (F.set i emp)) := (((H19.move 5 rfl).move 5 rfl).move 5 rfl)
  have H21 : St W w17 (MvA g op M K ph :: imm bk16 (.cells #[.slice pp12 ((sortI M).length) cc13] 101 (0, 0)) :: Im 1 (.slice pp12 ((sortI M).length) cc13) ((sortI M).length) ((sortI M).flatMap i64c) :: imm bk9 (.cells #[.map (some m4)] 88 (0, 0)) :: (F.set i emp)) := St.shut_ex (m4, m5) (St.shut_star (ls := [blk g (.cells #[.bool true, .int .i64 op.v, .map (some m4), .map (some m5), .int .i64 ph] 90 (0, 0)), MapA m4 (ents (kI .i64) vB (setOf M)), MapA m5 (ents (kI .i64) vB (setOf K))]) H20)
  have H22 : St W w17 (imm bk16 (.cells #[.slice pp12 ((sortI M).length) cc13] 101 (0, 0)) :: Im 1 (.slice pp12 ((sortI M).length) cc13) ((sortI M).length) ((sortI M).flatMap i64c) :: MvA g op M K ph :: (F.set i emp)) := (((H21.move 2 rfl).move 2 rfl).drop 3 rfl)
  have H23 : St W w17 (MvA g op M K ph :: (imm bk16 (.cells #[.slice pp12 ((sortI M).length) cc13] 101 (0, 0)) :: Im 1 (.slice pp12 ((sortI M).length) cc13) ((sortI M).length) ((sortI M).flatMap i64c) :: F).set (i + 2) emp) := (H22.move 2 rfl)
  exact ⟨bk16, pp12, cc13, rfl, St.back_same (i := i + 2) (by exact hi) H23⟩
end Sl
