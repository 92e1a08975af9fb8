/- Walks of the program's functions. Printed by a program of this claim's author. No condition. -/
import Derived.Test.YteogdknlofcpiaaSlBA
import Derived.Test.YteogdknlofcpiaaSlDB
import Derived.Test.YteogdknlofcpiaaSlQ
import Derived.Test.YteogdknlofcpiaaSlI
import Derived.Test.YteogdknlofcpiaaSlP
import Derived.Test.YteogdknlofcpiaaSlDH
import Derived.Test.YteogdknlofcpiaaSlDI
import Derived.Test.YteogdknlofcpiaaSlDJ
import Derived.Test.YteogdknlofcpiaaSlDC
import Derived.Test.YteogdknlofcpiaaProg
namespace Sl
open _root_.Go _root_.Go.RowKit _root_.Go.Proofs
set_option linter.all false
theorem un_174 : Try.prog.underlying 174 = some (.slice 2) := by kernel_rfl
theorem el_174 : elemSize Try.prog 174 = some (2, 1) := by kernel_rfl
theorem ag_2 : isAggB Try.prog 2 = false ∧ (Try.prog.underlying 2).isSome = true := ⟨by kernel_rfl, by kernel_rfl⟩
theorem fi_32_0 : fieldOff Try.prog 32 0 = some (0, 3) := by kernel_rfl
theorem ag_3 : isAggB Try.prog 3 = false ∧ (Try.prog.underlying 3).isSome = true := ⟨by kernel_rfl, by kernel_rfl⟩
theorem fi_32_1 : fieldOff Try.prog 32 1 = some (1, 3) := by kernel_rfl
theorem fi_32_2 : fieldOff Try.prog 32 2 = some (2, 2) := by kernel_rfl
theorem ze_2 : zeroOf Try.prog 2 = some #[.int .i64 0] := by kernel_rfl
theorem pl_68 : plainFn Try.prog 68 = true := by kernel_rfl
theorem fi_32_3 : fieldOff Try.prog 32 3 = some (3, 3) := by kernel_rfl
theorem fi_32_5 : fieldOff Try.prog 32 5 = some (5, 2) := by kernel_rfl
theorem fi_32_4 : fieldOff Try.prog 32 4 = some (4, 30) := by kernel_rfl
theorem fi_30_0 : fieldOff Try.prog 30 0 = some (0, 28) := by kernel_rfl
theorem ag_28 : isAggB Try.prog 28 = false ∧ (Try.prog.underlying 28).isSome = true := ⟨by kernel_rfl, by kernel_rfl⟩
theorem un_28 : Try.prog.underlying 28 = some (.slice 170) := by kernel_rfl
theorem ze_30 : zeroOf Try.prog 30 = some #[.slice none 0 0] := by kernel_rfl
theorem sz_30 : (Try.prog.info? 30).map (·.size) = some 1 := by kernel_rfl
theorem ag_30 : isAggB Try.prog 30 = true ∧ (Try.prog.info? 30).map (·.size) = some 1 := ⟨by kernel_rfl, by kernel_rfl⟩
theorem ze_32 : zeroOf Try.prog 32 = some #[.int .i64 0, .int .i64 0, .int .i64 0, .int .i64 0, .slice none 0 0, .int .i64 0] := by kernel_rfl
theorem pl_105 : plainFn Try.prog 105 = true := by kernel_rfl
theorem ag_32 : isAggB Try.prog 32 = true ∧ (Try.prog.info? 32).map (·.size) = some 6 := ⟨by kernel_rfl, by kernel_rfl⟩
theorem sz_32 : (Try.prog.info? 32).map (·.size) = some 6 := by kernel_rfl
theorem un_24 : Try.prog.underlying 24 = some (.pointer 80) := by kernel_rfl
theorem fi_80_0 : fieldOff Try.prog 80 0 = some (0, 4) := by kernel_rfl
theorem ag_4 : isAggB Try.prog 4 = false ∧ (Try.prog.underlying 4).isSome = true := ⟨by kernel_rfl, by kernel_rfl⟩
theorem pl_62 : plainFn Try.prog 62 = true := by kernel_rfl
theorem fi_80_1 : fieldOff Try.prog 80 1 = some (1, 2) := by kernel_rfl
theorem pl_63 : plainFn Try.prog 63 = true := by kernel_rfl
theorem mixed : Try.prog.follows .mixedOrders = true := by kernel_rfl
theorem fi_80_2 : fieldOff Try.prog 80 2 = some (2, 22) := by kernel_rfl
theorem ag_22 : isAggB Try.prog 22 = false ∧ (Try.prog.underlying 22).isSome = true := ⟨by kernel_rfl, by kernel_rfl⟩
theorem un_22 : Try.prog.underlying 22 = some (.slice 32) := by kernel_rfl
theorem pl_64 : plainFn Try.prog 64 = true := by kernel_rfl
theorem el_22 : elemSize Try.prog 22 = some (32, 6) := by kernel_rfl
theorem in_32 : (Try.prog.info? 32).map (fun i => (i.zero, i.size, i.bytes)) = some (some (.agg #[.int .i64 0, .int .i64 0, .int .i64 0, .int .i64 0, .slice none 0 0, .int .i64 0]), 6, 64) := by kernel_rfl
theorem ap_22 : appInfo Try.prog 22 32 6 64 6 := appInfo_mk un_22 in_32 rfl
theorem sz_22 : (Try.prog.info? 22).map (·.size) = some 1 := by kernel_rfl
theorem sz_2 : (Try.prog.info? 2).map (·.size) = some 1 := by kernel_rfl
theorem pl_65 : plainFn Try.prog 65 = true := by kernel_rfl
theorem pl_9 : plainFn Try.prog 9 = true := by kernel_rfl
theorem pl_59 : plainFn Try.prog 59 = true := by kernel_rfl
theorem pl_14 : plainFn Try.prog 14 = true := by kernel_rfl
theorem pl_16 : plainFn Try.prog 16 = true := by kernel_rfl
theorem sz_3 : (Try.prog.info? 3).map (·.size) = some 1 := by kernel_rfl
theorem sz_4 : (Try.prog.info? 4).map (·.size) = some 1 := by kernel_rfl
theorem un_44 : Try.prog.underlying 44 = some (.pointer 98) := by kernel_rfl
theorem fi_98_0 : fieldOff Try.prog 98 0 = some (0, 4) := by kernel_rfl
theorem pl_71 : plainFn Try.prog 71 = true := by kernel_rfl
theorem pl_10 : plainFn Try.prog 10 = true := by kernel_rfl
theorem un_23 : Try.prog.underlying 23 = some (.slice 5) := by kernel_rfl
theorem un_60 : Try.prog.underlying 60 = some (.slice 51) := by kernel_rfl
theorem ag_51 : isAggB Try.prog 51 = true ∧ (Try.prog.info? 51).map (·.size) = some 4 := ⟨by kernel_rfl, by kernel_rfl⟩
theorem pl_22 : plainFn Try.prog 22 = true := by kernel_rfl
theorem pl_25 : plainFn Try.prog 25 = true := by kernel_rfl
theorem el_23 : elemSize Try.prog 23 = some (5, 1) := by kernel_rfl
theorem in_5 : (Try.prog.info? 5).map (fun i => (i.zero, i.size, i.bytes)) = some (some (.int .u8 0), 1, 1) := by kernel_rfl
theorem ap_23 : appInfo Try.prog 23 5 1 1 1 := appInfo_mk un_23 in_5 rfl
theorem pl_73 : plainFn Try.prog 73 = true := by kernel_rfl
theorem el_60 : elemSize Try.prog 60 = some (51, 4) := by kernel_rfl
theorem ze_51 : zeroOf Try.prog 51 = some #[.int .i64 0, .int .i64 0, .int .i64 0, .slice none 0 0] := by kernel_rfl
theorem in_51 : (Try.prog.info? 51).map (fun i => (i.zero, i.size, i.bytes)) = some (some (.agg #[.int .i64 0, .int .i64 0, .int .i64 0, .slice none 0 0]), 4, 48) := by kernel_rfl
theorem ap_60 : appInfo Try.prog 60 51 4 48 4 := appInfo_mk un_60 in_51 rfl
theorem fi_51_0 : fieldOff Try.prog 51 0 = some (0, 3) := by kernel_rfl
theorem fi_51_1 : fieldOff Try.prog 51 1 = some (1, 3) := by kernel_rfl
theorem fi_51_2 : fieldOff Try.prog 51 2 = some (2, 3) := by kernel_rfl
theorem fi_51_3 : fieldOff Try.prog 51 3 = some (3, 23) := by kernel_rfl
theorem ag_23 : isAggB Try.prog 23 = false ∧ (Try.prog.underlying 23).isSome = true := ⟨by kernel_rfl, by kernel_rfl⟩
theorem un_5 : Try.prog.underlying 5 = some (.int .u8) := by kernel_rfl
theorem un_9 : Try.prog.underlying 9 = some (.string) := by kernel_rfl
theorem sz_51 : (Try.prog.info? 51).map (·.size) = some 4 := by kernel_rfl
theorem fi_177_2 : fieldOff Try.prog 177 2 = some (2, 3) := by kernel_rfl
theorem fi_177_1 : fieldOff Try.prog 177 1 = some (1, 23) := by kernel_rfl
theorem ze_5 : zeroOf Try.prog 5 = some #[.int .u8 0] := by kernel_rfl
theorem sz_23 : (Try.prog.info? 23).map (·.size) = some 1 := by kernel_rfl
theorem ag_5 : isAggB Try.prog 5 = false ∧ (Try.prog.underlying 5).isSome = true := ⟨by kernel_rfl, by kernel_rfl⟩
theorem sz_5 : (Try.prog.info? 5).map (·.size) = some 1 := by kernel_rfl
theorem us_137 : (Try.prog.underlying 137).isSome = true := by kernel_rfl
theorem ik_5 : intKind Try.prog 5 = some .u8 := by kernel_rfl
theorem st_9 : isStr Try.prog 9 = true := by kernel_rfl
theorem us_5 : (Try.prog.underlying 5).isSome = true := by kernel_rfl
theorem ik_3 : intKind Try.prog 3 = some .i64 := by kernel_rfl
theorem pl_138 : plainFn Try.prog 138 = true := by kernel_rfl
theorem un_134 : Try.prog.underlying 134 = some (.pointer 177) := by kernel_rfl
theorem fi_177_0 : fieldOff Try.prog 177 0 = some (0, 4) := by kernel_rfl
theorem pl_139 : plainFn Try.prog 139 = true := by kernel_rfl
theorem pl_110 : plainFn Try.prog 110 = true := by kernel_rfl
theorem pl_112 : plainFn Try.prog 112 = true := by kernel_rfl
theorem pl_109 : plainFn Try.prog 109 = true := by kernel_rfl
theorem pl_111 : plainFn Try.prog 111 = true := by kernel_rfl
theorem ik_137 : intKind Try.prog 137 = some .u64 := by kernel_rfl
theorem pl_79 : plainFn Try.prog 79 = true := by kernel_rfl
theorem us_3 : (Try.prog.underlying 3).isSome = true := by kernel_rfl
theorem us_9 : (Try.prog.underlying 9).isSome = true := by kernel_rfl
theorem pl_113 : plainFn Try.prog 113 = true := by kernel_rfl
theorem un_3 : Try.prog.underlying 3 = some (.int .i64) := by kernel_rfl
theorem un_144 : Try.prog.underlying 144 = some (.pointer 184) := by kernel_rfl
theorem fi_184_1 : fieldOff Try.prog 184 1 = some (1, 23) := by kernel_rfl
theorem fi_184_2 : fieldOff Try.prog 184 2 = some (2, 3) := by kernel_rfl
theorem fi_184_0 : fieldOff Try.prog 184 0 = some (0, 4) := by kernel_rfl
theorem pl_117 : plainFn Try.prog 117 = true := by kernel_rfl
theorem pl_140 : plainFn Try.prog 140 = true := by kernel_rfl
theorem pl_119 : plainFn Try.prog 119 = true := by kernel_rfl
theorem pl_118 : plainFn Try.prog 118 = true := by kernel_rfl
theorem pl_116 : plainFn Try.prog 116 = true := by kernel_rfl
theorem pl_72 : plainFn Try.prog 72 = true := by kernel_rfl
theorem pl_78 : plainFn Try.prog 78 = true := by kernel_rfl
theorem pl_80 : plainFn Try.prog 80 = true := by kernel_rfl
theorem pl_81 : plainFn Try.prog 81 = true := by kernel_rfl
theorem fi_147_1 : fieldOff Try.prog 147 1 = some (1, 33) := by kernel_rfl
theorem ag_33 : isAggB Try.prog 33 = false ∧ (Try.prog.underlying 33).isSome = true := ⟨by kernel_rfl, by kernel_rfl⟩
theorem fi_147_0 : fieldOff Try.prog 147 0 = some (0, 144) := by kernel_rfl
theorem ag_144 : isAggB Try.prog 144 = false ∧ (Try.prog.underlying 144).isSome = true := ⟨by kernel_rfl, by kernel_rfl⟩
theorem sz_33 : (Try.prog.info? 33).map (·.size) = some 1 := by kernel_rfl
theorem pl_120 : plainFn Try.prog 120 = true := by kernel_rfl
theorem ik_2 : intKind Try.prog 2 = some .i64 := by kernel_rfl
theorem pl_85 : plainFn Try.prog 85 = true := by kernel_rfl
theorem pl_86 : plainFn Try.prog 86 = true := by kernel_rfl
theorem pl_87 : plainFn Try.prog 87 = true := by kernel_rfl
theorem pl_88 : plainFn Try.prog 88 = true := by kernel_rfl
theorem pl_90 : plainFn Try.prog 90 = true := by kernel_rfl
theorem pl_89 : plainFn Try.prog 89 = true := by kernel_rfl
theorem fi_98_1 : fieldOff Try.prog 98 1 = some (1, 4) := by kernel_rfl
theorem fi_98_3 : fieldOff Try.prog 98 3 = some (3, 3) := by kernel_rfl
theorem fi_98_4 : fieldOff Try.prog 98 4 = some (4, 96) := by kernel_rfl
theorem ag_96 : isAggB Try.prog 96 = false ∧ (Try.prog.underlying 96).isSome = true := ⟨by kernel_rfl, by kernel_rfl⟩
theorem un_96 : Try.prog.underlying 96 = some (.map 3 23) := by kernel_rfl
theorem fi_98_2 : fieldOff Try.prog 98 2 = some (2, 3) := by kernel_rfl
theorem zv_23 : ∀ w : World, (zeroValue 23).run Try.prog w = .ok (.slice none 0 0) w := fun w => by kernel_rfl
theorem pl_74 : plainFn Try.prog 74 = true := by kernel_rfl
theorem fi_98_5 : fieldOff Try.prog 98 5 = some (5, 22) := by kernel_rfl
theorem pl_18 : plainFn Try.prog 18 = true := by kernel_rfl
theorem pl_33 : plainFn Try.prog 33 = true := by kernel_rfl
theorem pl_29 : plainFn Try.prog 29 = true := by kernel_rfl
theorem pl_31 : plainFn Try.prog 31 = true := by kernel_rfl
theorem un_4 : Try.prog.underlying 4 = some (.bool) := by kernel_rfl
theorem pl_27 : plainFn Try.prog 27 = true := by kernel_rfl
set_option maxHeartbeats 4000000 in
set_option maxRecDepth 100000 in
theorem time3 {W w : World} {F : List Atom} (g : Nat) (x y z : Int) (h1 : 0 ≤ x ∧ x ≤ 1099511627776) (h2 : 0 ≤ y ∧ y ≤ 1099511627776) (h3 : 0 ≤ z ∧ z ≤ 1099511627776) (H : St W w (blk g (.cells #[.int .i64 x, .int .i64 y, .int .i64 z] 2 (0, 0)) :: F)) : Calls Try.prog 68 #[.slice (some ⟨g, 0, none⟩) 3 3] w (Ret fun v w' => v = .bool true ∧ St W w' (blk g (.cells #[.int .i64 x, .int .i64 y, .int .i64 z] 2 (0, 0)) :: F)) := by
  have H0 := H
  refine calls_of_go (n := 18) Try.func68 rfl Try.ntmps68 rfl ?_
  refine g_seq ?_
  refine g_region ?_
  refine r_cons (s_assign (.bool false) rfl rfl ?_)
  refine r_nil ?_
  refine g_seq ?_
  refine g_seq ?_
  refine g_region ?_
  refine r_cons (s_move (.slice (some ⟨g, 0, none⟩) 3 3) rfl rfl ?_)
  refine r_cons (s_len 3 rfl ⟨_, un_174⟩ rfl ?_)
  refine r_cons (s_move (.int .i64 0) rfl rfl ?_)
  refine r_nil ?_
  refine g_block ?_
  refine g_loop ?_
  refine g_seq ?_
  refine g_region ?_
  refine r_cons (s_lss true rfl rfl (dtrue (by decide)) rfl ?_)
  refine r_nil ?_
  refine g_seq ?_
  refine g_true rfl ?_
  refine g_skip ?_
  refine g_seq ?_
  refine g_block ?_
  refine g_seq ?_
  refine g_region ?_
  refine r_cons (s_indexAddr g 0 1 0 rfl rfl el_174 (by omega) rfl rfl ?_)
  refine r_cons (s_load (.int .i64 x) ag_2 rfl (H0.blk_at (i := 0) rfl) rfl rfl ?_)
  refine r_cons (s_assign (.int .i64 x) rfl rfl ?_)
  refine r_nil ?_
  refine g_seq ?_
  refine g_region ?_
  refine r_cons (s_move (.int .i64 x) rfl rfl ?_)
  refine r_cons (s_lss false rfl rfl (dfalse (by omega)) rfl ?_)
  refine r_cons (s_move (.bool false) rfl rfl ?_)
  refine r_cons (r_take rfl rfl ?_)
  refine s_move (.int .i64 x) rfl rfl ?_
  refine r_cons (r_take rfl rfl ?_)
  refine s_gtr false rfl rfl (dfalse (by omega)) rfl ?_
  refine r_cons (s_pick_f (.bool false) rfl rfl rfl ?_)
  refine r_nil ?_
  refine g_false rfl ?_
  refine g_skip ?_
  refine g_inBlock ?_
  refine g_region ?_
  refine r_cons (s_add 1 rfl rfl (wi64 (by omega)) rfl ?_)
  refine r_cons (s_move (.int .i64 1) rfl rfl ?_)
  refine r_nil ?_
  refine g_inLoop ?_
  refine g_seq ?_
  refine g_region ?_
  refine r_cons (s_lss true rfl rfl (dtrue (by decide)) rfl ?_)
  refine r_nil ?_
  refine g_seq ?_
  refine g_true rfl ?_
  refine g_skip ?_
  refine g_seq ?_
  refine g_block ?_
  refine g_seq ?_
  refine g_region ?_
  refine r_cons (s_indexAddr g 1 1 1 rfl rfl el_174 (by omega) rfl rfl ?_)
  refine r_cons (s_load (.int .i64 y) ag_2 rfl (H0.blk_at (i := 0) rfl) rfl rfl ?_)
  refine r_cons (s_assign (.int .i64 y) rfl rfl ?_)
  refine r_nil ?_
  refine g_seq ?_
  refine g_region ?_
  refine r_cons (s_move (.int .i64 y) rfl rfl ?_)
  refine r_cons (s_lss false rfl rfl (dfalse (by omega)) rfl ?_)
  refine r_cons (s_move (.bool false) rfl rfl ?_)
  refine r_cons (r_take rfl rfl ?_)
  refine s_move (.int .i64 y) rfl rfl ?_
  refine r_cons (r_take rfl rfl ?_)
  refine s_gtr false rfl rfl (dfalse (by omega)) rfl ?_
  refine r_cons (s_pick_f (.bool false) rfl rfl rfl ?_)
  refine r_nil ?_
  refine g_false rfl ?_
  refine g_skip ?_
  refine g_inBlock ?_
  refine g_region ?_
  refine r_cons (s_add 2 rfl rfl (wi64 (by omega)) rfl ?_)
  refine r_cons (s_move (.int .i64 2) rfl rfl ?_)
  refine r_nil ?_
  refine g_inLoop ?_
  refine g_seq ?_
  refine g_region ?_
  refine r_cons (s_lss true rfl rfl (dtrue (by decide)) rfl ?_)
  refine r_nil ?_
  refine g_seq ?_
  refine g_true rfl ?_
  refine g_skip ?_
  refine g_seq ?_
  refine g_block ?_
  refine g_seq ?_
  refine g_region ?_
  refine r_cons (s_indexAddr g 2 1 2 rfl rfl el_174 (by omega) rfl rfl ?_)
  refine r_cons (s_load (.int .i64 z) ag_2 rfl (H0.blk_at (i := 0) rfl) rfl rfl ?_)
  refine r_cons (s_assign (.int .i64 z) rfl rfl ?_)
  refine r_nil ?_
  refine g_seq ?_
  refine g_region ?_
  refine r_cons (s_move (.int .i64 z) rfl rfl ?_)
  refine r_cons (s_lss false rfl rfl (dfalse (by omega)) rfl ?_)
  refine r_cons (s_move (.bool false) rfl rfl ?_)
  refine r_cons (r_take rfl rfl ?_)
  refine s_move (.int .i64 z) rfl rfl ?_
  refine r_cons (r_take rfl rfl ?_)
  refine s_gtr false rfl rfl (dfalse (by omega)) rfl ?_
  refine r_cons (s_pick_f (.bool false) rfl rfl rfl ?_)
  refine r_nil ?_
  refine g_false rfl ?_
  refine g_skip ?_
  refine g_inBlock ?_
  refine g_region ?_
  refine r_cons (s_add 3 rfl rfl (wi64 (by omega)) rfl ?_)
  refine r_cons (s_move (.int .i64 3) rfl rfl ?_)
  refine r_nil ?_
  refine g_inLoop ?_
  refine g_seq ?_
  refine g_region ?_
  refine r_cons (s_lss false rfl rfl (dfalse (by decide)) rfl ?_)
  refine r_nil ?_
  refine g_seq ?_
  refine g_false rfl ?_
  refine g_exit (by rfl) ?_
  refine g_seq ?_
  refine g_region ?_
  refine r_cons (s_assign (.bool true) rfl rfl ?_)
  refine r_nil ?_
  refine g_ret' [.bool true] Try.func68 Try.results68 ⟨rfl, trivial⟩ ?_
  have H1 : St W w (blk g (.cells #[.int .i64 x, .int .i64 y, .int .i64 z] 2 (0, 0)) :: F) := H0
  exact ⟨rfl, H1⟩
set_option maxHeartbeats 4000000 in
set_option maxRecDepth 100000 in
theorem CheckItem_mark {W w : World} {F : List Atom} (o n e t : Int) (ho : 0 ≤ o ∧ o ≤ 1099511627776) (hn : 0 ≤ n ∧ n ≤ 1099511627776) (he : 0 ≤ e ∧ e ≤ 1099511627776) (ht : 0 ≤ t ∧ t ≤ 1099511627777) (H : St W w F) : Calls Try.prog 63 #[.agg #[.int .i64 o, .int .i64 n, .int .i64 e, .int .i64 2, .slice none 0 0, .int .i64 t]] w (Ret fun v w' => v = .int .i64 0 ∧ St W w' F) := by
  refine calls_of_go (n := 55) Try.func63 rfl Try.ntmps63 rfl ?_
  refine g_seq ?_
  refine g_region ?_
  refine r_cons (s_box H 32 (.agg #[.int .i64 o, .int .i64 n, .int .i64 e, .int .i64 2, .slice none 0 0, .int .i64 t]) rfl (cs := #[.int .i64 o, .int .i64 n, .int .i64 e, .int .i64 2, .slice none 0 0, .int .i64 t]) rfl rfl ?_); intro bk1 w2 H3
  refine r_cons (s_assign (.int .i64 0) rfl rfl ?_)
  refine r_nil ?_
  refine g_seq ?_
  refine g_region ?_
  refine r_cons (s_fieldAddr 32 0 0 0 3 rfl fi_32_0 rfl rfl ?_)
  refine r_cons (s_load (.int .i64 o) ag_3 rfl (H3.blk_at (i := 0) rfl) rfl rfl ?_)
  refine r_cons (s_fieldAddr 32 1 1 1 3 rfl fi_32_1 rfl rfl ?_)
  refine r_cons (s_load (.int .i64 n) ag_3 rfl (H3.blk_at (i := 0) rfl) rfl rfl ?_)
  refine r_cons (s_fieldAddr 32 2 2 2 2 rfl fi_32_2 rfl rfl ?_)
  refine r_cons (s_load (.int .i64 e) ag_2 rfl (H3.blk_at (i := 0) rfl) rfl rfl ?_)
  refine r_cons (s_buildSlice H3 1 3 (cs := #[.int .i64 o, .int .i64 n, .int .i64 e]) #[.int .i64 0] el_174 ze_2 (by decide) (by decide) (by kernel_rfl) rfl ?_); intro bk4 w5 H6
  refine r_cons (s_call [.slice (some ⟨bk4, 0, none⟩) 3 3] pl_68 rfl rfl (time3 bk4 o n e (by omega) (by omega) (by omega) H6) ?_)
  rintro _ w7 ⟨rfl, H8⟩
  refine r_cons (s_assign (.bool true) rfl rfl ?_)
  refine r_nil ?_
  refine g_seq ?_
  refine g_seq ?_
  refine g_region ?_
  refine r_cons (s_fieldAddr 32 3 3 3 3 rfl fi_32_3 rfl rfl ?_)
  refine r_cons (s_load (.int .i64 2) ag_3 rfl (H8.blk_at (i := 1) rfl) rfl rfl ?_)
  refine r_nil ?_
  refine g_block ?_
  refine g_seq ?_
  refine g_region ?_
  refine r_cons (s_eql false rfl rfl (dfalse (by decide)) rfl ?_)
  refine r_cons (s_assign (.bool false) rfl rfl ?_)
  refine r_nil ?_
  refine g_false rfl ?_
  refine g_seq ?_
  refine g_region ?_
  refine r_cons (s_eql true rfl rfl (dtrue (by decide)) rfl ?_)
  refine r_cons (s_assign (.bool true) rfl rfl ?_)
  refine r_nil ?_
  refine g_true rfl ?_
  refine g_region ?_
  refine r_cons (s_move (.bool true) rfl rfl ?_)
  refine r_cons (s_move (.bool true) rfl rfl ?_)
  refine r_cons (r_take rfl rfl ?_)
  refine s_fieldAddr 32 5 5 5 2 rfl fi_32_5 rfl rfl ?_
  refine r_cons (r_take rfl rfl ?_)
  refine s_load (.int .i64 t) ag_2 rfl (H8.blk_at (i := 1) rfl) rfl rfl ?_
  refine r_cons (r_take rfl rfl ?_)
  refine s_geq true rfl rfl (dtrue (by omega)) rfl ?_
  refine r_cons (s_pick_t (.bool true) rfl rfl rfl ?_)
  refine r_cons (s_move (.bool true) rfl rfl ?_)
  refine r_cons (r_take rfl rfl ?_)
  refine s_fieldAddr 32 5 5 5 2 rfl fi_32_5 rfl rfl ?_
  refine r_cons (r_take rfl rfl ?_)
  refine s_load (.int .i64 t) ag_2 rfl (H8.blk_at (i := 1) rfl) rfl rfl ?_
  refine r_cons (r_take rfl rfl ?_)
  refine s_leq true rfl rfl (dtrue (by omega)) rfl ?_
  refine r_cons (s_pick_t (.bool true) rfl rfl rfl ?_)
  refine r_cons (s_assign (.bool true) rfl rfl ?_)
  refine r_nil ?_
  refine g_inBlock ?_
  refine g_seq ?_
  refine g_seq ?_
  refine g_region ?_
  refine r_cons (s_move (.bool true) rfl rfl ?_)
  refine r_cons (s_not true rfl false rfl rfl ?_)
  refine r_cons (s_move (.bool false) rfl rfl ?_)
  refine r_cons (r_take rfl rfl ?_)
  refine s_fieldAddr 32 4 4 4 30 rfl fi_32_4 rfl rfl ?_
  refine r_cons (r_take rfl rfl ?_)
  refine s_fieldAddr 30 0 0 4 28 rfl fi_30_0 rfl rfl ?_
  refine r_cons (r_take rfl rfl ?_)
  refine s_load (.slice none 0 0) ag_28 rfl (H8.blk_at (i := 1) rfl) rfl rfl ?_
  refine r_cons (r_take rfl rfl ?_)
  refine s_len 0 rfl ⟨_, un_28⟩ rfl ?_
  refine r_cons (r_take rfl rfl ?_)
  refine s_gtr false rfl rfl (dfalse (by decide)) rfl ?_
  refine r_cons (s_pick_f (.bool false) rfl rfl rfl ?_)
  refine r_nil ?_
  refine g_false rfl ?_
  refine g_skip ?_
  refine g_seq ?_
  refine g_region ?_
  refine r_cons (s_assign (.int .i64 0) rfl rfl ?_)
  refine r_nil ?_
  refine g_ret' [.int .i64 0] Try.func63 Try.results63 ⟨rfl, trivial⟩ ?_
  have H9 : St W w7 F := ((H8.drop 0 rfl).drop 0 rfl)
  exact ⟨rfl, H9⟩
set_option maxHeartbeats 4000000 in
set_option maxRecDepth 100000 in
theorem CheckItem_end {W w : World} {F : List Atom} (o n e : Int) (ho : 0 ≤ o ∧ o ≤ 1099511627776) (hn : 0 ≤ n ∧ n ≤ 1099511627776) (he : 0 ≤ e ∧ e ≤ 1099511627776) (H : St W w F) : Calls Try.prog 63 #[.agg #[.int .i64 o, .int .i64 n, .int .i64 e, .int .i64 3, .slice none 0 0, .int .i64 0]] w (Ret fun v w' => v = .int .i64 0 ∧ St W w' F) := by
  refine calls_of_go (n := 55) Try.func63 rfl Try.ntmps63 rfl ?_
  refine g_seq ?_
  refine g_region ?_
  refine r_cons (s_box H 32 (.agg #[.int .i64 o, .int .i64 n, .int .i64 e, .int .i64 3, .slice none 0 0, .int .i64 0]) rfl (cs := #[.int .i64 o, .int .i64 n, .int .i64 e, .int .i64 3, .slice none 0 0, .int .i64 0]) rfl rfl ?_); intro bk1 w2 H3
  refine r_cons (s_assign (.int .i64 0) rfl rfl ?_)
  refine r_nil ?_
  refine g_seq ?_
  refine g_region ?_
  refine r_cons (s_fieldAddr 32 0 0 0 3 rfl fi_32_0 rfl rfl ?_)
  refine r_cons (s_load (.int .i64 o) ag_3 rfl (H3.blk_at (i := 0) rfl) rfl rfl ?_)
  refine r_cons (s_fieldAddr 32 1 1 1 3 rfl fi_32_1 rfl rfl ?_)
  refine r_cons (s_load (.int .i64 n) ag_3 rfl (H3.blk_at (i := 0) rfl) rfl rfl ?_)
  refine r_cons (s_fieldAddr 32 2 2 2 2 rfl fi_32_2 rfl rfl ?_)
  refine r_cons (s_load (.int .i64 e) ag_2 rfl (H3.blk_at (i := 0) rfl) rfl rfl ?_)
  refine r_cons (s_buildSlice H3 1 3 (cs := #[.int .i64 o, .int .i64 n, .int .i64 e]) #[.int .i64 0] el_174 ze_2 (by decide) (by decide) (by kernel_rfl) rfl ?_); intro bk4 w5 H6
  refine r_cons (s_call [.slice (some ⟨bk4, 0, none⟩) 3 3] pl_68 rfl rfl (time3 bk4 o n e (by omega) (by omega) (by omega) H6) ?_)
  rintro _ w7 ⟨rfl, H8⟩
  refine r_cons (s_assign (.bool true) rfl rfl ?_)
  refine r_nil ?_
  refine g_seq ?_
  refine g_seq ?_
  refine g_region ?_
  refine r_cons (s_fieldAddr 32 3 3 3 3 rfl fi_32_3 rfl rfl ?_)
  refine r_cons (s_load (.int .i64 3) ag_3 rfl (H8.blk_at (i := 1) rfl) rfl rfl ?_)
  refine r_nil ?_
  refine g_block ?_
  refine g_seq ?_
  refine g_region ?_
  refine r_cons (s_eql false rfl rfl (dfalse (by decide)) rfl ?_)
  refine r_cons (s_assign (.bool false) rfl rfl ?_)
  refine r_nil ?_
  refine g_false rfl ?_
  refine g_seq ?_
  refine g_region ?_
  refine r_cons (s_eql false rfl rfl (dfalse (by decide)) rfl ?_)
  refine r_cons (s_assign (.bool false) rfl rfl ?_)
  refine r_nil ?_
  refine g_false rfl ?_
  refine g_seq ?_
  refine g_region ?_
  refine r_cons (s_eql true rfl rfl (dtrue (by decide)) rfl ?_)
  refine r_cons (s_assign (.bool true) rfl rfl ?_)
  refine r_nil ?_
  refine g_true rfl ?_
  refine g_region ?_
  refine r_cons (s_move (.bool true) rfl rfl ?_)
  refine r_cons (s_move (.bool true) rfl rfl ?_)
  refine r_cons (r_take rfl rfl ?_)
  refine s_fieldAddr 32 5 5 5 2 rfl fi_32_5 rfl rfl ?_
  refine r_cons (r_take rfl rfl ?_)
  refine s_load (.int .i64 0) ag_2 rfl (H8.blk_at (i := 1) rfl) rfl rfl ?_
  refine r_cons (r_take rfl rfl ?_)
  refine s_eql true rfl rfl (dtrue (by decide)) rfl ?_
  refine r_cons (s_pick_t (.bool true) rfl rfl rfl ?_)
  refine r_cons (s_assign (.bool true) rfl rfl ?_)
  refine r_nil ?_
  refine g_inBlock ?_
  refine g_seq ?_
  refine g_seq ?_
  refine g_region ?_
  refine r_cons (s_move (.bool true) rfl rfl ?_)
  refine r_cons (s_not true rfl false rfl rfl ?_)
  refine r_cons (s_move (.bool false) rfl rfl ?_)
  refine r_cons (r_take rfl rfl ?_)
  refine s_fieldAddr 32 4 4 4 30 rfl fi_32_4 rfl rfl ?_
  refine r_cons (r_take rfl rfl ?_)
  refine s_fieldAddr 30 0 0 4 28 rfl fi_30_0 rfl rfl ?_
  refine r_cons (r_take rfl rfl ?_)
  refine s_load (.slice none 0 0) ag_28 rfl (H8.blk_at (i := 1) rfl) rfl rfl ?_
  refine r_cons (r_take rfl rfl ?_)
  refine s_len 0 rfl ⟨_, un_28⟩ rfl ?_
  refine r_cons (r_take rfl rfl ?_)
  refine s_gtr false rfl rfl (dfalse (by decide)) rfl ?_
  refine r_cons (s_pick_f (.bool false) rfl rfl rfl ?_)
  refine r_nil ?_
  refine g_false rfl ?_
  refine g_skip ?_
  refine g_seq ?_
  refine g_region ?_
  refine r_cons (s_assign (.int .i64 0) rfl rfl ?_)
  refine r_nil ?_
  refine g_ret' [.int .i64 0] Try.func63 Try.results63 ⟨rfl, trivial⟩ ?_
  have H9 : St W w7 F := ((H8.drop 0 rfl).drop 0 rfl)
  exact ⟨rfl, H9⟩
set_option maxHeartbeats 4000000 in
set_option maxRecDepth 100000 in
theorem clone_nobounds {W w : World} {F : List Atom}  (H : St W w F) : Calls Try.prog 105 #[.agg #[.slice none 0 0]] w (Ret fun v w' => v = .agg #[.slice none 0 0] ∧ St W w' F) := by
  refine calls_of_go (n := 25) Try.func105 rfl Try.ntmps105 rfl ?_
  refine g_seq ?_
  refine g_region ?_
  refine r_cons (s_box H 30 (.agg #[.slice none 0 0]) rfl (cs := #[.slice none 0 0]) rfl rfl ?_); intro bk1 w2 H3
  refine r_cons (s_alloc H3 30 ze_30 rfl ?_); intro bk4 w5 H6
  refine r_nil ?_
  refine g_seq ?_
  refine g_region ?_
  refine r_cons (s_assign (.slice none 0 0) rfl rfl ?_)
  refine r_nil ?_
  refine g_seq ?_
  refine g_seq ?_
  refine g_region ?_
  refine r_cons (s_fieldAddr 30 0 0 0 28 rfl fi_30_0 rfl rfl ?_)
  refine r_cons (s_load (.slice none 0 0) ag_28 rfl (H6.blk_at (i := 1) rfl) rfl rfl ?_)
  refine r_cons (s_len 0 rfl ⟨_, un_28⟩ rfl ?_)
  refine r_cons (s_move (.int .i64 0) rfl rfl ?_)
  refine r_nil ?_
  refine g_block ?_
  refine g_loop ?_
  refine g_seq ?_
  refine g_region ?_
  refine r_cons (s_lss false rfl rfl (dfalse (by decide)) rfl ?_)
  refine r_nil ?_
  refine g_seq ?_
  refine g_false rfl ?_
  refine g_exit (by rfl) ?_
  refine g_seq ?_
  refine g_region ?_
  refine r_cons (s_move (.slice none 0 0) rfl rfl ?_)
  refine r_cons (s_build (cs := #[.slice none 0 0]) (by kernel_rfl) rfl ?_)
  refine r_cons (s_storeAgg H6 0 #[.slice none 0 0] 1 rfl rfl rfl sz_30 rfl (by simp [Value.oneCell']) (Nat.le_of_ble_eq_true rfl) (fun o h1 h2 => by first | (simp; done) | (simp; omega)) (cs' := #[.slice none 0 0]) rfl ?_); intro w7 H8
  refine r_nil ?_
  refine g_ret' [.agg #[.slice none 0 0]] Try.func105 Try.results105 ⟨(res_cellN rfl ag_30 (H8.blk_at (i := 0) rfl) (Nat.le_of_ble_eq_true rfl) rfl), trivial⟩ ?_
  have H9 : St W w7 F := ((H8.drop 0 rfl).drop 0 rfl)
  exact ⟨rfl, H9⟩
set_option maxHeartbeats 4000000 in
set_option maxRecDepth 100000 in
theorem own_plain {W w : World} {F : List Atom} (o n e k t : Int) (H : St W w F) : Calls Try.prog 64 #[.agg #[.int .i64 o, .int .i64 n, .int .i64 e, .int .i64 k, .slice none 0 0, .int .i64 t]] w (Ret fun v w' => v = .agg #[.int .i64 o, .int .i64 n, .int .i64 e, .int .i64 k, .slice none 0 0, .int .i64 t] ∧ St W w' F) := by
  refine calls_of_go (n := 8) Try.func64 rfl Try.ntmps64 rfl ?_
  refine g_seq ?_
  refine g_region ?_
  refine r_cons (s_box H 32 (.agg #[.int .i64 o, .int .i64 n, .int .i64 e, .int .i64 k, .slice none 0 0, .int .i64 t]) rfl (cs := #[.int .i64 o, .int .i64 n, .int .i64 e, .int .i64 k, .slice none 0 0, .int .i64 t]) rfl rfl ?_); intro bk1 w2 H3
  refine r_cons (s_alloc H3 32 ze_32 rfl ?_); intro bk4 w5 H6
  refine r_nil ?_
  refine g_seq ?_
  refine g_region ?_
  refine r_cons (s_fieldAddr 32 4 4 4 30 rfl fi_32_4 rfl rfl ?_)
  refine r_cons (s_loadAgg [.slice none 0 0] 1 ag_30 rfl (H6.blk_at (i := 1) rfl) (Nat.le_of_ble_eq_true rfl) rfl rfl ?_)
  refine r_cons (s_call [.agg #[.slice none 0 0]] pl_105 rfl rfl (clone_nobounds H6) ?_)
  rintro _ w7 ⟨rfl, H8⟩
  refine r_cons (s_fieldAddr 32 4 4 4 30 rfl fi_32_4 rfl rfl ?_)
  refine r_cons (s_storeAgg H8 1 #[.slice none 0 0] 1 rfl rfl rfl sz_30 rfl (by simp [Value.oneCell']) (Nat.le_of_ble_eq_true rfl) (fun o h1 h2 => by first | (simp; done) | (simp; omega)) (cs' := #[.int .i64 o, .int .i64 n, .int .i64 e, .int .i64 k, .slice none 0 0, .int .i64 t]) rfl ?_); intro w9 H10
  refine r_nil ?_
  refine g_seq ?_
  refine g_region ?_
  refine r_cons (s_loadAgg [.int .i64 o, .int .i64 n, .int .i64 e, .int .i64 k, .slice none 0 0, .int .i64 t] 6 ag_32 rfl (H10.blk_at (i := 1) rfl) (Nat.le_of_ble_eq_true rfl) rfl rfl ?_)
  refine r_cons (s_storeAgg H10 0 #[.int .i64 o, .int .i64 n, .int .i64 e, .int .i64 k, .slice none 0 0, .int .i64 t] 6 rfl rfl rfl sz_32 rfl (by simp [Value.oneCell']) (Nat.le_of_ble_eq_true rfl) (fun o h1 h2 => by first | (simp; done) | (simp; omega)) (cs' := #[.int .i64 o, .int .i64 n, .int .i64 e, .int .i64 k, .slice none 0 0, .int .i64 t]) rfl ?_); intro w11 H12
  refine r_nil ?_
  refine g_ret' [.agg #[.int .i64 o, .int .i64 n, .int .i64 e, .int .i64 k, .slice none 0 0, .int .i64 t]] Try.func64 Try.results64 ⟨(res_cellN rfl ag_32 (H12.blk_at (i := 0) rfl) (Nat.le_of_ble_eq_true rfl) rfl), trivial⟩ ?_
  have H13 : St W w11 F := ((H12.drop 0 rfl).drop 0 rfl)
  exact ⟨rfl, H13⟩
set_option maxHeartbeats 4000000 in
set_option maxRecDepth 100000 in
theorem NewGate_ {W w : World} {F : List Atom}  (H : St W w F) : Calls Try.prog 9 #[] w (Ret fun v w' => ∃ g, v = .pointer (some ⟨g, 0, none⟩) ∧ St W w' (blk g (.cells #[.bool true, .int .i64 0, .slice none 0 0] 80 (0, 0)) :: F)) := by
  refine calls_of_go (n := 3) Try.func9 rfl Try.ntmps9 rfl ?_
  refine g_seq ?_
  refine g_region ?_
  refine r_cons (s_assign (.pointer none) rfl rfl ?_)
  refine r_nil ?_
  refine g_seq ?_
  refine g_region ?_
  refine r_cons (s_build (cs := #[.bool true, .int .i64 0, .slice none 0 0]) (by kernel_rfl) rfl ?_)
  refine r_cons (s_box H 80 (.agg #[.bool true, .int .i64 0, .slice none 0 0]) rfl (cs := #[.bool true, .int .i64 0, .slice none 0 0]) rfl rfl ?_); intro bk1 w2 H3
  refine r_cons (s_assign (.pointer (some ⟨bk1, 0, none⟩)) rfl rfl ?_)
  refine r_nil ?_
  refine g_ret' [.pointer (some ⟨bk1, 0, none⟩)] Try.func9 Try.results9 ⟨rfl, trivial⟩ ?_
  have H4 : St W w2 (blk bk1 (.cells #[.bool true, .int .i64 0, .slice none 0 0] 80 (0, 0)) :: F) := H3
  exact ⟨bk1, rfl, H4⟩
set_option maxHeartbeats 4000000 in
set_option maxRecDepth 100000 in
theorem Gate_none {W w : World} {F : List Atom} (g : Nat) (e : Int) (sv : Value) {i : Nat} (hi : F[i]? = some (blk g (.cells #[.bool true, .int .i64 e, sv] 80 (0, 0)))) (H : St W w F) : Calls Try.prog 62 #[.pointer (some ⟨g, 0, none⟩)] w (Ret fun v w' => v = .bool false ∧ St W w' F) := by
  have H0 := H.front hi
  refine calls_of_go (n := 12) Try.func62 rfl Try.ntmps62 rfl ?_
  refine g_seq ?_
  refine g_region ?_
  refine r_cons (s_assign (.bool false) rfl rfl ?_)
  refine r_nil ?_
  refine g_seq ?_
  refine g_region ?_
  refine r_cons (s_move (.pointer (some ⟨g, 0, none⟩)) rfl rfl ?_)
  refine r_cons (s_peql false un_24 rfl rfl rfl rfl ?_)
  refine r_cons (s_move (.bool false) rfl rfl ?_)
  refine r_cons (r_take rfl rfl ?_)
  refine s_move (.pointer (some ⟨g, 0, none⟩)) rfl rfl ?_
  refine r_cons (r_take rfl rfl ?_)
  refine s_nilCheck (.pointer (some ⟨g, 0, none⟩)) rfl ⟨_, rfl⟩ rfl ?_
  refine r_cons (r_take rfl rfl ?_)
  refine s_fieldAddr 80 0 0 0 4 rfl fi_80_0 rfl rfl ?_
  refine r_cons (r_take rfl rfl ?_)
  refine s_load (.bool true) ag_4 rfl (H0.blk_at (i := 0) rfl) rfl rfl ?_
  refine r_cons (r_take rfl rfl ?_)
  refine s_not true rfl false rfl rfl ?_
  refine r_cons (s_pick_f (.bool false) rfl rfl rfl ?_)
  refine r_cons (s_assign (.bool false) rfl rfl ?_)
  refine r_nil ?_
  refine g_ret' [.bool false] Try.func62 Try.results62 ⟨rfl, trivial⟩ ?_
  have H1 : St W w (blk g (.cells #[.bool true, .int .i64 e, sv] 80 (0, 0)) :: (F.set i emp)) := H0
  exact ⟨rfl, St.back_same hi H1⟩
set_option maxHeartbeats 4000000 in
set_option maxRecDepth 100000 in
theorem Gate_Epoch {W w : World} {F : List Atom} (g : Nat) (e : Int) (sv : Value) {i : Nat} (hi : F[i]? = some (blk g (.cells #[.bool true, .int .i64 e, sv] 80 (0, 0)))) (H : St W w F) : Calls Try.prog 16 #[.pointer (some ⟨g, 0, none⟩)] w (Ret fun v w' => v = .int .i64 e ∧ St W w' F) := by
  have H0 := H.front hi
  refine calls_of_go (n := 9) Try.func16 rfl Try.ntmps16 rfl ?_
  refine g_seq ?_
  refine g_region ?_
  refine r_cons (s_assign (.int .i64 0) rfl rfl ?_)
  refine r_nil ?_
  refine g_seq ?_
  refine g_seq ?_
  refine g_region ?_
  refine r_cons (s_move (.pointer (some ⟨g, 0, none⟩)) rfl rfl ?_)
  refine r_cons (s_call [.pointer (some ⟨g, 0, none⟩)] pl_62 rfl rfl (Gate_none g (e : Int) sv (i := 0) rfl H0) ?_)
  rintro _ w1 ⟨rfl, H2⟩
  refine r_nil ?_
  refine g_false rfl ?_
  refine g_skip ?_
  refine g_seq ?_
  refine g_region ?_
  refine r_cons (s_move (.pointer (some ⟨g, 0, none⟩)) rfl rfl ?_)
  refine r_cons (s_nilCheck (.pointer (some ⟨g, 0, none⟩)) rfl ⟨_, rfl⟩ rfl ?_)
  refine r_cons (s_fieldAddr 80 1 1 1 2 rfl fi_80_1 rfl rfl ?_)
  refine r_cons (s_load (.int .i64 e) ag_2 rfl (H2.blk_at (i := 0) rfl) rfl rfl ?_)
  refine r_cons (s_assign (.int .i64 e) rfl rfl ?_)
  refine r_nil ?_
  refine g_ret' [.int .i64 e] Try.func16 Try.results16 ⟨rfl, trivial⟩ ?_
  have H3 : St W w1 (blk g (.cells #[.bool true, .int .i64 e, sv] 80 (0, 0)) :: (F.set i emp)) := H2
  exact ⟨rfl, St.back_same hi H3⟩
set_option maxHeartbeats 4000000 in
set_option maxRecDepth 100000 in
theorem Take_old {W w : World} {F : List Atom} (g : Nat) (a : Int) (sv : Value) (o n e t : Int) (ho : 0 ≤ o ∧ o ≤ 1099511627776) (hn : 0 ≤ n ∧ n ≤ 1099511627776) (he : 0 ≤ e ∧ e ≤ 1099511627776) (ht : 0 ≤ t ∧ t ≤ 1099511627777) (hlt : e < a) (H : St W w (blk g (.cells #[.bool true, .int .i64 a, sv] 80 (0, 0)) :: F)) : Calls Try.prog 14 #[.pointer (some ⟨g, 0, none⟩), .agg #[.int .i64 o, .int .i64 n, .int .i64 e, .int .i64 2, .slice none 0 0, .int .i64 t]] w (Ret fun v w' => v = .tuple #[.slice none 0 0, .int .i64 240] ∧ St W w' (blk g (.cells #[.bool true, .int .i64 a, sv] 80 (0, 0)) :: F)) := by
  refine calls_of_go (n := 74) Try.func14 rfl Try.ntmps14 rfl ?_
  refine g_seq ?_
  refine g_region ?_
  refine r_cons (s_box H 32 (.agg #[.int .i64 o, .int .i64 n, .int .i64 e, .int .i64 2, .slice none 0 0, .int .i64 t]) rfl (cs := #[.int .i64 o, .int .i64 n, .int .i64 e, .int .i64 2, .slice none 0 0, .int .i64 t]) rfl rfl ?_); intro bk1 w2 H3
  refine r_cons (s_assign (.slice none 0 0) rfl rfl ?_)
  refine r_cons (s_assign (.int .i64 0) rfl rfl ?_)
  refine r_nil ?_
  refine g_seq ?_
  refine g_seq ?_
  refine g_region ?_
  refine r_cons (s_move (.pointer (some ⟨g, 0, none⟩)) rfl rfl ?_)
  refine r_cons (s_call [.pointer (some ⟨g, 0, none⟩)] pl_62 rfl rfl (Gate_none g (a : Int) sv (i := 1) rfl H3) ?_)
  rintro _ w4 ⟨rfl, H5⟩
  refine r_nil ?_
  refine g_false rfl ?_
  refine g_skip ?_
  refine g_seq ?_
  refine g_seq ?_
  refine g_region ?_
  refine r_cons (s_loadAgg [.int .i64 o, .int .i64 n, .int .i64 e, .int .i64 2, .slice none 0 0, .int .i64 t] 6 ag_32 rfl (H5.blk_at (i := 0) rfl) (Nat.le_of_ble_eq_true rfl) rfl rfl ?_)
  refine r_cons (s_call [.agg #[.int .i64 o, .int .i64 n, .int .i64 e, .int .i64 2, .slice none 0 0, .int .i64 t]] pl_63 rfl rfl (CheckItem_mark (o : Int) (n : Int) (e : Int) (t : Int) (by omega) (by omega) (by omega) (by omega) H5) ?_)
  rintro _ w6 ⟨rfl, H7⟩
  refine r_cons (s_assign (.int .i64 0) rfl rfl ?_)
  refine r_nil ?_
  refine g_seq ?_
  refine g_region ?_
  refine r_cons (s_move (.int .i64 0) rfl rfl ?_)
  refine r_cons (s_neq false rfl rfl (ntrue (by decide)) rfl ?_)
  refine r_nil ?_
  refine g_false rfl ?_
  refine g_skip ?_
  refine g_seq ?_
  refine g_block ?_
  refine g_seq ?_
  refine g_quiet (fun w' => St W w' (blk bk1 (.cells #[.int .i64 o, .int .i64 n, .int .i64 e, .int .i64 2, .slice none 0 0, .int .i64 t] 32 (0, 0)) :: blk g (.cells #[.bool true, .int .i64 a, sv] 80 (0, 0)) :: F)) mixed (by kernel_rfl) H7.drew ?_
  refine q_cons (q_val rfl rfl rfl (by intro w hw; exact x_fieldAddr 32 2 2 2 2 rfl fi_32_2 rfl w) ?_)
  refine q_cons (q_val rfl rfl rfl (by intro w hw; exact x_load (.int .i64 e) ag_2 rfl (hw.blk_at (i := 0) rfl) rfl) ?_)
  refine q_cons (q_val rfl rfl rfl (by intro w hw; exact x_move (.pointer (some ⟨g, 0, none⟩)) rfl w) ?_)
  refine q_cons (q_val rfl rfl rfl (by intro w hw; exact x_nilCheck (.pointer (some ⟨g, 0, none⟩)) rfl ⟨_, rfl⟩ w) ?_)
  refine q_cons (q_val rfl rfl rfl (by intro w hw; exact x_fieldAddr 80 1 1 1 2 rfl fi_80_1 rfl w) ?_)
  refine q_cons (q_val rfl rfl rfl (by intro w hw; exact x_load (.int .i64 a) ag_2 rfl (hw.blk_at (i := 1) rfl) rfl) ?_)
  refine q_cons (q_val rfl rfl rfl (by intro w hw; exact x_lss true rfl rfl (dtrue hlt) w) ?_)
  refine q_cons (q_val rfl rfl rfl (by intro w hw; exact x_assign (.bool true) rfl w) ?_)
  refine q_nil ?_
  intro w8 H9
  refine g_true rfl ?_
  refine g_seq ?_
  refine g_region ?_
  refine r_cons (s_assign (.slice none 0 0) rfl rfl ?_)
  refine r_cons (s_assign (.int .i64 240) rfl rfl ?_)
  refine r_nil ?_
  refine g_ret' [.slice none 0 0, .int .i64 240] Try.func14 Try.results14 ⟨rfl, rfl, trivial⟩ ?_
  have H10 : St W w8 (blk g (.cells #[.bool true, .int .i64 a, sv] 80 (0, 0)) :: F) := ((H9.move 1 rfl).drop 1 rfl)
  exact ⟨rfl, H10⟩
set_option maxHeartbeats 4000000 in
set_option maxRecDepth 100000 in
theorem Take_wait {W w : World} {F : List Atom} (g : Nat) (a : Int) (o n e t : Int) (ho : 0 ≤ o ∧ o ≤ 1099511627776) (hn : 0 ≤ n ∧ n ≤ 1099511627776) (he : 0 ≤ e ∧ e ≤ 1099511627776) (ht : 0 ≤ t ∧ t ≤ 1099511627777) (hlt : a < e) (H : St W w (blk g (.cells #[.bool true, .int .i64 a, .slice none 0 0] 80 (0, 0)) :: F)) : Calls Try.prog 14 #[.pointer (some ⟨g, 0, none⟩), .agg #[.int .i64 o, .int .i64 n, .int .i64 e, .int .i64 2, .slice none 0 0, .int .i64 t]] w (Ret fun v w' => v = .tuple #[.slice none 0 0, .int .i64 0] ∧ ∃ p c, St W w' (blk g (.cells #[.bool true, .int .i64 a, .slice p 1 c] 80 (0, 0)) :: Row 32 6 (.slice p 1 c) 1 [.int .i64 o, .int .i64 n, .int .i64 e, .int .i64 2, .slice none 0 0, .int .i64 t] :: F)) := by
  refine calls_of_go (n := 74) Try.func14 rfl Try.ntmps14 rfl ?_
  refine g_seq ?_
  refine g_region ?_
  refine r_cons (s_box H 32 (.agg #[.int .i64 o, .int .i64 n, .int .i64 e, .int .i64 2, .slice none 0 0, .int .i64 t]) rfl (cs := #[.int .i64 o, .int .i64 n, .int .i64 e, .int .i64 2, .slice none 0 0, .int .i64 t]) rfl rfl ?_); intro bk1 w2 H3
  refine r_cons (s_assign (.slice none 0 0) rfl rfl ?_)
  refine r_cons (s_assign (.int .i64 0) rfl rfl ?_)
  refine r_nil ?_
  refine g_seq ?_
  refine g_seq ?_
  refine g_region ?_
  refine r_cons (s_move (.pointer (some ⟨g, 0, none⟩)) rfl rfl ?_)
  refine r_cons (s_call [.pointer (some ⟨g, 0, none⟩)] pl_62 rfl rfl (Gate_none g (a : Int) (.slice none 0 0) (i := 1) rfl H3) ?_)
  rintro _ w4 ⟨rfl, H5⟩
  refine r_nil ?_
  refine g_false rfl ?_
  refine g_skip ?_
  refine g_seq ?_
  refine g_seq ?_
  refine g_region ?_
  refine r_cons (s_loadAgg [.int .i64 o, .int .i64 n, .int .i64 e, .int .i64 2, .slice none 0 0, .int .i64 t] 6 ag_32 rfl (H5.blk_at (i := 0) rfl) (Nat.le_of_ble_eq_true rfl) rfl rfl ?_)
  refine r_cons (s_call [.agg #[.int .i64 o, .int .i64 n, .int .i64 e, .int .i64 2, .slice none 0 0, .int .i64 t]] pl_63 rfl rfl (CheckItem_mark (o : Int) (n : Int) (e : Int) (t : Int) (by omega) (by omega) (by omega) (by omega) H5) ?_)
  rintro _ w6 ⟨rfl, H7⟩
  refine r_cons (s_assign (.int .i64 0) rfl rfl ?_)
  refine r_nil ?_
  refine g_seq ?_
  refine g_region ?_
  refine r_cons (s_move (.int .i64 0) rfl rfl ?_)
  refine r_cons (s_neq false rfl rfl (ntrue (by decide)) rfl ?_)
  refine r_nil ?_
  refine g_false rfl ?_
  refine g_skip ?_
  refine g_seq ?_
  refine g_block ?_
  refine g_seq ?_
  refine g_quiet (fun w' => St W w' (blk bk1 (.cells #[.int .i64 o, .int .i64 n, .int .i64 e, .int .i64 2, .slice none 0 0, .int .i64 t] 32 (0, 0)) :: blk g (.cells #[.bool true, .int .i64 a, .slice none 0 0] 80 (0, 0)) :: F)) mixed (by kernel_rfl) H7.drew ?_
  refine q_cons (q_val rfl rfl rfl (by intro w hw; exact x_fieldAddr 32 2 2 2 2 rfl fi_32_2 rfl w) ?_)
  refine q_cons (q_val rfl rfl rfl (by intro w hw; exact x_load (.int .i64 e) ag_2 rfl (hw.blk_at (i := 0) rfl) rfl) ?_)
  refine q_cons (q_val rfl rfl rfl (by intro w hw; exact x_move (.pointer (some ⟨g, 0, none⟩)) rfl w) ?_)
  refine q_cons (q_val rfl rfl rfl (by intro w hw; exact x_nilCheck (.pointer (some ⟨g, 0, none⟩)) rfl ⟨_, rfl⟩ w) ?_)
  refine q_cons (q_val rfl rfl rfl (by intro w hw; exact x_fieldAddr 80 1 1 1 2 rfl fi_80_1 rfl w) ?_)
  refine q_cons (q_val rfl rfl rfl (by intro w hw; exact x_load (.int .i64 a) ag_2 rfl (hw.blk_at (i := 1) rfl) rfl) ?_)
  refine q_cons (q_val rfl rfl rfl (by intro w hw; exact x_lss false rfl rfl (dfalse (by omega)) w) ?_)
  refine q_cons (q_val rfl rfl rfl (by intro w hw; exact x_assign (.bool false) rfl w) ?_)
  refine q_nil ?_
  intro w8 H9
  refine g_false rfl ?_
  refine g_seq ?_
  refine g_quiet (fun w' => St W w' (blk bk1 (.cells #[.int .i64 o, .int .i64 n, .int .i64 e, .int .i64 2, .slice none 0 0, .int .i64 t] 32 (0, 0)) :: blk g (.cells #[.bool true, .int .i64 a, .slice none 0 0] 80 (0, 0)) :: F)) mixed (by kernel_rfl) H9.drew ?_
  refine q_cons (q_val rfl rfl rfl (by intro w hw; exact x_fieldAddr 32 2 2 2 2 rfl fi_32_2 rfl w) ?_)
  refine q_cons (q_val rfl rfl rfl (by intro w hw; exact x_load (.int .i64 e) ag_2 rfl (hw.blk_at (i := 0) rfl) rfl) ?_)
  refine q_cons (q_val rfl rfl rfl (by intro w hw; exact x_move (.pointer (some ⟨g, 0, none⟩)) rfl w) ?_)
  refine q_cons (q_val rfl rfl rfl (by intro w hw; exact x_nilCheck (.pointer (some ⟨g, 0, none⟩)) rfl ⟨_, rfl⟩ w) ?_)
  refine q_cons (q_val rfl rfl rfl (by intro w hw; exact x_fieldAddr 80 1 1 1 2 rfl fi_80_1 rfl w) ?_)
  refine q_cons (q_val rfl rfl rfl (by intro w hw; exact x_load (.int .i64 a) ag_2 rfl (hw.blk_at (i := 1) rfl) rfl) ?_)
  refine q_cons (q_val rfl rfl rfl (by intro w hw; exact x_gtr true rfl rfl (dtrue (by omega)) w) ?_)
  refine q_cons (q_val rfl rfl rfl (by intro w hw; exact x_assign (.bool true) rfl w) ?_)
  refine q_nil ?_
  intro w10 H11
  refine g_true rfl ?_
  refine g_seq ?_
  refine g_seq ?_
  refine g_region ?_
  refine r_cons (s_move (.pointer (some ⟨g, 0, none⟩)) rfl rfl ?_)
  refine r_cons (s_nilCheck (.pointer (some ⟨g, 0, none⟩)) rfl ⟨_, rfl⟩ rfl ?_)
  refine r_cons (s_fieldAddr 80 2 2 2 22 rfl fi_80_2 rfl rfl ?_)
  refine r_cons (s_load (.slice none 0 0) ag_22 rfl (H11.blk_at (i := 1) rfl) rfl rfl ?_)
  refine r_cons (s_len 0 rfl ⟨_, un_22⟩ rfl ?_)
  refine r_cons (s_geq false rfl rfl (dfalse (by decide)) rfl ?_)
  refine r_nil ?_
  refine g_false rfl ?_
  refine g_skip ?_
  refine g_seq ?_
  refine g_cut (fun (x : Option Addr × Nat × Nat) => match x with | (pp22, cc23, bk14) => [(0, .pointer (some ⟨g, 0, none⟩)), (4, .slice none 0 0), (5, .int .i64 0)]) (fun (x : Option Addr × Nat × Nat) w => match x with | (pp22, cc23, bk14) => St W w (Row 32 6 (.slice pp22 1 cc23) 1 [.int .i64 o, .int .i64 n, .int .i64 e, .int .i64 2, .slice none 0 0, .int .i64 t] :: blk bk14 (.cells #[.int .i64 o, .int .i64 n, .int .i64 e, .int .i64 2, .slice none 0 0, .int .i64 t] 32 (0, 0)) :: blk bk1 (.cells #[.int .i64 o, .int .i64 n, .int .i64 e, .int .i64 2, .slice none 0 0, .int .i64 t] 32 (0, 0)) :: blk g (.cells #[.bool true, .int .i64 a, .slice pp22 1 cc23] 80 (0, 0)) :: F)) ?_ ?_
  · rintro ⟨pp22, cc23, bk14⟩ ρ15 w13 H14
    change Ends _ _ (upds ρ15 [(0, .pointer (some ⟨g, 0, none⟩)), (4, .slice none 0 0), (5, .int .i64 0)]) w13
    refine g_seq ?_
    refine g_region ?_
    refine r_cons (s_assign (.slice none 0 0) rfl rfl ?_)
    refine r_cons (s_assign (.int .i64 0) rfl rfl ?_)
    refine r_nil ?_
    refine g_ret' [.slice none 0 0, .int .i64 0] Try.func14 Try.results14 ⟨rfl, rfl, trivial⟩ ?_
    have H16 : St W w13 (blk g (.cells #[.bool true, .int .i64 a, .slice pp22 1 cc23] 80 (0, 0)) :: Row 32 6 (.slice pp22 1 cc23) 1 [.int .i64 o, .int .i64 n, .int .i64 e, .int .i64 2, .slice none 0 0, .int .i64 t] :: F) := (((H14.move 3 rfl).drop 2 rfl).drop 2 rfl)
    exact ⟨rfl, _, _, H16⟩
  · intro join12
    refine g_any mixed 12 rfl ?_
    intro w17 hw18
    have H19 := H11.drew
    rw [← hw18] at H19
    clear hw18
    refine a_take 0 (listed' := #[true, false, false, false, false, false, false, false, false, false, false, false]) rfl (by kernel_rfl) (by kernel_rfl) (by kernel_rfl) rfl rfl rfl rfl (fun w => x_move (.pointer (some ⟨g, 0, none⟩)) rfl w) ?_
    refine a_take 1 (listed' := #[true, true, false, false, false, false, false, false, false, false, false, false]) rfl (by kernel_rfl) (by kernel_rfl) (by kernel_rfl) rfl rfl rfl rfl (fun w => x_move (.pointer (some ⟨g, 0, none⟩)) rfl w) ?_
    refine a_take 2 (listed' := #[true, true, true, false, false, false, false, false, false, false, false, false]) rfl (by kernel_rfl) (by kernel_rfl) (by kernel_rfl) rfl rfl rfl rfl (fun w => x_nilCheck (.pointer (some ⟨g, 0, none⟩)) rfl ⟨_, rfl⟩ w) ?_
    refine a_take 3 (listed' := #[true, true, true, true, false, false, false, false, false, false, false, false]) rfl (by kernel_rfl) (by kernel_rfl) (by kernel_rfl) rfl rfl rfl rfl (fun w => x_fieldAddr 80 2 2 2 22 rfl fi_80_2 rfl w) ?_
    refine a_all (rs := [4, 5]) (by kernel_rfl) (by simp) ?_
    refine a_cons ⟨_, rfl, ?_⟩ (a_cons ⟨_, rfl, ?_⟩ (fun x hx => absurd hx (by simp)))
    · skip
      refine s_load (.slice none 0 0) ag_22 rfl (H19.blk_at (i := 1) rfl) rfl rfl ?_
      change AnyG _ _ _ _ #[true, true, true, true, true, false, false, false, false, false, false, false] _ _
      refine a_all (rs := [5]) (by kernel_rfl) (by simp) ?_
      refine a_cons ⟨_, rfl, ?_⟩ (fun x hx => absurd hx (by simp))
      refine s_loadAgg [.int .i64 o, .int .i64 n, .int .i64 e, .int .i64 2, .slice none 0 0, .int .i64 t] 6 ag_32 rfl (H19.blk_at (i := 0) rfl) (Nat.le_of_ble_eq_true rfl) rfl rfl ?_
      change AnyG _ _ _ _ #[true, true, true, true, true, true, false, false, false, false, false, false] _ _
      refine a_all (rs := [6]) (by kernel_rfl) (by simp) ?_
      refine a_cons ⟨_, rfl, ?_⟩ (fun x hx => absurd hx (by simp))
      refine s_call [.agg #[.int .i64 o, .int .i64 n, .int .i64 e, .int .i64 2, .slice none 0 0, .int .i64 t]] pl_64 rfl rfl (own_plain (o : Int) (n : Int) (e : Int) (2 : Int) (t : Int) H19) ?_
      rintro _ w20 ⟨rfl, H21⟩
      change AnyG _ _ _ _ #[true, true, true, true, true, true, true, false, false, false, false, false] _ _
      refine a_all (rs := [7]) (by kernel_rfl) (by simp) ?_
      refine a_cons ⟨_, rfl, ?_⟩ (fun x hx => absurd hx (by simp))
      refine s_buildSlice H21 6 1 (cs := #[.int .i64 o, .int .i64 n, .int .i64 e, .int .i64 2, .slice none 0 0, .int .i64 t]) #[.int .i64 0, .int .i64 0, .int .i64 0, .int .i64 0, .slice none 0 0, .int .i64 0] el_22 ze_32 (by decide) (by decide) (by kernel_rfl) rfl ?_; intro bk22 w23 H24
      change AnyG _ _ _ _ #[true, true, true, true, true, true, true, true, false, false, false, false] _ _
      refine a_all (rs := [8]) (by kernel_rfl) (by simp) ?_
      refine a_cons ⟨_, rfl, ?_⟩ (fun x hx => absurd hx (by simp))
      have H25 := Row.nil_intro H24 32 6
      refine s_append H25 0 rfl rfl rfl (rd_blk (H25.blk_at (i := 1) rfl) rfl (Nat.le_of_ble_eq_true rfl) (by simp [Value.oneCell'])) ap_22 (by decide) (by unfold maxLen; omega) (by omega) (n' := 1) (xs' := [.int .i64 o, .int .i64 n, .int .i64 e, .int .i64 2, .slice none 0 0, .int .i64 t]) (by omega) (by first | rfl | simp) rfl ?_; intro vv26 w27 H28 hn29
      obtain ⟨pp30, cc31, rfl⟩ := Row.slice H28 (i := 0) rfl
      change AnyG _ _ _ _ #[true, true, true, true, true, true, true, true, true, false, false, false] _ _
      refine a_take 9 (listed' := #[true, true, true, true, true, true, true, true, true, true, false, false]) rfl (by kernel_rfl) (by kernel_rfl) (by kernel_rfl) rfl rfl rfl rfl (fun w => x_nilCheck (.pointer (some ⟨g, 0, none⟩)) rfl ⟨_, rfl⟩ w) ?_
      refine a_take 10 (listed' := #[true, true, true, true, true, true, true, true, true, true, true, false]) rfl (by kernel_rfl) (by kernel_rfl) (by kernel_rfl) rfl rfl rfl rfl (fun w => x_fieldAddr 80 2 2 2 22 rfl fi_80_2 rfl w) ?_
      refine a_all (rs := [11]) (by kernel_rfl) (by simp) ?_
      refine a_cons ⟨_, rfl, ?_⟩ (fun x hx => absurd hx (by simp))
      refine s_store H28 3 (.slice pp30 1 cc31) rfl rfl rfl sz_22 rfl (Nat.le_of_ble_eq_true rfl) rfl (cs' := #[.bool true, .int .i64 a, .slice pp30 1 cc31]) rfl ?_; intro w32 H33
      change AnyG _ _ _ _ #[true, true, true, true, true, true, true, true, true, true, true, true] _ _
      refine a_done (by kernel_rfl) ?_
      exact join12 (pp30, cc31, bk22) _ _ H33 ⟨rfl, rfl, rfl, trivial⟩
    · skip
      refine s_loadAgg [.int .i64 o, .int .i64 n, .int .i64 e, .int .i64 2, .slice none 0 0, .int .i64 t] 6 ag_32 rfl (H19.blk_at (i := 0) rfl) (Nat.le_of_ble_eq_true rfl) rfl rfl ?_
      change AnyG _ _ _ _ #[true, true, true, true, false, true, false, false, false, false, false, false] _ _
      refine a_all (rs := [4, 6]) (by kernel_rfl) (by simp) ?_
      refine a_cons ⟨_, rfl, ?_⟩ (a_cons ⟨_, rfl, ?_⟩ (fun x hx => absurd hx (by simp)))
      · skip
        refine s_load (.slice none 0 0) ag_22 rfl (H19.blk_at (i := 1) rfl) rfl rfl ?_
        change AnyG _ _ _ _ #[true, true, true, true, true, true, false, false, false, false, false, false] _ _
        refine a_all (rs := [6]) (by kernel_rfl) (by simp) ?_
        refine a_cons ⟨_, rfl, ?_⟩ (fun x hx => absurd hx (by simp))
        refine s_call [.agg #[.int .i64 o, .int .i64 n, .int .i64 e, .int .i64 2, .slice none 0 0, .int .i64 t]] pl_64 rfl rfl (own_plain (o : Int) (n : Int) (e : Int) (2 : Int) (t : Int) H19) ?_
        rintro _ w34 ⟨rfl, H35⟩
        change AnyG _ _ _ _ #[true, true, true, true, true, true, true, false, false, false, false, false] _ _
        refine a_all (rs := [7]) (by kernel_rfl) (by simp) ?_
        refine a_cons ⟨_, rfl, ?_⟩ (fun x hx => absurd hx (by simp))
        refine s_buildSlice H35 6 1 (cs := #[.int .i64 o, .int .i64 n, .int .i64 e, .int .i64 2, .slice none 0 0, .int .i64 t]) #[.int .i64 0, .int .i64 0, .int .i64 0, .int .i64 0, .slice none 0 0, .int .i64 0] el_22 ze_32 (by decide) (by decide) (by kernel_rfl) rfl ?_; intro bk36 w37 H38
        change AnyG _ _ _ _ #[true, true, true, true, true, true, true, true, false, false, false, false] _ _
        refine a_all (rs := [8]) (by kernel_rfl) (by simp) ?_
        refine a_cons ⟨_, rfl, ?_⟩ (fun x hx => absurd hx (by simp))
        have H39 := Row.nil_intro H38 32 6
        refine s_append H39 0 rfl rfl rfl (rd_blk (H39.blk_at (i := 1) rfl) rfl (Nat.le_of_ble_eq_true rfl) (by simp [Value.oneCell'])) ap_22 (by decide) (by unfold maxLen; omega) (by omega) (n' := 1) (xs' := [.int .i64 o, .int .i64 n, .int .i64 e, .int .i64 2, .slice none 0 0, .int .i64 t]) (by omega) (by first | rfl | simp) rfl ?_; intro vv40 w41 H42 hn43
        obtain ⟨pp44, cc45, rfl⟩ := Row.slice H42 (i := 0) rfl
        change AnyG _ _ _ _ #[true, true, true, true, true, true, true, true, true, false, false, false] _ _
        refine a_take 9 (listed' := #[true, true, true, true, true, true, true, true, true, true, false, false]) rfl (by kernel_rfl) (by kernel_rfl) (by kernel_rfl) rfl rfl rfl rfl (fun w => x_nilCheck (.pointer (some ⟨g, 0, none⟩)) rfl ⟨_, rfl⟩ w) ?_
        refine a_take 10 (listed' := #[true, true, true, true, true, true, true, true, true, true, true, false]) rfl (by kernel_rfl) (by kernel_rfl) (by kernel_rfl) rfl rfl rfl rfl (fun w => x_fieldAddr 80 2 2 2 22 rfl fi_80_2 rfl w) ?_
        refine a_all (rs := [11]) (by kernel_rfl) (by simp) ?_
        refine a_cons ⟨_, rfl, ?_⟩ (fun x hx => absurd hx (by simp))
        refine s_store H42 3 (.slice pp44 1 cc45) rfl rfl rfl sz_22 rfl (Nat.le_of_ble_eq_true rfl) rfl (cs' := #[.bool true, .int .i64 a, .slice pp44 1 cc45]) rfl ?_; intro w46 H47
        change AnyG _ _ _ _ #[true, true, true, true, true, true, true, true, true, true, true, true] _ _
        refine a_done (by kernel_rfl) ?_
        exact join12 (pp44, cc45, bk36) _ _ H47 ⟨rfl, rfl, rfl, trivial⟩
      · skip
        refine s_call [.agg #[.int .i64 o, .int .i64 n, .int .i64 e, .int .i64 2, .slice none 0 0, .int .i64 t]] pl_64 rfl rfl (own_plain (o : Int) (n : Int) (e : Int) (2 : Int) (t : Int) H19) ?_
        rintro _ w48 ⟨rfl, H49⟩
        change AnyG _ _ _ _ #[true, true, true, true, false, true, true, false, false, false, false, false] _ _
        refine a_all (rs := [4, 7]) (by kernel_rfl) (by simp) ?_
        refine a_cons ⟨_, rfl, ?_⟩ (a_cons ⟨_, rfl, ?_⟩ (fun x hx => absurd hx (by simp)))
        · skip
          refine s_load (.slice none 0 0) ag_22 rfl (H49.blk_at (i := 1) rfl) rfl rfl ?_
          change AnyG _ _ _ _ #[true, true, true, true, true, true, true, false, false, false, false, false] _ _
          refine a_all (rs := [7]) (by kernel_rfl) (by simp) ?_
          refine a_cons ⟨_, rfl, ?_⟩ (fun x hx => absurd hx (by simp))
          refine s_buildSlice H49 6 1 (cs := #[.int .i64 o, .int .i64 n, .int .i64 e, .int .i64 2, .slice none 0 0, .int .i64 t]) #[.int .i64 0, .int .i64 0, .int .i64 0, .int .i64 0, .slice none 0 0, .int .i64 0] el_22 ze_32 (by decide) (by decide) (by kernel_rfl) rfl ?_; intro bk50 w51 H52
          change AnyG _ _ _ _ #[true, true, true, true, true, true, true, true, false, false, false, false] _ _
          refine a_all (rs := [8]) (by kernel_rfl) (by simp) ?_
          refine a_cons ⟨_, rfl, ?_⟩ (fun x hx => absurd hx (by simp))
          have H53 := Row.nil_intro H52 32 6
          refine s_append H53 0 rfl rfl rfl (rd_blk (H53.blk_at (i := 1) rfl) rfl (Nat.le_of_ble_eq_true rfl) (by simp [Value.oneCell'])) ap_22 (by decide) (by unfold maxLen; omega) (by omega) (n' := 1) (xs' := [.int .i64 o, .int .i64 n, .int .i64 e, .int .i64 2, .slice none 0 0, .int .i64 t]) (by omega) (by first | rfl | simp) rfl ?_; intro vv54 w55 H56 hn57
          obtain ⟨pp58, cc59, rfl⟩ := Row.slice H56 (i := 0) rfl
          change AnyG _ _ _ _ #[true, true, true, true, true, true, true, true, true, false, false, false] _ _
          refine a_take 9 (listed' := #[true, true, true, true, true, true, true, true, true, true, false, false]) rfl (by kernel_rfl) (by kernel_rfl) (by kernel_rfl) rfl rfl rfl rfl (fun w => x_nilCheck (.pointer (some ⟨g, 0, none⟩)) rfl ⟨_, rfl⟩ w) ?_
          refine a_take 10 (listed' := #[true, true, true, true, true, true, true, true, true, true, true, false]) rfl (by kernel_rfl) (by kernel_rfl) (by kernel_rfl) rfl rfl rfl rfl (fun w => x_fieldAddr 80 2 2 2 22 rfl fi_80_2 rfl w) ?_
          refine a_all (rs := [11]) (by kernel_rfl) (by simp) ?_
          refine a_cons ⟨_, rfl, ?_⟩ (fun x hx => absurd hx (by simp))
          refine s_store H56 3 (.slice pp58 1 cc59) rfl rfl rfl sz_22 rfl (Nat.le_of_ble_eq_true rfl) rfl (cs' := #[.bool true, .int .i64 a, .slice pp58 1 cc59]) rfl ?_; intro w60 H61
          change AnyG _ _ _ _ #[true, true, true, true, true, true, true, true, true, true, true, true] _ _
          refine a_done (by kernel_rfl) ?_
          exact join12 (pp58, cc59, bk50) _ _ H61 ⟨rfl, rfl, rfl, trivial⟩
        · skip
          refine s_buildSlice H49 6 1 (cs := #[.int .i64 o, .int .i64 n, .int .i64 e, .int .i64 2, .slice none 0 0, .int .i64 t]) #[.int .i64 0, .int .i64 0, .int .i64 0, .int .i64 0, .slice none 0 0, .int .i64 0] el_22 ze_32 (by decide) (by decide) (by kernel_rfl) rfl ?_; intro bk62 w63 H64
          change AnyG _ _ _ _ #[true, true, true, true, false, true, true, true, false, false, false, false] _ _
          refine a_all (rs := [4]) (by kernel_rfl) (by simp) ?_
          refine a_cons ⟨_, rfl, ?_⟩ (fun x hx => absurd hx (by simp))
          refine s_load (.slice none 0 0) ag_22 rfl (H64.blk_at (i := 2) rfl) rfl rfl ?_
          change AnyG _ _ _ _ #[true, true, true, true, true, true, true, true, false, false, false, false] _ _
          refine a_all (rs := [8]) (by kernel_rfl) (by simp) ?_
          refine a_cons ⟨_, rfl, ?_⟩ (fun x hx => absurd hx (by simp))
          have H65 := Row.nil_intro H64 32 6
          refine s_append H65 0 rfl rfl rfl (rd_blk (H65.blk_at (i := 1) rfl) rfl (Nat.le_of_ble_eq_true rfl) (by simp [Value.oneCell'])) ap_22 (by decide) (by unfold maxLen; omega) (by omega) (n' := 1) (xs' := [.int .i64 o, .int .i64 n, .int .i64 e, .int .i64 2, .slice none 0 0, .int .i64 t]) (by omega) (by first | rfl | simp) rfl ?_; intro vv66 w67 H68 hn69
          obtain ⟨pp70, cc71, rfl⟩ := Row.slice H68 (i := 0) rfl
          change AnyG _ _ _ _ #[true, true, true, true, true, true, true, true, true, false, false, false] _ _
          refine a_take 9 (listed' := #[true, true, true, true, true, true, true, true, true, true, false, false]) rfl (by kernel_rfl) (by kernel_rfl) (by kernel_rfl) rfl rfl rfl rfl (fun w => x_nilCheck (.pointer (some ⟨g, 0, none⟩)) rfl ⟨_, rfl⟩ w) ?_
          refine a_take 10 (listed' := #[true, true, true, true, true, true, true, true, true, true, true, false]) rfl (by kernel_rfl) (by kernel_rfl) (by kernel_rfl) rfl rfl rfl rfl (fun w => x_fieldAddr 80 2 2 2 22 rfl fi_80_2 rfl w) ?_
          refine a_all (rs := [11]) (by kernel_rfl) (by simp) ?_
          refine a_cons ⟨_, rfl, ?_⟩ (fun x hx => absurd hx (by simp))
          refine s_store H68 3 (.slice pp70 1 cc71) rfl rfl rfl sz_22 rfl (Nat.le_of_ble_eq_true rfl) rfl (cs' := #[.bool true, .int .i64 a, .slice pp70 1 cc71]) rfl ?_; intro w72 H73
          change AnyG _ _ _ _ #[true, true, true, true, true, true, true, true, true, true, true, true] _ _
          refine a_done (by kernel_rfl) ?_
          exact join12 (pp70, cc71, bk62) _ _ H73 ⟨rfl, rfl, rfl, trivial⟩
set_option maxHeartbeats 4000000 in
set_option maxRecDepth 100000 in
theorem Take_now {W w : World} {F : List Atom} (g : Nat) (a : Int) (sv : Value) (o n e t : Int) (ho : 0 ≤ o ∧ o ≤ 1099511627776) (hn : 0 ≤ n ∧ n ≤ 1099511627776) (he : 0 ≤ e ∧ e ≤ 1099511627776) (ht : 0 ≤ t ∧ t ≤ 1099511627777) (hea : e = a) (H : St W w (blk g (.cells #[.bool true, .int .i64 a, sv] 80 (0, 0)) :: F)) : Calls Try.prog 14 #[.pointer (some ⟨g, 0, none⟩), .agg #[.int .i64 o, .int .i64 n, .int .i64 e, .int .i64 2, .slice none 0 0, .int .i64 t]] w (Ret fun v w' => ∃ p c, v = .tuple #[.slice p 1 c, .int .i64 0] ∧ St W w' (Row 32 6 (.slice p 1 c) 1 [.int .i64 o, .int .i64 n, .int .i64 e, .int .i64 2, .slice none 0 0, .int .i64 t] :: blk g (.cells #[.bool true, .int .i64 a, sv] 80 (0, 0)) :: F)) := by
  refine calls_of_go (n := 74) Try.func14 rfl Try.ntmps14 rfl ?_
  refine g_seq ?_
  refine g_region ?_
  refine r_cons (s_box H 32 (.agg #[.int .i64 o, .int .i64 n, .int .i64 e, .int .i64 2, .slice none 0 0, .int .i64 t]) rfl (cs := #[.int .i64 o, .int .i64 n, .int .i64 e, .int .i64 2, .slice none 0 0, .int .i64 t]) rfl rfl ?_); intro bk1 w2 H3
  refine r_cons (s_assign (.slice none 0 0) rfl rfl ?_)
  refine r_cons (s_assign (.int .i64 0) rfl rfl ?_)
  refine r_nil ?_
  refine g_seq ?_
  refine g_seq ?_
  refine g_region ?_
  refine r_cons (s_move (.pointer (some ⟨g, 0, none⟩)) rfl rfl ?_)
  refine r_cons (s_call [.pointer (some ⟨g, 0, none⟩)] pl_62 rfl rfl (Gate_none g (a : Int) sv (i := 1) rfl H3) ?_)
  rintro _ w4 ⟨rfl, H5⟩
  refine r_nil ?_
  refine g_false rfl ?_
  refine g_skip ?_
  refine g_seq ?_
  refine g_seq ?_
  refine g_region ?_
  refine r_cons (s_loadAgg [.int .i64 o, .int .i64 n, .int .i64 e, .int .i64 2, .slice none 0 0, .int .i64 t] 6 ag_32 rfl (H5.blk_at (i := 0) rfl) (Nat.le_of_ble_eq_true rfl) rfl rfl ?_)
  refine r_cons (s_call [.agg #[.int .i64 o, .int .i64 n, .int .i64 e, .int .i64 2, .slice none 0 0, .int .i64 t]] pl_63 rfl rfl (CheckItem_mark (o : Int) (n : Int) (e : Int) (t : Int) (by omega) (by omega) (by omega) (by omega) H5) ?_)
  rintro _ w6 ⟨rfl, H7⟩
  refine r_cons (s_assign (.int .i64 0) rfl rfl ?_)
  refine r_nil ?_
  refine g_seq ?_
  refine g_region ?_
  refine r_cons (s_move (.int .i64 0) rfl rfl ?_)
  refine r_cons (s_neq false rfl rfl (ntrue (by decide)) rfl ?_)
  refine r_nil ?_
  refine g_false rfl ?_
  refine g_skip ?_
  refine g_seq ?_
  refine g_block ?_
  refine g_seq ?_
  refine g_quiet (fun w' => St W w' (blk bk1 (.cells #[.int .i64 o, .int .i64 n, .int .i64 e, .int .i64 2, .slice none 0 0, .int .i64 t] 32 (0, 0)) :: blk g (.cells #[.bool true, .int .i64 a, sv] 80 (0, 0)) :: F)) mixed (by kernel_rfl) H7.drew ?_
  refine q_cons (q_val rfl rfl rfl (by intro w hw; exact x_fieldAddr 32 2 2 2 2 rfl fi_32_2 rfl w) ?_)
  refine q_cons (q_val rfl rfl rfl (by intro w hw; exact x_load (.int .i64 e) ag_2 rfl (hw.blk_at (i := 0) rfl) rfl) ?_)
  refine q_cons (q_val rfl rfl rfl (by intro w hw; exact x_move (.pointer (some ⟨g, 0, none⟩)) rfl w) ?_)
  refine q_cons (q_val rfl rfl rfl (by intro w hw; exact x_nilCheck (.pointer (some ⟨g, 0, none⟩)) rfl ⟨_, rfl⟩ w) ?_)
  refine q_cons (q_val rfl rfl rfl (by intro w hw; exact x_fieldAddr 80 1 1 1 2 rfl fi_80_1 rfl w) ?_)
  refine q_cons (q_val rfl rfl rfl (by intro w hw; exact x_load (.int .i64 a) ag_2 rfl (hw.blk_at (i := 1) rfl) rfl) ?_)
  refine q_cons (q_val rfl rfl rfl (by intro w hw; exact x_lss false rfl rfl (dfalse (by omega)) w) ?_)
  refine q_cons (q_val rfl rfl rfl (by intro w hw; exact x_assign (.bool false) rfl w) ?_)
  refine q_nil ?_
  intro w8 H9
  refine g_false rfl ?_
  refine g_seq ?_
  refine g_quiet (fun w' => St W w' (blk bk1 (.cells #[.int .i64 o, .int .i64 n, .int .i64 e, .int .i64 2, .slice none 0 0, .int .i64 t] 32 (0, 0)) :: blk g (.cells #[.bool true, .int .i64 a, sv] 80 (0, 0)) :: F)) mixed (by kernel_rfl) H9.drew ?_
  refine q_cons (q_val rfl rfl rfl (by intro w hw; exact x_fieldAddr 32 2 2 2 2 rfl fi_32_2 rfl w) ?_)
  refine q_cons (q_val rfl rfl rfl (by intro w hw; exact x_load (.int .i64 e) ag_2 rfl (hw.blk_at (i := 0) rfl) rfl) ?_)
  refine q_cons (q_val rfl rfl rfl (by intro w hw; exact x_move (.pointer (some ⟨g, 0, none⟩)) rfl w) ?_)
  refine q_cons (q_val rfl rfl rfl (by intro w hw; exact x_nilCheck (.pointer (some ⟨g, 0, none⟩)) rfl ⟨_, rfl⟩ w) ?_)
  refine q_cons (q_val rfl rfl rfl (by intro w hw; exact x_fieldAddr 80 1 1 1 2 rfl fi_80_1 rfl w) ?_)
  refine q_cons (q_val rfl rfl rfl (by intro w hw; exact x_load (.int .i64 a) ag_2 rfl (hw.blk_at (i := 1) rfl) rfl) ?_)
  refine q_cons (q_val rfl rfl rfl (by intro w hw; exact x_gtr false rfl rfl (dfalse (by omega)) w) ?_)
  refine q_cons (q_val rfl rfl rfl (by intro w hw; exact x_assign (.bool false) rfl w) ?_)
  refine q_nil ?_
  intro w10 H11
  refine g_false rfl ?_
  refine g_seq ?_
  refine g_region ?_
  refine r_cons (s_fieldAddr 32 3 3 3 3 rfl fi_32_3 rfl rfl ?_)
  refine r_cons (s_load (.int .i64 2) ag_3 rfl (H11.blk_at (i := 0) rfl) rfl rfl ?_)
  refine r_cons (s_neq true rfl rfl (nfalse (by decide)) rfl ?_)
  refine r_cons (s_assign (.bool true) rfl rfl ?_)
  refine r_nil ?_
  refine g_true rfl ?_
  refine g_seq ?_
  refine g_region ?_
  refine r_cons (s_loadAgg [.int .i64 o, .int .i64 n, .int .i64 e, .int .i64 2, .slice none 0 0, .int .i64 t] 6 ag_32 rfl (H11.blk_at (i := 0) rfl) (Nat.le_of_ble_eq_true rfl) rfl rfl ?_)
  refine r_cons (s_call [.agg #[.int .i64 o, .int .i64 n, .int .i64 e, .int .i64 2, .slice none 0 0, .int .i64 t]] pl_64 rfl rfl (own_plain (o : Int) (n : Int) (e : Int) (2 : Int) (t : Int) H11) ?_)
  rintro _ w12 ⟨rfl, H13⟩
  refine r_cons (s_buildSlice H13 6 1 (cs := #[.int .i64 o, .int .i64 n, .int .i64 e, .int .i64 2, .slice none 0 0, .int .i64 t]) #[.int .i64 0, .int .i64 0, .int .i64 0, .int .i64 0, .slice none 0 0, .int .i64 0] el_22 ze_32 (by decide) (by decide) (by kernel_rfl) rfl ?_); intro bk14 w15 H16
  refine r_cons (s_assign (.slice (some ⟨bk14, 0, none⟩) 1 1) rfl rfl ?_)
  refine r_cons (s_assign (.int .i64 0) rfl rfl ?_)
  refine r_nil ?_
  refine g_ret' [.slice (some ⟨bk14, 0, none⟩) 1 1, .int .i64 0] Try.func14 Try.results14 ⟨rfl, rfl, trivial⟩ ?_
  have H17 : St W w15 (Row 32 6 (.slice (some ⟨bk14, 0, none⟩) 1 1) 1 [.int .i64 o, .int .i64 n, .int .i64 e, .int .i64 2, .slice none 0 0, .int .i64 t] :: blk bk1 (.cells #[.int .i64 o, .int .i64 n, .int .i64 e, .int .i64 2, .slice none 0 0, .int .i64 t] 32 (0, 0)) :: blk g (.cells #[.bool true, .int .i64 a, sv] 80 (0, 0)) :: F) := Row.of_blk (n := 1) (size := 6) H16 (i := 0) rfl (by unfold maxLen; omega) rfl (by simp [Value.oneCell'])
  have H18 : St W w15 (Row 32 6 (.slice (some ⟨bk14, 0, none⟩) 1 1) 1 [.int .i64 o, .int .i64 n, .int .i64 e, .int .i64 2, .slice none 0 0, .int .i64 t] :: blk g (.cells #[.bool true, .int .i64 a, sv] 80 (0, 0)) :: F) := (((H17.move 2 rfl).move 1 rfl).drop 2 rfl)
  exact ⟨_, _, rfl, H18⟩
set_option maxHeartbeats 4000000 in
set_option maxRecDepth 100000 in
theorem turn_1 {W w : World} {F : List Atom} (g : Nat) (p : Option Addr) (c : Nat) (H : St W w (blk g (.cells #[.bool true, .int .i64 1, .slice p 1 c] 80 (0, 0)) :: Row 32 6 (.slice p 1 c) 1 [.int .i64 1, .int .i64 0, .int .i64 1, .int .i64 2, .slice none 0 0, .int .i64 9] :: F)) : Calls Try.prog 65 #[.pointer (some ⟨g, 0, none⟩)] w (Ret fun v w' => ∃ q d, v = .tuple #[.slice q 1 d, .bool false] ∧ St W w' (Row 32 6 (.slice q 1 d) 1 [.int .i64 1, .int .i64 0, .int .i64 1, .int .i64 2, .slice none 0 0, .int .i64 9] :: blk g (.cells #[.bool true, .int .i64 1, .slice none 0 0] 80 (0, 0)) :: F)) := by
  refine calls_of_go (n := 47) Try.func65 rfl Try.ntmps65 rfl ?_
  refine g_seq ?_
  refine g_region ?_
  refine r_cons (s_assign (.slice none 0 0) rfl rfl ?_)
  refine r_cons (s_assign (.bool false) rfl rfl ?_)
  refine r_nil ?_
  refine g_seq ?_
  refine g_region ?_
  refine r_cons (s_assign (.slice none 0 0) rfl rfl ?_)
  refine r_cons (s_assign (.slice none 0 0) rfl rfl ?_)
  refine r_nil ?_
  refine g_seq ?_
  refine g_region ?_
  refine r_cons (s_assign (.bool false) rfl rfl ?_)
  refine r_nil ?_
  refine g_seq ?_
  refine g_seq ?_
  refine g_region ?_
  refine r_cons (s_move (.pointer (some ⟨g, 0, none⟩)) rfl rfl ?_)
  refine r_cons (s_nilCheck (.pointer (some ⟨g, 0, none⟩)) rfl ⟨_, rfl⟩ rfl ?_)
  refine r_cons (s_fieldAddr 80 2 2 2 22 rfl fi_80_2 rfl rfl ?_)
  refine r_cons (s_load (.slice p 1 c) ag_22 rfl (H.blk_at (i := 0) rfl) rfl rfl ?_)
  refine r_cons (s_len 1 rfl ⟨_, un_22⟩ rfl ?_)
  refine r_cons (s_move (.int .i64 0) rfl rfl ?_)
  refine r_nil ?_
  refine g_block ?_
  refine g_loop ?_
  refine g_seq ?_
  refine g_region ?_
  refine r_cons (s_lss true rfl rfl (dtrue (by decide)) rfl ?_)
  refine r_nil ?_
  refine g_seq ?_
  refine g_true rfl ?_
  refine g_skip ?_
  refine g_seq ?_
  refine g_block ?_
  refine g_seq ?_
  refine g_region ?_
  obtain ⟨bk1, cur2, hp3, h4, h5, h6, h7, h8, H9⟩ := Row.open2 H (i := 1) rfl (by omega)
  refine r_cons (s_indexAddr bk1 (off := 0) 0 6 (0 + 0 * 6) (by exact congrArg (fun z_ => Value.slice z_ 1 c) ((fun (_ : 0 < 1) => hp3) (by omega))) rfl el_22 (by omega) rfl rfl ?_)
  refine r_cons (s_loadAgg [.int .i64 1, .int .i64 0, .int .i64 1, .int .i64 2, .slice none 0 0, .int .i64 9] 6 ag_32 rfl (H9.blk_at (i := 1) rfl) (by omega) (by exact h7) rfl ?_)
  refine r_cons (s_alloc H9 32 ze_32 rfl ?_); intro bk10 w11 H12
  refine r_cons (s_storeAgg H12 0 #[.int .i64 1, .int .i64 0, .int .i64 1, .int .i64 2, .slice none 0 0, .int .i64 9] 6 rfl rfl rfl sz_32 rfl (by simp [Value.oneCell']) (Nat.le_of_ble_eq_true rfl) (fun o h1 h2 => by first | (simp; done) | (simp; omega)) (cs' := #[.int .i64 1, .int .i64 0, .int .i64 1, .int .i64 2, .slice none 0 0, .int .i64 9]) rfl ?_); intro w13 H14
  refine r_nil ?_
  refine g_block ?_
  refine g_seq ?_
  refine g_quiet (fun w' => St W w' (blk bk10 (.cells #[.int .i64 1, .int .i64 0, .int .i64 1, .int .i64 2, .slice none 0 0, .int .i64 9] 32 (0, 0)) :: blk g (.cells #[.bool true, .int .i64 1, .slice p 1 c] 80 (0, 0)) :: blk bk1 (.cells cur2 32 (0, 0)) :: F)) mixed (by kernel_rfl) H14.drew ?_
  refine q_cons (q_val rfl rfl rfl (by intro w hw; exact x_fieldAddr 32 2 2 2 2 rfl fi_32_2 rfl w) ?_)
  refine q_cons (q_val rfl rfl rfl (by intro w hw; exact x_load (.int .i64 1) ag_2 rfl (hw.blk_at (i := 0) rfl) rfl) ?_)
  refine q_cons (q_val rfl rfl rfl (by intro w hw; exact x_move (.pointer (some ⟨g, 0, none⟩)) rfl w) ?_)
  refine q_cons (q_val rfl rfl rfl (by intro w hw; exact x_nilCheck (.pointer (some ⟨g, 0, none⟩)) rfl ⟨_, rfl⟩ w) ?_)
  refine q_cons (q_val rfl rfl rfl (by intro w hw; exact x_fieldAddr 80 1 1 1 2 rfl fi_80_1 rfl w) ?_)
  refine q_cons (q_val rfl rfl rfl (by intro w hw; exact x_load (.int .i64 1) ag_2 rfl (hw.blk_at (i := 1) rfl) rfl) ?_)
  refine q_cons (q_val rfl rfl rfl (by intro w hw; exact x_neq false rfl rfl (ntrue (by decide)) w) ?_)
  refine q_cons (q_val rfl rfl rfl (by intro w hw; exact x_assign (.bool false) rfl w) ?_)
  refine q_nil ?_
  intro w15 H16
  refine g_false rfl ?_
  refine g_seq ?_
  refine g_region ?_
  refine r_cons (s_move (.bool false) rfl rfl ?_)
  refine r_cons (s_assign (.bool false) rfl rfl ?_)
  refine r_nil ?_
  refine g_false rfl ?_
  refine g_seq ?_
  refine g_region ?_
  refine r_cons (s_fieldAddr 32 3 3 3 3 rfl fi_32_3 rfl rfl ?_)
  refine r_cons (s_load (.int .i64 2) ag_3 rfl (H16.blk_at (i := 0) rfl) rfl rfl ?_)
  refine r_cons (s_eql false rfl rfl (dfalse (by decide)) rfl ?_)
  refine r_cons (s_assign (.bool false) rfl rfl ?_)
  refine r_nil ?_
  refine g_false rfl ?_
  refine g_region ?_
  refine r_cons (s_move (.slice none 0 0) rfl rfl ?_)
  refine r_cons (s_loadAgg [.int .i64 1, .int .i64 0, .int .i64 1, .int .i64 2, .slice none 0 0, .int .i64 9] 6 ag_32 rfl (H16.blk_at (i := 0) rfl) (Nat.le_of_ble_eq_true rfl) rfl rfl ?_)
  refine r_cons (s_buildSlice H16 6 1 (cs := #[.int .i64 1, .int .i64 0, .int .i64 1, .int .i64 2, .slice none 0 0, .int .i64 9]) #[.int .i64 0, .int .i64 0, .int .i64 0, .int .i64 0, .slice none 0 0, .int .i64 0] el_22 ze_32 (by decide) (by decide) (by kernel_rfl) rfl ?_); intro bk17 w18 H19
  have H20 := Row.nil_intro H19 32 6
  refine r_cons (s_append H20 0 rfl rfl rfl (rd_blk (H20.blk_at (i := 1) rfl) rfl (Nat.le_of_ble_eq_true rfl) (by simp [Value.oneCell'])) ap_22 (by decide) (by unfold maxLen; omega) (by omega) (n' := 1) (xs' := [.int .i64 1, .int .i64 0, .int .i64 1, .int .i64 2, .slice none 0 0, .int .i64 9]) (by omega) (by first | rfl | simp) rfl ?_); intro vv21 w22 H23 hn24
  obtain ⟨pp25, cc26, rfl⟩ := Row.slice H23 (i := 0) rfl
  refine r_cons (s_assign (.slice pp25 1 cc26) rfl rfl ?_)
  refine r_nil ?_
  refine g_inBlock ?_
  refine g_inBlock ?_
  refine g_region ?_
  refine r_cons (s_add 1 rfl rfl (wi64 (by omega)) rfl ?_)
  refine r_cons (s_move (.int .i64 1) rfl rfl ?_)
  refine r_nil ?_
  refine g_inLoop ?_
  refine g_seq ?_
  refine g_region ?_
  refine r_cons (s_lss false rfl rfl (dfalse (by decide)) rfl ?_)
  refine r_nil ?_
  refine g_seq ?_
  refine g_false rfl ?_
  refine g_exit (by rfl) ?_
  refine g_seq ?_
  refine g_region ?_
  refine r_cons (s_move (.pointer (some ⟨g, 0, none⟩)) rfl rfl ?_)
  refine r_cons (s_move (.slice none 0 0) rfl rfl ?_)
  refine r_cons (s_nilCheck (.pointer (some ⟨g, 0, none⟩)) rfl ⟨_, rfl⟩ rfl ?_)
  refine r_cons (s_fieldAddr 80 2 2 2 22 rfl fi_80_2 rfl rfl ?_)
  refine r_cons (s_store H23 3 (.slice none 0 0) rfl rfl rfl sz_22 rfl (Nat.le_of_ble_eq_true rfl) rfl (cs' := #[.bool true, .int .i64 1, .slice none 0 0]) rfl ?_); intro w27 H28
  refine r_nil ?_
  refine g_seq ?_
  refine g_region ?_
  refine r_cons (s_move (.slice pp25 1 cc26) rfl rfl ?_)
  refine r_cons (s_move (.bool false) rfl rfl ?_)
  refine r_cons (s_assign (.slice pp25 1 cc26) rfl rfl ?_)
  refine r_cons (s_assign (.bool false) rfl rfl ?_)
  refine r_nil ?_
  refine g_ret' [.slice pp25 1 cc26, .bool false] Try.func65 Try.results65 ⟨rfl, rfl, trivial⟩ ?_
  have H29 : St W w27 (Row 32 6 (.slice pp25 1 cc26) 1 [.int .i64 1, .int .i64 0, .int .i64 1, .int .i64 2, .slice none 0 0, .int .i64 9] :: blk g (.cells #[.bool true, .int .i64 1, .slice none 0 0] 80 (0, 0)) :: F) := (((((H28.move 3 rfl).move 1 rfl).drop 2 rfl).drop 2 rfl).drop 2 rfl)
  exact ⟨_, _, rfl, H29⟩
set_option maxHeartbeats 4000000 in
set_option maxRecDepth 100000 in
theorem Take_end {W w : World} {F : List Atom} (g : Nat) (p : Option Addr) (c : Nat) (H : St W w (blk g (.cells #[.bool true, .int .i64 0, .slice p 1 c] 80 (0, 0)) :: Row 32 6 (.slice p 1 c) 1 [.int .i64 1, .int .i64 0, .int .i64 1, .int .i64 2, .slice none 0 0, .int .i64 9] :: F)) : Calls Try.prog 14 #[.pointer (some ⟨g, 0, none⟩), .agg #[.int .i64 1, .int .i64 0, .int .i64 0, .int .i64 3, .slice none 0 0, .int .i64 0]] w (Ret fun v w' => ∃ q d, v = .tuple #[.slice q 1 d, .int .i64 0] ∧ St W w' (Row 32 6 (.slice q 1 d) 1 [.int .i64 1, .int .i64 0, .int .i64 1, .int .i64 2, .slice none 0 0, .int .i64 9] :: blk g (.cells #[.bool true, .int .i64 1, .slice none 0 0] 80 (0, 0)) :: F)) := by
  refine calls_of_go (n := 74) Try.func14 rfl Try.ntmps14 rfl ?_
  refine g_seq ?_
  refine g_region ?_
  refine r_cons (s_box H 32 (.agg #[.int .i64 1, .int .i64 0, .int .i64 0, .int .i64 3, .slice none 0 0, .int .i64 0]) rfl (cs := #[.int .i64 1, .int .i64 0, .int .i64 0, .int .i64 3, .slice none 0 0, .int .i64 0]) rfl rfl ?_); intro bk1 w2 H3
  refine r_cons (s_assign (.slice none 0 0) rfl rfl ?_)
  refine r_cons (s_assign (.int .i64 0) rfl rfl ?_)
  refine r_nil ?_
  refine g_seq ?_
  refine g_seq ?_
  refine g_region ?_
  refine r_cons (s_move (.pointer (some ⟨g, 0, none⟩)) rfl rfl ?_)
  refine r_cons (s_call [.pointer (some ⟨g, 0, none⟩)] pl_62 rfl rfl (Gate_none g (0 : Int) (.slice p 1 c) (i := 1) rfl H3) ?_)
  rintro _ w4 ⟨rfl, H5⟩
  refine r_nil ?_
  refine g_false rfl ?_
  refine g_skip ?_
  refine g_seq ?_
  refine g_seq ?_
  refine g_region ?_
  refine r_cons (s_loadAgg [.int .i64 1, .int .i64 0, .int .i64 0, .int .i64 3, .slice none 0 0, .int .i64 0] 6 ag_32 rfl (H5.blk_at (i := 0) rfl) (Nat.le_of_ble_eq_true rfl) rfl rfl ?_)
  refine r_cons (s_call [.agg #[.int .i64 1, .int .i64 0, .int .i64 0, .int .i64 3, .slice none 0 0, .int .i64 0]] pl_63 rfl rfl (CheckItem_end (1 : Int) (0 : Int) (0 : Int) (by omega) (by omega) (by omega) H5) ?_)
  rintro _ w6 ⟨rfl, H7⟩
  refine r_cons (s_assign (.int .i64 0) rfl rfl ?_)
  refine r_nil ?_
  refine g_seq ?_
  refine g_region ?_
  refine r_cons (s_move (.int .i64 0) rfl rfl ?_)
  refine r_cons (s_neq false rfl rfl (ntrue (by decide)) rfl ?_)
  refine r_nil ?_
  refine g_false rfl ?_
  refine g_skip ?_
  refine g_seq ?_
  refine g_block ?_
  refine g_seq ?_
  refine g_quiet (fun w' => St W w' (blk bk1 (.cells #[.int .i64 1, .int .i64 0, .int .i64 0, .int .i64 3, .slice none 0 0, .int .i64 0] 32 (0, 0)) :: blk g (.cells #[.bool true, .int .i64 0, .slice p 1 c] 80 (0, 0)) :: Row 32 6 (.slice p 1 c) 1 [.int .i64 1, .int .i64 0, .int .i64 1, .int .i64 2, .slice none 0 0, .int .i64 9] :: F)) mixed (by kernel_rfl) H7.drew ?_
  refine q_cons (q_val rfl rfl rfl (by intro w hw; exact x_fieldAddr 32 2 2 2 2 rfl fi_32_2 rfl w) ?_)
  refine q_cons (q_val rfl rfl rfl (by intro w hw; exact x_load (.int .i64 0) ag_2 rfl (hw.blk_at (i := 0) rfl) rfl) ?_)
  refine q_cons (q_val rfl rfl rfl (by intro w hw; exact x_move (.pointer (some ⟨g, 0, none⟩)) rfl w) ?_)
  refine q_cons (q_val rfl rfl rfl (by intro w hw; exact x_nilCheck (.pointer (some ⟨g, 0, none⟩)) rfl ⟨_, rfl⟩ w) ?_)
  refine q_cons (q_val rfl rfl rfl (by intro w hw; exact x_fieldAddr 80 1 1 1 2 rfl fi_80_1 rfl w) ?_)
  refine q_cons (q_val rfl rfl rfl (by intro w hw; exact x_load (.int .i64 0) ag_2 rfl (hw.blk_at (i := 1) rfl) rfl) ?_)
  refine q_cons (q_val rfl rfl rfl (by intro w hw; exact x_lss false rfl rfl (dfalse (by decide)) w) ?_)
  refine q_cons (q_val rfl rfl rfl (by intro w hw; exact x_assign (.bool false) rfl w) ?_)
  refine q_nil ?_
  intro w8 H9
  refine g_false rfl ?_
  refine g_seq ?_
  refine g_quiet (fun w' => St W w' (blk bk1 (.cells #[.int .i64 1, .int .i64 0, .int .i64 0, .int .i64 3, .slice none 0 0, .int .i64 0] 32 (0, 0)) :: blk g (.cells #[.bool true, .int .i64 0, .slice p 1 c] 80 (0, 0)) :: Row 32 6 (.slice p 1 c) 1 [.int .i64 1, .int .i64 0, .int .i64 1, .int .i64 2, .slice none 0 0, .int .i64 9] :: F)) mixed (by kernel_rfl) H9.drew ?_
  refine q_cons (q_val rfl rfl rfl (by intro w hw; exact x_fieldAddr 32 2 2 2 2 rfl fi_32_2 rfl w) ?_)
  refine q_cons (q_val rfl rfl rfl (by intro w hw; exact x_load (.int .i64 0) ag_2 rfl (hw.blk_at (i := 0) rfl) rfl) ?_)
  refine q_cons (q_val rfl rfl rfl (by intro w hw; exact x_move (.pointer (some ⟨g, 0, none⟩)) rfl w) ?_)
  refine q_cons (q_val rfl rfl rfl (by intro w hw; exact x_nilCheck (.pointer (some ⟨g, 0, none⟩)) rfl ⟨_, rfl⟩ w) ?_)
  refine q_cons (q_val rfl rfl rfl (by intro w hw; exact x_fieldAddr 80 1 1 1 2 rfl fi_80_1 rfl w) ?_)
  refine q_cons (q_val rfl rfl rfl (by intro w hw; exact x_load (.int .i64 0) ag_2 rfl (hw.blk_at (i := 1) rfl) rfl) ?_)
  refine q_cons (q_val rfl rfl rfl (by intro w hw; exact x_gtr false rfl rfl (dfalse (by decide)) w) ?_)
  refine q_cons (q_val rfl rfl rfl (by intro w hw; exact x_assign (.bool false) rfl w) ?_)
  refine q_nil ?_
  intro w10 H11
  refine g_false rfl ?_
  refine g_seq ?_
  refine g_region ?_
  refine r_cons (s_fieldAddr 32 3 3 3 3 rfl fi_32_3 rfl rfl ?_)
  refine r_cons (s_load (.int .i64 3) ag_3 rfl (H11.blk_at (i := 0) rfl) rfl rfl ?_)
  refine r_cons (s_neq false rfl rfl (ntrue (by decide)) rfl ?_)
  refine r_cons (s_assign (.bool false) rfl rfl ?_)
  refine r_nil ?_
  refine g_false rfl ?_
  refine g_skip ?_
  refine g_inBlock ?_
  refine g_seq ?_
  refine g_region ?_
  refine r_cons (s_assign (.slice none 0 0) rfl rfl ?_)
  refine r_nil ?_
  refine g_seq ?_
  refine g_seq ?_
  refine g_region ?_
  refine r_cons (s_assign (.bool true) rfl rfl ?_)
  refine r_nil ?_
  refine g_block ?_
  refine g_loop ?_
  refine g_seq ?_
  refine g_seq ?_
  refine g_region ?_
  refine r_cons (s_move (.bool true) rfl rfl ?_)
  refine r_nil ?_
  refine g_true rfl ?_
  refine g_skip ?_
  refine g_block ?_
  refine g_seq ?_
  refine g_region ?_
  refine r_cons (s_move (.pointer (some ⟨g, 0, none⟩)) rfl rfl ?_)
  refine r_cons (s_nilCheck (.pointer (some ⟨g, 0, none⟩)) rfl ⟨_, rfl⟩ rfl ?_)
  refine r_cons (s_fieldAddr 80 1 1 1 2 rfl fi_80_1 rfl rfl ?_)
  refine r_cons (s_load (.int .i64 0) ag_2 rfl (H11.blk_at (i := 1) rfl) rfl rfl ?_)
  refine r_cons (s_add 1 rfl rfl (wi64 (by omega)) rfl ?_)
  refine r_cons (s_nilCheck (.pointer (some ⟨g, 0, none⟩)) rfl ⟨_, rfl⟩ rfl ?_)
  refine r_cons (s_fieldAddr 80 1 1 1 2 rfl fi_80_1 rfl rfl ?_)
  refine r_cons (s_store H11 1 (.int .i64 1) rfl rfl rfl sz_2 rfl (Nat.le_of_ble_eq_true rfl) rfl (cs' := #[.bool true, .int .i64 1, .slice p 1 c]) rfl ?_); intro w12 H13
  refine r_nil ?_
  refine g_seq ?_
  refine g_region ?_
  refine r_cons (s_assign (.slice none 0 0) rfl rfl ?_)
  refine r_nil ?_
  refine g_seq ?_
  refine g_region ?_
  refine r_cons (s_move (.pointer (some ⟨g, 0, none⟩)) rfl rfl ?_)
  have H14 : St W w12 (blk g (.cells #[.bool true, .int .i64 1, .slice p 1 c] 80 (0, 0)) :: Row 32 6 (.slice p 1 c) 1 [.int .i64 1, .int .i64 0, .int .i64 1, .int .i64 2, .slice none 0 0, .int .i64 9] :: blk bk1 (.cells #[.int .i64 1, .int .i64 0, .int .i64 0, .int .i64 3, .slice none 0 0, .int .i64 0] 32 (0, 0)) :: F) := ((H13.move 2 rfl).move 2 rfl)
  refine r_cons (s_call [.pointer (some ⟨g, 0, none⟩)] pl_65 rfl rfl (turn_1 g p c H14) ?_)
  rintro _ w17 ⟨pp15, cc16, rfl, H18⟩
  refine r_cons (s_move (.tuple #[.slice pp15 1 cc16, .bool false]) rfl rfl ?_)
  refine r_cons (s_extract (.slice pp15 1 cc16) #[.slice pp15 1 cc16, .bool false] rfl rfl rfl ?_)
  refine r_cons (s_extract (.bool false) #[.slice pp15 1 cc16, .bool false] rfl rfl rfl ?_)
  refine r_cons (s_assign (.slice pp15 1 cc16) rfl rfl ?_)
  refine r_cons (s_assign (.bool false) rfl rfl ?_)
  refine r_nil ?_
  refine g_region ?_
  refine r_cons (s_move (.slice none 0 0) rfl rfl ?_)
  refine r_cons (s_move (.slice pp15 1 cc16) rfl rfl ?_)
  have H19 := Row.nil_intro H18 32 6
  refine r_cons (s_append H19 0 rfl rfl rfl (Row.rd H19 (i := 1) rfl) ap_22 (by decide) (by unfold maxLen; omega) (by omega) (n' := 1) (xs' := [.int .i64 1, .int .i64 0, .int .i64 1, .int .i64 2, .slice none 0 0, .int .i64 9]) (by omega) (by first | rfl | simp) rfl ?_); intro vv20 w21 H22 hn23
  obtain ⟨pp24, cc25, rfl⟩ := Row.slice H22 (i := 0) rfl
  refine r_cons (s_assign (.slice pp24 1 cc25) rfl rfl ?_)
  refine r_nil ?_
  refine g_inBlock ?_
  refine g_inLoop ?_
  refine g_seq ?_
  refine g_seq ?_
  refine g_region ?_
  refine r_cons (s_move (.bool false) rfl rfl ?_)
  refine r_nil ?_
  refine g_false rfl ?_
  refine g_exit (by rfl) ?_
  refine g_seq ?_
  refine g_region ?_
  refine r_cons (s_move (.slice pp24 1 cc25) rfl rfl ?_)
  refine r_cons (s_assign (.slice pp24 1 cc25) rfl rfl ?_)
  refine r_cons (s_assign (.int .i64 0) rfl rfl ?_)
  refine r_nil ?_
  refine g_ret' [.slice pp24 1 cc25, .int .i64 0] Try.func14 Try.results14 ⟨rfl, rfl, trivial⟩ ?_
  have H26 : St W w21 (Row 32 6 (.slice pp24 1 cc25) 1 [.int .i64 1, .int .i64 0, .int .i64 1, .int .i64 2, .slice none 0 0, .int .i64 9] :: blk g (.cells #[.bool true, .int .i64 1, .slice none 0 0] 80 (0, 0)) :: F) := ((((H22.move 2 rfl).move 1 rfl).drop 2 rfl).drop 2 rfl)
  exact ⟨_, _, rfl, H26⟩
set_option maxHeartbeats 4000000 in
set_option maxRecDepth 100000 in
theorem begun_mark {W w : World} {F : List Atom} (e t : Int) (H : St W w F) : Calls Try.prog 59 #[.int .i64 e, .int .i64 t] w (Ret fun v w' => v = .agg #[.int .i64 1, .int .i64 0, .int .i64 e, .int .i64 2, .slice none 0 0, .int .i64 t] ∧ St W w' F) := by
  refine calls_of_go (n := 8) Try.func59 rfl Try.ntmps59 rfl ?_
  refine g_seq ?_
  refine g_region ?_
  refine r_cons (s_alloc H 32 ze_32 rfl ?_); intro bk1 w2 H3
  refine r_nil ?_
  refine g_seq ?_
  refine g_region ?_
  refine r_cons (s_move (.int .i64 e) rfl rfl ?_)
  refine r_cons (s_move (.int .i64 t) rfl rfl ?_)
  refine r_cons (s_build (cs := #[.int .i64 1, .int .i64 0, .int .i64 e, .int .i64 2, .slice none 0 0, .int .i64 t]) (by kernel_rfl) rfl ?_)
  refine r_cons (s_storeAgg H3 0 #[.int .i64 1, .int .i64 0, .int .i64 e, .int .i64 2, .slice none 0 0, .int .i64 t] 6 rfl rfl rfl sz_32 rfl (by simp [Value.oneCell']) (Nat.le_of_ble_eq_true rfl) (fun o h1 h2 => by first | (simp; done) | (simp; omega)) (cs' := #[.int .i64 1, .int .i64 0, .int .i64 e, .int .i64 2, .slice none 0 0, .int .i64 t]) rfl ?_); intro w4 H5
  refine r_nil ?_
  refine g_ret' [.agg #[.int .i64 1, .int .i64 0, .int .i64 e, .int .i64 2, .slice none 0 0, .int .i64 t]] Try.func59 Try.results59 ⟨(res_cellN rfl ag_32 (H5.blk_at (i := 0) rfl) (Nat.le_of_ble_eq_true rfl) rfl), trivial⟩ ?_
  have H6 : St W w4 F := (H5.drop 0 rfl)
  exact ⟨rfl, H6⟩
set_option maxHeartbeats 4000000 in
set_option maxRecDepth 100000 in
theorem begun_ {W w : World} {F : List Atom}  (H : St W w F) : Calls Try.prog 10 #[] w (Ret fun v w' => v = .bool true ∧ St W w' F) := by
  refine calls_of_go (n := 82) Try.func10 rfl Try.ntmps10 rfl ?_
  refine g_seq ?_
  refine g_region ?_
  refine r_cons (s_assign (.bool false) rfl rfl ?_)
  refine r_nil ?_
  refine g_seq ?_
  refine g_region ?_
  refine r_cons (s_call [] pl_9 rfl rfl (NewGate_ H) ?_)
  rintro _ w2 ⟨bk1, rfl, H3⟩
  refine r_cons (s_assign (.pointer (some ⟨bk1, 0, none⟩)) rfl rfl ?_)
  refine r_nil ?_
  refine g_seq ?_
  refine g_seq ?_
  refine g_region ?_
  refine r_cons (s_move (.pointer (some ⟨bk1, 0, none⟩)) rfl rfl ?_)
  refine r_cons (s_peql false un_24 rfl rfl rfl rfl ?_)
  refine r_nil ?_
  refine g_false rfl ?_
  refine g_skip ?_
  refine g_seq ?_
  refine g_region ?_
  refine r_cons (s_assign (.func (.func 59) #[] #[]) rfl rfl ?_)
  refine r_nil ?_
  refine g_seq ?_
  refine g_region ?_
  refine r_cons (s_move (.pointer (some ⟨bk1, 0, none⟩)) rfl rfl ?_)
  refine r_cons (s_move (.func (.func 59) #[] #[]) rfl rfl ?_)
  refine r_cons (s_callv [] [.int .i64 1, .int .i64 9] rfl pl_59 rfl rfl (begun_mark (1 : Int) (9 : Int) H3) ?_)
  rintro _ w4 ⟨rfl, H5⟩
  refine r_cons (s_call [.pointer (some ⟨bk1, 0, none⟩), .agg #[.int .i64 1, .int .i64 0, .int .i64 1, .int .i64 2, .slice none 0 0, .int .i64 9]] pl_14 rfl rfl (Take_wait bk1 (0 : Int) (1 : Int) (0 : Int) (1 : Int) (9 : Int) (by omega) (by omega) (by omega) (by omega) (by omega) H5) ?_)
  rintro _ w8 ⟨rfl, pp6, cc7, H9⟩
  refine r_cons (s_move (.tuple #[.slice none 0 0, .int .i64 0]) rfl rfl ?_)
  refine r_cons (s_extract (.slice none 0 0) #[.slice none 0 0, .int .i64 0] rfl rfl rfl ?_)
  refine r_cons (s_extract (.int .i64 0) #[.slice none 0 0, .int .i64 0] rfl rfl rfl ?_)
  refine r_cons (s_assign (.slice none 0 0) rfl rfl ?_)
  refine r_cons (s_assign (.int .i64 0) rfl rfl ?_)
  refine r_nil ?_
  refine g_seq ?_
  refine g_region ?_
  refine r_cons (s_move (.pointer (some ⟨bk1, 0, none⟩)) rfl rfl ?_)
  refine r_cons (s_move (.func (.func 59) #[] #[]) rfl rfl ?_)
  refine r_cons (s_callv [] [.int .i64 0, .int .i64 4] rfl pl_59 rfl rfl (begun_mark (0 : Int) (4 : Int) H9) ?_)
  rintro _ w10 ⟨rfl, H11⟩
  refine r_cons (s_call [.pointer (some ⟨bk1, 0, none⟩), .agg #[.int .i64 1, .int .i64 0, .int .i64 0, .int .i64 2, .slice none 0 0, .int .i64 4]] pl_14 rfl rfl (Take_now bk1 (0 : Int) (.slice pp6 1 cc7) (1 : Int) (0 : Int) (0 : Int) (4 : Int) (by omega) (by omega) (by omega) (by omega) (by omega) H11) ?_)
  rintro _ w14 ⟨pp12, cc13, rfl, H15⟩
  refine r_cons (s_move (.tuple #[.slice pp12 1 cc13, .int .i64 0]) rfl rfl ?_)
  refine r_cons (s_extract (.slice pp12 1 cc13) #[.slice pp12 1 cc13, .int .i64 0] rfl rfl rfl ?_)
  refine r_cons (s_extract (.int .i64 0) #[.slice pp12 1 cc13, .int .i64 0] rfl rfl rfl ?_)
  refine r_cons (s_assign (.slice pp12 1 cc13) rfl rfl ?_)
  refine r_cons (s_assign (.int .i64 0) rfl rfl ?_)
  refine r_nil ?_
  refine g_seq ?_
  refine g_region ?_
  refine r_cons (s_move (.pointer (some ⟨bk1, 0, none⟩)) rfl rfl ?_)
  refine r_cons (s_build (cs := #[.int .i64 1, .int .i64 0, .int .i64 0, .int .i64 3, .slice none 0 0, .int .i64 0]) (by kernel_rfl) rfl ?_)
  have H16 : St W w14 (blk bk1 (.cells #[.bool true, .int .i64 0, .slice pp6 1 cc7] 80 (0, 0)) :: Row 32 6 (.slice pp6 1 cc7) 1 [.int .i64 1, .int .i64 0, .int .i64 1, .int .i64 2, .slice none 0 0, .int .i64 9] :: Row 32 6 (.slice pp12 1 cc13) 1 [.int .i64 1, .int .i64 0, .int .i64 0, .int .i64 2, .slice none 0 0, .int .i64 4] :: F) := ((H15.move 2 rfl).move 2 rfl)
  refine r_cons (s_call [.pointer (some ⟨bk1, 0, none⟩), .agg #[.int .i64 1, .int .i64 0, .int .i64 0, .int .i64 3, .slice none 0 0, .int .i64 0]] pl_14 rfl rfl (Take_end bk1 pp6 cc7 H16) ?_)
  rintro _ w19 ⟨pp17, cc18, rfl, H20⟩
  refine r_cons (s_move (.tuple #[.slice pp17 1 cc18, .int .i64 0]) rfl rfl ?_)
  refine r_cons (s_extract (.slice pp17 1 cc18) #[.slice pp17 1 cc18, .int .i64 0] rfl rfl rfl ?_)
  refine r_cons (s_extract (.int .i64 0) #[.slice pp17 1 cc18, .int .i64 0] rfl rfl rfl ?_)
  refine r_cons (s_assign (.slice pp17 1 cc18) rfl rfl ?_)
  refine r_cons (s_assign (.int .i64 0) rfl rfl ?_)
  refine r_nil ?_
  refine g_seq ?_
  refine g_region ?_
  refine r_cons (s_move (.pointer (some ⟨bk1, 0, none⟩)) rfl rfl ?_)
  refine r_cons (s_move (.func (.func 59) #[] #[]) rfl rfl ?_)
  refine r_cons (s_callv [] [.int .i64 0, .int .i64 5] rfl pl_59 rfl rfl (begun_mark (0 : Int) (5 : Int) H20) ?_)
  rintro _ w21 ⟨rfl, H22⟩
  have H23 : St W w21 (blk bk1 (.cells #[.bool true, .int .i64 1, .slice none 0 0] 80 (0, 0)) :: Row 32 6 (.slice pp17 1 cc18) 1 [.int .i64 1, .int .i64 0, .int .i64 1, .int .i64 2, .slice none 0 0, .int .i64 9] :: Row 32 6 (.slice pp12 1 cc13) 1 [.int .i64 1, .int .i64 0, .int .i64 0, .int .i64 2, .slice none 0 0, .int .i64 4] :: F) := (H22.move 1 rfl)
  refine r_cons (s_call [.pointer (some ⟨bk1, 0, none⟩), .agg #[.int .i64 1, .int .i64 0, .int .i64 0, .int .i64 2, .slice none 0 0, .int .i64 5]] pl_14 rfl rfl (Take_old bk1 (1 : Int) (.slice none 0 0) (1 : Int) (0 : Int) (0 : Int) (5 : Int) (by omega) (by omega) (by omega) (by omega) (by omega) H23) ?_)
  rintro _ w24 ⟨rfl, H25⟩
  refine r_cons (s_move (.tuple #[.slice none 0 0, .int .i64 240]) rfl rfl ?_)
  refine r_cons (s_extract (.slice none 0 0) #[.slice none 0 0, .int .i64 240] rfl rfl rfl ?_)
  refine r_cons (s_extract (.int .i64 240) #[.slice none 0 0, .int .i64 240] rfl rfl rfl ?_)
  refine r_cons (s_assign (.slice none 0 0) rfl rfl ?_)
  refine r_cons (s_assign (.int .i64 240) rfl rfl ?_)
  refine r_nil ?_
  refine g_seq ?_
  refine g_region ?_
  refine r_cons (s_move (.slice none 0 0) rfl rfl ?_)
  refine r_cons (s_len 0 rfl ⟨_, un_22⟩ rfl ?_)
  refine r_cons (s_eql true rfl rfl (dtrue (by decide)) rfl ?_)
  refine r_cons (s_move (.bool true) rfl rfl ?_)
  refine r_cons (r_take rfl rfl ?_)
  refine s_move (.int .i64 0) rfl rfl ?_
  refine r_cons (r_take rfl rfl ?_)
  refine s_eql true rfl rfl (dtrue (by decide)) rfl ?_
  refine r_cons (s_pick_t (.bool true) rfl rfl rfl ?_)
  refine r_cons (s_move (.bool true) rfl rfl ?_)
  refine r_cons (r_take rfl rfl ?_)
  refine s_move (.slice pp12 1 cc13) rfl rfl ?_
  refine r_cons (r_take rfl rfl ?_)
  refine s_len 1 rfl ⟨_, un_22⟩ rfl ?_
  refine r_cons (r_take rfl rfl ?_)
  refine s_eql true rfl rfl (dtrue (by decide)) rfl ?_
  refine r_cons (s_pick_t (.bool true) rfl rfl rfl ?_)
  refine r_cons (s_move (.bool true) rfl rfl ?_)
  refine r_cons (r_take rfl rfl ?_)
  refine s_move (.int .i64 0) rfl rfl ?_
  refine r_cons (r_take rfl rfl ?_)
  refine s_eql true rfl rfl (dtrue (by decide)) rfl ?_
  refine r_cons (s_pick_t (.bool true) rfl rfl rfl ?_)
  refine r_cons (s_move (.bool true) rfl rfl ?_)
  refine r_cons (r_take rfl rfl ?_)
  refine s_move (.slice pp17 1 cc18) rfl rfl ?_
  refine r_cons (r_take rfl rfl ?_)
  refine s_len 1 rfl ⟨_, un_22⟩ rfl ?_
  refine r_cons (r_take rfl rfl ?_)
  refine s_eql true rfl rfl (dtrue (by decide)) rfl ?_
  refine r_cons (s_pick_t (.bool true) rfl rfl rfl ?_)
  refine r_cons (s_move (.bool true) rfl rfl ?_)
  refine r_cons (r_take rfl rfl ?_)
  refine s_move (.slice pp17 1 cc18) rfl rfl ?_
  refine r_cons (r_take rfl rfl ?_)
  obtain ⟨bk26, cur27, hp28, h29, h30, h31, h32, h33, H34⟩ := Row.open2 H25 (i := 1) rfl (by omega)
  have hc35 : cur27[5]? = some (.int .i64 9) := cell_of_take (k := 5) (xs := [.int .i64 1, .int .i64 0, .int .i64 1, .int .i64 2, .slice none 0 0, .int .i64 9]) h32 (by decide) rfl
  refine s_indexAddr bk26 (off := 0) 0 6 (0 + 0 * 6) (by exact congrArg (fun z_ => Value.slice z_ 1 cc18) ((fun (_ : 0 < 1) => hp28) (by omega))) rfl el_22 (by omega) rfl rfl ?_
  refine r_cons (r_take rfl rfl ?_)
  refine s_fieldAddr 32 5 5 (0 + 0 * 6 + 5) 2 rfl fi_32_5 rfl rfl ?_
  refine r_cons (r_take rfl rfl ?_)
  refine s_load (.int .i64 9) ag_2 rfl (H34.blk_at (i := 1) rfl) hc35 rfl ?_
  refine r_cons (r_take rfl rfl ?_)
  refine s_eql true rfl rfl (dtrue (by decide)) rfl ?_
  refine r_cons (s_pick_t (.bool true) rfl rfl rfl ?_)
  refine r_cons (s_move (.bool true) rfl rfl ?_)
  refine r_cons (r_take rfl rfl ?_)
  refine s_move (.int .i64 0) rfl rfl ?_
  refine r_cons (r_take rfl rfl ?_)
  refine s_eql true rfl rfl (dtrue (by decide)) rfl ?_
  refine r_cons (s_pick_t (.bool true) rfl rfl rfl ?_)
  refine r_cons (s_move (.bool true) rfl rfl ?_)
  refine r_cons (r_take rfl rfl ?_)
  refine s_move (.int .i64 240) rfl rfl ?_
  refine r_cons (r_take rfl rfl ?_)
  refine s_eql true rfl rfl (dtrue (by decide)) rfl ?_
  refine r_cons (s_pick_t (.bool true) rfl rfl rfl ?_)
  refine r_cons (s_move (.bool true) rfl rfl ?_)
  refine r_cons (r_take rfl rfl ?_)
  refine s_move (.pointer (some ⟨bk1, 0, none⟩)) rfl rfl ?_
  refine r_cons (r_take rfl rfl ?_)
  refine s_call [.pointer (some ⟨bk1, 0, none⟩)] pl_16 rfl rfl (Gate_Epoch bk1 (1 : Int) (.slice none 0 0) (i := 0) rfl H34) ?_
  rintro _ w36 ⟨rfl, H37⟩
  refine r_cons (r_take rfl rfl ?_)
  refine s_eql true rfl rfl (dtrue (by decide)) rfl ?_
  refine r_cons (s_pick_t (.bool true) rfl rfl rfl ?_)
  refine r_cons (s_assign (.bool true) rfl rfl ?_)
  refine r_nil ?_
  refine g_ret' [.bool true] Try.func10 Try.results10 ⟨rfl, trivial⟩ ?_
  have H38 : St W w36 F := (((H37.drop 0 rfl).drop 0 rfl).drop 0 rfl)
  exact ⟨rfl, H38⟩
set_option maxHeartbeats 4000000 in
set_option maxRecDepth 100000 in
theorem clone_bytes {W w : World} {F : List Atom} (A : Atom) (v0 : Value) (n : Nat) (xs : List Value) (hA : RdA A 1 v0 n xs) (hn : n ≤ 140737488355328) {j : Nat} (hj : F[j]? = some A) (H : St W w F) : Calls Try.prog 113 #[v0] w (Ret fun v w' => ∃ p c, v = .slice p n c ∧ St W w' (Row 5 1 (.slice p n c) n xs :: F)) := by
  have hml := (hA _ _ _ j H hj).2
  obtain ⟨pp1, cc2, rfl, hn3⟩ := Rd.shape (hA _ _ _ j H hj).1
  refine calls_of_go (n := 8) Try.func113 rfl Try.ntmps113 rfl ?_
  refine g_seq ?_
  refine g_region ?_
  refine r_cons (s_assign (.slice none 0 0) rfl rfl ?_)
  refine r_nil ?_
  refine g_seq ?_
  refine g_seq ?_
  refine g_region ?_
  refine r_cons (s_move (.slice pp1 n cc2) rfl rfl ?_)
  by_cases hc4 : pp1 = none
  · skip
    refine r_cons (s_sleql true un_23 rfl rfl (isNone_t hc4) rfl ?_)
    refine r_nil ?_
    refine g_true rfl ?_
    refine g_seq ?_
    refine g_region ?_
    refine r_cons (s_assign (.slice none 0 0) rfl rfl ?_)
    refine r_nil ?_
    refine g_ret' [.slice none 0 0] Try.func113 Try.results113 ⟨rfl, trivial⟩ ?_
    have H5 : St W w F := H
    obtain ⟨h1, h2, h3⟩ := hn3 ‹_›
    subst h1 h3
    exact ⟨none, 0, rfl, Row.nil_intro H5 5 1⟩
  · skip
    refine r_cons (s_sleql false un_23 rfl rfl (isNone_f hc4) rfl ?_)
    refine r_nil ?_
    refine g_false rfl ?_
    refine g_skip ?_
    refine g_seq ?_
    refine g_region ?_
    refine r_cons (s_buildSlice0 H 1 el_23 rfl ?_); intro bk7 w8 H9
    have H10 := Row.of_blk (n := 0) (size := 1) H9 (i := 0) rfl (by unfold maxLen; omega) (by simp) (by simp)
    refine r_cons (s_move (.slice pp1 n cc2) rfl rfl ?_)
    refine r_cons (s_append H10 0 rfl rfl rfl (hA _ _ _ (j + 1) H10 (by exact hj)).1 ap_23 (by decide) (by unfold maxLen; omega) (by omega) (n' := n) (xs' := xs) (by omega) (by first | rfl | simp) rfl ?_); intro vv11 w12 H13 hn14
    obtain ⟨pp15, cc16, rfl⟩ := Row.slice H13 (i := 0) rfl
    refine r_cons (s_assign (.slice pp15 n cc16) rfl rfl ?_)
    refine r_nil ?_
    refine g_ret' [.slice pp15 n cc16] Try.func113 Try.results113 ⟨rfl, trivial⟩ ?_
    have H17 : St W w12 (Row 5 1 (.slice pp15 n cc16) n xs :: F) := H13
    exact ⟨_, _, rfl, H17⟩
set_option maxHeartbeats 4000000 in
set_option maxRecDepth 100000 in
theorem bytes_Clone {W w : World} {F : List Atom} (A : Atom) (v0 : Value) (n : Nat) (xs : List Value) (hA : RdA A 1 v0 n xs) (hn : n ≤ 140737488355328) {j : Nat} (hj : F[j]? = some A) (H : St W w F) : Calls Try.prog 73 #[v0] w (Ret fun v w' => ∃ p c, v = .slice p n c ∧ St W w' (Row 5 1 (.slice p n c) n xs :: F)) := by
  have hml := (hA _ _ _ j H hj).2
  obtain ⟨pp1, cc2, rfl, hn3⟩ := Rd.shape (hA _ _ _ j H hj).1
  refine calls_of_go (n := 8) Try.func73 rfl Try.ntmps73 rfl ?_
  refine g_seq ?_
  refine g_region ?_
  refine r_cons (s_assign (.slice none 0 0) rfl rfl ?_)
  refine r_nil ?_
  refine g_seq ?_
  refine g_seq ?_
  refine g_region ?_
  refine r_cons (s_move (.slice pp1 n cc2) rfl rfl ?_)
  by_cases hc4 : pp1 = none
  · skip
    refine r_cons (s_sleql true un_23 rfl rfl (isNone_t hc4) rfl ?_)
    refine r_nil ?_
    refine g_true rfl ?_
    refine g_seq ?_
    refine g_region ?_
    refine r_cons (s_assign (.slice none 0 0) rfl rfl ?_)
    refine r_nil ?_
    refine g_ret' [.slice none 0 0] Try.func73 Try.results73 ⟨rfl, trivial⟩ ?_
    have H5 : St W w F := H
    obtain ⟨h1, h2, h3⟩ := hn3 ‹_›
    subst h1 h3
    exact ⟨none, 0, rfl, Row.nil_intro H5 5 1⟩
  · skip
    refine r_cons (s_sleql false un_23 rfl rfl (isNone_f hc4) rfl ?_)
    refine r_nil ?_
    refine g_false rfl ?_
    refine g_skip ?_
    refine g_seq ?_
    refine g_region ?_
    refine r_cons (s_buildSlice0 H 1 el_23 rfl ?_); intro bk7 w8 H9
    have H10 := Row.of_blk (n := 0) (size := 1) H9 (i := 0) rfl (by unfold maxLen; omega) (by simp) (by simp)
    refine r_cons (s_move (.slice pp1 n cc2) rfl rfl ?_)
    refine r_cons (s_append H10 0 rfl rfl rfl (hA _ _ _ (j + 1) H10 (by exact hj)).1 ap_23 (by decide) (by unfold maxLen; omega) (by omega) (n' := n) (xs' := xs) (by omega) (by first | rfl | simp) rfl ?_); intro vv11 w12 H13 hn14
    obtain ⟨pp15, cc16, rfl⟩ := Row.slice H13 (i := 0) rfl
    refine r_cons (s_assign (.slice pp15 n cc16) rfl rfl ?_)
    refine r_nil ?_
    refine g_ret' [.slice pp15 n cc16] Try.func73 Try.results73 ⟨rfl, trivial⟩ ?_
    have H17 : St W w12 (Row 5 1 (.slice pp15 n cc16) n xs :: F) := H13
    exact ⟨_, _, rfl, H17⟩
set_option maxHeartbeats 4000000 in
set_option maxRecDepth 100000 in
theorem time1 {W w : World} {F : List Atom} (g : Nat) (x : Int) (H : St W w (blk g (.cells #[.int .i64 x] 2 (0, 0)) :: F)) : Calls Try.prog 68 #[.slice (some ⟨g, 0, none⟩) 1 1] w (Ret fun v w' => v = .bool (timeB x) ∧ St W w' (blk g (.cells #[.int .i64 x] 2 (0, 0)) :: F)) := by
  refine calls_of_go (n := 18) Try.func68 rfl Try.ntmps68 rfl ?_
  refine g_seq ?_
  refine g_region ?_
  refine r_cons (s_assign (.bool false) rfl rfl ?_)
  refine r_nil ?_
  refine g_seq ?_
  refine g_seq ?_
  refine g_region ?_
  refine r_cons (s_move (.slice (some ⟨g, 0, none⟩) 1 1) rfl rfl ?_)
  refine r_cons (s_len 1 rfl ⟨_, un_174⟩ rfl ?_)
  refine r_cons (s_move (.int .i64 0) rfl rfl ?_)
  refine r_nil ?_
  refine g_block ?_
  refine g_loop ?_
  refine g_seq ?_
  refine g_region ?_
  refine r_cons (s_lss true rfl rfl (dtrue (by decide)) rfl ?_)
  refine r_nil ?_
  refine g_seq ?_
  refine g_true rfl ?_
  refine g_skip ?_
  refine g_seq ?_
  refine g_block ?_
  refine g_seq ?_
  refine g_region ?_
  refine r_cons (s_indexAddr g 0 1 0 rfl rfl el_174 (by omega) rfl rfl ?_)
  refine r_cons (s_load (.int .i64 x) ag_2 rfl (H.blk_at (i := 0) rfl) rfl rfl ?_)
  refine r_cons (s_assign (.int .i64 x) rfl rfl ?_)
  refine r_nil ?_
  refine g_seq ?_
  refine g_region ?_
  refine r_cons (s_move (.int .i64 x) rfl rfl ?_)
  by_cases hc1 : x < 0
  · skip
    refine r_cons (s_lss true rfl rfl (dtrue hc1) rfl ?_)
    refine r_cons (s_move (.bool true) rfl rfl ?_)
    refine r_cons (r_pass rfl rfl rfl rfl rfl ?_)
    refine r_cons (r_pass rfl rfl rfl rfl rfl ?_)
    refine r_cons (s_pick_t (.bool true) rfl rfl rfl ?_)
    refine r_nil ?_
    refine g_true rfl ?_
    refine g_seq ?_
    refine g_region ?_
    refine r_cons (s_assign (.bool false) rfl rfl ?_)
    refine r_nil ?_
    refine g_ret' [.bool false] Try.func68 Try.results68 ⟨rfl, trivial⟩ ?_
    have H2 : St W w (blk g (.cells #[.int .i64 x] 2 (0, 0)) :: F) := H
    exact ⟨congrArg Value.bool (by unfold timeB; first | exact (decide_eq_true (by omega)).symm | exact (decide_eq_false (by omega)).symm), H2⟩
  · skip
    refine r_cons (s_lss false rfl rfl (dfalse hc1) rfl ?_)
    refine r_cons (s_move (.bool false) rfl rfl ?_)
    refine r_cons (r_take rfl rfl ?_)
    refine s_move (.int .i64 x) rfl rfl ?_
    refine r_cons (r_take rfl rfl ?_)
    by_cases hc3 : (1099511627776 : Int) < x
    · skip
      refine s_gtr true rfl rfl (dtrue hc3) rfl ?_
      refine r_cons (s_pick_f (.bool true) rfl rfl rfl ?_)
      refine r_nil ?_
      refine g_true rfl ?_
      refine g_seq ?_
      refine g_region ?_
      refine r_cons (s_assign (.bool false) rfl rfl ?_)
      refine r_nil ?_
      refine g_ret' [.bool false] Try.func68 Try.results68 ⟨rfl, trivial⟩ ?_
      have H4 : St W w (blk g (.cells #[.int .i64 x] 2 (0, 0)) :: F) := H
      exact ⟨congrArg Value.bool (by unfold timeB; first | exact (decide_eq_true (by omega)).symm | exact (decide_eq_false (by omega)).symm), H4⟩
    · skip
      refine s_gtr false rfl rfl (dfalse hc3) rfl ?_
      refine r_cons (s_pick_f (.bool false) rfl rfl rfl ?_)
      refine r_nil ?_
      refine g_false rfl ?_
      refine g_skip ?_
      refine g_inBlock ?_
      refine g_region ?_
      refine r_cons (s_add 1 rfl rfl (wi64 (by omega)) rfl ?_)
      refine r_cons (s_move (.int .i64 1) rfl rfl ?_)
      refine r_nil ?_
      refine g_inLoop ?_
      refine g_seq ?_
      refine g_region ?_
      refine r_cons (s_lss false rfl rfl (dfalse (by decide)) rfl ?_)
      refine r_nil ?_
      refine g_seq ?_
      refine g_false rfl ?_
      refine g_exit (by rfl) ?_
      refine g_seq ?_
      refine g_region ?_
      refine r_cons (s_assign (.bool true) rfl rfl ?_)
      refine r_nil ?_
      refine g_ret' [.bool true] Try.func68 Try.results68 ⟨rfl, trivial⟩ ?_
      have H5 : St W w (blk g (.cells #[.int .i64 x] 2 (0, 0)) :: F) := H
      exact ⟨congrArg Value.bool (by unfold timeB; first | exact (decide_eq_true (by omega)).symm | exact (decide_eq_false (by omega)).symm), H5⟩
set_option maxHeartbeats 4000000 in
set_option maxRecDepth 100000 in
theorem migrate_Cut {W w : World} {F : List Atom} (op : I64) (s : List UInt8) (v0 : Value) (hs : s.length ≤ 140737488355328) {j : Nat} (hj : F[j]? = some (Im 1 v0 s.length (s.flatMap u8c))) (H : St W w F) : Calls Try.prog 33 #[.int .i64 op.v, v0] w (Ret fun v w' => ∃ (L : List PieceD) (p : Option Addr) (c : Nat), v = .tuple #[.slice p L.length c, .int .i64 (cutE op s)] ∧ L.map PieceD.v = cutV op s ∧ St W w' (Row 51 4 (.slice p L.length c) L.length (L.flatMap pcCell) :: pcA L :: F)) := by
  obtain ⟨pp1, cc2, rfl, hsh3⟩ := Rd.shape (Im.rd H (i := j) hj)
  have H4 := H.dup (i := j) hj (Im_pers _ _ _ _)
  have hmlH4 := Im.len H4 (i := 0) rfl
  refine calls_of_go (n := 48) Try.func33 rfl Try.ntmps33 rfl ?_
  refine g_seq ?_
  refine g_region ?_
  refine r_cons (s_assign (.slice none 0 0) rfl rfl ?_)
  refine r_cons (s_assign (.int .i64 0) rfl rfl ?_)
  refine r_nil ?_
  refine g_seq ?_
  refine g_seq ?_
  refine g_region ?_
  refine r_cons (s_move (.int .i64 op.v) rfl rfl ?_)
  refine r_cons (s_buildSlice H4 1 1 (cs := #[.int .i64 op.v]) #[.int .i64 0] el_174 ze_2 (by decide) (by decide) (by kernel_rfl) rfl ?_); intro bk5 w6 H7
  refine r_cons (s_call [.slice (some ⟨bk5, 0, none⟩) 1 1] pl_68 rfl rfl (time1 bk5 op.v H7) ?_)
  rintro _ w8 ⟨rfl, H9⟩
  refine r_cons (s_not (timeB op.v) rfl (!(timeB op.v)) rfl rfl ?_)
  refine r_nil ?_
  by_cases hb10 : (!(timeB op.v)) = true
  · skip
    refine g_true (congrArg Value.bool hb10) ?_
    refine g_seq ?_
    refine g_region ?_
    refine r_cons (s_assign (.slice none 0 0) rfl rfl ?_)
    refine r_cons (s_assign (.int .i64 1) rfl rfl ?_)
    refine r_nil ?_
    refine g_ret' [.slice none 0 0, .int .i64 1] Try.func33 Try.results33 ⟨rfl, rfl, trivial⟩ ?_
    have hE : cutE op s = 1 := by first | exact cutE_1 (nottrue ‹_›) | exact cutE_3 (notfalse ‹_›) (by omega)
    have H11 := Row.nil_intro H9 51 4
    have H12 := pcA_nil H11
    have H13 : St W w8 (Row 51 4 (.slice none 0 0) 0 [] :: pcA [] :: F) := (((H12.move 1 rfl).drop 2 rfl).drop 2 rfl)
    exact ⟨[], none, 0, by rw [hE]; rfl, by rw [cutV_no (by rw [hE]; decide)]; rfl, H13⟩
  · have hb10 := eq_false_of_ne_true hb10
    refine g_false (congrArg Value.bool hb10) ?_
    refine g_skip ?_
    refine g_seq ?_
    refine g_seq ?_
    refine g_region ?_
    refine r_cons (s_move (.slice pp1 s.length cc2) rfl rfl ?_)
    refine r_cons (s_len s.length rfl ⟨_, un_23⟩ rfl ?_)
    by_cases hc14 : (4194304 : Int) < (s.length : Int)
    · skip
      refine r_cons (s_gtr true rfl rfl (dtrue hc14) rfl ?_)
      refine r_nil ?_
      refine g_true rfl ?_
      refine g_seq ?_
      refine g_region ?_
      refine r_cons (s_assign (.slice none 0 0) rfl rfl ?_)
      refine r_cons (s_assign (.int .i64 3) rfl rfl ?_)
      refine r_nil ?_
      refine g_ret' [.slice none 0 0, .int .i64 3] Try.func33 Try.results33 ⟨rfl, rfl, trivial⟩ ?_
      have hE : cutE op s = 3 := by first | exact cutE_1 (nottrue ‹_›) | exact cutE_3 (notfalse ‹_›) (by omega)
      have H15 := Row.nil_intro H9 51 4
      have H16 := pcA_nil H15
      have H17 : St W w8 (Row 51 4 (.slice none 0 0) 0 [] :: pcA [] :: F) := (((H16.move 1 rfl).drop 2 rfl).drop 2 rfl)
      exact ⟨[], none, 0, by rw [hE]; rfl, by rw [cutV_no (by rw [hE]; decide)]; rfl, H17⟩
    · skip
      refine r_cons (s_gtr false rfl rfl (dfalse hc14) rfl ?_)
      refine r_nil ?_
      refine g_false rfl ?_
      refine g_skip ?_
      refine g_seq ?_
      refine g_region ?_
      refine r_cons (s_move (.slice pp1 s.length cc2) rfl rfl ?_)
      refine r_cons (s_len s.length rfl ⟨_, un_23⟩ rfl ?_)
      refine r_cons (s_add ((s.length : Int) + 4096) rfl rfl (wi64 (by omega)) rfl ?_)
      refine r_cons (s_sub ((s.length : Int) + 4096 - 1) rfl rfl (wi64 (by omega)) rfl ?_)
      refine r_cons (s_quo (((s.length + 4095) / 4096 : Nat) : Int) rfl rfl (by omega) (by rw [tdiv_pos (by omega)]; refine (wi64 (by omega)).trans ?_; omega) rfl ?_)
      refine r_cons (s_max2 ((manyOf s.length : Nat) : Int) rfl rfl (by unfold manyOf; omega) rfl ?_)
      refine r_cons (s_assign (.int .i64 ((manyOf s.length : Nat) : Int)) rfl rfl ?_)
      refine r_nil ?_
      refine g_seq ?_
      refine g_region ?_
      refine r_cons (s_assign (.slice none 0 0) rfl rfl ?_)
      refine r_nil ?_
      refine g_seq ?_
      refine g_seq ?_
      refine g_region ?_
      refine r_cons (s_move (.int .i64 ((manyOf s.length : Nat) : Int)) rfl rfl ?_)
      refine r_cons (s_move (.int .i64 0) rfl rfl ?_)
      refine r_nil ?_
      refine g_block ?_
      have hmm := manyOf_le (n := s.length) (by omega)
      have H18 := Row.nil_intro H9 51 4
      have H19 := pcA_nil H18
      have H20 : St W w8 (Row 51 4 (.slice none 0 0) 0 [] :: pcA ([] : List PieceD) :: Im 1 (.slice pp1 s.length cc2) s.length (s.flatMap u8c) :: F) := ((((H19.move 3 rfl).move 1 rfl).move 2 rfl).drop 3 rfl)
      refine g_loop_inv (fun (x_ : Nat × (List PieceD) × (Option Addr) × Nat) => match x_ with | (j, pre, q, d) => [(0, .int .i64 op.v), (1, .slice pp1 s.length cc2), (4, .slice none 0 0), (5, .int .i64 0), (6, .int .i64 ((manyOf s.length : Nat) : Int)), (7, .slice q pre.length d), (23, .int .i64 ((manyOf s.length : Nat) : Int)), (24, .int .i64 (j : Int))]) (fun (x_ : Nat × (List PieceD) × (Option Addr) × Nat) w => match x_ with | (j, pre, q, d) => (j ≤ manyOf s.length) ∧ (pre.map PieceD.v = cutL op s j) ∧ St W w (Row 51 4 (.slice q pre.length d) pre.length (pre.flatMap pcCell) :: pcA pre :: Im 1 (.slice pp1 s.length cc2) s.length (s.flatMap u8c) :: F)) (fun (x_ : Nat × (List PieceD) × (Option Addr) × Nat) => match x_ with | (j, pre, q, d) => manyOf s.length - j) (0, [], none, 0) ?_ ?_ ?_
      · exact ⟨by first | rfl | exact vint (by omega), by first | rfl | exact vint (by omega), by first | rfl | exact vint (by omega), by first | rfl | exact vint (by omega), by first | rfl | exact vint (by omega), by first | rfl | exact vint (by omega), by first | rfl | exact vint (by omega), by first | rfl | exact vint (by omega), trivial⟩
      · exact ⟨(by omega), rfl, H20⟩
      · rintro ⟨j, pre, q, d⟩ ρ21 w22 ⟨hjn, hp, H23⟩ nx24
        change Ends _ _ (upds ρ21 [(0, .int .i64 op.v), (1, .slice pp1 s.length cc2), (4, .slice none 0 0), (5, .int .i64 0), (6, .int .i64 ((manyOf s.length : Nat) : Int)), (7, .slice q pre.length d), (23, .int .i64 ((manyOf s.length : Nat) : Int)), (24, .int .i64 (j : Int))]) w22
        have hpl := mapP_len hp
        rw [cutL_len] at hpl
        refine g_seq ?_
        refine g_region ?_
        by_cases hc25 : (j : Int) < ((manyOf s.length : Nat) : Int)
        · skip
          refine r_cons (s_lss true rfl rfl (dtrue hc25) rfl ?_)
          refine r_nil ?_
          refine g_seq ?_
          refine g_true rfl ?_
          refine g_skip ?_
          refine g_seq ?_
          refine g_block ?_
          refine g_seq ?_
          refine g_region ?_
          refine r_cons (s_move (.int .i64 (j : Int)) rfl rfl ?_)
          refine r_cons (s_assign (.int .i64 (j : Int)) rfl rfl ?_)
          refine r_nil ?_
          refine g_seq ?_
          refine g_region ?_
          have hj4 := manyOf_lt (n := s.length) (j := j) (by omega)
          have hcl := cut_len s j hj4
          have hcd := cut_data s j hj4
          have hmv := i64N_v (n := manyOf s.length) (by omega)
          have hjv := i64N_v (n := j) (by omega)
          refine r_cons (s_move (.slice pp1 s.length cc2) rfl rfl ?_)
          refine r_cons (s_len s.length rfl ⟨_, un_23⟩ rfl ?_)
          refine r_cons (s_move (.int .i64 (j : Int)) rfl rfl ?_)
          refine r_cons (s_add ((j : Int) + 1) rfl rfl (wi64 (by omega)) rfl ?_)
          refine r_cons (s_mul (((j + 1) * 4096 : Nat) : Int) rfl rfl (wi64 (by omega)) rfl ?_)
          refine r_cons (s_min2 ((min s.length ((j + 1) * 4096) : Nat) : Int) rfl rfl (by omega) rfl ?_)
          refine r_cons (s_assign (.int .i64 ((min s.length ((j + 1) * 4096) : Nat) : Int)) rfl rfl ?_)
          refine r_nil ?_
          refine g_region ?_
          refine r_cons (s_move (.slice q pre.length d) rfl rfl ?_)
          refine r_cons (s_move (.int .i64 op.v) rfl rfl ?_)
          refine r_cons (s_move (.int .i64 ((manyOf s.length : Nat) : Int)) rfl rfl ?_)
          refine r_cons (s_move (.int .i64 (j : Int)) rfl rfl ?_)
          refine r_cons (s_move (.slice pp1 s.length cc2) rfl rfl ?_)
          refine r_cons (s_move (.int .i64 (j : Int)) rfl rfl ?_)
          refine r_cons (s_mul ((j * 4096 : Nat) : Int) rfl rfl (wi64 (by omega)) rfl ?_)
          refine r_cons (s_move (.int .i64 ((min s.length ((j + 1) * 4096) : Nat) : Int)) rfl rfl ?_)
          have hc26 := Im.cap H23 (i := 2) rfl
          refine r_cons (s_slice pp1 ((j * 4096 : Nat) : Int) ((min s.length ((j + 1) * 4096) : Nat) : Int) 1 (.slice (cutAt pp1 (j * 4096) cc2 1) ((min s.length ((j + 1) * 4096)) - (j * 4096)) (cc2 - (j * 4096))) rfl rfl rfl el_23 (by omega) (by first | rfl | (congr 1; omega)) rfl ?_)
          have H27 : St W w22 (Im 1 (.slice (cutAt pp1 (j * 4096) cc2 1) ((min s.length ((j + 1) * 4096)) - (j * 4096)) (cc2 - (j * 4096))) ((min s.length ((j + 1) * 4096)) - (j * 4096)) (((s.drop (j * 4096)).take ((min s.length ((j + 1) * 4096)) - (j * 4096))).flatMap u8c) :: Row 51 4 (.slice q pre.length d) pre.length (pre.flatMap pcCell) :: pcA pre :: Im 1 (.slice pp1 s.length cc2) s.length (s.flatMap u8c) :: F) := Im.cut u8c_len (j * 4096) (min s.length ((j + 1) * 4096)) H23 (i := 2) rfl (by omega) (by omega)
          refine r_cons (s_call [.slice (cutAt pp1 (j * 4096) cc2 1) ((min s.length ((j + 1) * 4096)) - (j * 4096)) (cc2 - (j * 4096))] pl_73 rfl rfl (bytes_Clone _ _ ((min s.length ((j + 1) * 4096)) - (j * 4096)) (((s.drop (j * 4096)).take ((min s.length ((j + 1) * 4096)) - (j * 4096))).flatMap u8c) RdA.im (by first | omega | (have hlp := Nat.le_refl 0; omega)) (j := 0) rfl H27) ?_)
          rintro _ w30 ⟨pp28, cc29, rfl, H31⟩
          refine r_cons (s_build (cs := #[.int .i64 op.v, .int .i64 ((manyOf s.length : Nat) : Int), .int .i64 (j : Int), .slice pp28 ((min s.length ((j + 1) * 4096)) - (j * 4096)) cc29]) (by kernel_rfl) rfl ?_)
          refine r_cons (s_buildSlice H31 4 1 (cs := #[.int .i64 op.v, .int .i64 ((manyOf s.length : Nat) : Int), .int .i64 (j : Int), .slice pp28 ((min s.length ((j + 1) * 4096)) - (j * 4096)) cc29]) #[.int .i64 0, .int .i64 0, .int .i64 0, .slice none 0 0] el_60 ze_51 (by decide) (by decide) (by kernel_rfl) rfl ?_); intro bk32 w33 H34
          refine r_cons (s_append H34 3 rfl rfl rfl (rd_blk (H34.blk_at (i := 0) rfl) rfl (Nat.le_of_ble_eq_true rfl) (by simp [Value.oneCell'])) ap_60 (by decide) (by unfold maxLen; omega) (by omega) (n' := pre.length + 1) (xs' := pre.flatMap pcCell ++ ([.int .i64 op.v, .int .i64 ((manyOf s.length : Nat) : Int), .int .i64 (j : Int), .slice pp28 ((min s.length ((j + 1) * 4096)) - (j * 4096)) cc29] : List Value)) (by omega) (by first | rfl | simp) rfl ?_); intro vv35 w36 H37 hn38
          obtain ⟨pp39, cc40, rfl⟩ := Row.slice H37 (i := 3) rfl
          refine r_cons (s_assign (.slice pp39 (pre.length + 1) cc40) rfl rfl ?_)
          refine r_nil ?_
          refine g_inBlock ?_
          refine g_region ?_
          refine r_cons (s_add ((j : Int) + 1) rfl rfl (wi64 (by omega)) rfl ?_)
          refine r_cons (s_move (.int .i64 ((j : Int) + 1)) rfl rfl ?_)
          refine r_nil ?_
          have H41 : St W w36 (blk bk32 (.cells #[.int .i64 op.v, .int .i64 ((manyOf s.length : Nat) : Int), .int .i64 (j : Int), .slice pp28 ((min s.length ((j + 1) * 4096)) - (j * 4096)) cc29] 51 (0, 0)) :: Row 5 1 (.slice pp28 ((pcAt op s j).data.length) cc29) ((pcAt op s j).data.length) ((pcAt op s j).data.flatMap u8c) :: Im 1 (.slice (cutAt pp1 (j * 4096) cc2 1) ((min s.length ((j + 1) * 4096)) - (j * 4096)) (cc2 - (j * 4096))) ((min s.length ((j + 1) * 4096)) - (j * 4096)) (((s.drop (j * 4096)).take ((min s.length ((j + 1) * 4096)) - (j * 4096))).flatMap u8c) :: Row 51 4 (.slice pp39 (pre.length + 1) cc40) (pre.length + 1) (pre.flatMap pcCell ++ ([.int .i64 op.v, .int .i64 ((manyOf s.length : Nat) : Int), .int .i64 (j : Int), .slice pp28 ((min s.length ((j + 1) * 4096)) - (j * 4096)) cc29] : List Value)) :: pcA pre :: Im 1 (.slice pp1 s.length cc2) s.length (s.flatMap u8c) :: F) := by rw [show ((pcAt op s j).data).length = min s.length ((j + 1) * 4096) - j * 4096 from hcl, show (pcAt op s j).data = (s.drop (j * 4096)).take (min s.length ((j + 1) * 4096) - j * 4096) from hcd.symm]; exact H37
          have H42 : St W w36 (blk bk32 (.cells #[.int .i64 op.v, .int .i64 ((manyOf s.length : Nat) : Int), .int .i64 (j : Int), .slice pp28 ((min s.length ((j + 1) * 4096)) - (j * 4096)) cc29] 51 (0, 0)) :: Im 1 (.slice pp28 ((pcAt op s j).data.length) cc29) (((pcAt op s j).data).length) (((pcAt op s j).data).flatMap u8c) :: Im 1 (.slice (cutAt pp1 (j * 4096) cc2 1) ((min s.length ((j + 1) * 4096)) - (j * 4096)) (cc2 - (j * 4096))) ((min s.length ((j + 1) * 4096)) - (j * 4096)) (((s.drop (j * 4096)).take ((min s.length ((j + 1) * 4096)) - (j * 4096))).flatMap u8c) :: Row 51 4 (.slice pp39 (pre.length + 1) cc40) (pre.length + 1) (pre.flatMap pcCell ++ ([.int .i64 op.v, .int .i64 ((manyOf s.length : Nat) : Int), .int .i64 (j : Int), .slice pp28 ((min s.length ((j + 1) * 4096)) - (j * 4096)) cc29] : List Value)) :: pcA pre :: Im 1 (.slice pp1 s.length cc2) s.length (s.flatMap u8c) :: F) := Row.im H41 (i := 1) rfl
          have H43 : St W w36 (Im 1 (.slice pp28 ((pcAt op s j).data.length) cc29) (((pcAt op s j).data).length) (((pcAt op s j).data).flatMap u8c) :: pcA pre :: blk bk32 (.cells #[.int .i64 op.v, .int .i64 ((manyOf s.length : Nat) : Int), .int .i64 (j : Int), .slice pp28 ((min s.length ((j + 1) * 4096)) - (j * 4096)) cc29] 51 (0, 0)) :: Im 1 (.slice (cutAt pp1 (j * 4096) cc2 1) ((min s.length ((j + 1) * 4096)) - (j * 4096)) (cc2 - (j * 4096))) ((min s.length ((j + 1) * 4096)) - (j * 4096)) (((s.drop (j * 4096)).take ((min s.length ((j + 1) * 4096)) - (j * 4096))).flatMap u8c) :: Row 51 4 (.slice pp39 (pre.length + 1) cc40) (pre.length + 1) (pre.flatMap pcCell ++ ([.int .i64 op.v, .int .i64 ((manyOf s.length : Nat) : Int), .int .i64 (j : Int), .slice pp28 ((min s.length ((j + 1) * 4096)) - (j * 4096)) cc29] : List Value)) :: Im 1 (.slice pp1 s.length cc2) s.length (s.flatMap u8c) :: F) := ((H42.move 4 rfl).move 2 rfl)
          have H44 : St W w36 (pcA (pre ++ [(⟨pcAt op s j, pp28, cc29⟩ : PieceD)]) :: blk bk32 (.cells #[.int .i64 op.v, .int .i64 ((manyOf s.length : Nat) : Int), .int .i64 (j : Int), .slice pp28 ((min s.length ((j + 1) * 4096)) - (j * 4096)) cc29] 51 (0, 0)) :: Im 1 (.slice (cutAt pp1 (j * 4096) cc2 1) ((min s.length ((j + 1) * 4096)) - (j * 4096)) (cc2 - (j * 4096))) ((min s.length ((j + 1) * 4096)) - (j * 4096)) (((s.drop (j * 4096)).take ((min s.length ((j + 1) * 4096)) - (j * 4096))).flatMap u8c) :: Row 51 4 (.slice pp39 (pre.length + 1) cc40) (pre.length + 1) (pre.flatMap pcCell ++ ([.int .i64 op.v, .int .i64 ((manyOf s.length : Nat) : Int), .int .i64 (j : Int), .slice pp28 ((min s.length ((j + 1) * 4096)) - (j * 4096)) cc29] : List Value)) :: Im 1 (.slice pp1 s.length cc2) s.length (s.flatMap u8c) :: F) := pcA_snoc (x := (⟨pcAt op s j, pp28, cc29⟩ : PieceD)) H43
          have hpc : pcCell (⟨pcAt op s j, pp28, cc29⟩ : PieceD) = [.int .i64 op.v, .int .i64 ((manyOf s.length : Nat) : Int), .int .i64 (j : Int), .slice pp28 ((min s.length ((j + 1) * 4096)) - (j * 4096)) cc29] := by show [_, Value.int .i64 (i64N _).v, Value.int .i64 (i64N _).v, Value.slice _ (pcAt op s j).data.length _] = _; rw [hmv, hjv, show (pcAt op s j).data.length = min s.length ((j + 1) * 4096) - j * 4096 from hcl]; rfl
          have H45 : St W w36 (pcA (pre ++ [(⟨pcAt op s j, pp28, cc29⟩ : PieceD)]) :: blk bk32 (.cells #[.int .i64 op.v, .int .i64 ((manyOf s.length : Nat) : Int), .int .i64 (j : Int), .slice pp28 ((min s.length ((j + 1) * 4096)) - (j * 4096)) cc29] 51 (0, 0)) :: Im 1 (.slice (cutAt pp1 (j * 4096) cc2 1) ((min s.length ((j + 1) * 4096)) - (j * 4096)) (cc2 - (j * 4096))) ((min s.length ((j + 1) * 4096)) - (j * 4096)) (((s.drop (j * 4096)).take ((min s.length ((j + 1) * 4096)) - (j * 4096))).flatMap u8c) :: Row 51 4 (.slice pp39 ((pre ++ [(⟨pcAt op s j, pp28, cc29⟩ : PieceD)]).length) cc40) ((pre ++ [(⟨pcAt op s j, pp28, cc29⟩ : PieceD)]).length) ((pre ++ [(⟨pcAt op s j, pp28, cc29⟩ : PieceD)]).flatMap pcCell) :: Im 1 (.slice pp1 s.length cc2) s.length (s.flatMap u8c) :: F) := by rw [flat_snocP, List.length_append, hpc]; exact H44
          have H46 : St W w36 (Row 51 4 (.slice pp39 ((pre ++ [(⟨pcAt op s j, pp28, cc29⟩ : PieceD)]).length) cc40) ((pre ++ [(⟨pcAt op s j, pp28, cc29⟩ : PieceD)]).length) ((pre ++ [(⟨pcAt op s j, pp28, cc29⟩ : PieceD)]).flatMap pcCell) :: pcA (pre ++ [(⟨pcAt op s j, pp28, cc29⟩ : PieceD)]) :: Im 1 (.slice pp1 s.length cc2) s.length (s.flatMap u8c) :: F) := (((((H45.move 4 rfl).move 1 rfl).move 4 rfl).drop 3 rfl).drop 3 rfl)
          exact nx24 (j + 1, (pre ++ [(⟨pcAt op s j, pp28, cc29⟩ : PieceD)]), pp39, cc40) _ _ ⟨(by omega), (cut_step hp), H46⟩ (by first | (dsimp only; omega) | omega) ⟨by first | rfl | exact vint (by omega), by first | rfl | exact vint (by omega), by first | rfl | exact vint (by omega), by first | rfl | exact vint (by omega), by first | rfl | exact vint (by omega), by first | rfl | (show Value.slice _ _ _ = _; rw [List.length_append]; rfl), by first | rfl | exact vint (by omega), by first | rfl | exact vint (by omega), trivial⟩
        · skip
          refine r_cons (s_lss false rfl rfl (dfalse hc25) rfl ?_)
          refine r_nil ?_
          refine g_seq ?_
          refine g_false rfl ?_
          refine g_exit (by rfl) ?_
          refine g_seq ?_
          refine g_region ?_
          refine r_cons (s_move (.slice q pre.length d) rfl rfl ?_)
          refine r_cons (s_assign (.slice q pre.length d) rfl rfl ?_)
          refine r_cons (s_assign (.int .i64 0) rfl rfl ?_)
          refine r_nil ?_
          refine g_ret' [.slice q pre.length d, .int .i64 0] Try.func33 Try.results33 ⟨rfl, rfl, trivial⟩ ?_
          have hE : cutE op s = 0 := cutE_0 (notfalse ‹_›) (by omega)
          have H47 : St W w22 (Row 51 4 (.slice q pre.length d) pre.length (pre.flatMap pcCell) :: pcA pre :: F) := (((H23.move 1 rfl).move 1 rfl).drop 2 rfl)
          have hje : j = manyOf s.length := by omega
          exact ⟨pre, _, _, by rw [hE]; rfl, by rw [cutV_yes hE, ← hje]; exact hp, H47⟩
/-- Bits that were put. -/
def SinkA (b : Nat) (L : List Bool) : Atom := ex fun v : Value => star [blk b (.cells #[.bool true, v, .int .i64 (L.length : Int)] 177 (0, 0)), Row 5 1 v ((L.length + 7) / 8) ((pk L).flatMap u8c)]
set_option maxHeartbeats 4000000 in
set_option maxRecDepth 100000 in
theorem Sink_put {W w : World} {F : List Atom} (b : Nat) (L : List Bool) (x : Bool) (hb : L.length ≤ 1099511627776) {i : Nat} (hi : F[i]? = some (SinkA b L)) (H : St W w F) : Calls Try.prog 139 #[.pointer (some ⟨b, 0, none⟩), .bool x] w (Ret fun v w' => v = .tuple #[] ∧ St W w' (F.set i (SinkA b (L ++ [x])))) := by
  have H0 := H.front hi
  refine calls_of_go (n := 46) Try.func139 rfl Try.ntmps139 rfl ?_
  refine g_seq ?_
  refine g_seq ?_
  refine g_region ?_
  refine r_cons (s_move (.pointer (some ⟨b, 0, none⟩)) rfl rfl ?_)
  refine r_cons (s_nilCheck (.pointer (some ⟨b, 0, none⟩)) rfl ⟨_, rfl⟩ rfl ?_)
  refine r_cons (s_fieldAddr 177 2 2 2 3 rfl fi_177_2 rfl rfl ?_)
  have H1 := H0.move 0 rfl
  obtain ⟨vv2, H3⟩ := St.open_ex H1
  have H4 := St.open_star H3
  obtain ⟨pp5, cc6, rfl⟩ := Row.slice (i := 1) H4 rfl
  have H7 : St W w (blk b (.cells #[.bool true, .slice pp5 ((L.length + 7) / 8) cc6, .int .i64 (L.length : Int)] 177 (0, 0)) :: Row 5 1 (.slice pp5 ((L.length + 7) / 8) cc6) ((L.length + 7) / 8) ((pk L).flatMap u8c) :: (F.set i emp)) := H4
  refine r_cons (s_load (.int .i64 (L.length : Int)) ag_3 rfl (H7.blk_at (i := 0) rfl) rfl rfl ?_)
  refine r_cons (s_rem ((L.length : Int) % 8) rfl rfl (by omega) (tmod_pos (by omega)) rfl ?_)
  by_cases hc8 : (L.length : Int) % 8 = 0
  · skip
    refine r_cons (s_eql true rfl rfl (dtrue hc8) rfl ?_)
    refine r_nil ?_
    refine g_true rfl ?_
    refine g_region ?_
    refine r_cons (s_move (.pointer (some ⟨b, 0, none⟩)) rfl rfl ?_)
    refine r_cons (s_move (.pointer (some ⟨b, 0, none⟩)) rfl rfl ?_)
    refine r_cons (s_nilCheck (.pointer (some ⟨b, 0, none⟩)) rfl ⟨_, rfl⟩ rfl ?_)
    refine r_cons (s_fieldAddr 177 1 1 1 23 rfl fi_177_1 rfl rfl ?_)
    refine r_cons (s_load (.slice pp5 ((L.length + 7) / 8) cc6) ag_23 rfl (H7.blk_at (i := 0) rfl) rfl rfl ?_)
    refine r_cons (s_buildSlice H7 1 1 (cs := #[.int .u8 0]) #[.int .u8 0] el_23 ze_5 (by decide) (by decide) (by kernel_rfl) rfl ?_); intro bk9 w10 H11
    refine r_cons (s_append H11 2 rfl rfl rfl (rd_blk (H11.blk_at (i := 0) rfl) rfl (Nat.le_of_ble_eq_true rfl) (by simp [Value.oneCell'])) ap_23 (by decide) (by unfold maxLen; omega) (by omega) (n' := L.length / 8 + 1) (xs' := (pkp L).flatMap u8c) (by omega) (by rw [pkp_new L (by omega), flat_snoc]; rfl) rfl ?_); intro vv12 w13 H14 hn15
    obtain ⟨pp16, cc17, rfl⟩ := Row.slice H14 (i := 2) rfl
    refine r_cons (s_nilCheck (.pointer (some ⟨b, 0, none⟩)) rfl ⟨_, rfl⟩ rfl ?_)
    refine r_cons (s_fieldAddr 177 1 1 1 23 rfl fi_177_1 rfl rfl ?_)
    refine r_cons (s_store H14 1 (.slice pp16 (L.length / 8 + 1) cc17) rfl rfl rfl sz_23 rfl (Nat.le_of_ble_eq_true rfl) rfl (cs' := #[.bool true, .slice pp16 (L.length / 8 + 1) cc17, .int .i64 (L.length : Int)]) rfl ?_); intro w18 H19
    refine r_nil ?_
    refine g_seq ?_
    refine g_seq ?_
    refine g_region ?_
    obtain ⟨bk20, cur21, hp22, h23, h24, h25, h26, h27, H28⟩ := Row.open2 H19 (i := 2) rfl (by omega)
    refine r_cons (s_move (.bool x) rfl rfl ?_)
    refine r_nil ?_
    by_cases hb29 : (x) = true
    · skip
      refine g_true (congrArg Value.bool hb29) ?_
      refine g_mix (fun t_ w => St W w (blk bk9 (.cells #[.int .u8 0] 5 (0, 0)) :: blk b (.cells #[.bool true, .slice pp16 (L.length / 8 + 1) cc17, .int .i64 (L.length : Int)] 177 (0, 0)) :: t_)) (blk bk20 (.cells cur21 5 (0, 0)) :: (F.set i emp)) mixed 20 rfl H28.drew ?_
      refine f_first 0 (listed' := #[true, false, false, false, false, false, false, false, false, false, false, false, false, false, false, false, false, false, false, false]) rfl (by kernel_rfl) (by kernel_rfl) (by kernel_rfl) rfl ?_
      refine f_val rfl rfl rfl (by intro t_ w hw; exact x_move (.pointer (some ⟨b, 0, none⟩)) rfl w) ?_
      refine f_first 1 (listed' := #[true, true, false, false, false, false, false, false, false, false, false, false, false, false, false, false, false, false, false, false]) rfl (by kernel_rfl) (by kernel_rfl) (by kernel_rfl) rfl ?_
      refine f_val rfl rfl rfl (by intro t_ w hw; exact x_nilCheck (.pointer (some ⟨b, 0, none⟩)) rfl ⟨_, rfl⟩ w) ?_
      refine f_first 2 (listed' := #[true, true, true, false, false, false, false, false, false, false, false, false, false, false, false, false, false, false, false, false]) rfl (by kernel_rfl) (by kernel_rfl) (by kernel_rfl) rfl ?_
      refine f_val rfl rfl rfl (by intro t_ w hw; exact x_fieldAddr 177 1 1 1 23 rfl fi_177_1 rfl w) ?_
      refine f_first 3 (listed' := #[true, true, true, true, false, false, false, false, false, false, false, false, false, false, false, false, false, false, false, false]) rfl (by kernel_rfl) (by kernel_rfl) (by kernel_rfl) rfl ?_
      refine f_val rfl rfl rfl (by intro t_ w hw; exact x_load (.slice pp16 (L.length / 8 + 1) cc17) ag_23 rfl (hw.blk_at (i := 1) rfl) rfl) ?_
      refine f_first 4 (listed' := #[true, true, true, true, true, false, false, false, false, false, false, false, false, false, false, false, false, false, false, false]) rfl (by kernel_rfl) (by kernel_rfl) (by kernel_rfl) rfl ?_
      refine f_val rfl rfl rfl (by intro t_ w hw; exact x_move (.pointer (some ⟨b, 0, none⟩)) rfl w) ?_
      refine f_first 5 (listed' := #[true, true, true, true, true, true, false, false, false, false, false, false, false, false, false, false, false, false, false, false]) rfl (by kernel_rfl) (by kernel_rfl) (by kernel_rfl) rfl ?_
      refine f_val rfl rfl rfl (by intro t_ w hw; exact x_nilCheck (.pointer (some ⟨b, 0, none⟩)) rfl ⟨_, rfl⟩ w) ?_
      refine f_first 6 (listed' := #[true, true, true, true, true, true, true, false, false, false, false, false, false, false, false, false, false, false, false, false]) rfl (by kernel_rfl) (by kernel_rfl) (by kernel_rfl) rfl ?_
      refine f_val rfl rfl rfl (by intro t_ w hw; exact x_fieldAddr 177 2 2 2 3 rfl fi_177_2 rfl w) ?_
      refine f_first 7 (listed' := #[true, true, true, true, true, true, true, true, false, false, false, false, false, false, false, false, false, false, false, false]) rfl (by kernel_rfl) (by kernel_rfl) (by kernel_rfl) rfl ?_
      refine f_val rfl rfl rfl (by intro t_ w hw; exact x_load (.int .i64 (L.length : Int)) ag_3 rfl (hw.blk_at (i := 1) rfl) rfl) ?_
      refine f_first 8 (listed' := #[true, true, true, true, true, true, true, true, true, false, false, false, false, false, false, false, false, false, false, false]) rfl (by kernel_rfl) (by kernel_rfl) (by kernel_rfl) rfl ?_
      refine f_val rfl rfl rfl (by intro t_ w hw; exact x_quo ((L.length : Int) / 8) rfl rfl (by omega) (by rw [tdiv_pos (by omega)]; exact wi64 (by omega)) w) ?_
      refine f_first 9 (listed' := #[true, true, true, true, true, true, true, true, true, true, false, false, false, false, false, false, false, false, false, false]) rfl (by kernel_rfl) (by kernel_rfl) (by kernel_rfl) rfl ?_
      refine f_val rfl rfl rfl (by intro t_ w hw; exact x_indexAddr bk20 (off := 0) ((L.length : Int) / 8) 1 (0 + (L.length / 8) * 1) (by exact congrArg (fun z_ => Value.slice z_ (L.length / 8 + 1) cc17) ((fun (_ : 0 < 1) => hp22) (by omega))) rfl el_23 (by omega) (by rw [show ((L.length : Int) / 8 : Int).toNat = L.length / 8 from by omega]) w) ?_
      refine f_first 11 (listed' := #[true, true, true, true, true, true, true, true, true, true, false, true, false, false, false, false, false, false, false, false]) rfl (by kernel_rfl) (by kernel_rfl) (by kernel_rfl) rfl ?_
      refine f_val rfl rfl rfl (by intro t_ w hw; exact x_move (.pointer (some ⟨b, 0, none⟩)) rfl w) ?_
      refine f_first 12 (listed' := #[true, true, true, true, true, true, true, true, true, true, false, true, true, false, false, false, false, false, false, false]) rfl (by kernel_rfl) (by kernel_rfl) (by kernel_rfl) rfl ?_
      refine f_val rfl rfl rfl (by intro t_ w hw; exact x_nilCheck (.pointer (some ⟨b, 0, none⟩)) rfl ⟨_, rfl⟩ w) ?_
      refine f_first 13 (listed' := #[true, true, true, true, true, true, true, true, true, true, false, true, true, true, false, false, false, false, false, false]) rfl (by kernel_rfl) (by kernel_rfl) (by kernel_rfl) rfl ?_
      refine f_val rfl rfl rfl (by intro t_ w hw; exact x_fieldAddr 177 2 2 2 3 rfl fi_177_2 rfl w) ?_
      refine f_first 14 (listed' := #[true, true, true, true, true, true, true, true, true, true, false, true, true, true, true, false, false, false, false, false]) rfl (by kernel_rfl) (by kernel_rfl) (by kernel_rfl) rfl ?_
      refine f_val rfl rfl rfl (by intro t_ w hw; exact x_load (.int .i64 (L.length : Int)) ag_3 rfl (hw.blk_at (i := 1) rfl) rfl) ?_
      refine f_first 15 (listed' := #[true, true, true, true, true, true, true, true, true, true, false, true, true, true, true, true, false, false, false, false]) rfl (by kernel_rfl) (by kernel_rfl) (by kernel_rfl) rfl ?_
      refine f_val rfl rfl rfl (by intro t_ w hw; exact x_rem ((L.length : Int) % 8) rfl rfl (by omega) (tmod_pos (by omega)) w) ?_
      refine f_first 16 (listed' := #[true, true, true, true, true, true, true, true, true, true, false, true, true, true, true, true, true, false, false, false]) rfl (by kernel_rfl) (by kernel_rfl) (by kernel_rfl) rfl ?_
      refine f_val rfl rfl rfl (by intro t_ w hw; exact x_shr ((2 ^ (7 - L.length % 8) : Nat) : Int) rfl rfl (by omega) (shr128 L.length (by omega)) w) ?_
      refine f_all (rs := [10]) (by kernel_rfl) (by simp) ?_
      refine a_cons ⟨_, rfl, ?_⟩ (fun x hx => absurd hx (by simp))
      intro w30 H31
      try dsimp only at H31
      refine s_load (.int .u8 (((pkp L).getD (L.length / 8) 0).toNat : Int)) ag_5 rfl (H31.blk_at (i := 2) rfl) (elem_cell (L := pkp L) (i := L.length / 8) u8c_len (by rw [pkp_len L]; exact h26) (by have hh : (pkp L).length = L.length / 8 + 1 := pkp_len L; omega) 0 0 (by decide) _ rfl) rfl ?_
      refine ⟨blk bk20 (.cells cur21 5 (0, 0)) :: (F.set i emp), ?_, H31⟩
      change FReg _ _ _ _ _ #[true, true, true, true, true, true, true, true, true, true, true, true, true, true, true, true, true, false, false, false] _ _
      refine f_first 17 (listed' := #[true, true, true, true, true, true, true, true, true, true, true, true, true, true, true, true, true, true, false, false]) rfl (by kernel_rfl) (by kernel_rfl) (by kernel_rfl) rfl ?_
      refine f_val rfl rfl rfl (by intro t_ w hw; exact x_or ((byteN L (L.length / 8) + 2 ^ (7 - L.length % 8) : Nat) : Int) rfl rfl (or_put L) w) ?_
      refine f_first 18 (listed' := #[true, true, true, true, true, true, true, true, true, true, true, true, true, true, true, true, true, true, true, false]) rfl (by kernel_rfl) (by kernel_rfl) (by kernel_rfl) rfl ?_
      refine f_val rfl rfl rfl (by intro t_ w hw; exact x_indexAddr bk20 (off := 0) ((L.length : Int) / 8) 1 (0 + (L.length / 8) * 1) (by exact congrArg (fun z_ => Value.slice z_ (L.length / 8 + 1) cc17) ((fun (_ : 0 < 1) => hp22) (by omega))) rfl el_23 (by omega) (by rw [show ((L.length : Int) / 8 : Int).toNat = L.length / 8 from by omega]) w) ?_
      refine f_all (rs := [19]) (by kernel_rfl) (by simp) ?_
      refine a_cons ⟨_, rfl, ?_⟩ (fun x hx => absurd hx (by simp))
      intro w32 H33
      try dsimp only at H33
      have hx36 := row_set1 (f := u8c) (L := pkp L) (cur := cur21) u8c_len (by rw [pkp_len L]; exact h26) (show (pkp L).length * 1 ≤ cur21.size by rw [pkp_len L, h25]; exact Nat.mul_le_mul_right 1 h23) (j := L.length / 8) (by have hh := pkp_len L; omega) 0 (.int .u8 ((byteN L (L.length / 8) + 2 ^ (7 - L.length % 8) : Nat) : Int)) (UInt8.ofNat (byteN L (L.length / 8) + 2 ^ (7 - L.length % 8))) (u8_set (byte_or_lt L))
      refine s_store H33 2 (.int .u8 ((byteN L (L.length / 8) + 2 ^ (7 - L.length % 8) : Nat) : Int)) rfl rfl rfl sz_5 rfl (by have hh := pkp_len L; have hk := (show (pkp L).length * 1 ≤ cur21.size by rw [pkp_len L, h25]; exact Nat.mul_le_mul_right 1 h23); omega) rfl (cs' := (cur21.setIfInBounds (0 + (L.length / 8) * 1) (.int .u8 ((byteN L (L.length / 8) + 2 ^ (7 - L.length % 8) : Nat) : Int)))) rfl ?_; intro w34 H35
      refine ⟨blk bk20 (.cells (cur21.setIfInBounds (0 + (L.length / 8) * 1) (.int .u8 ((byteN L (L.length / 8) + 2 ^ (7 - L.length % 8) : Nat) : Int))) 5 (0, 0)) :: (F.set i emp), ?_, H35⟩
      change FReg _ _ _ _ _ #[true, true, true, true, true, true, true, true, true, true, true, true, true, true, true, true, true, true, true, true] _ _
      refine f_done (by kernel_rfl) ?_
      intro w37 H38
      refine g_region ?_
      refine r_cons (s_move (.pointer (some ⟨b, 0, none⟩)) rfl rfl ?_)
      refine r_cons (s_nilCheck (.pointer (some ⟨b, 0, none⟩)) rfl ⟨_, rfl⟩ rfl ?_)
      refine r_cons (s_fieldAddr 177 2 2 2 3 rfl fi_177_2 rfl rfl ?_)
      refine r_cons (s_load (.int .i64 (L.length : Int)) ag_3 rfl (H38.blk_at (i := 1) rfl) rfl rfl ?_)
      refine r_cons (s_add ((L.length : Int) + 1) rfl rfl (wi64 (by omega)) rfl ?_)
      refine r_cons (s_nilCheck (.pointer (some ⟨b, 0, none⟩)) rfl ⟨_, rfl⟩ rfl ?_)
      refine r_cons (s_fieldAddr 177 2 2 2 3 rfl fi_177_2 rfl rfl ?_)
      refine r_cons (s_store H38 1 (.int .i64 ((L.length : Int) + 1)) rfl rfl rfl sz_3 rfl (Nat.le_of_ble_eq_true rfl) rfl (cs' := #[.bool true, .slice pp16 (L.length / 8 + 1) cc17, .int .i64 ((L.length : Int) + 1)]) rfl ?_); intro w39 H40
      refine r_nil ?_
      refine g_end' [] Try.func139 Try.results139 trivial ?_
      have H41 := Row.shut2 (p := pp16) (n := L.length / 8 + 1) (c := cc17) (size := 1) (xs := ((pkp L).set (L.length / 8) (UInt8.ofNat (byteN L (L.length / 8) + 2 ^ (7 - L.length % 8)))).flatMap u8c) H40 (i := 2) rfl hp22 h23 h24 (show ((cur21.setIfInBounds (0 + (L.length / 8) * 1) (.int .u8 ((byteN L (L.length / 8) + 2 ^ (7 - L.length % 8) : Nat) : Int)))).size = cc17 * 1 from by rw [Array.size_setIfInBounds]; exact h25) (by have hh : ((cur21.setIfInBounds (0 + (L.length / 8) * 1) (.int .u8 ((byteN L (L.length / 8) + 2 ^ (7 - L.length % 8) : Nat) : Int))).toList.drop 0).take (((pkp L).set (L.length / 8) (UInt8.ofNat (byteN L (L.length / 8) + 2 ^ (7 - L.length % 8)))).length * 1) = ((pkp L).set (L.length / 8) (UInt8.ofNat (byteN L (L.length / 8) + 2 ^ (7 - L.length % 8)))).flatMap u8c := hx36; have hk : ((pkp L).set (L.length / 8) (UInt8.ofNat (byteN L (L.length / 8) + 2 ^ (7 - L.length % 8)))).length = L.length / 8 + 1 := (show ((pkp L).set (L.length / 8) (UInt8.ofNat (byteN L (L.length / 8) + 2 ^ (7 - L.length % 8)))).length = L.length / 8 + 1 from by first | (rw [List.length_set]; exact pkp_len L) | rw [List.length_set]); rw [hk] at hh; exact hh) (one_u8 _)
      have H42 : St W w39 (blk b (.cells #[.bool true, .slice pp16 (L.length / 8 + 1) cc17, .int .i64 ((L.length : Int) + 1)] 177 (0, 0)) :: Row 5 1 (.slice pp16 (L.length / 8 + 1) cc17) (L.length / 8 + 1) (((pkp L).set (L.length / 8) (UInt8.ofNat (byteN L (L.length / 8) + 2 ^ (7 - L.length % 8)))).flatMap u8c) :: (F.set i emp)) := (((H41.move 2 rfl).move 2 rfl).drop 2 rfl)
      have H43 : St W w39 (blk b (.cells #[.bool true, .slice pp16 (L.length / 8 + 1) cc17, .int .i64 ((L ++ [true]).length : Int)] 177 (0, 0)) :: Row 5 1 (.slice pp16 (L.length / 8 + 1) cc17) (((L ++ [true]).length + 7) / 8) ((pk (L ++ [true])).flatMap u8c) :: F.set i emp) := by rw [snoc_len, snoc_bytes, pk_snoc_true]; exact H42
      have hx : x = true := hb29
      rw [hx]
      exact ⟨rfl, St.back hi (St.shut_ex (.slice pp16 (L.length / 8 + 1) cc17) (St.shut_star (ls := [blk b (.cells #[.bool true, .slice pp16 (L.length / 8 + 1) cc17, .int .i64 ((L ++ [true]).length : Int)] 177 (0, 0)), Row 5 1 (.slice pp16 (L.length / 8 + 1) cc17) (((L ++ [true]).length + 7) / 8) ((pk (L ++ [true])).flatMap u8c)]) H43))⟩
    · have hb29 := eq_false_of_ne_true hb29
      refine g_false (congrArg Value.bool hb29) ?_
      refine g_skip ?_
      refine g_region ?_
      refine r_cons (s_move (.pointer (some ⟨b, 0, none⟩)) rfl rfl ?_)
      refine r_cons (s_nilCheck (.pointer (some ⟨b, 0, none⟩)) rfl ⟨_, rfl⟩ rfl ?_)
      refine r_cons (s_fieldAddr 177 2 2 2 3 rfl fi_177_2 rfl rfl ?_)
      refine r_cons (s_load (.int .i64 (L.length : Int)) ag_3 rfl (H28.blk_at (i := 1) rfl) rfl rfl ?_)
      refine r_cons (s_add ((L.length : Int) + 1) rfl rfl (wi64 (by omega)) rfl ?_)
      refine r_cons (s_nilCheck (.pointer (some ⟨b, 0, none⟩)) rfl ⟨_, rfl⟩ rfl ?_)
      refine r_cons (s_fieldAddr 177 2 2 2 3 rfl fi_177_2 rfl rfl ?_)
      refine r_cons (s_store H28 1 (.int .i64 ((L.length : Int) + 1)) rfl rfl rfl sz_3 rfl (Nat.le_of_ble_eq_true rfl) rfl (cs' := #[.bool true, .slice pp16 (L.length / 8 + 1) cc17, .int .i64 ((L.length : Int) + 1)]) rfl ?_); intro w44 H45
      refine r_nil ?_
      refine g_end' [] Try.func139 Try.results139 trivial ?_
      have H46 := Row.shut2 (p := pp16) (n := L.length / 8 + 1) (c := cc17) (size := 1) (xs := (pkp L).flatMap u8c) H45 (i := 2) rfl hp22 h23 h24 h25 (by have hh : (cur21.toList.drop 0).take ((pkp L).length * 1) = (pkp L).flatMap u8c := (by rw [pkp_len L]; exact h26); have hk : (pkp L).length = L.length / 8 + 1 := pkp_len L; rw [hk] at hh; exact hh) (one_u8 _)
      have H47 : St W w44 (blk b (.cells #[.bool true, .slice pp16 (L.length / 8 + 1) cc17, .int .i64 ((L.length : Int) + 1)] 177 (0, 0)) :: Row 5 1 (.slice pp16 (L.length / 8 + 1) cc17) (L.length / 8 + 1) ((pkp L).flatMap u8c) :: (F.set i emp)) := (((H46.move 2 rfl).move 2 rfl).drop 2 rfl)
      have H48 : St W w44 (blk b (.cells #[.bool true, .slice pp16 (L.length / 8 + 1) cc17, .int .i64 ((L ++ [false]).length : Int)] 177 (0, 0)) :: Row 5 1 (.slice pp16 (L.length / 8 + 1) cc17) (((L ++ [false]).length + 7) / 8) ((pk (L ++ [false])).flatMap u8c) :: F.set i emp) := by rw [snoc_len, snoc_bytes, pk_snoc_false]; exact H47
      have hx : x = false := hb29
      rw [hx]
      exact ⟨rfl, St.back hi (St.shut_ex (.slice pp16 (L.length / 8 + 1) cc17) (St.shut_star (ls := [blk b (.cells #[.bool true, .slice pp16 (L.length / 8 + 1) cc17, .int .i64 ((L ++ [false]).length : Int)] 177 (0, 0)), Row 5 1 (.slice pp16 (L.length / 8 + 1) cc17) (((L ++ [false]).length + 7) / 8) ((pk (L ++ [false])).flatMap u8c)]) H48))⟩
  · skip
    refine r_cons (s_eql false rfl rfl (dfalse hc8) rfl ?_)
    refine r_nil ?_
    refine g_false rfl ?_
    refine g_skip ?_
    refine g_seq ?_
    refine g_seq ?_
    refine g_region ?_
    have H49 : St W w (blk b (.cells #[.bool true, .slice pp5 (L.length / 8 + 1) cc6, .int .i64 (L.length : Int)] 177 (0, 0)) :: Row 5 1 (.slice pp5 (L.length / 8 + 1) cc6) (L.length / 8 + 1) ((pkp L).flatMap u8c) :: (F.set i emp)) := by rw [pkp_of L (by omega), show L.length / 8 + 1 = (L.length + 7) / 8 from by omega]; exact H7
    obtain ⟨bk50, cur51, hp52, h53, h54, h55, h56, h57, H58⟩ := Row.open2 H49 (i := 1) rfl (by omega)
    refine r_cons (s_move (.bool x) rfl rfl ?_)
    refine r_nil ?_
    by_cases hb59 : (x) = true
    · skip
      refine g_true (congrArg Value.bool hb59) ?_
      refine g_mix (fun t_ w => St W w (blk b (.cells #[.bool true, .slice pp5 (L.length / 8 + 1) cc6, .int .i64 (L.length : Int)] 177 (0, 0)) :: t_)) (blk bk50 (.cells cur51 5 (0, 0)) :: (F.set i emp)) mixed 20 rfl H58.drew ?_
      refine f_first 0 (listed' := #[true, false, false, false, false, false, false, false, false, false, false, false, false, false, false, false, false, false, false, false]) rfl (by kernel_rfl) (by kernel_rfl) (by kernel_rfl) rfl ?_
      refine f_val rfl rfl rfl (by intro t_ w hw; exact x_move (.pointer (some ⟨b, 0, none⟩)) rfl w) ?_
      refine f_first 1 (listed' := #[true, true, false, false, false, false, false, false, false, false, false, false, false, false, false, false, false, false, false, false]) rfl (by kernel_rfl) (by kernel_rfl) (by kernel_rfl) rfl ?_
      refine f_val rfl rfl rfl (by intro t_ w hw; exact x_nilCheck (.pointer (some ⟨b, 0, none⟩)) rfl ⟨_, rfl⟩ w) ?_
      refine f_first 2 (listed' := #[true, true, true, false, false, false, false, false, false, false, false, false, false, false, false, false, false, false, false, false]) rfl (by kernel_rfl) (by kernel_rfl) (by kernel_rfl) rfl ?_
      refine f_val rfl rfl rfl (by intro t_ w hw; exact x_fieldAddr 177 1 1 1 23 rfl fi_177_1 rfl w) ?_
      refine f_first 3 (listed' := #[true, true, true, true, false, false, false, false, false, false, false, false, false, false, false, false, false, false, false, false]) rfl (by kernel_rfl) (by kernel_rfl) (by kernel_rfl) rfl ?_
      refine f_val rfl rfl rfl (by intro t_ w hw; exact x_load (.slice pp5 (L.length / 8 + 1) cc6) ag_23 rfl (hw.blk_at (i := 0) rfl) rfl) ?_
      refine f_first 4 (listed' := #[true, true, true, true, true, false, false, false, false, false, false, false, false, false, false, false, false, false, false, false]) rfl (by kernel_rfl) (by kernel_rfl) (by kernel_rfl) rfl ?_
      refine f_val rfl rfl rfl (by intro t_ w hw; exact x_move (.pointer (some ⟨b, 0, none⟩)) rfl w) ?_
      refine f_first 5 (listed' := #[true, true, true, true, true, true, false, false, false, false, false, false, false, false, false, false, false, false, false, false]) rfl (by kernel_rfl) (by kernel_rfl) (by kernel_rfl) rfl ?_
      refine f_val rfl rfl rfl (by intro t_ w hw; exact x_nilCheck (.pointer (some ⟨b, 0, none⟩)) rfl ⟨_, rfl⟩ w) ?_
      refine f_first 6 (listed' := #[true, true, true, true, true, true, true, false, false, false, false, false, false, false, false, false, false, false, false, false]) rfl (by kernel_rfl) (by kernel_rfl) (by kernel_rfl) rfl ?_
      refine f_val rfl rfl rfl (by intro t_ w hw; exact x_fieldAddr 177 2 2 2 3 rfl fi_177_2 rfl w) ?_
      refine f_first 7 (listed' := #[true, true, true, true, true, true, true, true, false, false, false, false, false, false, false, false, false, false, false, false]) rfl (by kernel_rfl) (by kernel_rfl) (by kernel_rfl) rfl ?_
      refine f_val rfl rfl rfl (by intro t_ w hw; exact x_load (.int .i64 (L.length : Int)) ag_3 rfl (hw.blk_at (i := 0) rfl) rfl) ?_
      refine f_first 8 (listed' := #[true, true, true, true, true, true, true, true, true, false, false, false, false, false, false, false, false, false, false, false]) rfl (by kernel_rfl) (by kernel_rfl) (by kernel_rfl) rfl ?_
      refine f_val rfl rfl rfl (by intro t_ w hw; exact x_quo ((L.length : Int) / 8) rfl rfl (by omega) (by rw [tdiv_pos (by omega)]; exact wi64 (by omega)) w) ?_
      refine f_first 9 (listed' := #[true, true, true, true, true, true, true, true, true, true, false, false, false, false, false, false, false, false, false, false]) rfl (by kernel_rfl) (by kernel_rfl) (by kernel_rfl) rfl ?_
      refine f_val rfl rfl rfl (by intro t_ w hw; exact x_indexAddr bk50 (off := 0) ((L.length : Int) / 8) 1 (0 + (L.length / 8) * 1) (by exact congrArg (fun z_ => Value.slice z_ (L.length / 8 + 1) cc6) ((fun (_ : 0 < 1) => hp52) (by omega))) rfl el_23 (by omega) (by rw [show ((L.length : Int) / 8 : Int).toNat = L.length / 8 from by omega]) w) ?_
      refine f_first 11 (listed' := #[true, true, true, true, true, true, true, true, true, true, false, true, false, false, false, false, false, false, false, false]) rfl (by kernel_rfl) (by kernel_rfl) (by kernel_rfl) rfl ?_
      refine f_val rfl rfl rfl (by intro t_ w hw; exact x_move (.pointer (some ⟨b, 0, none⟩)) rfl w) ?_
      refine f_first 12 (listed' := #[true, true, true, true, true, true, true, true, true, true, false, true, true, false, false, false, false, false, false, false]) rfl (by kernel_rfl) (by kernel_rfl) (by kernel_rfl) rfl ?_
      refine f_val rfl rfl rfl (by intro t_ w hw; exact x_nilCheck (.pointer (some ⟨b, 0, none⟩)) rfl ⟨_, rfl⟩ w) ?_
      refine f_first 13 (listed' := #[true, true, true, true, true, true, true, true, true, true, false, true, true, true, false, false, false, false, false, false]) rfl (by kernel_rfl) (by kernel_rfl) (by kernel_rfl) rfl ?_
      refine f_val rfl rfl rfl (by intro t_ w hw; exact x_fieldAddr 177 2 2 2 3 rfl fi_177_2 rfl w) ?_
      refine f_first 14 (listed' := #[true, true, true, true, true, true, true, true, true, true, false, true, true, true, true, false, false, false, false, false]) rfl (by kernel_rfl) (by kernel_rfl) (by kernel_rfl) rfl ?_
      refine f_val rfl rfl rfl (by intro t_ w hw; exact x_load (.int .i64 (L.length : Int)) ag_3 rfl (hw.blk_at (i := 0) rfl) rfl) ?_
      refine f_first 15 (listed' := #[true, true, true, true, true, true, true, true, true, true, false, true, true, true, true, true, false, false, false, false]) rfl (by kernel_rfl) (by kernel_rfl) (by kernel_rfl) rfl ?_
      refine f_val rfl rfl rfl (by intro t_ w hw; exact x_rem ((L.length : Int) % 8) rfl rfl (by omega) (tmod_pos (by omega)) w) ?_
      refine f_first 16 (listed' := #[true, true, true, true, true, true, true, true, true, true, false, true, true, true, true, true, true, false, false, false]) rfl (by kernel_rfl) (by kernel_rfl) (by kernel_rfl) rfl ?_
      refine f_val rfl rfl rfl (by intro t_ w hw; exact x_shr ((2 ^ (7 - L.length % 8) : Nat) : Int) rfl rfl (by omega) (shr128 L.length (by omega)) w) ?_
      refine f_all (rs := [10]) (by kernel_rfl) (by simp) ?_
      refine a_cons ⟨_, rfl, ?_⟩ (fun x hx => absurd hx (by simp))
      intro w60 H61
      try dsimp only at H61
      refine s_load (.int .u8 (((pkp L).getD (L.length / 8) 0).toNat : Int)) ag_5 rfl (H61.blk_at (i := 1) rfl) (elem_cell (L := pkp L) (i := L.length / 8) u8c_len (by rw [pkp_len L]; exact h56) (by have hh : (pkp L).length = L.length / 8 + 1 := pkp_len L; omega) 0 0 (by decide) _ rfl) rfl ?_
      refine ⟨blk bk50 (.cells cur51 5 (0, 0)) :: (F.set i emp), ?_, H61⟩
      change FReg _ _ _ _ _ #[true, true, true, true, true, true, true, true, true, true, true, true, true, true, true, true, true, false, false, false] _ _
      refine f_first 17 (listed' := #[true, true, true, true, true, true, true, true, true, true, true, true, true, true, true, true, true, true, false, false]) rfl (by kernel_rfl) (by kernel_rfl) (by kernel_rfl) rfl ?_
      refine f_val rfl rfl rfl (by intro t_ w hw; exact x_or ((byteN L (L.length / 8) + 2 ^ (7 - L.length % 8) : Nat) : Int) rfl rfl (or_put L) w) ?_
      refine f_first 18 (listed' := #[true, true, true, true, true, true, true, true, true, true, true, true, true, true, true, true, true, true, true, false]) rfl (by kernel_rfl) (by kernel_rfl) (by kernel_rfl) rfl ?_
      refine f_val rfl rfl rfl (by intro t_ w hw; exact x_indexAddr bk50 (off := 0) ((L.length : Int) / 8) 1 (0 + (L.length / 8) * 1) (by exact congrArg (fun z_ => Value.slice z_ (L.length / 8 + 1) cc6) ((fun (_ : 0 < 1) => hp52) (by omega))) rfl el_23 (by omega) (by rw [show ((L.length : Int) / 8 : Int).toNat = L.length / 8 from by omega]) w) ?_
      refine f_all (rs := [19]) (by kernel_rfl) (by simp) ?_
      refine a_cons ⟨_, rfl, ?_⟩ (fun x hx => absurd hx (by simp))
      intro w62 H63
      try dsimp only at H63
      have hx66 := row_set1 (f := u8c) (L := pkp L) (cur := cur51) u8c_len (by rw [pkp_len L]; exact h56) (show (pkp L).length * 1 ≤ cur51.size by rw [pkp_len L, h55]; exact Nat.mul_le_mul_right 1 h53) (j := L.length / 8) (by have hh := pkp_len L; omega) 0 (.int .u8 ((byteN L (L.length / 8) + 2 ^ (7 - L.length % 8) : Nat) : Int)) (UInt8.ofNat (byteN L (L.length / 8) + 2 ^ (7 - L.length % 8))) (u8_set (byte_or_lt L))
      refine s_store H63 1 (.int .u8 ((byteN L (L.length / 8) + 2 ^ (7 - L.length % 8) : Nat) : Int)) rfl rfl rfl sz_5 rfl (by have hh := pkp_len L; have hk := (show (pkp L).length * 1 ≤ cur51.size by rw [pkp_len L, h55]; exact Nat.mul_le_mul_right 1 h53); omega) rfl (cs' := (cur51.setIfInBounds (0 + (L.length / 8) * 1) (.int .u8 ((byteN L (L.length / 8) + 2 ^ (7 - L.length % 8) : Nat) : Int)))) rfl ?_; intro w64 H65
      refine ⟨blk bk50 (.cells (cur51.setIfInBounds (0 + (L.length / 8) * 1) (.int .u8 ((byteN L (L.length / 8) + 2 ^ (7 - L.length % 8) : Nat) : Int))) 5 (0, 0)) :: (F.set i emp), ?_, H65⟩
      change FReg _ _ _ _ _ #[true, true, true, true, true, true, true, true, true, true, true, true, true, true, true, true, true, true, true, true] _ _
      refine f_done (by kernel_rfl) ?_
      intro w67 H68
      refine g_region ?_
      refine r_cons (s_move (.pointer (some ⟨b, 0, none⟩)) rfl rfl ?_)
      refine r_cons (s_nilCheck (.pointer (some ⟨b, 0, none⟩)) rfl ⟨_, rfl⟩ rfl ?_)
      refine r_cons (s_fieldAddr 177 2 2 2 3 rfl fi_177_2 rfl rfl ?_)
      refine r_cons (s_load (.int .i64 (L.length : Int)) ag_3 rfl (H68.blk_at (i := 0) rfl) rfl rfl ?_)
      refine r_cons (s_add ((L.length : Int) + 1) rfl rfl (wi64 (by omega)) rfl ?_)
      refine r_cons (s_nilCheck (.pointer (some ⟨b, 0, none⟩)) rfl ⟨_, rfl⟩ rfl ?_)
      refine r_cons (s_fieldAddr 177 2 2 2 3 rfl fi_177_2 rfl rfl ?_)
      refine r_cons (s_store H68 0 (.int .i64 ((L.length : Int) + 1)) rfl rfl rfl sz_3 rfl (Nat.le_of_ble_eq_true rfl) rfl (cs' := #[.bool true, .slice pp5 (L.length / 8 + 1) cc6, .int .i64 ((L.length : Int) + 1)]) rfl ?_); intro w69 H70
      refine r_nil ?_
      refine g_end' [] Try.func139 Try.results139 trivial ?_
      have H71 := Row.shut2 (p := pp5) (n := L.length / 8 + 1) (c := cc6) (size := 1) (xs := ((pkp L).set (L.length / 8) (UInt8.ofNat (byteN L (L.length / 8) + 2 ^ (7 - L.length % 8)))).flatMap u8c) H70 (i := 1) rfl hp52 h53 h54 (show ((cur51.setIfInBounds (0 + (L.length / 8) * 1) (.int .u8 ((byteN L (L.length / 8) + 2 ^ (7 - L.length % 8) : Nat) : Int)))).size = cc6 * 1 from by rw [Array.size_setIfInBounds]; exact h55) (by have hh : ((cur51.setIfInBounds (0 + (L.length / 8) * 1) (.int .u8 ((byteN L (L.length / 8) + 2 ^ (7 - L.length % 8) : Nat) : Int))).toList.drop 0).take (((pkp L).set (L.length / 8) (UInt8.ofNat (byteN L (L.length / 8) + 2 ^ (7 - L.length % 8)))).length * 1) = ((pkp L).set (L.length / 8) (UInt8.ofNat (byteN L (L.length / 8) + 2 ^ (7 - L.length % 8)))).flatMap u8c := hx66; have hk : ((pkp L).set (L.length / 8) (UInt8.ofNat (byteN L (L.length / 8) + 2 ^ (7 - L.length % 8)))).length = L.length / 8 + 1 := (show ((pkp L).set (L.length / 8) (UInt8.ofNat (byteN L (L.length / 8) + 2 ^ (7 - L.length % 8)))).length = L.length / 8 + 1 from by first | (rw [List.length_set]; exact pkp_len L) | rw [List.length_set]); rw [hk] at hh; exact hh) (one_u8 _)
      have H72 : St W w69 (blk b (.cells #[.bool true, .slice pp5 (L.length / 8 + 1) cc6, .int .i64 ((L.length : Int) + 1)] 177 (0, 0)) :: Row 5 1 (.slice pp5 (L.length / 8 + 1) cc6) (L.length / 8 + 1) (((pkp L).set (L.length / 8) (UInt8.ofNat (byteN L (L.length / 8) + 2 ^ (7 - L.length % 8)))).flatMap u8c) :: (F.set i emp)) := ((H71.move 1 rfl).move 1 rfl)
      have H73 : St W w69 (blk b (.cells #[.bool true, .slice pp5 (L.length / 8 + 1) cc6, .int .i64 ((L ++ [true]).length : Int)] 177 (0, 0)) :: Row 5 1 (.slice pp5 (L.length / 8 + 1) cc6) (((L ++ [true]).length + 7) / 8) ((pk (L ++ [true])).flatMap u8c) :: F.set i emp) := by rw [snoc_len, snoc_bytes, pk_snoc_true]; exact H72
      have hx : x = true := hb59
      rw [hx]
      exact ⟨rfl, St.back hi (St.shut_ex (.slice pp5 (L.length / 8 + 1) cc6) (St.shut_star (ls := [blk b (.cells #[.bool true, .slice pp5 (L.length / 8 + 1) cc6, .int .i64 ((L ++ [true]).length : Int)] 177 (0, 0)), Row 5 1 (.slice pp5 (L.length / 8 + 1) cc6) (((L ++ [true]).length + 7) / 8) ((pk (L ++ [true])).flatMap u8c)]) H73))⟩
    · have hb59 := eq_false_of_ne_true hb59
      refine g_false (congrArg Value.bool hb59) ?_
      refine g_skip ?_
      refine g_region ?_
      refine r_cons (s_move (.pointer (some ⟨b, 0, none⟩)) rfl rfl ?_)
      refine r_cons (s_nilCheck (.pointer (some ⟨b, 0, none⟩)) rfl ⟨_, rfl⟩ rfl ?_)
      refine r_cons (s_fieldAddr 177 2 2 2 3 rfl fi_177_2 rfl rfl ?_)
      refine r_cons (s_load (.int .i64 (L.length : Int)) ag_3 rfl (H58.blk_at (i := 0) rfl) rfl rfl ?_)
      refine r_cons (s_add ((L.length : Int) + 1) rfl rfl (wi64 (by omega)) rfl ?_)
      refine r_cons (s_nilCheck (.pointer (some ⟨b, 0, none⟩)) rfl ⟨_, rfl⟩ rfl ?_)
      refine r_cons (s_fieldAddr 177 2 2 2 3 rfl fi_177_2 rfl rfl ?_)
      refine r_cons (s_store H58 0 (.int .i64 ((L.length : Int) + 1)) rfl rfl rfl sz_3 rfl (Nat.le_of_ble_eq_true rfl) rfl (cs' := #[.bool true, .slice pp5 (L.length / 8 + 1) cc6, .int .i64 ((L.length : Int) + 1)]) rfl ?_); intro w74 H75
      refine r_nil ?_
      refine g_end' [] Try.func139 Try.results139 trivial ?_
      have H76 := Row.shut2 (p := pp5) (n := L.length / 8 + 1) (c := cc6) (size := 1) (xs := (pkp L).flatMap u8c) H75 (i := 1) rfl hp52 h53 h54 h55 (by have hh : (cur51.toList.drop 0).take ((pkp L).length * 1) = (pkp L).flatMap u8c := (by rw [pkp_len L]; exact h56); have hk : (pkp L).length = L.length / 8 + 1 := pkp_len L; rw [hk] at hh; exact hh) (one_u8 _)
      have H77 : St W w74 (blk b (.cells #[.bool true, .slice pp5 (L.length / 8 + 1) cc6, .int .i64 ((L.length : Int) + 1)] 177 (0, 0)) :: Row 5 1 (.slice pp5 (L.length / 8 + 1) cc6) (L.length / 8 + 1) ((pkp L).flatMap u8c) :: (F.set i emp)) := ((H76.move 1 rfl).move 1 rfl)
      have H78 : St W w74 (blk b (.cells #[.bool true, .slice pp5 (L.length / 8 + 1) cc6, .int .i64 ((L ++ [false]).length : Int)] 177 (0, 0)) :: Row 5 1 (.slice pp5 (L.length / 8 + 1) cc6) (((L ++ [false]).length + 7) / 8) ((pk (L ++ [false])).flatMap u8c) :: F.set i emp) := by rw [snoc_len, snoc_bytes, pk_snoc_false]; exact H77
      have hx : x = false := hb59
      rw [hx]
      exact ⟨rfl, St.back hi (St.shut_ex (.slice pp5 (L.length / 8 + 1) cc6) (St.shut_star (ls := [blk b (.cells #[.bool true, .slice pp5 (L.length / 8 + 1) cc6, .int .i64 ((L ++ [false]).length : Int)] 177 (0, 0)), Row 5 1 (.slice pp5 (L.length / 8 + 1) cc6) (((L ++ [false]).length + 7) / 8) ((pk (L ++ [false])).flatMap u8c)]) H78))⟩
set_option maxHeartbeats 4000000 in
set_option maxRecDepth 100000 in
theorem Len64 {W w : World} {F : List Atom} (u : Nat) (hu : u < 18446744073709551616) (H : St W w F) : Calls Try.prog 138 #[.int .u64 (u : Int)] w (Ret fun v w' => v = .int .i64 (bitLen u : Int) ∧ St W w' F) := by
  refine calls_of_go (n := 25) Try.func138 rfl Try.ntmps138 rfl ?_
  refine g_seq ?_
  refine g_region ?_
  refine r_cons (s_assign (.int .i64 0) rfl rfl ?_)
  refine r_nil ?_
  refine g_seq ?_
  refine g_seq ?_
  refine g_region ?_
  refine r_cons (s_move (.int .u64 (u : Int)) rfl rfl ?_)
  by_cases hc1 : (4294967296 : Int) ≤ (u : Int)
  · skip
    refine r_cons (s_geq true rfl rfl (dtrue hc1) rfl ?_)
    refine r_nil ?_
    refine g_true rfl ?_
    refine g_seq ?_
    refine g_region ?_
    refine r_cons (s_move (.int .u64 (u : Int)) rfl rfl ?_)
    refine r_cons (s_shr ((u / 2 ^ 32 : Nat) : Int) rfl rfl (by omega) (shr_nat (k := 32) rfl (by decide)) rfl ?_)
    refine r_cons (s_assign (.int .u64 ((u / 2 ^ 32 : Nat) : Int)) rfl rfl ?_)
    refine r_nil ?_
    refine g_region ?_
    refine r_cons (s_assign (.int .i64 32) rfl rfl ?_)
    refine r_nil ?_
    refine g_seq ?_
    refine g_seq ?_
    refine g_region ?_
    refine r_cons (s_move (.int .u64 ((u / 2 ^ 32 : Nat) : Int)) rfl rfl ?_)
    by_cases hc2 : (65536 : Int) ≤ ((u / 2 ^ 32 : Nat) : Int)
    · skip
      refine r_cons (s_geq true rfl rfl (dtrue hc2) rfl ?_)
      refine r_nil ?_
      refine g_true rfl ?_
      refine g_seq ?_
      refine g_region ?_
      refine r_cons (s_move (.int .u64 ((u / 2 ^ 32 : Nat) : Int)) rfl rfl ?_)
      refine r_cons (s_shr (((u / 2 ^ 32) / 2 ^ 16 : Nat) : Int) rfl rfl (by omega) (shr_nat (k := 16) rfl (by decide)) rfl ?_)
      refine r_cons (s_assign (.int .u64 (((u / 2 ^ 32) / 2 ^ 16 : Nat) : Int)) rfl rfl ?_)
      refine r_nil ?_
      refine g_region ?_
      refine r_cons (s_move (.int .i64 32) rfl rfl ?_)
      refine r_cons (s_add 48 rfl rfl (wi64 (by omega)) rfl ?_)
      refine r_cons (s_assign (.int .i64 48) rfl rfl ?_)
      refine r_nil ?_
      refine g_seq ?_
      refine g_seq ?_
      refine g_region ?_
      refine r_cons (s_move (.int .u64 (((u / 2 ^ 32) / 2 ^ 16 : Nat) : Int)) rfl rfl ?_)
      by_cases hc3 : (256 : Int) ≤ (((u / 2 ^ 32) / 2 ^ 16 : Nat) : Int)
      · skip
        refine r_cons (s_geq true rfl rfl (dtrue hc3) rfl ?_)
        refine r_nil ?_
        refine g_true rfl ?_
        refine g_seq ?_
        refine g_region ?_
        refine r_cons (s_move (.int .u64 (((u / 2 ^ 32) / 2 ^ 16 : Nat) : Int)) rfl rfl ?_)
        refine r_cons (s_shr ((((u / 2 ^ 32) / 2 ^ 16) / 2 ^ 8 : Nat) : Int) rfl rfl (by omega) (shr_nat (k := 8) rfl (by decide)) rfl ?_)
        refine r_cons (s_assign (.int .u64 ((((u / 2 ^ 32) / 2 ^ 16) / 2 ^ 8 : Nat) : Int)) rfl rfl ?_)
        refine r_nil ?_
        refine g_region ?_
        refine r_cons (s_move (.int .i64 48) rfl rfl ?_)
        refine r_cons (s_add 56 rfl rfl (wi64 (by omega)) rfl ?_)
        refine r_cons (s_assign (.int .i64 56) rfl rfl ?_)
        refine r_nil ?_
        refine g_seq ?_
        refine g_region ?_
        refine r_cons (s_move (.int .i64 56) rfl rfl ?_)
        refine r_cons (s_move (.int .u64 ((((u / 2 ^ 32) / 2 ^ 16) / 2 ^ 8 : Nat) : Int)) rfl rfl ?_)
        refine r_cons (s_conv ((((u / 2 ^ 32) / 2 ^ 16) / 2 ^ 8 : Nat) : Int) rfl us_137 ik_5 (wu8 (by omega)) rfl ?_)
        refine r_cons (s_index_str _ ((((u / 2 ^ 32) / 2 ^ 16) / 2 ^ 8 : Nat) : Int) (bitLen (((u / 2 ^ 32) / 2 ^ 16) / 2 ^ 8) : Int) rfl rfl st_9 (by omega) (len8_str (n := ((u / 2 ^ 32) / 2 ^ 16) / 2 ^ 8) (by omega) (by omega)) rfl ?_)
        refine r_cons (s_conv (bitLen (((u / 2 ^ 32) / 2 ^ 16) / 2 ^ 8) : Int) rfl us_5 ik_3 (wi64 (by have := bitLen_le8 ((((u / 2 ^ 32) / 2 ^ 16) / 2 ^ 8)) (by omega); omega)) rfl ?_)
        refine r_cons (s_add (56 + (bitLen (((u / 2 ^ 32) / 2 ^ 16) / 2 ^ 8) : Int)) rfl rfl (wi64 (by have := bitLen_le8 (((u / 2 ^ 32) / 2 ^ 16) / 2 ^ 8) (by omega); omega)) rfl ?_)
        refine r_cons (s_assign (.int .i64 (56 + (bitLen (((u / 2 ^ 32) / 2 ^ 16) / 2 ^ 8) : Int))) rfl rfl ?_)
        refine r_nil ?_
        refine g_ret' [.int .i64 (56 + (bitLen (((u / 2 ^ 32) / 2 ^ 16) / 2 ^ 8) : Int))] Try.func138 Try.results138 ⟨rfl, trivial⟩ ?_
        have H4 : St W w F := H
        exact ⟨vint (by have := bitLen_div (u := u) (k := 32) (by omega); have := bitLen_div (u := (u / 2 ^ 32)) (k := 16) (by omega); have := bitLen_div (u := ((u / 2 ^ 32) / 2 ^ 16)) (k := 8) (by omega); omega), H4⟩
      · skip
        refine r_cons (s_geq false rfl rfl (dfalse hc3) rfl ?_)
        refine r_nil ?_
        refine g_false rfl ?_
        refine g_skip ?_
        refine g_seq ?_
        refine g_region ?_
        refine r_cons (s_move (.int .i64 48) rfl rfl ?_)
        refine r_cons (s_move (.int .u64 (((u / 2 ^ 32) / 2 ^ 16 : Nat) : Int)) rfl rfl ?_)
        refine r_cons (s_conv (((u / 2 ^ 32) / 2 ^ 16 : Nat) : Int) rfl us_137 ik_5 (wu8 (by omega)) rfl ?_)
        refine r_cons (s_index_str _ (((u / 2 ^ 32) / 2 ^ 16 : Nat) : Int) (bitLen ((u / 2 ^ 32) / 2 ^ 16) : Int) rfl rfl st_9 (by omega) (len8_str (n := (u / 2 ^ 32) / 2 ^ 16) (by omega) (by omega)) rfl ?_)
        refine r_cons (s_conv (bitLen ((u / 2 ^ 32) / 2 ^ 16) : Int) rfl us_5 ik_3 (wi64 (by have := bitLen_le8 (((u / 2 ^ 32) / 2 ^ 16)) (by omega); omega)) rfl ?_)
        refine r_cons (s_add (48 + (bitLen ((u / 2 ^ 32) / 2 ^ 16) : Int)) rfl rfl (wi64 (by have := bitLen_le8 ((u / 2 ^ 32) / 2 ^ 16) (by omega); omega)) rfl ?_)
        refine r_cons (s_assign (.int .i64 (48 + (bitLen ((u / 2 ^ 32) / 2 ^ 16) : Int))) rfl rfl ?_)
        refine r_nil ?_
        refine g_ret' [.int .i64 (48 + (bitLen ((u / 2 ^ 32) / 2 ^ 16) : Int))] Try.func138 Try.results138 ⟨rfl, trivial⟩ ?_
        have H5 : St W w F := H
        exact ⟨vint (by have := bitLen_div (u := u) (k := 32) (by omega); have := bitLen_div (u := (u / 2 ^ 32)) (k := 16) (by omega); omega), H5⟩
    · skip
      refine r_cons (s_geq false rfl rfl (dfalse hc2) rfl ?_)
      refine r_nil ?_
      refine g_false rfl ?_
      refine g_skip ?_
      refine g_seq ?_
      refine g_seq ?_
      refine g_region ?_
      refine r_cons (s_move (.int .u64 ((u / 2 ^ 32 : Nat) : Int)) rfl rfl ?_)
      by_cases hc6 : (256 : Int) ≤ ((u / 2 ^ 32 : Nat) : Int)
      · skip
        refine r_cons (s_geq true rfl rfl (dtrue hc6) rfl ?_)
        refine r_nil ?_
        refine g_true rfl ?_
        refine g_seq ?_
        refine g_region ?_
        refine r_cons (s_move (.int .u64 ((u / 2 ^ 32 : Nat) : Int)) rfl rfl ?_)
        refine r_cons (s_shr (((u / 2 ^ 32) / 2 ^ 8 : Nat) : Int) rfl rfl (by omega) (shr_nat (k := 8) rfl (by decide)) rfl ?_)
        refine r_cons (s_assign (.int .u64 (((u / 2 ^ 32) / 2 ^ 8 : Nat) : Int)) rfl rfl ?_)
        refine r_nil ?_
        refine g_region ?_
        refine r_cons (s_move (.int .i64 32) rfl rfl ?_)
        refine r_cons (s_add 40 rfl rfl (wi64 (by omega)) rfl ?_)
        refine r_cons (s_assign (.int .i64 40) rfl rfl ?_)
        refine r_nil ?_
        refine g_seq ?_
        refine g_region ?_
        refine r_cons (s_move (.int .i64 40) rfl rfl ?_)
        refine r_cons (s_move (.int .u64 (((u / 2 ^ 32) / 2 ^ 8 : Nat) : Int)) rfl rfl ?_)
        refine r_cons (s_conv (((u / 2 ^ 32) / 2 ^ 8 : Nat) : Int) rfl us_137 ik_5 (wu8 (by omega)) rfl ?_)
        refine r_cons (s_index_str _ (((u / 2 ^ 32) / 2 ^ 8 : Nat) : Int) (bitLen ((u / 2 ^ 32) / 2 ^ 8) : Int) rfl rfl st_9 (by omega) (len8_str (n := (u / 2 ^ 32) / 2 ^ 8) (by omega) (by omega)) rfl ?_)
        refine r_cons (s_conv (bitLen ((u / 2 ^ 32) / 2 ^ 8) : Int) rfl us_5 ik_3 (wi64 (by have := bitLen_le8 (((u / 2 ^ 32) / 2 ^ 8)) (by omega); omega)) rfl ?_)
        refine r_cons (s_add (40 + (bitLen ((u / 2 ^ 32) / 2 ^ 8) : Int)) rfl rfl (wi64 (by have := bitLen_le8 ((u / 2 ^ 32) / 2 ^ 8) (by omega); omega)) rfl ?_)
        refine r_cons (s_assign (.int .i64 (40 + (bitLen ((u / 2 ^ 32) / 2 ^ 8) : Int))) rfl rfl ?_)
        refine r_nil ?_
        refine g_ret' [.int .i64 (40 + (bitLen ((u / 2 ^ 32) / 2 ^ 8) : Int))] Try.func138 Try.results138 ⟨rfl, trivial⟩ ?_
        have H7 : St W w F := H
        exact ⟨vint (by have := bitLen_div (u := u) (k := 32) (by omega); have := bitLen_div (u := (u / 2 ^ 32)) (k := 8) (by omega); omega), H7⟩
      · skip
        refine r_cons (s_geq false rfl rfl (dfalse hc6) rfl ?_)
        refine r_nil ?_
        refine g_false rfl ?_
        refine g_skip ?_
        refine g_seq ?_
        refine g_region ?_
        refine r_cons (s_move (.int .i64 32) rfl rfl ?_)
        refine r_cons (s_move (.int .u64 ((u / 2 ^ 32 : Nat) : Int)) rfl rfl ?_)
        refine r_cons (s_conv ((u / 2 ^ 32 : Nat) : Int) rfl us_137 ik_5 (wu8 (by omega)) rfl ?_)
        refine r_cons (s_index_str _ ((u / 2 ^ 32 : Nat) : Int) (bitLen (u / 2 ^ 32) : Int) rfl rfl st_9 (by omega) (len8_str (n := u / 2 ^ 32) (by omega) (by omega)) rfl ?_)
        refine r_cons (s_conv (bitLen (u / 2 ^ 32) : Int) rfl us_5 ik_3 (wi64 (by have := bitLen_le8 ((u / 2 ^ 32)) (by omega); omega)) rfl ?_)
        refine r_cons (s_add (32 + (bitLen (u / 2 ^ 32) : Int)) rfl rfl (wi64 (by have := bitLen_le8 (u / 2 ^ 32) (by omega); omega)) rfl ?_)
        refine r_cons (s_assign (.int .i64 (32 + (bitLen (u / 2 ^ 32) : Int))) rfl rfl ?_)
        refine r_nil ?_
        refine g_ret' [.int .i64 (32 + (bitLen (u / 2 ^ 32) : Int))] Try.func138 Try.results138 ⟨rfl, trivial⟩ ?_
        have H8 : St W w F := H
        exact ⟨vint (by have := bitLen_div (u := u) (k := 32) (by omega); omega), H8⟩
  · skip
    refine r_cons (s_geq false rfl rfl (dfalse hc1) rfl ?_)
    refine r_nil ?_
    refine g_false rfl ?_
    refine g_skip ?_
    refine g_seq ?_
    refine g_seq ?_
    refine g_region ?_
    refine r_cons (s_move (.int .u64 (u : Int)) rfl rfl ?_)
    by_cases hc9 : (65536 : Int) ≤ (u : Int)
    · skip
      refine r_cons (s_geq true rfl rfl (dtrue hc9) rfl ?_)
      refine r_nil ?_
      refine g_true rfl ?_
      refine g_seq ?_
      refine g_region ?_
      refine r_cons (s_move (.int .u64 (u : Int)) rfl rfl ?_)
      refine r_cons (s_shr ((u / 2 ^ 16 : Nat) : Int) rfl rfl (by omega) (shr_nat (k := 16) rfl (by decide)) rfl ?_)
      refine r_cons (s_assign (.int .u64 ((u / 2 ^ 16 : Nat) : Int)) rfl rfl ?_)
      refine r_nil ?_
      refine g_region ?_
      refine r_cons (s_move (.int .i64 0) rfl rfl ?_)
      refine r_cons (s_add 16 rfl rfl (wi64 (by omega)) rfl ?_)
      refine r_cons (s_assign (.int .i64 16) rfl rfl ?_)
      refine r_nil ?_
      refine g_seq ?_
      refine g_seq ?_
      refine g_region ?_
      refine r_cons (s_move (.int .u64 ((u / 2 ^ 16 : Nat) : Int)) rfl rfl ?_)
      by_cases hc10 : (256 : Int) ≤ ((u / 2 ^ 16 : Nat) : Int)
      · skip
        refine r_cons (s_geq true rfl rfl (dtrue hc10) rfl ?_)
        refine r_nil ?_
        refine g_true rfl ?_
        refine g_seq ?_
        refine g_region ?_
        refine r_cons (s_move (.int .u64 ((u / 2 ^ 16 : Nat) : Int)) rfl rfl ?_)
        refine r_cons (s_shr (((u / 2 ^ 16) / 2 ^ 8 : Nat) : Int) rfl rfl (by omega) (shr_nat (k := 8) rfl (by decide)) rfl ?_)
        refine r_cons (s_assign (.int .u64 (((u / 2 ^ 16) / 2 ^ 8 : Nat) : Int)) rfl rfl ?_)
        refine r_nil ?_
        refine g_region ?_
        refine r_cons (s_move (.int .i64 16) rfl rfl ?_)
        refine r_cons (s_add 24 rfl rfl (wi64 (by omega)) rfl ?_)
        refine r_cons (s_assign (.int .i64 24) rfl rfl ?_)
        refine r_nil ?_
        refine g_seq ?_
        refine g_region ?_
        refine r_cons (s_move (.int .i64 24) rfl rfl ?_)
        refine r_cons (s_move (.int .u64 (((u / 2 ^ 16) / 2 ^ 8 : Nat) : Int)) rfl rfl ?_)
        refine r_cons (s_conv (((u / 2 ^ 16) / 2 ^ 8 : Nat) : Int) rfl us_137 ik_5 (wu8 (by omega)) rfl ?_)
        refine r_cons (s_index_str _ (((u / 2 ^ 16) / 2 ^ 8 : Nat) : Int) (bitLen ((u / 2 ^ 16) / 2 ^ 8) : Int) rfl rfl st_9 (by omega) (len8_str (n := (u / 2 ^ 16) / 2 ^ 8) (by omega) (by omega)) rfl ?_)
        refine r_cons (s_conv (bitLen ((u / 2 ^ 16) / 2 ^ 8) : Int) rfl us_5 ik_3 (wi64 (by have := bitLen_le8 (((u / 2 ^ 16) / 2 ^ 8)) (by omega); omega)) rfl ?_)
        refine r_cons (s_add (24 + (bitLen ((u / 2 ^ 16) / 2 ^ 8) : Int)) rfl rfl (wi64 (by have := bitLen_le8 ((u / 2 ^ 16) / 2 ^ 8) (by omega); omega)) rfl ?_)
        refine r_cons (s_assign (.int .i64 (24 + (bitLen ((u / 2 ^ 16) / 2 ^ 8) : Int))) rfl rfl ?_)
        refine r_nil ?_
        refine g_ret' [.int .i64 (24 + (bitLen ((u / 2 ^ 16) / 2 ^ 8) : Int))] Try.func138 Try.results138 ⟨rfl, trivial⟩ ?_
        have H11 : St W w F := H
        exact ⟨vint (by have := bitLen_div (u := u) (k := 16) (by omega); have := bitLen_div (u := (u / 2 ^ 16)) (k := 8) (by omega); omega), H11⟩
      · skip
        refine r_cons (s_geq false rfl rfl (dfalse hc10) rfl ?_)
        refine r_nil ?_
        refine g_false rfl ?_
        refine g_skip ?_
        refine g_seq ?_
        refine g_region ?_
        refine r_cons (s_move (.int .i64 16) rfl rfl ?_)
        refine r_cons (s_move (.int .u64 ((u / 2 ^ 16 : Nat) : Int)) rfl rfl ?_)
        refine r_cons (s_conv ((u / 2 ^ 16 : Nat) : Int) rfl us_137 ik_5 (wu8 (by omega)) rfl ?_)
        refine r_cons (s_index_str _ ((u / 2 ^ 16 : Nat) : Int) (bitLen (u / 2 ^ 16) : Int) rfl rfl st_9 (by omega) (len8_str (n := u / 2 ^ 16) (by omega) (by omega)) rfl ?_)
        refine r_cons (s_conv (bitLen (u / 2 ^ 16) : Int) rfl us_5 ik_3 (wi64 (by have := bitLen_le8 ((u / 2 ^ 16)) (by omega); omega)) rfl ?_)
        refine r_cons (s_add (16 + (bitLen (u / 2 ^ 16) : Int)) rfl rfl (wi64 (by have := bitLen_le8 (u / 2 ^ 16) (by omega); omega)) rfl ?_)
        refine r_cons (s_assign (.int .i64 (16 + (bitLen (u / 2 ^ 16) : Int))) rfl rfl ?_)
        refine r_nil ?_
        refine g_ret' [.int .i64 (16 + (bitLen (u / 2 ^ 16) : Int))] Try.func138 Try.results138 ⟨rfl, trivial⟩ ?_
        have H12 : St W w F := H
        exact ⟨vint (by have := bitLen_div (u := u) (k := 16) (by omega); omega), H12⟩
    · skip
      refine r_cons (s_geq false rfl rfl (dfalse hc9) rfl ?_)
      refine r_nil ?_
      refine g_false rfl ?_
      refine g_skip ?_
      refine g_seq ?_
      refine g_seq ?_
      refine g_region ?_
      refine r_cons (s_move (.int .u64 (u : Int)) rfl rfl ?_)
      by_cases hc13 : (256 : Int) ≤ (u : Int)
      · skip
        refine r_cons (s_geq true rfl rfl (dtrue hc13) rfl ?_)
        refine r_nil ?_
        refine g_true rfl ?_
        refine g_seq ?_
        refine g_region ?_
        refine r_cons (s_move (.int .u64 (u : Int)) rfl rfl ?_)
        refine r_cons (s_shr ((u / 2 ^ 8 : Nat) : Int) rfl rfl (by omega) (shr_nat (k := 8) rfl (by decide)) rfl ?_)
        refine r_cons (s_assign (.int .u64 ((u / 2 ^ 8 : Nat) : Int)) rfl rfl ?_)
        refine r_nil ?_
        refine g_region ?_
        refine r_cons (s_move (.int .i64 0) rfl rfl ?_)
        refine r_cons (s_add 8 rfl rfl (wi64 (by omega)) rfl ?_)
        refine r_cons (s_assign (.int .i64 8) rfl rfl ?_)
        refine r_nil ?_
        refine g_seq ?_
        refine g_region ?_
        refine r_cons (s_move (.int .i64 8) rfl rfl ?_)
        refine r_cons (s_move (.int .u64 ((u / 2 ^ 8 : Nat) : Int)) rfl rfl ?_)
        refine r_cons (s_conv ((u / 2 ^ 8 : Nat) : Int) rfl us_137 ik_5 (wu8 (by omega)) rfl ?_)
        refine r_cons (s_index_str _ ((u / 2 ^ 8 : Nat) : Int) (bitLen (u / 2 ^ 8) : Int) rfl rfl st_9 (by omega) (len8_str (n := u / 2 ^ 8) (by omega) (by omega)) rfl ?_)
        refine r_cons (s_conv (bitLen (u / 2 ^ 8) : Int) rfl us_5 ik_3 (wi64 (by have := bitLen_le8 ((u / 2 ^ 8)) (by omega); omega)) rfl ?_)
        refine r_cons (s_add (8 + (bitLen (u / 2 ^ 8) : Int)) rfl rfl (wi64 (by have := bitLen_le8 (u / 2 ^ 8) (by omega); omega)) rfl ?_)
        refine r_cons (s_assign (.int .i64 (8 + (bitLen (u / 2 ^ 8) : Int))) rfl rfl ?_)
        refine r_nil ?_
        refine g_ret' [.int .i64 (8 + (bitLen (u / 2 ^ 8) : Int))] Try.func138 Try.results138 ⟨rfl, trivial⟩ ?_
        have H14 : St W w F := H
        exact ⟨vint (by have := bitLen_div (u := u) (k := 8) (by omega); omega), H14⟩
      · skip
        refine r_cons (s_geq false rfl rfl (dfalse hc13) rfl ?_)
        refine r_nil ?_
        refine g_false rfl ?_
        refine g_skip ?_
        refine g_seq ?_
        refine g_region ?_
        refine r_cons (s_move (.int .i64 0) rfl rfl ?_)
        refine r_cons (s_move (.int .u64 (u : Int)) rfl rfl ?_)
        refine r_cons (s_conv (u : Int) rfl us_137 ik_5 (wu8 (by omega)) rfl ?_)
        refine r_cons (s_index_str _ (u : Int) (bitLen (u) : Int) rfl rfl st_9 (by omega) (len8_str (n := u) (by omega) (by omega)) rfl ?_)
        refine r_cons (s_conv (bitLen (u) : Int) rfl us_5 ik_3 (wi64 (by have := bitLen_le8 ((u)) (by omega); omega)) rfl ?_)
        refine r_cons (s_add (0 + (bitLen (u) : Int)) rfl rfl (wi64 (by have := bitLen_le8 (u) (by omega); omega)) rfl ?_)
        refine r_cons (s_assign (.int .i64 (0 + (bitLen (u) : Int))) rfl rfl ?_)
        refine r_nil ?_
        refine g_ret' [.int .i64 (0 + (bitLen (u) : Int))] Try.func138 Try.results138 ⟨rfl, trivial⟩ ?_
        have H15 : St W w F := H
        exact ⟨vint (by omega), H15⟩
set_option maxHeartbeats 4000000 in
set_option maxRecDepth 100000 in
theorem Size {W w : World} {F : List Atom} (u : Nat) (hu : u < 18446744073709551616) (H : St W w F) : Calls Try.prog 110 #[.int .u64 (u : Int)] w (Ret fun v w' => v = .int .i64 (sizeU u : Int) ∧ St W w' F) := by
  refine calls_of_go (n := 10) Try.func110 rfl Try.ntmps110 rfl ?_
  refine g_seq ?_
  refine g_region ?_
  refine r_cons (s_assign (.int .i64 0) rfl rfl ?_)
  refine r_nil ?_
  refine g_seq ?_
  refine g_seq ?_
  refine g_region ?_
  refine r_cons (s_move (.int .u64 (u : Int)) rfl rfl ?_)
  by_cases hc1 : (u : Int) = 18446744073709551615
  · skip
    refine r_cons (s_eql true rfl rfl (dtrue hc1) rfl ?_)
    refine r_nil ?_
    refine g_true rfl ?_
    refine g_seq ?_
    refine g_region ?_
    refine r_cons (s_assign (.int .i64 129) rfl rfl ?_)
    refine r_nil ?_
    refine g_ret' [.int .i64 129] Try.func110 Try.results110 ⟨rfl, trivial⟩ ?_
    have H2 : St W w F := H
    exact ⟨vint (by unfold sizeU; rw [if_pos (by omega)]; rfl), H2⟩
  · skip
    refine r_cons (s_eql false rfl rfl (dfalse hc1) rfl ?_)
    refine r_nil ?_
    refine g_false rfl ?_
    refine g_skip ?_
    refine g_seq ?_
    refine g_region ?_
    refine r_cons (s_move (.int .u64 (u : Int)) rfl rfl ?_)
    refine r_cons (s_add ((u + 1 : Nat) : Int) rfl rfl ((wu64 (by omega)).trans (by omega)) rfl ?_)
    refine r_cons (s_call [.int .u64 ((u + 1 : Nat) : Int)] pl_138 rfl rfl (Len64 (u + 1) (by omega) H) ?_)
    rintro _ w3 ⟨rfl, H4⟩
    refine r_cons (s_mul (2 * (bitLen (u + 1) : Int)) rfl rfl (wi64 (by have := bitLen_le64 (u := u + 1) (by omega); omega)) rfl ?_)
    refine r_cons (s_sub (2 * (bitLen (u + 1) : Int) - 1) rfl rfl (wi64 (by have := bitLen_le64 (u := u + 1) (by omega); omega)) rfl ?_)
    refine r_cons (s_assign (.int .i64 (2 * (bitLen (u + 1) : Int) - 1)) rfl rfl ?_)
    refine r_nil ?_
    refine g_ret' [.int .i64 (2 * (bitLen (u + 1) : Int) - 1)] Try.func110 Try.results110 ⟨rfl, trivial⟩ ?_
    have H5 : St W w3 F := H4
    exact ⟨vint (by unfold sizeU; first | rw [if_pos (by omega)] | (rw [if_neg (by omega)]; have := bitLen_pos (u := u + 1) (by omega); omega)), H5⟩
set_option maxHeartbeats 4000000 in
set_option maxRecDepth 100000 in
theorem NewSink {W w : World} {F : List Atom}  (H : St W w F) : Calls Try.prog 78 #[] w (Ret fun v w' => ∃ k, v = .pointer (some ⟨k, 0, none⟩) ∧ St W w' (SinkA k [] :: F)) := by
  refine calls_of_go (n := 3) Try.func78 rfl Try.ntmps78 rfl ?_
  refine g_seq ?_
  refine g_region ?_
  refine r_cons (s_assign (.pointer none) rfl rfl ?_)
  refine r_nil ?_
  refine g_seq ?_
  refine g_region ?_
  refine r_cons (s_build (cs := #[.bool true, .slice none 0 0, .int .i64 0]) (by kernel_rfl) rfl ?_)
  refine r_cons (s_box H 177 (.agg #[.bool true, .slice none 0 0, .int .i64 0]) rfl (cs := #[.bool true, .slice none 0 0, .int .i64 0]) rfl rfl ?_); intro bk1 w2 H3
  refine r_cons (s_assign (.pointer (some ⟨bk1, 0, none⟩)) rfl rfl ?_)
  refine r_nil ?_
  refine g_ret' [.pointer (some ⟨bk1, 0, none⟩)] Try.func78 Try.results78 ⟨rfl, trivial⟩ ?_
  have H4 : St W w2 (blk bk1 (.cells #[.bool true, .slice none 0 0, .int .i64 0] 177 (0, 0)) :: F) := H3
  have H5 := ((Row.nil_intro H4 5 1).move 1 rfl)
  exact ⟨bk1, rfl, St.shut_ex (.slice none 0 0) (St.shut_star (ls := [blk bk1 (.cells #[.bool true, .slice none 0 0, .int .i64 (([] : List Bool).length : Int)] 177 (0, 0)), Row 5 1 (.slice none 0 0) ((([] : List Bool).length + 7) / 8) ((pk []).flatMap u8c)]) H5)⟩
set_option maxHeartbeats 4000000 in
set_option maxRecDepth 100000 in
theorem Sink_room {W w : World} {F : List Atom} (b : Nat) (L : List Bool) (n : Int) (hb : L.length ≤ 1048576) {i : Nat} (hi : F[i]? = some (SinkA b L)) (H : St W w F) : Calls Try.prog 109 #[.pointer (some ⟨b, 0, none⟩), .int .i64 n] w (Ret fun v w' => v = .int .i64 (putE L n) ∧ St W w' F) := by
  have H0 := H.front hi
  refine calls_of_go (n := 23) Try.func109 rfl Try.ntmps109 rfl ?_
  refine g_seq ?_
  refine g_region ?_
  refine r_cons (s_assign (.int .i64 0) rfl rfl ?_)
  refine r_nil ?_
  refine g_seq ?_
  refine g_block ?_
  refine g_seq ?_
  refine g_region ?_
  refine r_cons (s_move (.pointer (some ⟨b, 0, none⟩)) rfl rfl ?_)
  refine r_cons (s_peql false un_134 rfl rfl rfl rfl ?_)
  refine r_cons (s_move (.bool false) rfl rfl ?_)
  refine r_cons (r_take rfl rfl ?_)
  refine s_move (.pointer (some ⟨b, 0, none⟩)) rfl rfl ?_
  refine r_cons (r_take rfl rfl ?_)
  refine s_nilCheck (.pointer (some ⟨b, 0, none⟩)) rfl ⟨_, rfl⟩ rfl ?_
  refine r_cons (r_take rfl rfl ?_)
  refine s_fieldAddr 177 0 0 0 4 rfl fi_177_0 rfl rfl ?_
  refine r_cons (r_take rfl rfl ?_)
  have H1 := H0.move 0 rfl
  obtain ⟨vv2, H3⟩ := St.open_ex H1
  have H4 := St.open_star H3
  obtain ⟨pp5, cc6, rfl⟩ := Row.slice (i := 1) H4 rfl
  have H7 : St W w (blk b (.cells #[.bool true, .slice pp5 ((L.length + 7) / 8) cc6, .int .i64 (L.length : Int)] 177 (0, 0)) :: Row 5 1 (.slice pp5 ((L.length + 7) / 8) cc6) ((L.length + 7) / 8) ((pk L).flatMap u8c) :: (F.set i emp)) := H4
  refine s_load (.bool true) ag_4 rfl (H7.blk_at (i := 0) rfl) rfl rfl ?_
  refine r_cons (r_take rfl rfl ?_)
  refine s_not true rfl false rfl rfl ?_
  refine r_cons (s_pick_f (.bool false) rfl rfl rfl ?_)
  refine r_cons (s_assign (.bool false) rfl rfl ?_)
  refine r_nil ?_
  refine g_false rfl ?_
  refine g_seq ?_
  refine g_region ?_
  refine r_cons (s_move (.int .i64 n) rfl rfl ?_)
  refine r_cons (s_move (.pointer (some ⟨b, 0, none⟩)) rfl rfl ?_)
  refine r_cons (s_nilCheck (.pointer (some ⟨b, 0, none⟩)) rfl ⟨_, rfl⟩ rfl ?_)
  refine r_cons (s_fieldAddr 177 2 2 2 3 rfl fi_177_2 rfl rfl ?_)
  refine r_cons (s_load (.int .i64 (L.length : Int)) ag_3 rfl (H7.blk_at (i := 0) rfl) rfl rfl ?_)
  refine r_cons (s_sub (1048576 - (L.length : Int)) rfl rfl (wi64 (by omega)) rfl ?_)
  by_cases hc8 : 1048576 - (L.length : Int) < n
  · skip
    refine r_cons (s_gtr true rfl rfl (dtrue hc8) rfl ?_)
    refine r_cons (s_assign (.bool true) rfl rfl ?_)
    refine r_nil ?_
    refine g_true rfl ?_
    refine g_seq ?_
    refine g_region ?_
    refine r_cons (s_assign (.int .i64 3) rfl rfl ?_)
    refine r_nil ?_
    refine g_ret' [.int .i64 3] Try.func109 Try.results109 ⟨rfl, trivial⟩ ?_
    have H9 : St W w (SinkA b L :: (F.set i emp)) := St.shut_ex (.slice pp5 ((L.length + 7) / 8) cc6) (St.shut_star (ls := [blk b (.cells #[.bool true, .slice pp5 ((L.length + 7) / 8) cc6, .int .i64 (L.length : Int)] 177 (0, 0)), Row 5 1 (.slice pp5 ((L.length + 7) / 8) cc6) ((L.length + 7) / 8) ((pk L).flatMap u8c)]) H7)
    have H10 : St W w (SinkA b L :: (F.set i emp)) := H9
    exact ⟨vint (by first | exact (putE_3 ‹_›).symm | exact (putE_0 ‹_›).symm), St.back_same hi H10⟩
  · skip
    refine r_cons (s_gtr false rfl rfl (dfalse hc8) rfl ?_)
    refine r_cons (s_assign (.bool false) rfl rfl ?_)
    refine r_nil ?_
    refine g_false rfl ?_
    refine g_skip ?_
    refine g_inBlock ?_
    refine g_seq ?_
    refine g_region ?_
    refine r_cons (s_assign (.int .i64 0) rfl rfl ?_)
    refine r_nil ?_
    refine g_ret' [.int .i64 0] Try.func109 Try.results109 ⟨rfl, trivial⟩ ?_
    have H11 : St W w (SinkA b L :: (F.set i emp)) := St.shut_ex (.slice pp5 ((L.length + 7) / 8) cc6) (St.shut_star (ls := [blk b (.cells #[.bool true, .slice pp5 ((L.length + 7) / 8) cc6, .int .i64 (L.length : Int)] 177 (0, 0)), Row 5 1 (.slice pp5 ((L.length + 7) / 8) cc6) ((L.length + 7) / 8) ((pk L).flatMap u8c)]) H7)
    have H12 : St W w (SinkA b L :: (F.set i emp)) := H11
    exact ⟨vint (by first | exact (putE_3 ‹_›).symm | exact (putE_0 ‹_›).symm), St.back_same hi H12⟩
set_option maxHeartbeats 4000000 in
set_option maxRecDepth 100000 in
theorem Sink_all {W w : World} {F : List Atom} (b : Nat) (L : List Bool) (u n : Nat) (hu : u < 18446744073709551616) (hn : n ≤ 64) (hb : L.length ≤ 1099511000000) {i : Nat} (hi : F[i]? = some (SinkA b L)) (H : St W w F) : Calls Try.prog 112 #[.pointer (some ⟨b, 0, none⟩), .int .u64 (u : Int), .int .i64 (n : Int)] w (Ret fun v w' => v = .tuple #[] ∧ St W w' (F.set i (SinkA b (L ++ lowB u n)))) := by
  have H0 := H.front hi
  refine calls_of_go (n := 22) Try.func112 rfl Try.ntmps112 rfl ?_
  refine g_seq ?_
  refine g_region ?_
  refine r_cons (s_move (.int .i64 (n : Int)) rfl rfl ?_)
  refine r_cons (s_move (.int .i64 0) rfl rfl ?_)
  refine r_nil ?_
  refine g_block ?_
  have H1 : St W w (SinkA b (L ++ lowK u n 0) :: (F.set i emp)) := by rw [show L ++ lowK u n 0 = L from List.append_nil L]; exact H0
  refine g_loop_inv (fun (x_ : Nat) => match x_ with | j => [(0, .pointer (some ⟨b, 0, none⟩)), (1, .int .u64 (u : Int)), (2, .int .i64 (n : Int)), (7, .int .i64 (n : Int)), (8, .int .i64 (j : Int))]) (fun (x_ : Nat) w => match x_ with | j => (j ≤ n) ∧ St W w (SinkA b (L ++ lowK u n j) :: (F.set i emp))) (fun (x_ : Nat) => match x_ with | j => n - j) (0) ?_ ?_ ?_
  · exact ⟨by first | rfl | exact vint (by omega), by first | rfl | exact vint (by omega), by first | rfl | exact vint (by omega), by first | rfl | exact vint (by omega), by first | rfl | exact vint (by omega), trivial⟩
  · exact ⟨(by omega), H1⟩
  · rintro j ρ2 w3 ⟨hj, H4⟩ nx5
    change Ends _ _ (upds ρ2 [(0, .pointer (some ⟨b, 0, none⟩)), (1, .int .u64 (u : Int)), (2, .int .i64 (n : Int)), (7, .int .i64 (n : Int)), (8, .int .i64 (j : Int))]) w3
    refine g_seq ?_
    refine g_region ?_
    by_cases hc6 : (j : Int) < (n : Int)
    · skip
      refine r_cons (s_lss true rfl rfl (dtrue hc6) rfl ?_)
      refine r_nil ?_
      refine g_seq ?_
      refine g_true rfl ?_
      refine g_skip ?_
      refine g_seq ?_
      refine g_block ?_
      refine g_seq ?_
      refine g_region ?_
      refine r_cons (s_move (.int .i64 (j : Int)) rfl rfl ?_)
      refine r_cons (s_assign (.int .i64 (j : Int)) rfl rfl ?_)
      refine r_nil ?_
      refine g_region ?_
      refine r_cons (s_move (.pointer (some ⟨b, 0, none⟩)) rfl rfl ?_)
      refine r_cons (s_move (.int .u64 (u : Int)) rfl rfl ?_)
      refine r_cons (s_move (.int .i64 (n : Int)) rfl rfl ?_)
      refine r_cons (s_sub ((n : Int) - 1) rfl rfl (wi64 (by omega)) rfl ?_)
      refine r_cons (s_move (.int .i64 (j : Int)) rfl rfl ?_)
      refine r_cons (s_sub ((n : Int) - 1 - (j : Int)) rfl rfl (wi64 (by omega)) rfl ?_)
      refine r_cons (s_shr ((u / 2 ^ (n - 1 - j) : Nat) : Int) rfl rfl (by omega) (shr_nat (k := n - 1 - j) (by omega) (by show _ ≤ 64; omega)) rfl ?_)
      refine r_cons (s_and ((u / 2 ^ (n - 1 - j) % 2 : Nat) : Int) rfl rfl (and_one _ (Nat.lt_of_le_of_lt (Nat.div_le_self _ _) hu)) rfl ?_)
      refine r_cons (s_eql (u.testBit (n - 1 - j)) rfl rfl (bit_is u (n - 1 - j)) rfl ?_)
      refine r_cons (s_call [.pointer (some ⟨b, 0, none⟩), .bool (u.testBit (n - 1 - j))] pl_139 rfl rfl (Sink_put b (L ++ lowK u n j) (u.testBit (n - 1 - j)) (by (try simp only [List.length_append, List.length_cons, List.length_nil, lowK_len, lowB_len]); omega) (i := 0) rfl H4) ?_)
      rintro _ w7 ⟨rfl, H8⟩
      refine r_nil ?_
      refine g_inBlock ?_
      refine g_region ?_
      refine r_cons (s_add ((j : Int) + 1) rfl rfl (wi64 (by omega)) rfl ?_)
      refine r_cons (s_move (.int .i64 ((j : Int) + 1)) rfl rfl ?_)
      refine r_nil ?_
      have H9 : St W w7 (SinkA b ((L ++ lowK u n j) ++ [u.testBit (n - 1 - j)]) :: (F.set i emp)) := H8
      have H10 : St W w7 (SinkA b (L ++ lowK u n (j + 1)) :: (F.set i emp)) := by rw [← app_lowK]; exact H9
      exact nx5 (j + 1) _ _ ⟨(by omega), H10⟩ (by first | (dsimp only; omega) | omega) ⟨by first | rfl | exact vint (by omega), by first | rfl | exact vint (by omega), by first | rfl | exact vint (by omega), by first | rfl | exact vint (by omega), by first | rfl | exact vint (by omega), trivial⟩
    · skip
      refine r_cons (s_lss false rfl rfl (dfalse hc6) rfl ?_)
      refine r_nil ?_
      refine g_seq ?_
      refine g_false rfl ?_
      refine g_exit (by rfl) ?_
      refine g_end' [] Try.func112 Try.results112 trivial ?_
      have H11 : St W w3 (SinkA b (L ++ lowK u n j) :: (F.set i emp)) := H4
      obtain rfl : j = n := by omega
      exact ⟨rfl, St.back hi H11⟩
set_option maxHeartbeats 4000000 in
set_option maxRecDepth 100000 in
theorem Sink_nat {W w : World} {F : List Atom} (b : Nat) (L : List Bool) (u : Nat) (hu : u < 18446744073709551616) (hb : L.length ≤ 1048576) {i : Nat} (hi : F[i]? = some (SinkA b L)) (H : St W w F) : Calls Try.prog 111 #[.pointer (some ⟨b, 0, none⟩), .int .u64 (u : Int)] w (Ret fun v w' => v = .tuple #[] ∧ St W w' (F.set i (SinkA b (L ++ natB u)))) := by
  have H0 := H.front hi
  refine calls_of_go (n := 23) Try.func111 rfl Try.ntmps111 rfl ?_
  refine g_seq ?_
  refine g_region ?_
  refine r_cons (s_move (.int .u64 (u : Int)) rfl rfl ?_)
  refine r_cons (s_call [.int .u64 (u : Int)] pl_110 rfl rfl (Size (u) (by omega) H0) ?_)
  rintro _ w1 ⟨rfl, H2⟩
  have hsz := sizeU_le hu
  refine r_cons (s_quo ((sizeU u / 2 : Nat) : Int) rfl rfl (by omega) (by rw [tdiv_pos (by omega)]; exact (wi64 (by omega)).trans (by omega)) rfl ?_)
  refine r_cons (s_assign (.int .i64 ((sizeU u / 2 : Nat) : Int)) rfl rfl ?_)
  refine r_nil ?_
  refine g_seq ?_
  refine g_region ?_
  refine r_cons (s_move (.pointer (some ⟨b, 0, none⟩)) rfl rfl ?_)
  refine r_cons (s_move (.int .i64 ((sizeU u / 2 : Nat) : Int)) rfl rfl ?_)
  refine r_cons (s_call [.pointer (some ⟨b, 0, none⟩), .int .u64 0, .int .i64 ((sizeU u / 2 : Nat) : Int)] pl_112 rfl rfl (Sink_all b L (0) (sizeU u / 2) (by omega) (by omega) (by (try simp only [List.length_append, List.length_cons, List.length_nil, lowB_len]); omega) (i := 0) rfl H2) ?_)
  rintro _ w3 ⟨rfl, H4⟩
  refine r_nil ?_
  refine g_seq ?_
  refine g_seq ?_
  refine g_region ?_
  refine r_cons (s_move (.int .i64 ((sizeU u / 2 : Nat) : Int)) rfl rfl ?_)
  by_cases hc5 : ((sizeU u / 2 : Nat) : Int) = 64
  · skip
    refine r_cons (s_eql true rfl rfl (dtrue hc5) rfl ?_)
    refine r_nil ?_
    refine g_true rfl ?_
    refine g_seq ?_
    refine g_region ?_
    refine r_cons (s_move (.pointer (some ⟨b, 0, none⟩)) rfl rfl ?_)
    refine r_cons (s_call [.pointer (some ⟨b, 0, none⟩), .bool true] pl_139 rfl rfl (Sink_put b (L ++ lowB 0 (sizeU u / 2)) true (by (try simp only [List.length_append, List.length_cons, List.length_nil, lowK_len, lowB_len]); omega) (i := 0) rfl H4) ?_)
    rintro _ w6 ⟨rfl, H7⟩
    refine r_nil ?_
    refine g_seq ?_
    refine g_region ?_
    refine r_cons (s_move (.pointer (some ⟨b, 0, none⟩)) rfl rfl ?_)
    refine r_cons (s_call [.pointer (some ⟨b, 0, none⟩), .int .u64 0, .int .i64 64] pl_112 rfl rfl (Sink_all b ((L ++ lowB 0 (sizeU u / 2)) ++ [true]) (0) (64) (by omega) (by omega) (by (try simp only [List.length_append, List.length_cons, List.length_nil, lowB_len]); omega) (i := 0) rfl H7) ?_)
    rintro _ w8 ⟨rfl, H9⟩
    refine r_nil ?_
    refine g_ret' [] Try.func111 Try.results111 trivial ?_
    have H10 : St W w8 (SinkA b ((L ++ lowB 0 (sizeU u / 2)) ++ [true] ++ lowB 0 64) :: (F.set i emp)) := H9
    have hL : L ++ natB u = (L ++ lowB 0 (sizeU u / 2)) ++ [true] ++ lowB 0 64 := by rw [natB_max ((sizeU_64 hu).1 (by omega))]; simp only [List.append_assoc]
    exact ⟨rfl, by rw [hL]; exact St.back hi H10⟩
  · skip
    refine r_cons (s_eql false rfl rfl (dfalse hc5) rfl ?_)
    refine r_nil ?_
    refine g_false rfl ?_
    refine g_skip ?_
    refine g_region ?_
    have hne : u + 1 < 18446744073709551616 := by have := (sizeU_64 hu); omega
    refine r_cons (s_move (.pointer (some ⟨b, 0, none⟩)) rfl rfl ?_)
    refine r_cons (s_move (.int .u64 (u : Int)) rfl rfl ?_)
    refine r_cons (s_add ((u + 1 : Nat) : Int) rfl rfl ((wu64 (by omega)).trans (by omega)) rfl ?_)
    refine r_cons (s_move (.int .i64 ((sizeU u / 2 : Nat) : Int)) rfl rfl ?_)
    refine r_cons (s_add ((sizeU u / 2 + 1 : Nat) : Int) rfl rfl ((wi64 (by omega)).trans (by omega)) rfl ?_)
    refine r_cons (s_call [.pointer (some ⟨b, 0, none⟩), .int .u64 ((u + 1 : Nat) : Int), .int .i64 ((sizeU u / 2 + 1 : Nat) : Int)] pl_112 rfl rfl (Sink_all b (L ++ lowB 0 (sizeU u / 2)) (u + 1) (sizeU u / 2 + 1) (by omega) (by omega) (by (try simp only [List.length_append, List.length_cons, List.length_nil, lowB_len]); omega) (i := 0) rfl H4) ?_)
    rintro _ w11 ⟨rfl, H12⟩
    refine r_nil ?_
    refine g_end' [] Try.func111 Try.results111 trivial ?_
    have H13 : St W w11 (SinkA b (L ++ lowB 0 (sizeU u / 2) ++ lowB (u + 1) (sizeU u / 2 + 1)) :: (F.set i emp)) := H12
    have hL : L ++ natB u = L ++ lowB 0 (sizeU u / 2) ++ lowB (u + 1) (sizeU u / 2 + 1) := by rw [natB_is (fun h => by have := (sizeU_64 hu).2 h; omega)]; simp only [List.append_assoc]
    exact ⟨rfl, by rw [hL]; exact St.back hi H13⟩
set_option maxHeartbeats 4000000 in
set_option maxRecDepth 100000 in
theorem Sink_Nat {W w : World} {F : List Atom} (b : Nat) (L : List Bool) (u : Nat) (hu : u < 18446744073709551616) (hb : L.length ≤ 1048576) {i : Nat} (hi : F[i]? = some (SinkA b L)) (H : St W w F) : Calls Try.prog 79 #[.pointer (some ⟨b, 0, none⟩), .int .u64 (u : Int)] w (Ret fun v w' => v = .int .i64 (putE L (sizeU u : Int)) ∧ St W w' (F.set i (SinkA b (putL L (natB u))))) := by
  have H0 := H.front hi
  refine calls_of_go (n := 16) Try.func79 rfl Try.ntmps79 rfl ?_
  refine g_seq ?_
  refine g_region ?_
  refine r_cons (s_assign (.int .i64 0) rfl rfl ?_)
  refine r_nil ?_
  refine g_seq ?_
  refine g_region ?_
  refine r_cons (s_move (.pointer (some ⟨b, 0, none⟩)) rfl rfl ?_)
  refine r_cons (s_move (.int .u64 (u : Int)) rfl rfl ?_)
  refine r_cons (s_call [.int .u64 (u : Int)] pl_110 rfl rfl (Size (u) (by omega) H0) ?_)
  rintro _ w1 ⟨rfl, H2⟩
  refine r_cons (s_call [.pointer (some ⟨b, 0, none⟩), .int .i64 (sizeU u : Int)] pl_109 rfl rfl (Sink_room b L (sizeU u : Int) (by first | omega | (simp only [List.length_append, List.length_nil, lowB_len, natB_len]; omega) | (repeat (first | exact Nat.zero_le _ | assumption | refine putL_le ?_ | refine bitsL_le ?_ | refine evPutL_le ?_ | (simp only [List.length_append, List.length_nil, lowB_len, natB_len]; omega)))) (i := 0) rfl H2) ?_)
  rintro _ w3 ⟨rfl, H4⟩
  refine r_cons (s_assign (.int .i64 (putE L (sizeU u : Int))) rfl rfl ?_)
  refine r_nil ?_
  refine g_seq ?_
  refine g_seq ?_
  refine g_region ?_
  refine r_cons (s_move (.int .i64 (putE L (sizeU u : Int))) rfl rfl ?_)
  by_cases hc5 : putE L (sizeU u : Int) = 0
  · skip
    refine r_cons (s_eql true rfl rfl (dtrue hc5) rfl ?_)
    refine r_nil ?_
    refine g_true rfl ?_
    refine g_region ?_
    refine r_cons (s_move (.pointer (some ⟨b, 0, none⟩)) rfl rfl ?_)
    refine r_cons (s_move (.int .u64 (u : Int)) rfl rfl ?_)
    refine r_cons (s_call [.pointer (some ⟨b, 0, none⟩), .int .u64 (u : Int)] pl_111 rfl rfl (Sink_nat b L (u) (by omega) (by first | omega | (simp only [List.length_append, List.length_nil, lowB_len, natB_len]; omega) | (repeat (first | exact Nat.zero_le _ | assumption | refine putL_le ?_ | refine bitsL_le ?_ | refine evPutL_le ?_ | (simp only [List.length_append, List.length_nil, lowB_len, natB_len]; omega)))) (i := 0) rfl H4) ?_)
    rintro _ w6 ⟨rfl, H7⟩
    refine r_nil ?_
    refine g_seq ?_
    refine g_region ?_
    refine r_cons (s_move (.int .i64 (putE L (sizeU u : Int))) rfl rfl ?_)
    refine r_cons (s_assign (.int .i64 (putE L (sizeU u : Int))) rfl rfl ?_)
    refine r_nil ?_
    refine g_ret' [.int .i64 (putE L (sizeU u : Int))] Try.func79 Try.results79 ⟨rfl, trivial⟩ ?_
    have H8 : St W w6 (SinkA b (L ++ natB u) :: (F.set i emp)) := H7
    exact ⟨rfl, by rw [putL_0 (M := natB u) (n := (sizeU u : Int)) (by rw [natB_len]) ‹_›]; exact St.back hi H8⟩
  · skip
    refine r_cons (s_eql false rfl rfl (dfalse hc5) rfl ?_)
    refine r_nil ?_
    refine g_false rfl ?_
    refine g_skip ?_
    refine g_seq ?_
    refine g_region ?_
    refine r_cons (s_move (.int .i64 (putE L (sizeU u : Int))) rfl rfl ?_)
    refine r_cons (s_assign (.int .i64 (putE L (sizeU u : Int))) rfl rfl ?_)
    refine r_nil ?_
    refine g_ret' [.int .i64 (putE L (sizeU u : Int))] Try.func79 Try.results79 ⟨rfl, trivial⟩ ?_
    have H9 : St W w3 (SinkA b L :: (F.set i emp)) := H4
    exact ⟨rfl, by rw [putL_no (M := natB u) (n := (sizeU u : Int)) (by rw [natB_len]) ‹_›]; exact St.back hi H9⟩
set_option maxHeartbeats 4000000 in
set_option maxRecDepth 100000 in
theorem Sink_Text {W w : World} {F : List Atom} (b : Nat) (L : List Bool) (s : ByteArray) (hs : s.size ≤ 140737488355328) (hb : L.length ≤ 1048576) {i : Nat} (hi : F[i]? = some (SinkA b L)) (H : St W w F) : Calls Try.prog 80 #[.pointer (some ⟨b, 0, none⟩), .string s] w (Ret fun v w' => v = .int .i64 (putE L ((textB s).length : Int)) ∧ St W w' (F.set i (SinkA b (putL L (textB s))))) := by
  have H0 := H.front hi
  refine calls_of_go (n := 50) Try.func80 rfl Try.ntmps80 rfl ?_
  refine g_seq ?_
  refine g_region ?_
  refine r_cons (s_assign (.int .i64 0) rfl rfl ?_)
  refine r_nil ?_
  refine g_seq ?_
  refine g_seq ?_
  refine g_region ?_
  refine r_cons (s_move (.pointer (some ⟨b, 0, none⟩)) rfl rfl ?_)
  refine r_cons (s_peql false un_134 rfl rfl rfl rfl ?_)
  refine r_cons (s_move (.bool false) rfl rfl ?_)
  refine r_cons (r_take rfl rfl ?_)
  refine s_move (.pointer (some ⟨b, 0, none⟩)) rfl rfl ?_
  refine r_cons (r_take rfl rfl ?_)
  refine s_nilCheck (.pointer (some ⟨b, 0, none⟩)) rfl ⟨_, rfl⟩ rfl ?_
  refine r_cons (r_take rfl rfl ?_)
  refine s_fieldAddr 177 0 0 0 4 rfl fi_177_0 rfl rfl ?_
  refine r_cons (r_take rfl rfl ?_)
  have H1 := H0.move 0 rfl
  obtain ⟨vv2, H3⟩ := St.open_ex H1
  have H4 := St.open_star H3
  obtain ⟨pp5, cc6, rfl⟩ := Row.slice (i := 1) H4 rfl
  have H7 : St W w (blk b (.cells #[.bool true, .slice pp5 ((L.length + 7) / 8) cc6, .int .i64 (L.length : Int)] 177 (0, 0)) :: Row 5 1 (.slice pp5 ((L.length + 7) / 8) cc6) ((L.length + 7) / 8) ((pk L).flatMap u8c) :: (F.set i emp)) := H4
  refine s_load (.bool true) ag_4 rfl (H7.blk_at (i := 0) rfl) rfl rfl ?_
  refine r_cons (r_take rfl rfl ?_)
  refine s_not true rfl false rfl rfl ?_
  refine r_cons (s_pick_f (.bool false) rfl rfl rfl ?_)
  refine r_nil ?_
  refine g_false rfl ?_
  refine g_skip ?_
  refine g_seq ?_
  refine g_seq ?_
  refine g_region ?_
  refine r_cons (s_move (.string s) rfl rfl ?_)
  refine r_cons (s_len_str (s).size rfl st_9 rfl rfl ?_)
  by_cases hc8 : (1048576 : Int) < (s.size : Int)
  · skip
    refine r_cons (s_gtr true rfl rfl (dtrue hc8) rfl ?_)
    refine r_nil ?_
    refine g_true rfl ?_
    refine g_seq ?_
    refine g_region ?_
    refine r_cons (s_assign (.int .i64 3) rfl rfl ?_)
    refine r_nil ?_
    refine g_ret' [.int .i64 3] Try.func80 Try.results80 ⟨rfl, trivial⟩ ?_
    have H9 : St W w (SinkA b L :: (F.set i emp)) := St.shut_ex (.slice pp5 ((L.length + 7) / 8) cc6) (St.shut_star (ls := [blk b (.cells #[.bool true, .slice pp5 ((L.length + 7) / 8) cc6, .int .i64 (L.length : Int)] 177 (0, 0)), Row 5 1 (.slice pp5 ((L.length + 7) / 8) cc6) ((L.length + 7) / 8) ((pk L).flatMap u8c)]) H7)
    have H10 : St W w (SinkA b L :: (F.set i emp)) := H9
    have he : putE L ((textB s).length : Int) = 3 := putE_3 (by rw [textB_len]; push_cast; omega)
    exact ⟨vint he.symm, by rw [putL_no rfl (by rw [he]; decide)]; exact St.back hi H10⟩
  · skip
    refine r_cons (s_gtr false rfl rfl (dfalse hc8) rfl ?_)
    refine r_nil ?_
    refine g_false rfl ?_
    refine g_skip ?_
    refine g_seq ?_
    refine g_region ?_
    refine r_cons (s_move (.pointer (some ⟨b, 0, none⟩)) rfl rfl ?_)
    refine r_cons (s_move (.string s) rfl rfl ?_)
    refine r_cons (s_len_str (s).size rfl st_9 rfl rfl ?_)
    refine r_cons (s_conv (s.size : Int) rfl us_3 ik_137 (wu64 (by omega)) rfl ?_)
    refine r_cons (s_call [.int .u64 (s.size : Int)] pl_110 rfl rfl (Size (s.size) (by omega) H7) ?_)
    rintro _ w11 ⟨rfl, H12⟩
    refine r_cons (s_move (.string s) rfl rfl ?_)
    refine r_cons (s_len_str (s).size rfl st_9 rfl rfl ?_)
    have hsz := sizeU_le (u := s.size) (by omega)
    refine r_cons (s_mul (8 * (s.size : Int)) rfl rfl (wi64 (by omega)) rfl ?_)
    refine r_cons (s_add ((sizeU s.size : Int) + (8 * (s.size : Int))) rfl rfl (wi64 (by omega)) rfl ?_)
    have H13 : St W w11 (SinkA b L :: (F.set i emp)) := St.shut_ex (.slice pp5 ((L.length + 7) / 8) cc6) (St.shut_star (ls := [blk b (.cells #[.bool true, .slice pp5 ((L.length + 7) / 8) cc6, .int .i64 (L.length : Int)] 177 (0, 0)), Row 5 1 (.slice pp5 ((L.length + 7) / 8) cc6) ((L.length + 7) / 8) ((pk L).flatMap u8c)]) H12)
    refine r_cons (s_call [.pointer (some ⟨b, 0, none⟩), .int .i64 ((sizeU s.size : Int) + (8 * (s.size : Int)))] pl_109 rfl rfl (Sink_room b L ((sizeU s.size : Int) + (8 * (s.size : Int))) (by first | omega | (simp only [List.length_append, List.length_nil, lowB_len, natB_len]; omega) | (repeat (first | exact Nat.zero_le _ | assumption | refine putL_le ?_ | refine bitsL_le ?_ | refine evPutL_le ?_ | (simp only [List.length_append, List.length_nil, lowB_len, natB_len]; omega)))) (i := 0) rfl H13) ?_)
    rintro _ w14 ⟨rfl, H15⟩
    refine r_cons (s_assign (.int .i64 (putE L ((sizeU s.size : Int) + (8 * (s.size : Int))))) rfl rfl ?_)
    refine r_nil ?_
    refine g_seq ?_
    refine g_seq ?_
    refine g_region ?_
    refine r_cons (s_move (.int .i64 (putE L ((sizeU s.size : Int) + (8 * (s.size : Int))))) rfl rfl ?_)
    by_cases hc16 : putE L ((sizeU s.size : Int) + (8 * (s.size : Int))) = 0
    · skip
      refine r_cons (s_eql true rfl rfl (dtrue hc16) rfl ?_)
      refine r_nil ?_
      refine g_true rfl ?_
      refine g_seq ?_
      refine g_region ?_
      have hr := putE_room ‹putE L ((sizeU s.size : Int) + 8 * (s.size : Int)) = 0›
      have hnl := natB_len s.size
      refine r_cons (s_move (.pointer (some ⟨b, 0, none⟩)) rfl rfl ?_)
      refine r_cons (s_move (.string s) rfl rfl ?_)
      refine r_cons (s_len_str (s).size rfl st_9 rfl rfl ?_)
      refine r_cons (s_conv (s.size : Int) rfl us_3 ik_137 (wu64 (by omega)) rfl ?_)
      refine r_cons (s_call [.pointer (some ⟨b, 0, none⟩), .int .u64 (s.size : Int)] pl_111 rfl rfl (Sink_nat b L (s.size) (by omega) (by first | omega | (simp only [List.length_append, List.length_nil, lowB_len, natB_len]; omega) | (repeat (first | exact Nat.zero_le _ | assumption | refine putL_le ?_ | refine bitsL_le ?_ | refine evPutL_le ?_ | (simp only [List.length_append, List.length_nil, lowB_len, natB_len]; omega)))) (i := 0) rfl H15) ?_)
      rintro _ w17 ⟨rfl, H18⟩
      refine r_nil ?_
      refine g_seq ?_
      refine g_region ?_
      refine r_cons (s_move (.string s) rfl rfl ?_)
      refine r_cons (s_str_bytes H18 s rfl us_9 un_23 un_5 rfl ?_); intro bk19 w20 cap22 N23 tl24 hN23 hcap22 htl24 H21
      refine r_cons (s_len s.size rfl ⟨_, un_23⟩ rfl ?_)
      refine r_cons (s_move (.int .i64 0) rfl rfl ?_)
      refine r_nil ?_
      refine g_block ?_
      have H25 : St W w20 (SinkA b (L ++ natB s.size) :: blk bk19 (.cells ((bytesV s.data.toList ++ tl24).toArray) 5 (N23, N23 + 1)) :: (F.set i emp)) := (H21.move 1 rfl)
      have H26 : St W w20 (SinkA b (L ++ natB s.size ++ textK s 0) :: blk bk19 (.cells ((bytesV s.data.toList ++ tl24).toArray) 5 (N23, N23 + 1)) :: (F.set i emp)) := by rw [show L ++ natB s.size ++ textK s 0 = L ++ natB s.size from List.append_nil _]; exact H25
      refine g_loop_inv (fun (x_ : Nat) => match x_ with | j => [(0, .pointer (some ⟨b, 0, none⟩)), (4, .int .i64 0), (5, .int .i64 (putE L ((sizeU s.size : Int) + (8 * (s.size : Int))))), (38, .slice (some ⟨bk19, 0, none⟩) s.size cap22), (39, .int .i64 (s.size : Int)), (40, .int .i64 (j : Int))]) (fun (x_ : Nat) w => match x_ with | j => (j ≤ s.size) ∧ St W w (SinkA b (L ++ natB s.size ++ textK s j) :: blk bk19 (.cells ((bytesV s.data.toList ++ tl24).toArray) 5 (N23, N23 + 1)) :: (F.set i emp))) (fun (x_ : Nat) => match x_ with | j => s.size - j) (0) ?_ ?_ ?_
      · exact ⟨by first | rfl | exact vint (by omega), by first | rfl | exact vint (by omega), by first | rfl | exact vint (by omega), by first | rfl | exact vint (by omega), by first | rfl | exact vint (by omega), by first | rfl | exact vint (by omega), trivial⟩
      · exact ⟨(by omega), H26⟩
      · rintro j ρ27 w28 ⟨hj, H29⟩ nx30
        change Ends _ _ (upds ρ27 [(0, .pointer (some ⟨b, 0, none⟩)), (4, .int .i64 0), (5, .int .i64 (putE L ((sizeU s.size : Int) + (8 * (s.size : Int))))), (38, .slice (some ⟨bk19, 0, none⟩) s.size cap22), (39, .int .i64 (s.size : Int)), (40, .int .i64 (j : Int))]) w28
        refine g_seq ?_
        refine g_region ?_
        by_cases hc31 : (j : Int) < (s.size : Int)
        · skip
          refine r_cons (s_lss true rfl rfl (dtrue hc31) rfl ?_)
          refine r_nil ?_
          refine g_seq ?_
          refine g_true rfl ?_
          refine g_skip ?_
          refine g_seq ?_
          refine g_block ?_
          refine g_seq ?_
          refine g_region ?_
          refine r_cons (s_indexAddr bk19 (j : Int) 1 (0 + j * 1) rfl rfl el_23 (by omega) rfl rfl ?_)
          refine r_cons (s_load (.int .u8 ((s.data.toList.getD j 0).toNat : Int)) ag_5 rfl (H29.blk_at (i := 1) rfl) (by have hh := bytes_get s tl24 j (by omega); rw [show 0 + j * 1 = j from by omega]; exact hh) rfl ?_)
          refine r_cons (s_assign (.int .u8 ((s.data.toList.getD j 0).toNat : Int)) rfl rfl ?_)
          refine r_nil ?_
          refine g_region ?_
          have htl := textK_len s j
          have hlt := byteAt_lt s j
          refine r_cons (s_move (.pointer (some ⟨b, 0, none⟩)) rfl rfl ?_)
          refine r_cons (s_move (.int .u8 ((s.data.toList.getD j 0).toNat : Int)) rfl rfl ?_)
          refine r_cons (s_conv ((s.data.toList.getD j 0).toNat : Int) rfl us_5 ik_137 (wu64 (by omega)) rfl ?_)
          refine r_cons (s_call [.pointer (some ⟨b, 0, none⟩), .int .u64 ((s.data.toList.getD j 0).toNat : Int), .int .i64 8] pl_112 rfl rfl (Sink_all b (L ++ natB s.size ++ textK s j) ((s.data.toList.getD j 0).toNat) (8) (by omega) (by omega) (by (try simp only [List.length_append, List.length_cons, List.length_nil, lowB_len]); omega) (i := 0) rfl H29) ?_)
          rintro _ w32 ⟨rfl, H33⟩
          refine r_nil ?_
          refine g_inBlock ?_
          refine g_region ?_
          refine r_cons (s_add ((j : Int) + 1) rfl rfl (wi64 (by omega)) rfl ?_)
          refine r_cons (s_move (.int .i64 ((j : Int) + 1)) rfl rfl ?_)
          refine r_nil ?_
          have H34 : St W w32 (SinkA b (L ++ natB s.size ++ textK s j ++ lowB ((s.data.toList.getD j 0).toNat) 8) :: blk bk19 (.cells ((bytesV s.data.toList ++ tl24).toArray) 5 (N23, N23 + 1)) :: (F.set i emp)) := ((H33.move 1 rfl).move 1 rfl)
          have H35 : St W w32 (SinkA b (L ++ natB s.size ++ textK s (j + 1)) :: blk bk19 (.cells ((bytesV s.data.toList ++ tl24).toArray) 5 (N23, N23 + 1)) :: (F.set i emp)) := by rw [textK_succ (by omega), ← List.append_assoc]; exact H34
          exact nx30 (j + 1) _ _ ⟨(by omega), H35⟩ (by first | (dsimp only; omega) | omega) ⟨by first | rfl | exact vint (by omega), by first | rfl | exact vint (by omega), by first | rfl | exact vint (by omega), by first | rfl | exact vint (by omega), by first | rfl | exact vint (by omega), by first | rfl | exact vint (by omega), trivial⟩
        · skip
          refine r_cons (s_lss false rfl rfl (dfalse hc31) rfl ?_)
          refine r_nil ?_
          refine g_seq ?_
          refine g_false rfl ?_
          refine g_exit (by rfl) ?_
          refine g_seq ?_
          refine g_region ?_
          refine r_cons (s_move (.int .i64 (putE L ((sizeU s.size : Int) + (8 * (s.size : Int))))) rfl rfl ?_)
          refine r_cons (s_assign (.int .i64 (putE L ((sizeU s.size : Int) + (8 * (s.size : Int))))) rfl rfl ?_)
          refine r_nil ?_
          refine g_ret' [.int .i64 (putE L ((sizeU s.size : Int) + (8 * (s.size : Int))))] Try.func80 Try.results80 ⟨rfl, trivial⟩ ?_
          have H36 : St W w28 (SinkA b (L ++ natB s.size ++ textK s j) :: (F.set i emp)) := (H29.drop 1 rfl)
          obtain rfl : j = s.size := by omega
          have hL : L ++ textB s = L ++ natB s.size ++ textK s s.size := by rw [textK_all, List.append_assoc]
          have he : putE L ((textB s).length : Int) = 0 := by rw [textB_len]; push_cast; assumption
          exact ⟨vint (by rw [he]; assumption), by rw [putL_0 rfl he, hL]; exact St.back hi H36⟩
    · skip
      refine r_cons (s_eql false rfl rfl (dfalse hc16) rfl ?_)
      refine r_nil ?_
      refine g_false rfl ?_
      refine g_skip ?_
      refine g_seq ?_
      refine g_region ?_
      refine r_cons (s_move (.int .i64 (putE L ((sizeU s.size : Int) + (8 * (s.size : Int))))) rfl rfl ?_)
      refine r_cons (s_assign (.int .i64 (putE L ((sizeU s.size : Int) + (8 * (s.size : Int))))) rfl rfl ?_)
      refine r_nil ?_
      refine g_ret' [.int .i64 (putE L ((sizeU s.size : Int) + (8 * (s.size : Int))))] Try.func80 Try.results80 ⟨rfl, trivial⟩ ?_
      have H37 : St W w14 (SinkA b L :: (F.set i emp)) := H15
      have he : putE L ((textB s).length : Int) = putE L ((sizeU s.size : Int) + 8 * (s.size : Int)) := by rw [textB_len]; push_cast; rfl
      exact ⟨vint he.symm, by rw [putL_no rfl (by rw [he]; assumption)]; exact St.back hi H37⟩
set_option maxHeartbeats 4000000 in
set_option maxRecDepth 100000 in
theorem Sink_Out {W w : World} {F : List Atom} (b : Nat) (L : List Bool) (hb : L.length ≤ 1048576) {i : Nat} (hi : F[i]? = some (SinkA b L)) (H : St W w F) : Calls Try.prog 81 #[.pointer (some ⟨b, 0, none⟩)] w (Ret fun v w' => ∃ p c, v = .slice p ((L.length + 7) / 8) c ∧ St W w' (Row 5 1 (.slice p ((L.length + 7) / 8) c) ((L.length + 7) / 8) ((pk L).flatMap u8c) :: F)) := by
  have H0 := H.front hi
  refine calls_of_go (n := 10) Try.func81 rfl Try.ntmps81 rfl ?_
  refine g_seq ?_
  refine g_region ?_
  refine r_cons (s_assign (.slice none 0 0) rfl rfl ?_)
  refine r_nil ?_
  refine g_seq ?_
  refine g_seq ?_
  refine g_region ?_
  refine r_cons (s_move (.pointer (some ⟨b, 0, none⟩)) rfl rfl ?_)
  refine r_cons (s_peql false un_134 rfl rfl rfl rfl ?_)
  refine r_nil ?_
  refine g_false rfl ?_
  refine g_skip ?_
  refine g_seq ?_
  refine g_region ?_
  refine r_cons (s_move (.pointer (some ⟨b, 0, none⟩)) rfl rfl ?_)
  refine r_cons (s_nilCheck (.pointer (some ⟨b, 0, none⟩)) rfl ⟨_, rfl⟩ rfl ?_)
  refine r_cons (s_fieldAddr 177 1 1 1 23 rfl fi_177_1 rfl rfl ?_)
  have H1 := H0.move 0 rfl
  obtain ⟨vv2, H3⟩ := St.open_ex H1
  have H4 := St.open_star H3
  obtain ⟨pp5, cc6, rfl⟩ := Row.slice (i := 1) H4 rfl
  have H7 : St W w (blk b (.cells #[.bool true, .slice pp5 ((L.length + 7) / 8) cc6, .int .i64 (L.length : Int)] 177 (0, 0)) :: Row 5 1 (.slice pp5 ((L.length + 7) / 8) cc6) ((L.length + 7) / 8) ((pk L).flatMap u8c) :: (F.set i emp)) := H4
  refine r_cons (s_load (.slice pp5 ((L.length + 7) / 8) cc6) ag_23 rfl (H7.blk_at (i := 0) rfl) rfl rfl ?_)
  refine r_cons (s_call [.slice pp5 ((L.length + 7) / 8) cc6] pl_113 rfl rfl (clone_bytes _ _ ((L.length + 7) / 8) ((pk L).flatMap u8c) RdA.row (by first | omega | (have hlp := Nat.le_refl 0; omega)) (j := 1) rfl H7) ?_)
  rintro _ w10 ⟨pp8, cc9, rfl, H11⟩
  refine r_cons (s_assign (.slice pp8 ((L.length + 7) / 8) cc9) rfl rfl ?_)
  refine r_nil ?_
  refine g_ret' [.slice pp8 ((L.length + 7) / 8) cc9] Try.func81 Try.results81 ⟨rfl, trivial⟩ ?_
  have H12 : St W w10 (blk b (.cells #[.bool true, .slice pp5 ((L.length + 7) / 8) cc6, .int .i64 (L.length : Int)] 177 (0, 0)) :: Row 5 1 (.slice pp5 ((L.length + 7) / 8) cc6) ((L.length + 7) / 8) ((pk L).flatMap u8c) :: Row 5 1 (.slice pp8 ((L.length + 7) / 8) cc9) ((L.length + 7) / 8) ((pk L).flatMap u8c) :: (F.set i emp)) := ((H11.move 2 rfl).move 2 rfl)
  have H13 : St W w10 (SinkA b L :: Row 5 1 (.slice pp8 ((L.length + 7) / 8) cc9) ((L.length + 7) / 8) ((pk L).flatMap u8c) :: (F.set i emp)) := St.shut_ex (.slice pp5 ((L.length + 7) / 8) cc6) (St.shut_star (ls := [blk b (.cells #[.bool true, .slice pp5 ((L.length + 7) / 8) cc6, .int .i64 (L.length : Int)] 177 (0, 0)), Row 5 1 (.slice pp5 ((L.length + 7) / 8) cc6) ((L.length + 7) / 8) ((pk L).flatMap u8c)]) H12)
  have H14 : St W w10 (SinkA b L :: Row 5 1 (.slice pp8 ((L.length + 7) / 8) cc9) ((L.length + 7) / 8) ((pk L).flatMap u8c) :: (F.set i emp)) := ((H13.move 1 rfl).move 1 rfl)
  have H15 : St W w10 (SinkA b L :: (Row 5 1 (.slice pp8 ((L.length + 7) / 8) cc9) ((L.length + 7) / 8) ((pk L).flatMap u8c) :: F).set (i + 1) emp) := H14
  exact ⟨_, _, rfl, St.back_same (i := i + 1) (by exact hi) H15⟩
/-- Bytes of which bits are taken. -/
def SrcA (b : Nat) (bs : List UInt8) (p : Nat) : Atom := ex fun v : Value => star [blk b (.cells #[.bool true, v, .int .i64 ((p : Nat) : Int)] 184 (0, 0)), Im 1 v bs.length (bs.flatMap u8c)]
set_option maxHeartbeats 4000000 in
set_option maxRecDepth 100000 in
theorem NewSource {W w : World} {F : List Atom} (A : Atom) (v0 : Value) (bs : List UInt8) (hA : RdA A 1 v0 bs.length (bs.flatMap u8c)) (hb : bs.length ≤ 140737488355328) {j : Nat} (hj : F[j]? = some A) (H : St W w F) : Calls Try.prog 85 #[v0] w (Ret fun v w' => ∃ k, v = .pointer (some ⟨k, 0, none⟩) ∧ St W w' (SrcA k bs 0 :: F)) := by
  have hml := (hA _ _ _ j H hj).2
  obtain ⟨pp1, cc2, rfl, hn3⟩ := Rd.shape (hA _ _ _ j H hj).1
  refine calls_of_go (n := 7) Try.func85 rfl Try.ntmps85 rfl ?_
  refine g_seq ?_
  refine g_region ?_
  refine r_cons (s_assign (.pointer none) rfl rfl ?_)
  refine r_nil ?_
  refine g_seq ?_
  refine g_region ?_
  refine r_cons (s_move (.slice pp1 bs.length cc2) rfl rfl ?_)
  refine r_cons (s_call [.slice pp1 bs.length cc2] pl_113 rfl rfl (clone_bytes _ _ bs.length (bs.flatMap u8c) hA (by first | omega | (have hlp := Nat.le_refl 0; omega)) (j := j + 0) (by exact hj) H) ?_)
  rintro _ w6 ⟨pp4, cc5, rfl, H7⟩
  refine r_cons (s_build (cs := #[.bool true, .slice pp4 bs.length cc5, .int .i64 0]) (by kernel_rfl) rfl ?_)
  refine r_cons (s_box H7 184 (.agg #[.bool true, .slice pp4 bs.length cc5, .int .i64 0]) rfl (cs := #[.bool true, .slice pp4 bs.length cc5, .int .i64 0]) rfl rfl ?_); intro bk8 w9 H10
  refine r_cons (s_assign (.pointer (some ⟨bk8, 0, none⟩)) rfl rfl ?_)
  refine r_nil ?_
  refine g_ret' [.pointer (some ⟨bk8, 0, none⟩)] Try.func85 Try.results85 ⟨rfl, trivial⟩ ?_
  have H11 : St W w9 (blk bk8 (.cells #[.bool true, .slice pp4 bs.length cc5, .int .i64 0] 184 (0, 0)) :: Row 5 1 (.slice pp4 bs.length cc5) bs.length (bs.flatMap u8c) :: F) := ((H10.move 1 rfl).move 1 rfl)
  have H12 := Row.im H11 (i := 1) rfl
  exact ⟨bk8, rfl, St.shut_ex (.slice pp4 bs.length cc5) (St.shut_star (ls := [blk bk8 (.cells #[.bool true, .slice pp4 bs.length cc5, .int .i64 0] 184 (0, 0)), Im 1 (.slice pp4 bs.length cc5) bs.length (bs.flatMap u8c)]) H12)⟩
set_option maxHeartbeats 4000000 in
set_option maxRecDepth 100000 in
theorem Src_Left {W w : World} {F : List Atom} (b : Nat) (bs : List UInt8) (p : Nat) (hp : p ≤ 8 * bs.length) (hb : bs.length ≤ 140737488355328) {i : Nat} (hi : F[i]? = some (SrcA b bs p)) (H : St W w F) : Calls Try.prog 117 #[.pointer (some ⟨b, 0, none⟩)] w (Ret fun v w' => v = .int .i64 ((remB bs p).length : Int) ∧ St W w' F) := by
  have H0 := H.front hi
  refine calls_of_go (n := 16) Try.func117 rfl Try.ntmps117 rfl ?_
  refine g_seq ?_
  refine g_region ?_
  refine r_cons (s_assign (.int .i64 0) rfl rfl ?_)
  refine r_nil ?_
  refine g_seq ?_
  refine g_seq ?_
  refine g_region ?_
  refine r_cons (s_move (.pointer (some ⟨b, 0, none⟩)) rfl rfl ?_)
  refine r_cons (s_peql false un_144 rfl rfl rfl rfl ?_)
  refine r_nil ?_
  refine g_false rfl ?_
  refine g_skip ?_
  refine g_seq ?_
  have H1 := H0.move 0 rfl
  obtain ⟨vv2, H3⟩ := St.open_ex H1
  have H4 := St.open_star H3
  obtain ⟨pp5, cc6, gA7, oA8, kA9, eA10, zA11, rfl, hn12, hp13, hx14, hs15, hml, H16⟩ := Im.open_ H4 (i := 1) rfl
  have H17 : St W w (imi (0 < bs.length) gA7 (.cells kA9 eA10 zA11) :: blk b (.cells #[.bool true, .slice pp5 bs.length cc6, .int .i64 ((p : Nat) : Int)] 184 (0, 0)) :: Im 1 (.slice pp5 bs.length cc6) bs.length (bs.flatMap u8c) :: (F.set i emp)) := H16
  refine g_quiet (fun w' => St W w' (imi (0 < bs.length) gA7 (.cells kA9 eA10 zA11) :: blk b (.cells #[.bool true, .slice pp5 bs.length cc6, .int .i64 ((p : Nat) : Int)] 184 (0, 0)) :: Im 1 (.slice pp5 bs.length cc6) bs.length (bs.flatMap u8c) :: (F.set i emp))) mixed (by kernel_rfl) H17.drew ?_
  refine q_cons (q_val rfl rfl rfl (by intro w hw; exact x_move (.pointer (some ⟨b, 0, none⟩)) rfl w) ?_)
  refine q_cons (q_val rfl rfl rfl (by intro w hw; exact x_nilCheck (.pointer (some ⟨b, 0, none⟩)) rfl ⟨_, rfl⟩ w) ?_)
  refine q_cons (q_val rfl rfl rfl (by intro w hw; exact x_fieldAddr 184 1 1 1 23 rfl fi_184_1 rfl w) ?_)
  refine q_cons (q_val rfl rfl rfl (by intro w hw; exact x_load (.slice pp5 bs.length cc6) ag_23 rfl (hw.blk_at (i := 1) rfl) rfl) ?_)
  refine q_cons (q_val rfl rfl rfl (by intro w hw; exact x_len bs.length rfl ⟨_, un_23⟩ w) ?_)
  refine q_cons (q_val rfl rfl rfl (by intro w hw; exact x_mul (8 * (bs.length : Int)) rfl rfl (wi64 (by omega)) w) ?_)
  refine q_cons (q_val rfl rfl rfl (by intro w hw; exact x_move (.pointer (some ⟨b, 0, none⟩)) rfl w) ?_)
  refine q_cons (q_val rfl rfl rfl (by intro w hw; exact x_nilCheck (.pointer (some ⟨b, 0, none⟩)) rfl ⟨_, rfl⟩ w) ?_)
  refine q_cons (q_val rfl rfl rfl (by intro w hw; exact x_fieldAddr 184 2 2 2 3 rfl fi_184_2 rfl w) ?_)
  refine q_cons (q_val rfl rfl rfl (by intro w hw; exact x_load (.int .i64 ((p : Nat) : Int)) ag_3 rfl (hw.blk_at (i := 1) rfl) rfl) ?_)
  refine q_cons (q_val rfl rfl rfl (by intro w hw; exact x_sub (8 * (bs.length : Int) - ((p : Nat) : Int)) rfl rfl (wi64 (by omega)) w) ?_)
  refine q_cons (q_val rfl rfl rfl (by intro w hw; exact x_assign (.int .i64 (8 * (bs.length : Int) - ((p : Nat) : Int))) rfl w) ?_)
  refine q_nil ?_
  intro w18 H19
  refine g_ret' [.int .i64 (8 * (bs.length : Int) - ((p : Nat) : Int))] Try.func117 Try.results117 ⟨rfl, trivial⟩ ?_
  have H20 : St W w18 (blk b (.cells #[.bool true, .slice pp5 bs.length cc6, .int .i64 ((p : Nat) : Int)] 184 (0, 0)) :: Im 1 (.slice pp5 bs.length cc6) bs.length (bs.flatMap u8c) :: (F.set i emp)) := (((H19.move 2 rfl).move 2 rfl).drop 2 rfl)
  have H21 : St W w18 (SrcA b bs p :: (F.set i emp)) := St.shut_ex (.slice pp5 bs.length cc6) (St.shut_star (ls := [blk b (.cells #[.bool true, .slice pp5 bs.length cc6, .int .i64 ((p : Nat) : Int)] 184 (0, 0)), Im 1 (.slice pp5 bs.length cc6) bs.length (bs.flatMap u8c)]) H20)
  have H22 : St W w18 (SrcA b bs p :: (F.set i emp)) := H21
  exact ⟨vint (by rw [remB_len]; omega), St.back_same hi H22⟩
set_option maxHeartbeats 4000000 in
set_option maxRecDepth 100000 in
theorem Src_bit {W w : World} {F : List Atom} (b : Nat) (bs : List UInt8) (p : Nat) (hp : p ≤ 8 * bs.length) (hb : bs.length ≤ 140737488355328) (k : Nat) (hk : k < 8 * bs.length) {i : Nat} (hi : F[i]? = some (SrcA b bs p)) (H : St W w F) : Calls Try.prog 140 #[.pointer (some ⟨b, 0, none⟩), .int .i64 (k : Int)] w (Ret fun v w' => v = .int .u64 ((bitAt bs k).toNat : Int) ∧ St W w' F) := by
  have H0 := H.front hi
  refine calls_of_go (n := 19) Try.func140 rfl Try.ntmps140 rfl ?_
  refine g_seq ?_
  refine g_region ?_
  refine r_cons (s_assign (.int .u64 0) rfl rfl ?_)
  refine r_nil ?_
  refine g_seq ?_
  refine g_region ?_
  refine r_cons (s_move (.pointer (some ⟨b, 0, none⟩)) rfl rfl ?_)
  refine r_cons (s_nilCheck (.pointer (some ⟨b, 0, none⟩)) rfl ⟨_, rfl⟩ rfl ?_)
  refine r_cons (s_fieldAddr 184 1 1 1 23 rfl fi_184_1 rfl rfl ?_)
  have H1 := H0.move 0 rfl
  obtain ⟨vv2, H3⟩ := St.open_ex H1
  have H4 := St.open_star H3
  obtain ⟨pp5, cc6, gA7, oA8, kA9, eA10, zA11, rfl, hn12, hp13, hx14, hs15, hml, H16⟩ := Im.open_ H4 (i := 1) rfl
  have H17 : St W w (imi (0 < bs.length) gA7 (.cells kA9 eA10 zA11) :: blk b (.cells #[.bool true, .slice pp5 bs.length cc6, .int .i64 ((p : Nat) : Int)] 184 (0, 0)) :: Im 1 (.slice pp5 bs.length cc6) bs.length (bs.flatMap u8c) :: (F.set i emp)) := H16
  refine r_cons (s_load (.slice pp5 bs.length cc6) ag_23 rfl (H17.blk_at (i := 1) rfl) rfl rfl ?_)
  refine r_cons (s_move (.int .i64 (k : Int)) rfl rfl ?_)
  refine r_cons (s_quo ((k : Int) / 8) rfl rfl (by omega) (by rw [tdiv_pos (by omega)]; exact wi64 (by omega)) rfl ?_)
  refine r_cons (s_indexAddr gA7 (off := oA8) ((k : Int) / 8) 1 (oA8 + (k / 8) * 1) (by exact congrArg (fun z_ => Value.slice z_ bs.length cc6) (hp13 (by omega))) rfl el_23 (by omega) (by rw [show ((k : Int) / 8 : Int).toNat = k / 8 from by omega]) rfl ?_)
  refine r_cons (s_load (.int .u8 ((bs.getD (k / 8) 0).toNat : Int)) ag_5 rfl (H17.imi_at (i := 0) rfl (by omega)) (elem_cell (L := bs) (i := k / 8) u8c_len (hx14 (by omega)) (by omega) 0 0 (by decide) _ rfl) rfl ?_)
  refine r_cons (s_move (.int .i64 (k : Int)) rfl rfl ?_)
  refine r_cons (s_rem ((k : Int) % 8) rfl rfl (by omega) (tmod_pos (by omega)) rfl ?_)
  refine r_cons (s_sub (7 - ((k : Int) % 8)) rfl rfl (wi64 (by omega)) rfl ?_)
  refine r_cons (s_shr (((bs.getD (k / 8) 0).toNat / 2 ^ (7 - k % 8) : Nat) : Int) rfl rfl (by omega) (shr_nat (k := 7 - k % 8) (by omega) (by show _ ≤ 8; omega)) rfl ?_)
  refine r_cons (s_and (((bs.getD (k / 8) 0).toNat / 2 ^ (7 - k % 8) % 2 : Nat) : Int) rfl rfl (and_one8 _ (Nat.lt_of_le_of_lt (Nat.div_le_self _ _) (UInt8.toNat_lt _))) rfl ?_)
  refine r_cons (s_conv ((bitAt bs k).toNat : Int) rfl us_5 ik_137 ((by rw [bit_nat]; exact wu64 (by have := Bool.toNat_le (bitAt bs k); unfold bitAt at this; omega))) rfl ?_)
  refine r_cons (s_assign (.int .u64 ((bitAt bs k).toNat : Int)) rfl rfl ?_)
  refine r_nil ?_
  refine g_ret' [.int .u64 ((bitAt bs k).toNat : Int)] Try.func140 Try.results140 ⟨rfl, trivial⟩ ?_
  have H18 : St W w (blk b (.cells #[.bool true, .slice pp5 bs.length cc6, .int .i64 ((p : Nat) : Int)] 184 (0, 0)) :: Im 1 (.slice pp5 bs.length cc6) bs.length (bs.flatMap u8c) :: (F.set i emp)) := (((H17.move 2 rfl).move 2 rfl).drop 2 rfl)
  have H19 : St W w (SrcA b bs p :: (F.set i emp)) := St.shut_ex (.slice pp5 bs.length cc6) (St.shut_star (ls := [blk b (.cells #[.bool true, .slice pp5 bs.length cc6, .int .i64 ((p : Nat) : Int)] 184 (0, 0)), Im 1 (.slice pp5 bs.length cc6) bs.length (bs.flatMap u8c)]) H18)
  have H20 : St W w (SrcA b bs p :: (F.set i emp)) := H19
  exact ⟨rfl, St.back_same hi H20⟩
set_option maxHeartbeats 4000000 in
set_option maxRecDepth 100000 in
theorem Src_Bits {W w : World} {F : List Atom} (b : Nat) (bs : List UInt8) (p : Nat) (hp : p ≤ 8 * bs.length) (hb : bs.length ≤ 140737488355328) (n : Int) {i : Nat} (hi : F[i]? = some (SrcA b bs p)) (H : St W w F) : Calls Try.prog 119 #[.pointer (some ⟨b, 0, none⟩), .int .i64 n] w (Ret fun v w' => v = .tuple #[.int .u64 (srcU (remB bs p) n : Int), .int .i64 (srcE (remB bs p) n)] ∧ St W w' (F.set i (SrcA b bs (p + srcN (remB bs p) n)))) := by
  have H0 := H.front hi
  refine calls_of_go (n := 50) Try.func119 rfl Try.ntmps119 rfl ?_
  refine g_seq ?_
  refine g_region ?_
  refine r_cons (s_assign (.int .u64 0) rfl rfl ?_)
  refine r_cons (s_assign (.int .i64 0) rfl rfl ?_)
  refine r_nil ?_
  refine g_seq ?_
  refine g_block ?_
  refine g_seq ?_
  refine g_region ?_
  refine r_cons (s_move (.pointer (some ⟨b, 0, none⟩)) rfl rfl ?_)
  refine r_cons (s_peql false un_144 rfl rfl rfl rfl ?_)
  refine r_cons (s_move (.bool false) rfl rfl ?_)
  refine r_cons (r_take rfl rfl ?_)
  refine s_move (.pointer (some ⟨b, 0, none⟩)) rfl rfl ?_
  refine r_cons (r_take rfl rfl ?_)
  refine s_nilCheck (.pointer (some ⟨b, 0, none⟩)) rfl ⟨_, rfl⟩ rfl ?_
  refine r_cons (r_take rfl rfl ?_)
  refine s_fieldAddr 184 0 0 0 4 rfl fi_184_0 rfl rfl ?_
  refine r_cons (r_take rfl rfl ?_)
  have H1 := H0.move 0 rfl
  obtain ⟨vv2, H3⟩ := St.open_ex H1
  have H4 := St.open_star H3
  obtain ⟨pp5, cc6, gA7, oA8, kA9, eA10, zA11, rfl, hn12, hp13, hx14, hs15, hml, H16⟩ := Im.open_ H4 (i := 1) rfl
  have H17 : St W w (imi (0 < bs.length) gA7 (.cells kA9 eA10 zA11) :: blk b (.cells #[.bool true, .slice pp5 bs.length cc6, .int .i64 ((p : Nat) : Int)] 184 (0, 0)) :: Im 1 (.slice pp5 bs.length cc6) bs.length (bs.flatMap u8c) :: (F.set i emp)) := H16
  refine s_load (.bool true) ag_4 rfl (H17.blk_at (i := 1) rfl) rfl rfl ?_
  refine r_cons (r_take rfl rfl ?_)
  refine s_not true rfl false rfl rfl ?_
  refine r_cons (s_pick_f (.bool false) rfl rfl rfl ?_)
  refine r_cons (s_assign (.bool false) rfl rfl ?_)
  refine r_nil ?_
  refine g_false rfl ?_
  refine g_seq ?_
  refine g_region ?_
  refine r_cons (s_move (.int .i64 n) rfl rfl ?_)
  by_cases hc18 : n < 0
  · skip
    refine r_cons (s_lss true rfl rfl (dtrue hc18) rfl ?_)
    refine r_cons (s_move (.bool true) rfl rfl ?_)
    refine r_cons (r_pass rfl rfl rfl rfl rfl ?_)
    refine r_cons (r_pass rfl rfl rfl rfl rfl ?_)
    refine r_cons (s_pick_t (.bool true) rfl rfl rfl ?_)
    refine r_cons (s_assign (.bool true) rfl rfl ?_)
    refine r_nil ?_
    refine g_true rfl ?_
    refine g_seq ?_
    refine g_region ?_
    refine r_cons (s_assign (.int .u64 0) rfl rfl ?_)
    refine r_cons (s_assign (.int .i64 1) rfl rfl ?_)
    refine r_nil ?_
    refine g_ret' [.int .u64 0, .int .i64 1] Try.func119 Try.results119 ⟨rfl, rfl, trivial⟩ ?_
    have H19 : St W w (blk b (.cells #[.bool true, .slice pp5 bs.length cc6, .int .i64 ((p : Nat) : Int)] 184 (0, 0)) :: Im 1 (.slice pp5 bs.length cc6) bs.length (bs.flatMap u8c) :: (F.set i emp)) := (((H17.move 2 rfl).move 2 rfl).drop 2 rfl)
    have H20 : St W w (SrcA b bs p :: (F.set i emp)) := St.shut_ex (.slice pp5 bs.length cc6) (St.shut_star (ls := [blk b (.cells #[.bool true, .slice pp5 bs.length cc6, .int .i64 ((p : Nat) : Int)] 184 (0, 0)), Im 1 (.slice pp5 bs.length cc6) bs.length (bs.flatMap u8c)]) H19)
    have H21 : St W w (SrcA b bs p :: (F.set i emp)) := H20
    have hE : srcE (remB bs p) n = 1 := by first | exact srcE_1 (by omega) | exact srcE_10 (by omega) (by omega)
    have hE0 : ¬ srcE (remB bs p) n = 0 := by rw [hE]; decide
    exact ⟨by rw [srcU_no hE0, hE]; rfl, by rw [srcN_no hE0]; exact St.back hi H21⟩
  · skip
    refine r_cons (s_lss false rfl rfl (dfalse hc18) rfl ?_)
    refine r_cons (s_move (.bool false) rfl rfl ?_)
    refine r_cons (r_take rfl rfl ?_)
    refine s_move (.int .i64 n) rfl rfl ?_
    refine r_cons (r_take rfl rfl ?_)
    by_cases hc22 : (64 : Int) < n
    · skip
      refine s_gtr true rfl rfl (dtrue hc22) rfl ?_
      refine r_cons (s_pick_f (.bool true) rfl rfl rfl ?_)
      refine r_cons (s_assign (.bool true) rfl rfl ?_)
      refine r_nil ?_
      refine g_true rfl ?_
      refine g_seq ?_
      refine g_region ?_
      refine r_cons (s_assign (.int .u64 0) rfl rfl ?_)
      refine r_cons (s_assign (.int .i64 1) rfl rfl ?_)
      refine r_nil ?_
      refine g_ret' [.int .u64 0, .int .i64 1] Try.func119 Try.results119 ⟨rfl, rfl, trivial⟩ ?_
      have H23 : St W w (blk b (.cells #[.bool true, .slice pp5 bs.length cc6, .int .i64 ((p : Nat) : Int)] 184 (0, 0)) :: Im 1 (.slice pp5 bs.length cc6) bs.length (bs.flatMap u8c) :: (F.set i emp)) := (((H17.move 2 rfl).move 2 rfl).drop 2 rfl)
      have H24 : St W w (SrcA b bs p :: (F.set i emp)) := St.shut_ex (.slice pp5 bs.length cc6) (St.shut_star (ls := [blk b (.cells #[.bool true, .slice pp5 bs.length cc6, .int .i64 ((p : Nat) : Int)] 184 (0, 0)), Im 1 (.slice pp5 bs.length cc6) bs.length (bs.flatMap u8c)]) H23)
      have H25 : St W w (SrcA b bs p :: (F.set i emp)) := H24
      have hE : srcE (remB bs p) n = 1 := by first | exact srcE_1 (by omega) | exact srcE_10 (by omega) (by omega)
      have hE0 : ¬ srcE (remB bs p) n = 0 := by rw [hE]; decide
      exact ⟨by rw [srcU_no hE0, hE]; rfl, by rw [srcN_no hE0]; exact St.back hi H25⟩
    · skip
      refine s_gtr false rfl rfl (dfalse hc22) rfl ?_
      refine r_cons (s_pick_f (.bool false) rfl rfl rfl ?_)
      refine r_cons (s_assign (.bool false) rfl rfl ?_)
      refine r_nil ?_
      refine g_false rfl ?_
      refine g_seq ?_
      refine g_region ?_
      refine r_cons (s_move (.int .i64 n) rfl rfl ?_)
      refine r_cons (s_move (.pointer (some ⟨b, 0, none⟩)) rfl rfl ?_)
      have H26 : St W w (blk b (.cells #[.bool true, .slice pp5 bs.length cc6, .int .i64 ((p : Nat) : Int)] 184 (0, 0)) :: Im 1 (.slice pp5 bs.length cc6) bs.length (bs.flatMap u8c) :: (F.set i emp)) := (((H17.move 2 rfl).move 2 rfl).drop 2 rfl)
      have H27 : St W w (SrcA b bs p :: (F.set i emp)) := St.shut_ex (.slice pp5 bs.length cc6) (St.shut_star (ls := [blk b (.cells #[.bool true, .slice pp5 bs.length cc6, .int .i64 ((p : Nat) : Int)] 184 (0, 0)), Im 1 (.slice pp5 bs.length cc6) bs.length (bs.flatMap u8c)]) H26)
      refine r_cons (s_call [.pointer (some ⟨b, 0, none⟩)] pl_117 rfl rfl (Src_Left b bs p (by first | omega | decide +kernel | (repeat (first | assumption | exact Nat.zero_le _ | refine natN_pos ?_ | refine srcN_pos ?_ | refine textN_pos ?_))) (by first | omega | decide +kernel)   (i := 0) rfl H27) ?_)
      rintro _ w28 ⟨rfl, H29⟩
      by_cases hc30 : ((remB bs p).length : Int) < n
      · skip
        refine r_cons (s_gtr true rfl rfl (dtrue hc30) rfl ?_)
        refine r_cons (s_assign (.bool true) rfl rfl ?_)
        refine r_nil ?_
        refine g_true rfl ?_
        refine g_seq ?_
        refine g_region ?_
        refine r_cons (s_assign (.int .u64 0) rfl rfl ?_)
        refine r_cons (s_assign (.int .i64 10) rfl rfl ?_)
        refine r_nil ?_
        refine g_ret' [.int .u64 0, .int .i64 10] Try.func119 Try.results119 ⟨rfl, rfl, trivial⟩ ?_
        have H31 : St W w28 (SrcA b bs p :: (F.set i emp)) := H29
        have hE : srcE (remB bs p) n = 10 := by first | exact srcE_1 (by omega) | exact srcE_10 (by omega) (by omega)
        have hE0 : ¬ srcE (remB bs p) n = 0 := by rw [hE]; decide
        exact ⟨by rw [srcU_no hE0, hE]; rfl, by rw [srcN_no hE0]; exact St.back hi H31⟩
      · skip
        refine r_cons (s_gtr false rfl rfl (dfalse hc30) rfl ?_)
        refine r_cons (s_assign (.bool false) rfl rfl ?_)
        refine r_nil ?_
        refine g_false rfl ?_
        refine g_skip ?_
        refine g_inBlock ?_
        refine g_seq ?_
        refine g_region ?_
        refine r_cons (s_assign (.int .u64 0) rfl rfl ?_)
        refine r_nil ?_
        refine g_seq ?_
        refine g_seq ?_
        refine g_region ?_
        refine r_cons (s_move (.int .i64 n) rfl rfl ?_)
        refine r_cons (s_move (.int .i64 0) rfl rfl ?_)
        refine r_nil ?_
        refine g_block ?_
        have H32 : St W w28 (SrcA b bs p :: (F.set i emp)) := H29
        have hE := srcE_0 (R := remB bs p) (n := n) (by omega) (by omega)
        have hL := remB_len bs p
        have hI := srcE_is hE
        have H33 : St W w28 (SrcA b bs (p + 0) :: (F.set i emp)) := H32
        refine g_loop_inv (fun (x_ : Nat) => match x_ with | j => [(0, .pointer (some ⟨b, 0, none⟩)), (4, .int .u64 0), (5, .int .i64 0), (6, .int .u64 (valOf ((remB bs p).take j) : Int)), (29, .int .i64 n), (30, .int .i64 (j : Int))]) (fun (x_ : Nat) w => match x_ with | j => ((j : Int) ≤ n) ∧ St W w (SrcA b bs (p + j) :: (F.set i emp))) (fun (x_ : Nat) => match x_ with | j => n.toNat - j) (0) ?_ ?_ ?_
        · exact ⟨by first | rfl | exact vint (by omega), by first | rfl | exact vint (by omega), by first | rfl | exact vint (by omega), by first | rfl | exact vint (by omega), by first | rfl | exact vint (by omega), by first | rfl | exact vint (by omega), trivial⟩
        · exact ⟨(by omega), H33⟩
        · rintro j ρ34 w35 ⟨hj, H36⟩ nx37
          change Ends _ _ (upds ρ34 [(0, .pointer (some ⟨b, 0, none⟩)), (4, .int .u64 0), (5, .int .i64 0), (6, .int .u64 (valOf ((remB bs p).take j) : Int)), (29, .int .i64 n), (30, .int .i64 (j : Int))]) w35
          have hfin : ¬ (j : Int) < n → (j = n.toNat) := fun h => by omega
          refine g_seq ?_
          refine g_region ?_
          by_cases hc38 : (j : Int) < n
          · skip
            refine r_cons (s_lss true rfl rfl (dtrue hc38) rfl ?_)
            refine r_nil ?_
            refine g_seq ?_
            refine g_true rfl ?_
            refine g_skip ?_
            refine g_seq ?_
            refine g_block ?_
            refine g_seq ?_
            refine g_region ?_
            have hv := val_take_lt63 (remB bs p) (j := j) (by omega)
            have hv2 := valOf_take_rem (bs := bs) (p := p) (j := j) (by omega)
            have hbb := Bool.toNat_le (bitAt bs (p + j))
            refine r_cons (s_move (.int .u64 (valOf ((remB bs p).take j) : Int)) rfl rfl ?_)
            refine r_cons (s_shl ((2 * valOf ((remB bs p).take j) : Nat) : Int) rfl rfl (by omega) (shl1 hv) rfl ?_)
            refine r_cons (s_move (.pointer (some ⟨b, 0, none⟩)) rfl rfl ?_)
            refine r_cons (s_move (.pointer (some ⟨b, 0, none⟩)) rfl rfl ?_)
            refine r_cons (s_nilCheck (.pointer (some ⟨b, 0, none⟩)) rfl ⟨_, rfl⟩ rfl ?_)
            refine r_cons (s_fieldAddr 184 2 2 2 3 rfl fi_184_2 rfl rfl ?_)
            have H39 := H36.move 0 rfl
            obtain ⟨vv40, H41⟩ := St.open_ex H39
            have H42 := St.open_star H41
            obtain ⟨pp43, cc44, gA45, oA46, kA47, eA48, zA49, rfl, hn50, hp51, hx52, hs53, hml, H54⟩ := Im.open_ H42 (i := 1) rfl
            have H55 : St W w35 (imi (0 < bs.length) gA45 (.cells kA47 eA48 zA49) :: blk b (.cells #[.bool true, .slice pp43 bs.length cc44, .int .i64 ((p + j : Nat) : Int)] 184 (0, 0)) :: Im 1 (.slice pp43 bs.length cc44) bs.length (bs.flatMap u8c) :: (F.set i emp)) := H54
            refine r_cons (s_load (.int .i64 ((p + j : Nat) : Int)) ag_3 rfl (H55.blk_at (i := 1) rfl) rfl rfl ?_)
            have H56 : St W w35 (blk b (.cells #[.bool true, .slice pp43 bs.length cc44, .int .i64 ((p + j : Nat) : Int)] 184 (0, 0)) :: Im 1 (.slice pp43 bs.length cc44) bs.length (bs.flatMap u8c) :: (F.set i emp)) := (((H55.move 2 rfl).move 2 rfl).drop 2 rfl)
            have H57 : St W w35 (SrcA b bs (p + j) :: (F.set i emp)) := St.shut_ex (.slice pp43 bs.length cc44) (St.shut_star (ls := [blk b (.cells #[.bool true, .slice pp43 bs.length cc44, .int .i64 ((p + j : Nat) : Int)] 184 (0, 0)), Im 1 (.slice pp43 bs.length cc44) bs.length (bs.flatMap u8c)]) H56)
            refine r_cons (s_call [.pointer (some ⟨b, 0, none⟩), .int .i64 ((p + j : Nat) : Int)] pl_140 rfl rfl (Src_bit b bs (p + j) (by first | omega | decide +kernel | (repeat (first | assumption | exact Nat.zero_le _ | refine natN_pos ?_ | refine srcN_pos ?_ | refine textN_pos ?_))) (by first | omega | decide +kernel) (p + j) (by omega) (i := 0) rfl H57) ?_)
            rintro _ w58 ⟨rfl, H59⟩
            refine r_cons (s_or ((2 * valOf ((remB bs p).take j) + (bitAt bs (p + j)).toNat : Nat) : Int) rfl rfl (or_low _ _ hv hbb) rfl ?_)
            refine r_cons (s_assign (.int .u64 ((2 * valOf ((remB bs p).take j) + (bitAt bs (p + j)).toNat : Nat) : Int)) rfl rfl ?_)
            refine r_nil ?_
            refine g_region ?_
            refine r_cons (s_move (.pointer (some ⟨b, 0, none⟩)) rfl rfl ?_)
            refine r_cons (s_nilCheck (.pointer (some ⟨b, 0, none⟩)) rfl ⟨_, rfl⟩ rfl ?_)
            refine r_cons (s_fieldAddr 184 2 2 2 3 rfl fi_184_2 rfl rfl ?_)
            have H60 := H59.move 0 rfl
            obtain ⟨vv61, H62⟩ := St.open_ex H60
            have H63 := St.open_star H62
            obtain ⟨pp64, cc65, gA66, oA67, kA68, eA69, zA70, rfl, hn71, hp72, hx73, hs74, hml, H75⟩ := Im.open_ H63 (i := 1) rfl
            have H76 : St W w58 (imi (0 < bs.length) gA66 (.cells kA68 eA69 zA70) :: blk b (.cells #[.bool true, .slice pp64 bs.length cc65, .int .i64 ((p + j : Nat) : Int)] 184 (0, 0)) :: Im 1 (.slice pp64 bs.length cc65) bs.length (bs.flatMap u8c) :: (F.set i emp)) := H75
            refine r_cons (s_load (.int .i64 ((p + j : Nat) : Int)) ag_3 rfl (H76.blk_at (i := 1) rfl) rfl rfl ?_)
            refine r_cons (s_add (((p + j : Nat) : Int) + 1) rfl rfl (wi64 (by omega)) rfl ?_)
            refine r_cons (s_nilCheck (.pointer (some ⟨b, 0, none⟩)) rfl ⟨_, rfl⟩ rfl ?_)
            refine r_cons (s_fieldAddr 184 2 2 2 3 rfl fi_184_2 rfl rfl ?_)
            refine r_cons (s_store H76 1 (.int .i64 (((p + j : Nat) : Int) + 1)) rfl rfl rfl sz_3 rfl (Nat.le_of_ble_eq_true rfl) rfl (cs' := #[.bool true, .slice pp64 bs.length cc65, .int .i64 (((p + j : Nat) : Int) + 1)]) rfl ?_); intro w77 H78
            refine r_nil ?_
            refine g_inBlock ?_
            refine g_region ?_
            refine r_cons (s_add ((j : Int) + 1) rfl rfl (wi64 (by omega)) rfl ?_)
            refine r_cons (s_move (.int .i64 ((j : Int) + 1)) rfl rfl ?_)
            refine r_nil ?_
            have H79 : St W w77 (blk b (.cells #[.bool true, .slice pp64 bs.length cc65, .int .i64 (((p + j : Nat) : Int) + 1)] 184 (0, 0)) :: Im 1 (.slice pp64 bs.length cc65) bs.length (bs.flatMap u8c) :: (F.set i emp)) := (((H78.move 2 rfl).move 2 rfl).drop 2 rfl)
            have H80 : St W w77 (blk b (.cells #[.bool true, .slice pp64 bs.length cc65, .int .i64 ((p + (j + 1) : Nat) : Int)] 184 (0, 0)) :: Im 1 (.slice pp64 bs.length cc65) bs.length (bs.flatMap u8c) :: (F.set i emp)) := by rw [show ((p + (j + 1) : Nat) : Int) = ((p + j : Nat) : Int) + 1 from by omega]; exact H79
            have H81 : St W w77 (SrcA b bs (p + (j + 1)) :: (F.set i emp)) := St.shut_ex (.slice pp64 bs.length cc65) (St.shut_star (ls := [blk b (.cells #[.bool true, .slice pp64 bs.length cc65, .int .i64 ((p + (j + 1) : Nat) : Int)] 184 (0, 0)), Im 1 (.slice pp64 bs.length cc65) bs.length (bs.flatMap u8c)]) H80)
            have H82 : St W w77 (SrcA b bs (p + (j + 1)) :: (F.set i emp)) := H81
            exact nx37 (j + 1) _ _ ⟨(by omega), H82⟩ (by first | (dsimp only; omega) | omega) ⟨by first | rfl | exact vint (by omega), by first | rfl | exact vint (by omega), by first | rfl | exact vint (by omega), by first | rfl | exact vint (by omega), by first | rfl | exact vint (by omega), by first | rfl | exact vint (by omega), trivial⟩
          · skip
            refine r_cons (s_lss false rfl rfl (dfalse hc38) rfl ?_)
            refine r_nil ?_
            refine g_seq ?_
            refine g_false rfl ?_
            refine g_exit (by rfl) ?_
            refine g_seq ?_
            refine g_region ?_
            refine r_cons (s_move (.int .u64 (valOf ((remB bs p).take j) : Int)) rfl rfl ?_)
            refine r_cons (s_assign (.int .u64 (valOf ((remB bs p).take j) : Int)) rfl rfl ?_)
            refine r_cons (s_assign (.int .i64 0) rfl rfl ?_)
            refine r_nil ?_
            refine g_ret' [.int .u64 (valOf ((remB bs p).take j) : Int), .int .i64 0] Try.func119 Try.results119 ⟨rfl, rfl, trivial⟩ ?_
            have H83 : St W w35 (SrcA b bs (p + j) :: (F.set i emp)) := H36
            obtain rfl : j = n.toNat := by omega
            exact ⟨by rw [hE, srcU_0 hE]; rfl, by rw [srcN_0 hE]; exact St.back hi H83⟩
set_option maxHeartbeats 4000000 in
set_option maxRecDepth 100000 in
theorem Src_back_ok {W w : World} {F : List Atom} (b : Nat) (bs : List UInt8) (p : Nat) (q : Int) (e : Int) (he : e = 0) {i : Nat} (hi : F[i]? = some (SrcA b bs p)) (H : St W w F) : Calls Try.prog 118 #[.pointer (some ⟨b, 0, none⟩), .int .i64 q, .int .i64 e] w (Ret fun v w' => v = .int .i64 e ∧ St W w' F) := by
  have H0 := H.front hi
  refine calls_of_go (n := 14) Try.func118 rfl Try.ntmps118 rfl ?_
  refine g_seq ?_
  refine g_region ?_
  refine r_cons (s_assign (.int .i64 0) rfl rfl ?_)
  refine r_nil ?_
  refine g_seq ?_
  refine g_seq ?_
  refine g_region ?_
  refine r_cons (s_move (.int .i64 e) rfl rfl ?_)
  refine r_cons (s_neq false rfl rfl (ntrue he) rfl ?_)
  refine r_nil ?_
  refine g_false rfl ?_
  refine g_skip ?_
  refine g_seq ?_
  refine g_region ?_
  refine r_cons (s_move (.int .i64 e) rfl rfl ?_)
  refine r_cons (s_assign (.int .i64 e) rfl rfl ?_)
  refine r_nil ?_
  refine g_ret' [.int .i64 e] Try.func118 Try.results118 ⟨rfl, trivial⟩ ?_
  have H1 : St W w (SrcA b bs p :: (F.set i emp)) := H0
  exact ⟨rfl, St.back_same hi H1⟩
set_option maxHeartbeats 4000000 in
set_option maxRecDepth 100000 in
theorem Src_back_no {W w : World} {F : List Atom} (b : Nat) (bs : List UInt8) (p : Nat) (q : Nat) (e : Int) (he : ¬ e = 0) {i : Nat} (hi : F[i]? = some (SrcA b bs p)) (H : St W w F) : Calls Try.prog 118 #[.pointer (some ⟨b, 0, none⟩), .int .i64 ((q : Nat) : Int), .int .i64 e] w (Ret fun v w' => v = .int .i64 e ∧ St W w' (F.set i (SrcA b bs q))) := by
  have H0 := H.front hi
  refine calls_of_go (n := 14) Try.func118 rfl Try.ntmps118 rfl ?_
  refine g_seq ?_
  refine g_region ?_
  refine r_cons (s_assign (.int .i64 0) rfl rfl ?_)
  refine r_nil ?_
  refine g_seq ?_
  refine g_seq ?_
  refine g_region ?_
  refine r_cons (s_move (.int .i64 e) rfl rfl ?_)
  refine r_cons (s_neq true rfl rfl (nfalse he) rfl ?_)
  refine r_nil ?_
  refine g_true rfl ?_
  refine g_region ?_
  refine r_cons (s_move (.pointer (some ⟨b, 0, none⟩)) rfl rfl ?_)
  refine r_cons (s_move (.int .i64 ((q : Nat) : Int)) rfl rfl ?_)
  refine r_cons (s_nilCheck (.pointer (some ⟨b, 0, none⟩)) rfl ⟨_, rfl⟩ rfl ?_)
  refine r_cons (s_fieldAddr 184 2 2 2 3 rfl fi_184_2 rfl rfl ?_)
  have H1 := H0.move 0 rfl
  obtain ⟨vv2, H3⟩ := St.open_ex H1
  have H4 := St.open_star H3
  obtain ⟨pp5, cc6, gA7, oA8, kA9, eA10, zA11, rfl, hn12, hp13, hx14, hs15, hml, H16⟩ := Im.open_ H4 (i := 1) rfl
  have H17 : St W w (imi (0 < bs.length) gA7 (.cells kA9 eA10 zA11) :: blk b (.cells #[.bool true, .slice pp5 bs.length cc6, .int .i64 ((p : Nat) : Int)] 184 (0, 0)) :: Im 1 (.slice pp5 bs.length cc6) bs.length (bs.flatMap u8c) :: (F.set i emp)) := H16
  refine r_cons (s_store H17 1 (.int .i64 ((q : Nat) : Int)) rfl rfl rfl sz_3 rfl (Nat.le_of_ble_eq_true rfl) rfl (cs' := #[.bool true, .slice pp5 bs.length cc6, .int .i64 ((q : Nat) : Int)]) rfl ?_); intro w18 H19
  refine r_nil ?_
  refine g_seq ?_
  refine g_region ?_
  refine r_cons (s_move (.int .i64 e) rfl rfl ?_)
  refine r_cons (s_assign (.int .i64 e) rfl rfl ?_)
  refine r_nil ?_
  refine g_ret' [.int .i64 e] Try.func118 Try.results118 ⟨rfl, trivial⟩ ?_
  have H20 : St W w18 (blk b (.cells #[.bool true, .slice pp5 bs.length cc6, .int .i64 ((q : Nat) : Int)] 184 (0, 0)) :: Im 1 (.slice pp5 bs.length cc6) bs.length (bs.flatMap u8c) :: (F.set i emp)) := (((H19.move 2 rfl).move 2 rfl).drop 2 rfl)
  have H21 : St W w18 (SrcA b bs q :: (F.set i emp)) := St.shut_ex (.slice pp5 bs.length cc6) (St.shut_star (ls := [blk b (.cells #[.bool true, .slice pp5 bs.length cc6, .int .i64 ((q : Nat) : Int)] 184 (0, 0)), Im 1 (.slice pp5 bs.length cc6) bs.length (bs.flatMap u8c)]) H20)
  have H22 : St W w18 (SrcA b bs q :: (F.set i emp)) := H21
  exact ⟨rfl, St.back hi H22⟩
end Sl
