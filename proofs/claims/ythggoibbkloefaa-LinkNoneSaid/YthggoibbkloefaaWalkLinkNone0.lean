/- Walks of the program's functions. Printed by a program of this claim's author. No condition. -/
import Derived.Test.YthggoibbkloefaaSlBF
import Derived.Test.YthggoibbkloefaaSlQ
import Derived.Test.YthggoibbkloefaaSlG
import Derived.Test.YthggoibbkloefaaSlBB
import Derived.Test.YthggoibbkloefaaSlAB
import Derived.Test.YthggoibbkloefaaSlDC
import Derived.Test.YthggoibbkloefaaSlDJ
import Derived.Test.YthggoibbkloefaaSlEC
import Derived.Test.YthggoibbkloefaaSlBA
import Derived.Test.YthggoibbkloefaaSlEE
import Derived.Test.YthggoibbkloefaaSlEF
import Derived.Test.YthggoibbkloefaaProg
namespace Sl
open _root_.Go _root_.Go.RowKit _root_.Go.Proofs
set_option linter.all false
theorem nbl {m n : Nat} (h : Nat.ble m n = true) : m ≤ n := Nat.le_of_ble_eq_true h
theorem un_26 : Try.prog.underlying 26 = some (.slice 5) := by kernel_rfl
theorem el_26 : elemSize Try.prog 26 = some (5, 1) := by kernel_rfl
theorem in_5 : (Try.prog.info? 5).map (fun i => (i.zero, i.size, i.bytes)) = some (some (.int .u8 0), 1, 1) := by kernel_rfl
theorem ap_26 : appInfo Try.prog 26 5 1 1 1 := appInfo_mk un_26 in_5 rfl
theorem fi_41_2 : fieldOff Try.prog 41 2 = some (2, 3) := by kernel_rfl
theorem ag_3 : isAggB Try.prog 3 = false ∧ (Try.prog.underlying 3).isSome = true := ⟨by kernel_rfl, by kernel_rfl⟩
theorem fi_41_3 : fieldOff Try.prog 41 3 = some (3, 2) := by kernel_rfl
theorem ag_2 : isAggB Try.prog 2 = false ∧ (Try.prog.underlying 2).isSome = true := ⟨by kernel_rfl, by kernel_rfl⟩
theorem fi_41_5 : fieldOff Try.prog 41 5 = some (5, 26) := by kernel_rfl
theorem ag_26 : isAggB Try.prog 26 = false ∧ (Try.prog.underlying 26).isSome = true := ⟨by kernel_rfl, by kernel_rfl⟩
theorem fi_41_0 : fieldOff Try.prog 41 0 = some (0, 3) := by kernel_rfl
theorem pl_59 : plainFn Try.prog 59 = true := by kernel_rfl
theorem fi_41_1 : fieldOff Try.prog 41 1 = some (1, 3) := by kernel_rfl
theorem pl_60 : plainFn Try.prog 60 = true := by kernel_rfl
theorem fi_41_4 : fieldOff Try.prog 41 4 = some (4, 2) := by kernel_rfl
theorem pl_64 : plainFn Try.prog 64 = true := by kernel_rfl
theorem pl_65 : plainFn Try.prog 65 = true := by kernel_rfl
theorem un_5 : Try.prog.underlying 5 = some (.int .u8) := by kernel_rfl
theorem un_9 : Try.prog.underlying 9 = some (.string) := by kernel_rfl
theorem un_2 : Try.prog.underlying 2 = some (.int .i64) := by kernel_rfl
theorem un_30 : Try.prog.underlying 30 = some (.pointer 62) := by kernel_rfl
theorem fi_62_5 : fieldOff Try.prog 62 5 = some (6, 60) := by kernel_rfl
theorem ag_60 : isAggB Try.prog 60 = false ∧ (Try.prog.underlying 60).isSome = true := ⟨by kernel_rfl, by kernel_rfl⟩
theorem un_60 : Try.prog.underlying 60 = some (.map 2 26) := by kernel_rfl
theorem pl_31 : plainFn Try.prog 31 = true := by kernel_rfl
theorem fi_62_2 : fieldOff Try.prog 62 2 = some (3, 59) := by kernel_rfl
theorem ag_59 : isAggB Try.prog 59 = false ∧ (Try.prog.underlying 59).isSome = true := ⟨by kernel_rfl, by kernel_rfl⟩
theorem un_59 : Try.prog.underlying 59 = some (.slice 79) := by kernel_rfl
theorem mixed : Try.prog.follows .mixedOrders = true := by kernel_rfl
theorem fi_62_3 : fieldOff Try.prog 62 3 = some (4, 2) := by kernel_rfl
theorem fi_62_4 : fieldOff Try.prog 62 4 = some (5, 2) := by kernel_rfl
theorem pl_10 : plainFn Try.prog 10 = true := by kernel_rfl
theorem el_59 : elemSize Try.prog 59 = some (79, 3) := by kernel_rfl
theorem fi_79_1 : fieldOff Try.prog 79 1 = some (1, 4) := by kernel_rfl
theorem ag_4 : isAggB Try.prog 4 = false ∧ (Try.prog.underlying 4).isSome = true := ⟨by kernel_rfl, by kernel_rfl⟩
theorem fi_62_7 : fieldOff Try.prog 62 7 = some (8, 4) := by kernel_rfl
theorem pl_24 : plainFn Try.prog 24 = true := by kernel_rfl
theorem pl_48 : plainFn Try.prog 48 = true := by kernel_rfl
theorem ze_79 : zeroOf Try.prog 79 = some #[.slice none 0 0, .bool false, .int .i64 0] := by kernel_rfl
theorem in_79 : (Try.prog.info? 79).map (fun i => (i.zero, i.size, i.bytes)) = some (some (.agg #[.slice none 0 0, .bool false, .int .i64 0]), 3, 40) := by kernel_rfl
theorem ap_59 : appInfo Try.prog 59 79 3 40 3 := appInfo_mk un_59 in_79 rfl
theorem sz_59 : (Try.prog.info? 59).map (·.size) = some 1 := by kernel_rfl
theorem ze_41 : zeroOf Try.prog 41 = some #[.int .i64 0, .int .i64 0, .int .i64 0, .int .i64 0, .int .i64 0, .slice none 0 0] := by kernel_rfl
theorem fi_62_6 : fieldOff Try.prog 62 6 = some (7, 2) := by kernel_rfl
theorem sz_4 : (Try.prog.info? 4).map (·.size) = some 1 := by kernel_rfl
theorem fi_79_2 : fieldOff Try.prog 79 2 = some (2, 2) := by kernel_rfl
theorem sz_2 : (Try.prog.info? 2).map (·.size) = some 1 := by kernel_rfl
theorem fi_62_0 : fieldOff Try.prog 62 0 = some (0, 46) := by kernel_rfl
theorem fi_46_0 : fieldOff Try.prog 46 0 = some (0, 3) := by kernel_rfl
theorem fi_46_1 : fieldOff Try.prog 46 1 = some (1, 3) := by kernel_rfl
theorem fi_79_0 : fieldOff Try.prog 79 0 = some (0, 26) := by kernel_rfl
theorem sz_41 : (Try.prog.info? 41).map (·.size) = some 6 := by kernel_rfl
theorem ag_41 : isAggB Try.prog 41 = true ∧ (Try.prog.info? 41).map (·.size) = some 6 := ⟨by kernel_rfl, by kernel_rfl⟩
theorem ag_30 : isAggB Try.prog 30 = false ∧ (Try.prog.underlying 30).isSome = true := ⟨by kernel_rfl, by kernel_rfl⟩
theorem fi_62_1 : fieldOff Try.prog 62 1 = some (2, 3) := by kernel_rfl
theorem ag_79 : isAggB Try.prog 79 = true ∧ (Try.prog.info? 79).map (·.size) = some 3 := ⟨by kernel_rfl, by kernel_rfl⟩
theorem pl_49 : plainFn Try.prog 49 = true := by kernel_rfl
theorem pl_53 : plainFn Try.prog 53 = true := by kernel_rfl
theorem el_34 : elemSize Try.prog 34 = some (41, 6) := by kernel_rfl
theorem in_41 : (Try.prog.info? 41).map (fun i => (i.zero, i.size, i.bytes)) = some (some (.agg #[.int .i64 0, .int .i64 0, .int .i64 0, .int .i64 0, .int .i64 0, .slice none 0 0]), 6, 64) := by kernel_rfl
theorem un_34 : Try.prog.underlying 34 = some (.slice 41) := by kernel_rfl
theorem ap_34 : appInfo Try.prog 34 41 6 64 6 := appInfo_mk un_34 in_41 rfl
theorem pl_33 : plainFn Try.prog 33 = true := by kernel_rfl
theorem pl_32 : plainFn Try.prog 32 = true := by kernel_rfl
theorem pl_23 : plainFn Try.prog 23 = true := by kernel_rfl
theorem pl_35 : plainFn Try.prog 35 = true := by kernel_rfl
theorem ag_46 : isAggB Try.prog 46 = true ∧ (Try.prog.info? 46).map (·.size) = some 2 := ⟨by kernel_rfl, by kernel_rfl⟩
theorem pl_46 : plainFn Try.prog 46 = true := by kernel_rfl
theorem zv_26 : ∀ w : World, (zeroValue 26).run Try.prog w = .ok (.slice none 0 0) w := fun w => by kernel_rfl
theorem el_32 : elemSize Try.prog 32 = some (26, 1) := by kernel_rfl
theorem ze_26 : zeroOf Try.prog 26 = some #[.slice none 0 0] := by kernel_rfl
theorem in_26 : (Try.prog.info? 26).map (fun i => (i.zero, i.size, i.bytes)) = some (some (.slice none 0 0), 1, 24) := by kernel_rfl
theorem un_32 : Try.prog.underlying 32 = some (.slice 26) := by kernel_rfl
theorem ap_32 : appInfo Try.prog 32 26 1 24 1 := appInfo_mk un_32 in_26 rfl
theorem pl_47 : plainFn Try.prog 47 = true := by kernel_rfl
theorem pl_16 : plainFn Try.prog 16 = true := by kernel_rfl
theorem fi_86_2 : fieldOff Try.prog 86 2 = some (3, 83) := by kernel_rfl
theorem ag_83 : isAggB Try.prog 83 = false ∧ (Try.prog.underlying 83).isSome = true := ⟨by kernel_rfl, by kernel_rfl⟩
theorem un_83 : Try.prog.underlying 83 = some (.slice 101) := by kernel_rfl
theorem fi_86_3 : fieldOff Try.prog 86 3 = some (4, 2) := by kernel_rfl
theorem fi_86_1 : fieldOff Try.prog 86 1 = some (2, 3) := by kernel_rfl
theorem pl_42 : plainFn Try.prog 42 = true := by kernel_rfl
theorem fi_86_5 : fieldOff Try.prog 86 5 = some (6, 84) := by kernel_rfl
theorem ag_84 : isAggB Try.prog 84 = false ∧ (Try.prog.underlying 84).isSome = true := ⟨by kernel_rfl, by kernel_rfl⟩
theorem un_84 : Try.prog.underlying 84 = some (.slice 105) := by kernel_rfl
theorem fi_86_7 : fieldOff Try.prog 86 7 = some (8, 4) := by kernel_rfl
theorem el_83 : elemSize Try.prog 83 = some (101, 3) := by kernel_rfl
theorem fi_101_1 : fieldOff Try.prog 101 1 = some (1, 4) := by kernel_rfl
theorem pl_36 : plainFn Try.prog 36 = true := by kernel_rfl
theorem ze_101 : zeroOf Try.prog 101 = some #[.slice none 0 0, .bool false, .int .i64 0] := by kernel_rfl
theorem in_101 : (Try.prog.info? 101).map (fun i => (i.zero, i.size, i.bytes)) = some (some (.agg #[.slice none 0 0, .bool false, .int .i64 0]), 3, 40) := by kernel_rfl
theorem ap_83 : appInfo Try.prog 83 101 3 40 3 := appInfo_mk un_83 in_101 rfl
theorem sz_83 : (Try.prog.info? 83).map (·.size) = some 1 := by kernel_rfl
theorem fi_86_6 : fieldOff Try.prog 86 6 = some (7, 2) := by kernel_rfl
theorem fi_101_2 : fieldOff Try.prog 101 2 = some (2, 2) := by kernel_rfl
theorem fi_86_0 : fieldOff Try.prog 86 0 = some (0, 46) := by kernel_rfl
theorem fi_86_4 : fieldOff Try.prog 86 4 = some (5, 2) := by kernel_rfl
theorem fi_101_0 : fieldOff Try.prog 101 0 = some (0, 26) := by kernel_rfl
theorem pl_55 : plainFn Try.prog 55 = true := by kernel_rfl
theorem pl_56 : plainFn Try.prog 56 = true := by kernel_rfl
theorem pl_39 : plainFn Try.prog 39 = true := by kernel_rfl
theorem pl_57 : plainFn Try.prog 57 = true := by kernel_rfl
theorem el_84 : elemSize Try.prog 84 = some (105, 2) := by kernel_rfl
theorem in_105 : (Try.prog.info? 105).map (fun i => (i.zero, i.size, i.bytes)) = some (some (.agg #[.int .i64 0, .slice none 0 0]), 2, 32) := by kernel_rfl
theorem ap_84 : appInfo Try.prog 84 105 2 32 2 := appInfo_mk un_84 in_105 rfl
theorem ze_105 : zeroOf Try.prog 105 = some #[.int .i64 0, .slice none 0 0] := by kernel_rfl
theorem sz_84 : (Try.prog.info? 84).map (·.size) = some 1 := by kernel_rfl
theorem fi_105_0 : fieldOff Try.prog 105 0 = some (0, 2) := by kernel_rfl
theorem fi_105_1 : fieldOff Try.prog 105 1 = some (1, 26) := by kernel_rfl
theorem pl_58 : plainFn Try.prog 58 = true := by kernel_rfl
theorem pl_63 : plainFn Try.prog 63 = true := by kernel_rfl
theorem ag_94 : isAggB Try.prog 94 = false ∧ (Try.prog.underlying 94).isSome = true := ⟨by kernel_rfl, by kernel_rfl⟩
theorem el_94 : elemSize Try.prog 94 = some (2, 1) := by kernel_rfl
theorem ze_2 : zeroOf Try.prog 2 = some #[.int .i64 0] := by kernel_rfl
theorem in_2 : (Try.prog.info? 2).map (fun i => (i.zero, i.size, i.bytes)) = some (some (.int .i64 0), 1, 8) := by kernel_rfl
theorem un_94 : Try.prog.underlying 94 = some (.slice 2) := by kernel_rfl
theorem ap_94 : appInfo Try.prog 94 2 1 8 1 := appInfo_mk un_94 in_2 rfl
theorem sz_94 : (Try.prog.info? 94).map (·.size) = some 1 := by kernel_rfl
theorem pl_66 : plainFn Try.prog 66 = true := by kernel_rfl
theorem pl_61 : plainFn Try.prog 61 = true := by kernel_rfl
theorem pl_62 : plainFn Try.prog 62 = true := by kernel_rfl
theorem pl_52 : plainFn Try.prog 52 = true := by kernel_rfl
theorem pl_51 : plainFn Try.prog 51 = true := by kernel_rfl
theorem ze_4 : zeroOf Try.prog 4 = some #[.bool false] := by kernel_rfl
theorem ze_3 : zeroOf Try.prog 3 = some #[.int .i64 0] := by kernel_rfl
theorem sz_3 : (Try.prog.info? 3).map (·.size) = some 1 := by kernel_rfl
theorem pl_50 : plainFn Try.prog 50 = true := by kernel_rfl
theorem ag_51 : isAggB Try.prog 51 = false ∧ (Try.prog.underlying 51).isSome = true := ⟨by kernel_rfl, by kernel_rfl⟩
theorem pl_34 : plainFn Try.prog 34 = true := by kernel_rfl
theorem pl_17 : plainFn Try.prog 17 = true := by kernel_rfl
theorem ze_5 : zeroOf Try.prog 5 = some #[.int .u8 0] := by kernel_rfl
theorem pl_22 : plainFn Try.prog 22 = true := by kernel_rfl
theorem pl_21 : plainFn Try.prog 21 = true := by kernel_rfl
theorem ze_46 : zeroOf Try.prog 46 = some #[.int .i64 0, .int .i64 0] := by kernel_rfl
theorem sz_46 : (Try.prog.info? 46).map (·.size) = some 2 := by kernel_rfl
theorem pl_54 : plainFn Try.prog 54 = true := by kernel_rfl
theorem fi_55_0 : fieldOff Try.prog 55 0 = some (0, 3) := by kernel_rfl
theorem fi_55_1 : fieldOff Try.prog 55 1 = some (1, 26) := by kernel_rfl
theorem pl_37 : plainFn Try.prog 37 = true := by kernel_rfl
theorem pl_38 : plainFn Try.prog 38 = true := by kernel_rfl
theorem pl_11 : plainFn Try.prog 11 = true := by kernel_rfl
theorem pl_40 : plainFn Try.prog 40 = true := by kernel_rfl
theorem fi_55_2 : fieldOff Try.prog 55 2 = some (2, 41) := by kernel_rfl
theorem pl_41 : plainFn Try.prog 41 = true := by kernel_rfl
theorem pl_14 : plainFn Try.prog 14 = true := by kernel_rfl
theorem pl_26 : plainFn Try.prog 26 = true := by kernel_rfl
theorem ev_46 {a0 b0 : Int} {a1 b1 : Int} : EqV Try.prog Op.maxDepth 46 (.agg #[.int .i64 a0, .int .i64 a1]) (.agg #[.int .i64 b0, .int .i64 b1]) (decide (a0 = b0) && (decide (a1 = b1) && true)) := (EqV.struct (d := 9999) (l := [_, _]) Try.underlying46 rfl (by kernel_rfl) (EqF.cons (a := .int .i64 a0) (b := .int .i64 b0) rfl (fun w => by kernel_rfl) (fun w => by kernel_rfl) (EqV.int (d := 9998) Try.underlying3) (EqF.cons (a := .int .i64 a1) (b := .int .i64 b1) rfl (fun w => by kernel_rfl) (fun w => by kernel_rfl) (EqV.int (d := 9998) Try.underlying3) EqF.nil)))
theorem gd_46 : Try.prog.eqGuardType Try.prog.depth 46 = false := by kernel_rfl
theorem pl_43 : plainFn Try.prog 43 = true := by kernel_rfl
theorem pl_25 : plainFn Try.prog 25 = true := by kernel_rfl
theorem pl_13 : plainFn Try.prog 13 = true := by kernel_rfl
theorem pl_44 : plainFn Try.prog 44 = true := by kernel_rfl
theorem un_4 : Try.prog.underlying 4 = some (.bool) := by kernel_rfl
theorem pl_28 : plainFn Try.prog 28 = true := by kernel_rfl
theorem pl_45 : plainFn Try.prog 45 = true := by kernel_rfl
theorem pl_18 : plainFn Try.prog 18 = true := by kernel_rfl
theorem pl_8 : plainFn Try.prog 8 = true := by kernel_rfl
theorem un_47 : Try.prog.underlying 47 = some (.slice 55) := by kernel_rfl
theorem el_47 : elemSize Try.prog 47 = some (55, 8) := by kernel_rfl
theorem ag_55 : isAggB Try.prog 55 = true ∧ (Try.prog.info? 55).map (·.size) = some 8 := ⟨by kernel_rfl, by kernel_rfl⟩
theorem ze_55 : zeroOf Try.prog 55 = some #[.int .i64 0, .slice none 0 0, .int .i64 0, .int .i64 0, .int .i64 0, .int .i64 0, .int .i64 0, .slice none 0 0] := by kernel_rfl
theorem sz_55 : (Try.prog.info? 55).map (·.size) = some 8 := by kernel_rfl
theorem pl_19 : plainFn Try.prog 19 = true := by kernel_rfl
theorem pl_20 : plainFn Try.prog 20 = true := by kernel_rfl
theorem ag_86 : isAggB Try.prog 86 = true ∧ (Try.prog.info? 86).map (·.size) = some 9 := ⟨by kernel_rfl, by kernel_rfl⟩
theorem ze_86 : zeroOf Try.prog 86 = some #[.int .i64 0, .int .i64 0, .int .i64 0, .slice none 0 0, .int .i64 0, .int .i64 0, .slice none 0 0, .int .i64 0, .bool false] := by kernel_rfl
theorem sz_86 : (Try.prog.info? 86).map (·.size) = some 9 := by kernel_rfl
theorem ag_62 : isAggB Try.prog 62 = true ∧ (Try.prog.info? 62).map (·.size) = some 9 := ⟨by kernel_rfl, by kernel_rfl⟩
theorem ze_62 : zeroOf Try.prog 62 = some #[.int .i64 0, .int .i64 0, .int .i64 0, .slice none 0 0, .int .i64 0, .int .i64 0, .map none, .int .i64 0, .bool false] := by kernel_rfl
theorem sz_62 : (Try.prog.info? 62).map (·.size) = some 9 := by kernel_rfl
theorem sz_60 : (Try.prog.info? 60).map (·.size) = some 1 := by kernel_rfl
theorem el_63 : elemSize Try.prog 63 = some (30, 1) := by kernel_rfl
theorem ze_30 : zeroOf Try.prog 30 = some #[.pointer none] := by kernel_rfl
theorem un_63 : Try.prog.underlying 63 = some (.slice 30) := by kernel_rfl
theorem pl_27 : plainFn Try.prog 27 = true := by kernel_rfl
theorem pl_29 : plainFn Try.prog 29 = true := by kernel_rfl
theorem sz_26 : (Try.prog.info? 26).map (·.size) = some 1 := by kernel_rfl
theorem ag_5 : isAggB Try.prog 5 = false ∧ (Try.prog.underlying 5).isSome = true := ⟨by kernel_rfl, by kernel_rfl⟩
theorem sz_5 : (Try.prog.info? 5).map (·.size) = some 1 := by kernel_rfl
theorem pl_30 : plainFn Try.prog 30 = true := by kernel_rfl
set_option maxHeartbeats 4000000 in
set_option maxRecDepth 100000 in
theorem clone_bytes {W w : World} {F : List Atom} (A : Atom) (v0 : Value) (n : Nat) (xs : List Value) (hA : RdA A 1 v0 n xs) (hn : n ≤ 140737488355328) {j : Nat} (hj : F[j]? = some A) (H : St W w F) : Calls Try.prog 48 #[v0] w (Ret fun v w' => ∃ p c, v = .slice p n c ∧ St W w' (Row 5 1 (.slice p n c) n xs :: F)) := by
 have hml := (hA _ _ _ j H hj).2
 obtain ⟨pp1, cc2, rfl, hn3⟩ := Rd.shape (hA _ _ _ j H hj).1
 refine calls_of_go (n := 8) Try.func48 rfl Try.ntmps48 rfl ?_
 refine g_seq ?_
 refine g_region ?_
 refine r_cons (s_assign (.slice none 0 0) rfl rfl ?_)
 refine r_nil ?_
 refine g_seq ?_
 refine g_seq ?_
 refine g_region ?_
 refine r_cons (s_move (.slice pp1 n cc2) rfl rfl ?_)
 by_cases hc4 : pp1 = none
 ·skip
  refine r_cons (s_sleql true un_26 rfl rfl (isNone_t hc4) rfl ?_)
  refine r_nil ?_
  refine g_true rfl ?_
  refine g_seq ?_
  refine g_region ?_
  refine r_cons (s_assign (.slice none 0 0) rfl rfl ?_)
  refine r_nil ?_
  refine g_ret' [.slice none 0 0] Try.func48 Try.results48 ⟨rfl, trivial⟩ ?_
  have H5 : St W w F := H
  obtain ⟨h1, h2, h3⟩ := hn3 ‹_›
  subst h1 h3
  exact ⟨none, 0, rfl, Row.nil_intro H5 5 1⟩
 ·skip
  refine r_cons (s_sleql false un_26 rfl rfl (isNone_f hc4) rfl ?_)
  refine r_nil ?_
  refine g_false rfl ?_
  refine g_skip ?_
  refine g_seq ?_
  refine g_region ?_
  refine r_cons (s_buildSlice0 H 1 el_26 rfl ?_); intro bk7 w8 H9
  have H10 := Row.of_blk (n := 0) (size := 1) H9 (i := 0) rfl (by unfold maxLen; omega) (by simp) (by simp)
  refine r_cons (s_move (.slice pp1 n cc2) rfl rfl ?_)
  refine r_cons (s_append H10 0 rfl rfl rfl (hA _ _ _ (j + 1) H10 (by exact hj)).1 ap_26 (by decide) (by unfold maxLen; omega) (by omega) (n' := n) (xs' := xs) (by omega) (by first | rfl | simp) rfl ?_); intro vv11 w12 H13 hn14
  obtain ⟨pp15, cc16, rfl⟩ := Row.slice H13 (i := 0) rfl
  refine r_cons (s_assign (.slice pp15 n cc16) rfl rfl ?_)
  refine r_nil ?_
  refine g_ret' [.slice pp15 n cc16] Try.func48 Try.results48 ⟨rfl, trivial⟩ ?_
  have H17 : St W w12 (Row 5 1 (.slice pp15 n cc16) n xs :: F) := H13
  exact ⟨_, _, rfl, H17⟩
set_option maxHeartbeats 4000000 in
set_option maxRecDepth 100000 in
theorem bytes_Clone {W w : World} {F : List Atom} (A : Atom) (v0 : Value) (n : Nat) (xs : List Value) (hA : RdA A 1 v0 n xs) (hn : n ≤ 140737488355328) {j : Nat} (hj : F[j]? = some A) (H : St W w F) : Calls Try.prog 29 #[v0] w (Ret fun v w' => ∃ p c, v = .slice p n c ∧ St W w' (Row 5 1 (.slice p n c) n xs :: F)) := by
 have hml := (hA _ _ _ j H hj).2
 obtain ⟨pp1, cc2, rfl, hn3⟩ := Rd.shape (hA _ _ _ j H hj).1
 refine calls_of_go (n := 8) Try.func29 rfl Try.ntmps29 rfl ?_
 refine g_seq ?_
 refine g_region ?_
 refine r_cons (s_assign (.slice none 0 0) rfl rfl ?_)
 refine r_nil ?_
 refine g_seq ?_
 refine g_seq ?_
 refine g_region ?_
 refine r_cons (s_move (.slice pp1 n cc2) rfl rfl ?_)
 by_cases hc4 : pp1 = none
 ·skip
  refine r_cons (s_sleql true un_26 rfl rfl (isNone_t hc4) rfl ?_)
  refine r_nil ?_
  refine g_true rfl ?_
  refine g_seq ?_
  refine g_region ?_
  refine r_cons (s_assign (.slice none 0 0) rfl rfl ?_)
  refine r_nil ?_
  refine g_ret' [.slice none 0 0] Try.func29 Try.results29 ⟨rfl, trivial⟩ ?_
  have H5 : St W w F := H
  obtain ⟨h1, h2, h3⟩ := hn3 ‹_›
  subst h1 h3
  exact ⟨none, 0, rfl, Row.nil_intro H5 5 1⟩
 ·skip
  refine r_cons (s_sleql false un_26 rfl rfl (isNone_f hc4) rfl ?_)
  refine r_nil ?_
  refine g_false rfl ?_
  refine g_skip ?_
  refine g_seq ?_
  refine g_region ?_
  refine r_cons (s_buildSlice0 H 1 el_26 rfl ?_); intro bk7 w8 H9
  have H10 := Row.of_blk (n := 0) (size := 1) H9 (i := 0) rfl (by unfold maxLen; omega) (by simp) (by simp)
  refine r_cons (s_move (.slice pp1 n cc2) rfl rfl ?_)
  refine r_cons (s_append H10 0 rfl rfl rfl (hA _ _ _ (j + 1) H10 (by exact hj)).1 ap_26 (by decide) (by unfold maxLen; omega) (by omega) (n' := n) (xs' := xs) (by omega) (by first | rfl | simp) rfl ?_); intro vv11 w12 H13 hn14
  obtain ⟨pp15, cc16, rfl⟩ := Row.slice H13 (i := 0) rfl
  refine r_cons (s_assign (.slice pp15 n cc16) rfl rfl ?_)
  refine r_nil ?_
  refine g_ret' [.slice pp15 n cc16] Try.func29 Try.results29 ⟨rfl, trivial⟩ ?_
  have H17 : St W w12 (Row 5 1 (.slice pp15 n cc16) n xs :: F) := H13
  exact ⟨_, _, rfl, H17⟩
set_option maxHeartbeats 4000000 in
set_option maxRecDepth 100000 in
theorem frame_time {W w : World} {F : List Atom} (n : Int) (H : St W w F) : Calls Try.prog 60 #[.int .i64 n] w (Ret fun v w' => v = .bool (timeB n) ∧ St W w' F) := by
 refine calls_of_go (n := 9) Try.func60 rfl Try.ntmps60 rfl ?_
 refine g_seq ?_
 refine g_region ?_
 refine r_cons (s_assign (.bool false) rfl rfl ?_)
 refine r_nil ?_
 refine g_seq ?_
 refine g_region ?_
 refine r_cons (s_move (.int .i64 n) rfl rfl ?_)
 by_cases hc1 : (0 : Int) ≤ n
 ·skip
  refine r_cons (s_geq true rfl rfl (dtrue hc1) rfl ?_)
  refine r_cons (s_move (.bool true) rfl rfl ?_)
  refine r_cons (r_take rfl rfl ?_)
  refine s_move (.int .i64 n) rfl rfl ?_
  refine r_cons (r_take rfl rfl ?_)
  by_cases hc2 : n ≤ 1099511627776
  ·skip
   refine s_leq true rfl rfl (dtrue hc2) rfl ?_
   refine r_cons (s_pick_t (.bool true) rfl rfl rfl ?_)
   refine r_cons (s_assign (.bool true) rfl rfl ?_)
   refine r_nil ?_
   refine g_ret' [.bool true] Try.func60 Try.results60 ⟨rfl, trivial⟩ ?_
   exact ⟨congrArg Value.bool (by simp only [timeB, brB]; first | (exact (decide_eq_true (by omega)).symm) | (exact (decide_eq_false (by omega)).symm)), H⟩
  ·skip
   refine s_leq false rfl rfl (dfalse hc2) rfl ?_
   refine r_cons (s_pick_t (.bool false) rfl rfl rfl ?_)
   refine r_cons (s_assign (.bool false) rfl rfl ?_)
   refine r_nil ?_
   refine g_ret' [.bool false] Try.func60 Try.results60 ⟨rfl, trivial⟩ ?_
   exact ⟨congrArg Value.bool (by simp only [timeB, brB]; first | (exact (decide_eq_true (by omega)).symm) | (exact (decide_eq_false (by omega)).symm)), H⟩
 ·skip
  refine r_cons (s_geq false rfl rfl (dfalse hc1) rfl ?_)
  refine r_cons (s_move (.bool false) rfl rfl ?_)
  refine r_cons (r_pass rfl rfl rfl rfl rfl ?_)
  refine r_cons (r_pass rfl rfl rfl rfl rfl ?_)
  refine r_cons (s_pick_f (.bool false) rfl rfl rfl ?_)
  refine r_cons (s_assign (.bool false) rfl rfl ?_)
  refine r_nil ?_
  refine g_ret' [.bool false] Try.func60 Try.results60 ⟨rfl, trivial⟩ ?_
  exact ⟨congrArg Value.bool (by simp only [timeB, brB]; first | (exact (decide_eq_true (by omega)).symm) | (exact (decide_eq_false (by omega)).symm)), H⟩
set_option maxHeartbeats 4000000 in
set_option maxRecDepth 100000 in
theorem frame_broker {W w : World} {F : List Atom} (n : Int) (H : St W w F) : Calls Try.prog 59 #[.int .i64 n] w (Ret fun v w' => v = .bool (brB n) ∧ St W w' F) := by
 refine calls_of_go (n := 9) Try.func59 rfl Try.ntmps59 rfl ?_
 refine g_seq ?_
 refine g_region ?_
 refine r_cons (s_assign (.bool false) rfl rfl ?_)
 refine r_nil ?_
 refine g_seq ?_
 refine g_region ?_
 refine r_cons (s_move (.int .i64 n) rfl rfl ?_)
 by_cases hc1 : (0 : Int) ≤ n
 ·skip
  refine r_cons (s_geq true rfl rfl (dtrue hc1) rfl ?_)
  refine r_cons (s_move (.bool true) rfl rfl ?_)
  refine r_cons (r_take rfl rfl ?_)
  refine s_move (.int .i64 n) rfl rfl ?_
  refine r_cons (r_take rfl rfl ?_)
  by_cases hc2 : n < 16
  ·skip
   refine s_lss true rfl rfl (dtrue hc2) rfl ?_
   refine r_cons (s_pick_t (.bool true) rfl rfl rfl ?_)
   refine r_cons (s_assign (.bool true) rfl rfl ?_)
   refine r_nil ?_
   refine g_ret' [.bool true] Try.func59 Try.results59 ⟨rfl, trivial⟩ ?_
   exact ⟨congrArg Value.bool (by simp only [timeB, brB]; first | (exact (decide_eq_true (by omega)).symm) | (exact (decide_eq_false (by omega)).symm)), H⟩
  ·skip
   refine s_lss false rfl rfl (dfalse hc2) rfl ?_
   refine r_cons (s_pick_t (.bool false) rfl rfl rfl ?_)
   refine r_cons (s_assign (.bool false) rfl rfl ?_)
   refine r_nil ?_
   refine g_ret' [.bool false] Try.func59 Try.results59 ⟨rfl, trivial⟩ ?_
   exact ⟨congrArg Value.bool (by simp only [timeB, brB]; first | (exact (decide_eq_true (by omega)).symm) | (exact (decide_eq_false (by omega)).symm)), H⟩
 ·skip
  refine r_cons (s_geq false rfl rfl (dfalse hc1) rfl ?_)
  refine r_cons (s_move (.bool false) rfl rfl ?_)
  refine r_cons (r_pass rfl rfl rfl rfl rfl ?_)
  refine r_cons (r_pass rfl rfl rfl rfl rfl ?_)
  refine r_cons (s_pick_f (.bool false) rfl rfl rfl ?_)
  refine r_cons (s_assign (.bool false) rfl rfl ?_)
  refine r_nil ?_
  refine g_ret' [.bool false] Try.func59 Try.results59 ⟨rfl, trivial⟩ ?_
  exact ⟨congrArg Value.bool (by simp only [timeB, brB]; first | (exact (decide_eq_true (by omega)).symm) | (exact (decide_eq_false (by omega)).symm)), H⟩
set_option maxHeartbeats 4000000 in
set_option maxRecDepth 100000 in
theorem frame_Check {W w : World} {F : List Atom} (d : DgM) (bv_d : Value) {A_d : Atom} (hA_d : RdA A_d 1 bv_d d.body.length (d.body.flatMap u8c)) {j : Nat} (hj : F[j]? = some A_d) (H : St W w F) : Calls Try.prog 46 #[.agg #[.int .i64 d.frm.v, .int .i64 d.to_.v, .int .i64 d.kind.v, .int .i64 d.seq.v, .int .i64 d.ack.v, bv_d]] w (Ret fun v w' => v = .int .i64 (dgE d) ∧ St W w' F) := by
 have hml := (hA_d _ _ _ j H hj).2
 obtain ⟨pp1, cc2, rfl, hn3⟩ := Rd.shape (hA_d _ _ _ j H hj).1
 refine calls_of_go (n := 55) Try.func46 rfl Try.ntmps46 rfl ?_
 refine g_seq ?_
 refine g_region ?_
 refine r_cons (s_box H 41 (.agg #[.int .i64 d.frm.v, .int .i64 d.to_.v, .int .i64 d.kind.v, .int .i64 d.seq.v, .int .i64 d.ack.v, .slice pp1 d.body.length cc2]) rfl (cs := #[.int .i64 d.frm.v, .int .i64 d.to_.v, .int .i64 d.kind.v, .int .i64 d.seq.v, .int .i64 d.ack.v, .slice pp1 d.body.length cc2]) rfl rfl ?_); intro bk4 w5 H6
 refine r_cons (s_assign (.int .i64 0) rfl rfl ?_)
 refine r_nil ?_
 refine g_seq ?_
 refine g_cut (fun (x_ : Unit) => match x_ with | z_ => [(1, .pointer (some ⟨bk4, 0, none⟩)), (2, .int .i64 0), (3, .bool (chkB d))]) (fun (x_ : Unit) w => match x_ with | z_ => (True) ∧ St W w (blk bk4 (.cells #[.int .i64 d.frm.v, .int .i64 d.to_.v, .int .i64 d.kind.v, .int .i64 d.seq.v, .int .i64 d.ack.v, .slice pp1 d.body.length cc2] 41 (0, 0)) :: F)) ?_ ?_
 ·rintro z_ ρ10 w8 ⟨hz_, H9⟩
  change Ends _ _ (upds ρ10 [(1, .pointer (some ⟨bk4, 0, none⟩)), (2, .int .i64 0), (3, .bool (chkB d))]) w8
  refine g_seq ?_
  refine g_seq ?_
  refine g_region ?_
  refine r_cons (s_fieldAddr 41 2 2 2 3 rfl fi_41_2 rfl rfl ?_)
  refine r_cons (s_load (.int .i64 d.kind.v) ag_3 rfl (H9.blk_at (i := 0) rfl) rfl rfl ?_)
  refine r_nil ?_
  refine g_block ?_
  refine g_seq ?_
  refine g_region ?_
  by_cases hc11 : d.kind.v = 1
  ·skip
   refine r_cons (s_eql true rfl rfl (dtrue hc11) rfl ?_)
   refine r_cons (s_assign (.bool true) rfl rfl ?_)
   refine r_nil ?_
   refine g_true rfl ?_
   refine g_skip ?_
   refine g_inBlock ?_
   refine g_seq ?_
   refine g_seq ?_
   refine g_region ?_
   refine r_cons (s_move (.bool (chkB d)) rfl rfl ?_)
   refine r_cons (s_not (chkB d) rfl (!(chkB d)) rfl rfl ?_)
   refine r_nil ?_
   by_cases hb12 : (!(chkB d)) = true
   ·skip
    refine g_true (congrArg Value.bool hb12) ?_
    refine g_seq ?_
    refine g_region ?_
    refine r_cons (s_assign (.int .i64 21) rfl rfl ?_)
    refine r_nil ?_
    refine g_ret' [.int .i64 21] Try.func46 Try.results46 ⟨rfl, trivial⟩ ?_
    have H13 : St W w8 F := (H9.drop 0 rfl)
    have hzc := of_decide_eq_false (show chkB d = false from by simpa using hb12)
    exact ⟨vint (by exact (dgE_21 (by unfold dgOk; omega)).symm), H13⟩
   ·have hb12 := eq_false_of_ne_true hb12
    refine g_false (congrArg Value.bool hb12) ?_
    refine g_skip ?_
    refine g_seq ?_
    refine g_region ?_
    refine r_cons (s_assign (.int .i64 0) rfl rfl ?_)
    refine r_nil ?_
    refine g_ret' [.int .i64 0] Try.func46 Try.results46 ⟨rfl, trivial⟩ ?_
    have H14 : St W w8 F := (H9.drop 0 rfl)
    have hzc := of_decide_eq_true (show chkB d = true from by simpa using hb12)
    exact ⟨vint (by exact (dgE_0 (by unfold dgOk; omega)).symm), H14⟩
  ·skip
   refine r_cons (s_eql false rfl rfl (dfalse hc11) rfl ?_)
   refine r_cons (s_assign (.bool false) rfl rfl ?_)
   refine r_nil ?_
   refine g_false rfl ?_
   refine g_seq ?_
   refine g_region ?_
   by_cases hc15 : d.kind.v = 2
   ·skip
    refine r_cons (s_eql true rfl rfl (dtrue hc15) rfl ?_)
    refine r_cons (s_assign (.bool true) rfl rfl ?_)
    refine r_nil ?_
    refine g_true rfl ?_
    refine g_region ?_
    refine r_cons (s_move (.bool (chkB d)) rfl rfl ?_)
    refine r_cons (s_move (.bool (chkB d)) rfl rfl ?_)
    by_cases hb16 : (chkB d) = true
    ·skip
     refine r_cons (r_take rfl (congrArg some hb16) ?_)
     refine s_fieldAddr 41 3 3 3 2 rfl fi_41_3 rfl rfl ?_
     refine r_cons (r_take rfl (congrArg some hb16) ?_)
     refine s_load (.int .i64 d.seq.v) ag_2 rfl (H9.blk_at (i := 0) rfl) rfl rfl ?_
     refine r_cons (r_take rfl (congrArg some hb16) ?_)
     by_cases hc17 : d.seq.v = 0
     ·skip
      refine s_eql true rfl rfl (dtrue hc17) rfl ?_
      refine r_cons (s_pick_t (.bool true) (by exact congrArg Value.bool hb16) rfl rfl ?_)
      refine r_cons (s_move (.bool true) rfl rfl ?_)
      refine r_cons (r_take rfl rfl ?_)
      refine s_fieldAddr 41 5 5 5 26 rfl fi_41_5 rfl rfl ?_
      refine r_cons (r_take rfl rfl ?_)
      refine s_load (.slice pp1 d.body.length cc2) ag_26 rfl (H9.blk_at (i := 0) rfl) rfl rfl ?_
      refine r_cons (r_take rfl rfl ?_)
      refine s_len d.body.length rfl ⟨_, un_26⟩ rfl ?_
      refine r_cons (r_take rfl rfl ?_)
      by_cases hc18 : (d.body.length : Int) = 0
      ·skip
       refine s_eql true rfl rfl (dtrue hc18) rfl ?_
       refine r_cons (s_pick_t (.bool true) rfl rfl rfl ?_)
       refine r_cons (s_assign (.bool true) rfl rfl ?_)
       refine r_nil ?_
       refine g_inBlock ?_
       refine g_seq ?_
       refine g_seq ?_
       refine g_region ?_
       refine r_cons (s_move (.bool true) rfl rfl ?_)
       refine r_cons (s_not true rfl false rfl rfl ?_)
       refine r_nil ?_
       refine g_false rfl ?_
       refine g_skip ?_
       refine g_seq ?_
       refine g_region ?_
       refine r_cons (s_assign (.int .i64 0) rfl rfl ?_)
       refine r_nil ?_
       refine g_ret' [.int .i64 0] Try.func46 Try.results46 ⟨rfl, trivial⟩ ?_
       have H19 : St W w8 F := (H9.drop 0 rfl)
       have hzc := of_decide_eq_true (show chkB d = true from by simpa using hb16)
       exact ⟨vint (by exact (dgE_0 (by unfold dgOk; omega)).symm), H19⟩
      ·skip
       refine s_eql false rfl rfl (dfalse hc18) rfl ?_
       refine r_cons (s_pick_t (.bool false) rfl rfl rfl ?_)
       refine r_cons (s_assign (.bool false) rfl rfl ?_)
       refine r_nil ?_
       refine g_inBlock ?_
       refine g_seq ?_
       refine g_seq ?_
       refine g_region ?_
       refine r_cons (s_move (.bool false) rfl rfl ?_)
       refine r_cons (s_not false rfl true rfl rfl ?_)
       refine r_nil ?_
       refine g_true rfl ?_
       refine g_seq ?_
       refine g_region ?_
       refine r_cons (s_assign (.int .i64 21) rfl rfl ?_)
       refine r_nil ?_
       refine g_ret' [.int .i64 21] Try.func46 Try.results46 ⟨rfl, trivial⟩ ?_
       have H20 : St W w8 F := (H9.drop 0 rfl)
       have hzc := of_decide_eq_true (show chkB d = true from by simpa using hb16)
       exact ⟨vint (by exact (dgE_21 (by unfold dgOk; omega)).symm), H20⟩
     ·skip
      refine s_eql false rfl rfl (dfalse hc17) rfl ?_
      refine r_cons (s_pick_t (.bool false) (by exact congrArg Value.bool hb16) rfl rfl ?_)
      refine r_cons (s_move (.bool false) rfl rfl ?_)
      refine r_cons (r_pass rfl rfl rfl rfl rfl ?_)
      refine r_cons (r_pass rfl rfl rfl rfl rfl ?_)
      refine r_cons (r_pass rfl rfl rfl rfl rfl ?_)
      refine r_cons (r_pass rfl rfl rfl rfl rfl ?_)
      refine r_cons (s_pick_f (.bool false) rfl rfl rfl ?_)
      refine r_cons (s_assign (.bool false) rfl rfl ?_)
      refine r_nil ?_
      refine g_inBlock ?_
      refine g_seq ?_
      refine g_seq ?_
      refine g_region ?_
      refine r_cons (s_move (.bool false) rfl rfl ?_)
      refine r_cons (s_not false rfl true rfl rfl ?_)
      refine r_nil ?_
      refine g_true rfl ?_
      refine g_seq ?_
      refine g_region ?_
      refine r_cons (s_assign (.int .i64 21) rfl rfl ?_)
      refine r_nil ?_
      refine g_ret' [.int .i64 21] Try.func46 Try.results46 ⟨rfl, trivial⟩ ?_
      have H21 : St W w8 F := (H9.drop 0 rfl)
      have hzc := of_decide_eq_true (show chkB d = true from by simpa using hb16)
      exact ⟨vint (by exact (dgE_21 (by unfold dgOk; omega)).symm), H21⟩
    ·have hb16 := eq_false_of_ne_true hb16
     refine r_cons (r_pass rfl (congrArg some hb16) rfl rfl rfl ?_)
     refine r_cons (r_pass rfl (congrArg some hb16) rfl rfl rfl ?_)
     refine r_cons (r_pass rfl (congrArg some hb16) rfl rfl rfl ?_)
     refine r_cons (s_pick_f (.bool false) (by exact congrArg Value.bool hb16) rfl rfl ?_)
     refine r_cons (s_move (.bool false) rfl rfl ?_)
     refine r_cons (r_pass rfl rfl rfl rfl rfl ?_)
     refine r_cons (r_pass rfl rfl rfl rfl rfl ?_)
     refine r_cons (r_pass rfl rfl rfl rfl rfl ?_)
     refine r_cons (r_pass rfl rfl rfl rfl rfl ?_)
     refine r_cons (s_pick_f (.bool false) rfl rfl rfl ?_)
     refine r_cons (s_assign (.bool false) rfl rfl ?_)
     refine r_nil ?_
     refine g_inBlock ?_
     refine g_seq ?_
     refine g_seq ?_
     refine g_region ?_
     refine r_cons (s_move (.bool false) rfl rfl ?_)
     refine r_cons (s_not false rfl true rfl rfl ?_)
     refine r_nil ?_
     refine g_true rfl ?_
     refine g_seq ?_
     refine g_region ?_
     refine r_cons (s_assign (.int .i64 21) rfl rfl ?_)
     refine r_nil ?_
     refine g_ret' [.int .i64 21] Try.func46 Try.results46 ⟨rfl, trivial⟩ ?_
     have H22 : St W w8 F := (H9.drop 0 rfl)
     have hzc := of_decide_eq_false (show chkB d = false from by simpa using hb16)
     exact ⟨vint (by exact (dgE_21 (by unfold dgOk; omega)).symm), H22⟩
   ·skip
    refine r_cons (s_eql false rfl rfl (dfalse hc15) rfl ?_)
    refine r_cons (s_assign (.bool false) rfl rfl ?_)
    refine r_nil ?_
    refine g_false rfl ?_
    refine g_region ?_
    refine r_cons (s_assign (.bool false) rfl rfl ?_)
    refine r_nil ?_
    refine g_inBlock ?_
    refine g_seq ?_
    refine g_seq ?_
    refine g_region ?_
    refine r_cons (s_move (.bool false) rfl rfl ?_)
    refine r_cons (s_not false rfl true rfl rfl ?_)
    refine r_nil ?_
    refine g_true rfl ?_
    refine g_seq ?_
    refine g_region ?_
    refine r_cons (s_assign (.int .i64 21) rfl rfl ?_)
    refine r_nil ?_
    refine g_ret' [.int .i64 21] Try.func46 Try.results46 ⟨rfl, trivial⟩ ?_
    have H23 : St W w8 F := (H9.drop 0 rfl)
    exact ⟨vint (by exact (dgE_21 (by unfold dgOk; omega)).symm), H23⟩
 ·intro join7
  refine g_region ?_
  refine r_cons (s_fieldAddr 41 0 0 0 3 rfl fi_41_0 rfl rfl ?_)
  refine r_cons (s_load (.int .i64 d.frm.v) ag_3 rfl (H6.blk_at (i := 0) rfl) rfl rfl ?_)
  refine r_cons (s_call [.int .i64 d.frm.v] pl_59 rfl rfl (frame_broker d.frm.v H6) ?_)
  rintro _ w24 ⟨rfl, H25⟩
  refine r_cons (s_move (.bool (brB d.frm.v)) rfl rfl ?_)
  by_cases hb26 : (brB d.frm.v) = true
  ·skip
   refine r_cons (r_take rfl (congrArg some hb26) ?_)
   refine s_fieldAddr 41 1 1 1 3 rfl fi_41_1 rfl rfl ?_
   refine r_cons (r_take rfl (congrArg some hb26) ?_)
   refine s_load (.int .i64 d.to_.v) ag_3 rfl (H25.blk_at (i := 0) rfl) rfl rfl ?_
   refine r_cons (r_take rfl (congrArg some hb26) ?_)
   refine s_call [.int .i64 d.to_.v] pl_59 rfl rfl (frame_broker d.to_.v H25) ?_
   rintro _ w27 ⟨rfl, H28⟩
   refine r_cons (s_pick_t (.bool (brB d.to_.v)) (by exact congrArg Value.bool hb26) rfl rfl ?_)
   refine r_cons (s_move (.bool (brB d.to_.v)) rfl rfl ?_)
   by_cases hb29 : (brB d.to_.v) = true
   ·skip
    refine r_cons (r_take rfl (congrArg some hb29) ?_)
    refine s_fieldAddr 41 0 0 0 3 rfl fi_41_0 rfl rfl ?_
    refine r_cons (r_take rfl (congrArg some hb29) ?_)
    refine s_load (.int .i64 d.frm.v) ag_3 rfl (H28.blk_at (i := 0) rfl) rfl rfl ?_
    refine r_cons (r_take rfl (congrArg some hb29) ?_)
    refine s_fieldAddr 41 1 1 1 3 rfl fi_41_1 rfl rfl ?_
    refine r_cons (r_take rfl (congrArg some hb29) ?_)
    refine s_load (.int .i64 d.to_.v) ag_3 rfl (H28.blk_at (i := 0) rfl) rfl rfl ?_
    refine r_cons (r_take rfl (congrArg some hb29) ?_)
    by_cases hc30 : d.frm.v = d.to_.v
    ·skip
     refine s_neq false rfl rfl (ntrue hc30) rfl ?_
     refine r_cons (s_pick_t (.bool false) (by exact congrArg Value.bool hb29) rfl rfl ?_)
     refine r_cons (s_move (.bool false) rfl rfl ?_)
     refine r_cons (r_pass rfl rfl rfl rfl rfl ?_)
     refine r_cons (r_pass rfl rfl rfl rfl rfl ?_)
     refine r_cons (r_pass rfl rfl rfl rfl rfl ?_)
     refine r_cons (s_pick_f (.bool false) rfl rfl rfl ?_)
     refine r_cons (s_move (.bool false) rfl rfl ?_)
     refine r_cons (r_pass rfl rfl rfl rfl rfl ?_)
     refine r_cons (r_pass rfl rfl rfl rfl rfl ?_)
     refine r_cons (r_pass rfl rfl rfl rfl rfl ?_)
     refine r_cons (s_pick_f (.bool false) rfl rfl rfl ?_)
     refine r_cons (s_move (.bool false) rfl rfl ?_)
     refine r_cons (r_pass rfl rfl rfl rfl rfl ?_)
     refine r_cons (r_pass rfl rfl rfl rfl rfl ?_)
     refine r_cons (r_pass rfl rfl rfl rfl rfl ?_)
     refine r_cons (r_pass rfl rfl rfl rfl rfl ?_)
     refine r_cons (s_pick_f (.bool false) rfl rfl rfl ?_)
     refine r_cons (s_assign (.bool false) rfl rfl ?_)
     refine r_nil ?_
     have hz266 : (brB d.frm.v) = true := by simpa using hb26
     simp only [timeB, brB, decide_eq_true_eq, decide_eq_false_iff_not] at hz266
     have hz268 : (brB d.to_.v) = true := by simpa using hb29
     simp only [timeB, brB, decide_eq_true_eq, decide_eq_false_iff_not] at hz268
     have H31 : St W w27 (blk bk4 (.cells #[.int .i64 d.frm.v, .int .i64 d.to_.v, .int .i64 d.kind.v, .int .i64 d.seq.v, .int .i64 d.ack.v, .slice pp1 d.body.length cc2] 41 (0, 0)) :: F) := H28
     exact join7 (()) _ _ ⟨trivial, H31⟩ ⟨by first | rfl | exact vint (by omega), by first | rfl | exact vint (by omega), congrArg Value.bool (show false = chkB d from (decide_eq_false (by omega)).symm), trivial⟩
    ·skip
     refine s_neq true rfl rfl (nfalse hc30) rfl ?_
     refine r_cons (s_pick_t (.bool true) (by exact congrArg Value.bool hb29) rfl rfl ?_)
     refine r_cons (s_move (.bool true) rfl rfl ?_)
     refine r_cons (r_take rfl rfl ?_)
     refine s_fieldAddr 41 3 3 3 2 rfl fi_41_3 rfl rfl ?_
     refine r_cons (r_take rfl rfl ?_)
     refine s_load (.int .i64 d.seq.v) ag_2 rfl (H28.blk_at (i := 0) rfl) rfl rfl ?_
     refine r_cons (r_take rfl rfl ?_)
     refine s_call [.int .i64 d.seq.v] pl_60 rfl rfl (frame_time d.seq.v H28) ?_
     rintro _ w32 ⟨rfl, H33⟩
     refine r_cons (s_pick_t (.bool (timeB d.seq.v)) rfl rfl rfl ?_)
     refine r_cons (s_move (.bool (timeB d.seq.v)) rfl rfl ?_)
     by_cases hb34 : (timeB d.seq.v) = true
     ·skip
      refine r_cons (r_take rfl (congrArg some hb34) ?_)
      refine s_fieldAddr 41 4 4 4 2 rfl fi_41_4 rfl rfl ?_
      refine r_cons (r_take rfl (congrArg some hb34) ?_)
      refine s_load (.int .i64 d.ack.v) ag_2 rfl (H33.blk_at (i := 0) rfl) rfl rfl ?_
      refine r_cons (r_take rfl (congrArg some hb34) ?_)
      refine s_call [.int .i64 d.ack.v] pl_60 rfl rfl (frame_time d.ack.v H33) ?_
      rintro _ w35 ⟨rfl, H36⟩
      refine r_cons (s_pick_t (.bool (timeB d.ack.v)) (by exact congrArg Value.bool hb34) rfl rfl ?_)
      refine r_cons (s_move (.bool (timeB d.ack.v)) rfl rfl ?_)
      by_cases hb37 : (timeB d.ack.v) = true
      ·skip
       refine r_cons (r_take rfl (congrArg some hb37) ?_)
       refine s_fieldAddr 41 5 5 5 26 rfl fi_41_5 rfl rfl ?_
       refine r_cons (r_take rfl (congrArg some hb37) ?_)
       refine s_load (.slice pp1 d.body.length cc2) ag_26 rfl (H36.blk_at (i := 0) rfl) rfl rfl ?_
       refine r_cons (r_take rfl (congrArg some hb37) ?_)
       refine s_len d.body.length rfl ⟨_, un_26⟩ rfl ?_
       refine r_cons (r_take rfl (congrArg some hb37) ?_)
       by_cases hc38 : (d.body.length : Int) ≤ 16384
       ·skip
        refine s_leq true rfl rfl (dtrue hc38) rfl ?_
        refine r_cons (s_pick_t (.bool true) (by exact congrArg Value.bool hb37) rfl rfl ?_)
        refine r_cons (s_assign (.bool true) rfl rfl ?_)
        refine r_nil ?_
        have hz311 : (brB d.frm.v) = true := by simpa using hb26
        simp only [timeB, brB, decide_eq_true_eq, decide_eq_false_iff_not] at hz311
        have hz313 : (brB d.to_.v) = true := by simpa using hb29
        simp only [timeB, brB, decide_eq_true_eq, decide_eq_false_iff_not] at hz313
        have hz315 : (timeB d.seq.v) = true := by simpa using hb34
        simp only [timeB, brB, decide_eq_true_eq, decide_eq_false_iff_not] at hz315
        have hz317 : (timeB d.ack.v) = true := by simpa using hb37
        simp only [timeB, brB, decide_eq_true_eq, decide_eq_false_iff_not] at hz317
        have H39 : St W w35 (blk bk4 (.cells #[.int .i64 d.frm.v, .int .i64 d.to_.v, .int .i64 d.kind.v, .int .i64 d.seq.v, .int .i64 d.ack.v, .slice pp1 d.body.length cc2] 41 (0, 0)) :: F) := H36
        exact join7 (()) _ _ ⟨trivial, H39⟩ ⟨by first | rfl | exact vint (by omega), by first | rfl | exact vint (by omega), congrArg Value.bool (show true = chkB d from (decide_eq_true (by omega)).symm), trivial⟩
       ·skip
        refine s_leq false rfl rfl (dfalse hc38) rfl ?_
        refine r_cons (s_pick_t (.bool false) (by exact congrArg Value.bool hb37) rfl rfl ?_)
        refine r_cons (s_assign (.bool false) rfl rfl ?_)
        refine r_nil ?_
        have hz326 : (brB d.frm.v) = true := by simpa using hb26
        simp only [timeB, brB, decide_eq_true_eq, decide_eq_false_iff_not] at hz326
        have hz328 : (brB d.to_.v) = true := by simpa using hb29
        simp only [timeB, brB, decide_eq_true_eq, decide_eq_false_iff_not] at hz328
        have hz330 : (timeB d.seq.v) = true := by simpa using hb34
        simp only [timeB, brB, decide_eq_true_eq, decide_eq_false_iff_not] at hz330
        have hz332 : (timeB d.ack.v) = true := by simpa using hb37
        simp only [timeB, brB, decide_eq_true_eq, decide_eq_false_iff_not] at hz332
        have H40 : St W w35 (blk bk4 (.cells #[.int .i64 d.frm.v, .int .i64 d.to_.v, .int .i64 d.kind.v, .int .i64 d.seq.v, .int .i64 d.ack.v, .slice pp1 d.body.length cc2] 41 (0, 0)) :: F) := H36
        exact join7 (()) _ _ ⟨trivial, H40⟩ ⟨by first | rfl | exact vint (by omega), by first | rfl | exact vint (by omega), congrArg Value.bool (show false = chkB d from (decide_eq_false (by omega)).symm), trivial⟩
      ·have hb37 := eq_false_of_ne_true hb37
       refine r_cons (r_pass rfl (congrArg some hb37) rfl rfl rfl ?_)
       refine r_cons (r_pass rfl (congrArg some hb37) rfl rfl rfl ?_)
       refine r_cons (r_pass rfl (congrArg some hb37) rfl rfl rfl ?_)
       refine r_cons (r_pass rfl (congrArg some hb37) rfl rfl rfl ?_)
       refine r_cons (s_pick_f (.bool false) (by exact congrArg Value.bool hb37) rfl rfl ?_)
       refine r_cons (s_assign (.bool false) rfl rfl ?_)
       refine r_nil ?_
       have hz344 : (brB d.frm.v) = true := by simpa using hb26
       simp only [timeB, brB, decide_eq_true_eq, decide_eq_false_iff_not] at hz344
       have hz346 : (brB d.to_.v) = true := by simpa using hb29
       simp only [timeB, brB, decide_eq_true_eq, decide_eq_false_iff_not] at hz346
       have hz348 : (timeB d.seq.v) = true := by simpa using hb34
       simp only [timeB, brB, decide_eq_true_eq, decide_eq_false_iff_not] at hz348
       have hz350 : (timeB d.ack.v) = false := by simpa using hb37
       simp only [timeB, brB, decide_eq_true_eq, decide_eq_false_iff_not] at hz350
       have H41 : St W w35 (blk bk4 (.cells #[.int .i64 d.frm.v, .int .i64 d.to_.v, .int .i64 d.kind.v, .int .i64 d.seq.v, .int .i64 d.ack.v, .slice pp1 d.body.length cc2] 41 (0, 0)) :: F) := H36
       exact join7 (()) _ _ ⟨trivial, H41⟩ ⟨by first | rfl | exact vint (by omega), by first | rfl | exact vint (by omega), congrArg Value.bool (show false = chkB d from (decide_eq_false (by omega)).symm), trivial⟩
     ·have hb34 := eq_false_of_ne_true hb34
      refine r_cons (r_pass rfl (congrArg some hb34) rfl rfl rfl ?_)
      refine r_cons (r_pass rfl (congrArg some hb34) rfl rfl rfl ?_)
      refine r_cons (r_pass rfl (congrArg some hb34) rfl rfl rfl ?_)
      refine r_cons (s_pick_f (.bool false) (by exact congrArg Value.bool hb34) rfl rfl ?_)
      refine r_cons (s_move (.bool false) rfl rfl ?_)
      refine r_cons (r_pass rfl rfl rfl rfl rfl ?_)
      refine r_cons (r_pass rfl rfl rfl rfl rfl ?_)
      refine r_cons (r_pass rfl rfl rfl rfl rfl ?_)
      refine r_cons (r_pass rfl rfl rfl rfl rfl ?_)
      refine r_cons (s_pick_f (.bool false) rfl rfl rfl ?_)
      refine r_cons (s_assign (.bool false) rfl rfl ?_)
      refine r_nil ?_
      have hz367 : (brB d.frm.v) = true := by simpa using hb26
      simp only [timeB, brB, decide_eq_true_eq, decide_eq_false_iff_not] at hz367
      have hz369 : (brB d.to_.v) = true := by simpa using hb29
      simp only [timeB, brB, decide_eq_true_eq, decide_eq_false_iff_not] at hz369
      have hz371 : (timeB d.seq.v) = false := by simpa using hb34
      simp only [timeB, brB, decide_eq_true_eq, decide_eq_false_iff_not] at hz371
      have H42 : St W w32 (blk bk4 (.cells #[.int .i64 d.frm.v, .int .i64 d.to_.v, .int .i64 d.kind.v, .int .i64 d.seq.v, .int .i64 d.ack.v, .slice pp1 d.body.length cc2] 41 (0, 0)) :: F) := H33
      exact join7 (()) _ _ ⟨trivial, H42⟩ ⟨by first | rfl | exact vint (by omega), by first | rfl | exact vint (by omega), congrArg Value.bool (show false = chkB d from (decide_eq_false (by omega)).symm), trivial⟩
   ·have hb29 := eq_false_of_ne_true hb29
    refine r_cons (r_pass rfl (congrArg some hb29) rfl rfl rfl ?_)
    refine r_cons (r_pass rfl (congrArg some hb29) rfl rfl rfl ?_)
    refine r_cons (r_pass rfl (congrArg some hb29) rfl rfl rfl ?_)
    refine r_cons (r_pass rfl (congrArg some hb29) rfl rfl rfl ?_)
    refine r_cons (r_pass rfl (congrArg some hb29) rfl rfl rfl ?_)
    refine r_cons (s_pick_f (.bool false) (by exact congrArg Value.bool hb29) rfl rfl ?_)
    refine r_cons (s_move (.bool false) rfl rfl ?_)
    refine r_cons (r_pass rfl rfl rfl rfl rfl ?_)
    refine r_cons (r_pass rfl rfl rfl rfl rfl ?_)
    refine r_cons (r_pass rfl rfl rfl rfl rfl ?_)
    refine r_cons (s_pick_f (.bool false) rfl rfl rfl ?_)
    refine r_cons (s_move (.bool false) rfl rfl ?_)
    refine r_cons (r_pass rfl rfl rfl rfl rfl ?_)
    refine r_cons (r_pass rfl rfl rfl rfl rfl ?_)
    refine r_cons (r_pass rfl rfl rfl rfl rfl ?_)
    refine r_cons (s_pick_f (.bool false) rfl rfl rfl ?_)
    refine r_cons (s_move (.bool false) rfl rfl ?_)
    refine r_cons (r_pass rfl rfl rfl rfl rfl ?_)
    refine r_cons (r_pass rfl rfl rfl rfl rfl ?_)
    refine r_cons (r_pass rfl rfl rfl rfl rfl ?_)
    refine r_cons (r_pass rfl rfl rfl rfl rfl ?_)
    refine r_cons (s_pick_f (.bool false) rfl rfl rfl ?_)
    refine r_cons (s_assign (.bool false) rfl rfl ?_)
    refine r_nil ?_
    have hz400 : (brB d.frm.v) = true := by simpa using hb26
    simp only [timeB, brB, decide_eq_true_eq, decide_eq_false_iff_not] at hz400
    have hz402 : (brB d.to_.v) = false := by simpa using hb29
    simp only [timeB, brB, decide_eq_true_eq, decide_eq_false_iff_not] at hz402
    have H43 : St W w27 (blk bk4 (.cells #[.int .i64 d.frm.v, .int .i64 d.to_.v, .int .i64 d.kind.v, .int .i64 d.seq.v, .int .i64 d.ack.v, .slice pp1 d.body.length cc2] 41 (0, 0)) :: F) := H28
    exact join7 (()) _ _ ⟨trivial, H43⟩ ⟨by first | rfl | exact vint (by omega), by first | rfl | exact vint (by omega), congrArg Value.bool (show false = chkB d from (decide_eq_false (by omega)).symm), trivial⟩
  ·have hb26 := eq_false_of_ne_true hb26
   refine r_cons (r_pass rfl (congrArg some hb26) rfl rfl rfl ?_)
   refine r_cons (r_pass rfl (congrArg some hb26) rfl rfl rfl ?_)
   refine r_cons (r_pass rfl (congrArg some hb26) rfl rfl rfl ?_)
   refine r_cons (s_pick_f (.bool false) (by exact congrArg Value.bool hb26) rfl rfl ?_)
   refine r_cons (s_move (.bool false) rfl rfl ?_)
   refine r_cons (r_pass rfl rfl rfl rfl rfl ?_)
   refine r_cons (r_pass rfl rfl rfl rfl rfl ?_)
   refine r_cons (r_pass rfl rfl rfl rfl rfl ?_)
   refine r_cons (r_pass rfl rfl rfl rfl rfl ?_)
   refine r_cons (r_pass rfl rfl rfl rfl rfl ?_)
   refine r_cons (s_pick_f (.bool false) rfl rfl rfl ?_)
   refine r_cons (s_move (.bool false) rfl rfl ?_)
   refine r_cons (r_pass rfl rfl rfl rfl rfl ?_)
   refine r_cons (r_pass rfl rfl rfl rfl rfl ?_)
   refine r_cons (r_pass rfl rfl rfl rfl rfl ?_)
   refine r_cons (s_pick_f (.bool false) rfl rfl rfl ?_)
   refine r_cons (s_move (.bool false) rfl rfl ?_)
   refine r_cons (r_pass rfl rfl rfl rfl rfl ?_)
   refine r_cons (r_pass rfl rfl rfl rfl rfl ?_)
   refine r_cons (r_pass rfl rfl rfl rfl rfl ?_)
   refine r_cons (s_pick_f (.bool false) rfl rfl rfl ?_)
   refine r_cons (s_move (.bool false) rfl rfl ?_)
   refine r_cons (r_pass rfl rfl rfl rfl rfl ?_)
   refine r_cons (r_pass rfl rfl rfl rfl rfl ?_)
   refine r_cons (r_pass rfl rfl rfl rfl rfl ?_)
   refine r_cons (r_pass rfl rfl rfl rfl rfl ?_)
   refine r_cons (s_pick_f (.bool false) rfl rfl rfl ?_)
   refine r_cons (s_assign (.bool false) rfl rfl ?_)
   refine r_nil ?_
   have hz436 : (brB d.frm.v) = false := by simpa using hb26
   simp only [timeB, brB, decide_eq_true_eq, decide_eq_false_iff_not] at hz436
   have H44 : St W w24 (blk bk4 (.cells #[.int .i64 d.frm.v, .int .i64 d.to_.v, .int .i64 d.kind.v, .int .i64 d.seq.v, .int .i64 d.ack.v, .slice pp1 d.body.length cc2] 41 (0, 0)) :: F) := H25
   exact join7 (()) _ _ ⟨trivial, H44⟩ ⟨by first | rfl | exact vint (by omega), by first | rfl | exact vint (by omega), congrArg Value.bool (show false = chkB d from (decide_eq_false (by omega)).symm), trivial⟩
set_option maxHeartbeats 4000000 in
set_option maxRecDepth 100000 in
theorem eyrieref02_time {W w : World} {F : List Atom} (n : Int) (H : St W w F) : Calls Try.prog 65 #[.int .i64 n] w (Ret fun v w' => v = .bool (timeB n) ∧ St W w' F) := by
 refine calls_of_go (n := 9) Try.func65 rfl Try.ntmps65 rfl ?_
 refine g_seq ?_
 refine g_region ?_
 refine r_cons (s_assign (.bool false) rfl rfl ?_)
 refine r_nil ?_
 refine g_seq ?_
 refine g_region ?_
 refine r_cons (s_move (.int .i64 n) rfl rfl ?_)
 by_cases hc1 : (0 : Int) ≤ n
 ·skip
  refine r_cons (s_geq true rfl rfl (dtrue hc1) rfl ?_)
  refine r_cons (s_move (.bool true) rfl rfl ?_)
  refine r_cons (r_take rfl rfl ?_)
  refine s_move (.int .i64 n) rfl rfl ?_
  refine r_cons (r_take rfl rfl ?_)
  by_cases hc2 : n ≤ 1099511627776
  ·skip
   refine s_leq true rfl rfl (dtrue hc2) rfl ?_
   refine r_cons (s_pick_t (.bool true) rfl rfl rfl ?_)
   refine r_cons (s_assign (.bool true) rfl rfl ?_)
   refine r_nil ?_
   refine g_ret' [.bool true] Try.func65 Try.results65 ⟨rfl, trivial⟩ ?_
   exact ⟨congrArg Value.bool (by simp only [timeB, brB]; first | (exact (decide_eq_true (by omega)).symm) | (exact (decide_eq_false (by omega)).symm)), H⟩
  ·skip
   refine s_leq false rfl rfl (dfalse hc2) rfl ?_
   refine r_cons (s_pick_t (.bool false) rfl rfl rfl ?_)
   refine r_cons (s_assign (.bool false) rfl rfl ?_)
   refine r_nil ?_
   refine g_ret' [.bool false] Try.func65 Try.results65 ⟨rfl, trivial⟩ ?_
   exact ⟨congrArg Value.bool (by simp only [timeB, brB]; first | (exact (decide_eq_true (by omega)).symm) | (exact (decide_eq_false (by omega)).symm)), H⟩
 ·skip
  refine r_cons (s_geq false rfl rfl (dfalse hc1) rfl ?_)
  refine r_cons (s_move (.bool false) rfl rfl ?_)
  refine r_cons (r_pass rfl rfl rfl rfl rfl ?_)
  refine r_cons (r_pass rfl rfl rfl rfl rfl ?_)
  refine r_cons (s_pick_f (.bool false) rfl rfl rfl ?_)
  refine r_cons (s_assign (.bool false) rfl rfl ?_)
  refine r_nil ?_
  refine g_ret' [.bool false] Try.func65 Try.results65 ⟨rfl, trivial⟩ ?_
  exact ⟨congrArg Value.bool (by simp only [timeB, brB]; first | (exact (decide_eq_true (by omega)).symm) | (exact (decide_eq_false (by omega)).symm)), H⟩
set_option maxHeartbeats 4000000 in
set_option maxRecDepth 100000 in
theorem eyrieref02_broker {W w : World} {F : List Atom} (n : Int) (H : St W w F) : Calls Try.prog 64 #[.int .i64 n] w (Ret fun v w' => v = .bool (brB n) ∧ St W w' F) := by
 refine calls_of_go (n := 9) Try.func64 rfl Try.ntmps64 rfl ?_
 refine g_seq ?_
 refine g_region ?_
 refine r_cons (s_assign (.bool false) rfl rfl ?_)
 refine r_nil ?_
 refine g_seq ?_
 refine g_region ?_
 refine r_cons (s_move (.int .i64 n) rfl rfl ?_)
 by_cases hc1 : (0 : Int) ≤ n
 ·skip
  refine r_cons (s_geq true rfl rfl (dtrue hc1) rfl ?_)
  refine r_cons (s_move (.bool true) rfl rfl ?_)
  refine r_cons (r_take rfl rfl ?_)
  refine s_move (.int .i64 n) rfl rfl ?_
  refine r_cons (r_take rfl rfl ?_)
  by_cases hc2 : n < 16
  ·skip
   refine s_lss true rfl rfl (dtrue hc2) rfl ?_
   refine r_cons (s_pick_t (.bool true) rfl rfl rfl ?_)
   refine r_cons (s_assign (.bool true) rfl rfl ?_)
   refine r_nil ?_
   refine g_ret' [.bool true] Try.func64 Try.results64 ⟨rfl, trivial⟩ ?_
   exact ⟨congrArg Value.bool (by simp only [timeB, brB]; first | (exact (decide_eq_true (by omega)).symm) | (exact (decide_eq_false (by omega)).symm)), H⟩
  ·skip
   refine s_lss false rfl rfl (dfalse hc2) rfl ?_
   refine r_cons (s_pick_t (.bool false) rfl rfl rfl ?_)
   refine r_cons (s_assign (.bool false) rfl rfl ?_)
   refine r_nil ?_
   refine g_ret' [.bool false] Try.func64 Try.results64 ⟨rfl, trivial⟩ ?_
   exact ⟨congrArg Value.bool (by simp only [timeB, brB]; first | (exact (decide_eq_true (by omega)).symm) | (exact (decide_eq_false (by omega)).symm)), H⟩
 ·skip
  refine r_cons (s_geq false rfl rfl (dfalse hc1) rfl ?_)
  refine r_cons (s_move (.bool false) rfl rfl ?_)
  refine r_cons (r_pass rfl rfl rfl rfl rfl ?_)
  refine r_cons (r_pass rfl rfl rfl rfl rfl ?_)
  refine r_cons (s_pick_f (.bool false) rfl rfl rfl ?_)
  refine r_cons (s_assign (.bool false) rfl rfl ?_)
  refine r_nil ?_
  refine g_ret' [.bool false] Try.func64 Try.results64 ⟨rfl, trivial⟩ ?_
  exact ⟨congrArg Value.bool (by simp only [timeB, brB]; first | (exact (decide_eq_true (by omega)).symm) | (exact (decide_eq_false (by omega)).symm)), H⟩
set_option maxHeartbeats 4000000 in
set_option maxRecDepth 100000 in
theorem eyrieref02_Check {W w : World} {F : List Atom} (d : DgM) (bv_d : Value) {A_d : Atom} (hA_d : RdA A_d 1 bv_d d.body.length (d.body.flatMap u8c)) {j : Nat} (hj : F[j]? = some A_d) (H : St W w F) : Calls Try.prog 57 #[.agg #[.int .i64 d.frm.v, .int .i64 d.to_.v, .int .i64 d.kind.v, .int .i64 d.seq.v, .int .i64 d.ack.v, bv_d]] w (Ret fun v w' => v = .int .i64 (dgE d) ∧ St W w' F) := by
 have hml := (hA_d _ _ _ j H hj).2
 obtain ⟨pp1, cc2, rfl, hn3⟩ := Rd.shape (hA_d _ _ _ j H hj).1
 refine calls_of_go (n := 63) Try.func57 rfl Try.ntmps57 rfl ?_
 refine g_seq ?_
 refine g_region ?_
 refine r_cons (s_box H 41 (.agg #[.int .i64 d.frm.v, .int .i64 d.to_.v, .int .i64 d.kind.v, .int .i64 d.seq.v, .int .i64 d.ack.v, .slice pp1 d.body.length cc2]) rfl (cs := #[.int .i64 d.frm.v, .int .i64 d.to_.v, .int .i64 d.kind.v, .int .i64 d.seq.v, .int .i64 d.ack.v, .slice pp1 d.body.length cc2]) rfl rfl ?_); intro bk4 w5 H6
 refine r_cons (s_assign (.int .i64 0) rfl rfl ?_)
 refine r_nil ?_
 refine g_seq ?_
 refine g_cut (fun (x_ : Unit) => match x_ with | z_ => [(1, .pointer (some ⟨bk4, 0, none⟩)), (2, .int .i64 0), (3, .bool (chkB d))]) (fun (x_ : Unit) w => match x_ with | z_ => (True) ∧ St W w (blk bk4 (.cells #[.int .i64 d.frm.v, .int .i64 d.to_.v, .int .i64 d.kind.v, .int .i64 d.seq.v, .int .i64 d.ack.v, .slice pp1 d.body.length cc2] 41 (0, 0)) :: F)) ?_ ?_
 ·rintro z_ ρ10 w8 ⟨hz_, H9⟩
  change Ends _ _ (upds ρ10 [(1, .pointer (some ⟨bk4, 0, none⟩)), (2, .int .i64 0), (3, .bool (chkB d))]) w8
  refine g_seq ?_
  refine g_seq ?_
  refine g_region ?_
  refine r_cons (s_move (.bool (chkB d)) rfl rfl ?_)
  refine r_cons (s_not (chkB d) rfl (!(chkB d)) rfl rfl ?_)
  refine r_cons (s_move (.bool (!(chkB d))) rfl rfl ?_)
  by_cases hb11 : (!(chkB d)) = true
  ·skip
   refine r_cons (r_pass rfl (congrArg some hb11) rfl rfl rfl ?_)
   refine r_cons (r_pass rfl (congrArg some hb11) rfl rfl rfl ?_)
   refine r_cons (r_pass rfl (congrArg some hb11) rfl rfl rfl ?_)
   refine r_cons (r_pass rfl (congrArg some hb11) rfl rfl rfl ?_)
   refine r_cons (r_passN rfl rfl rfl rfl ?_)
   refine r_cons (r_passN rfl rfl rfl rfl ?_)
   refine r_cons (r_passN rfl rfl rfl rfl ?_)
   refine r_cons (r_pass rfl (congrArg some hb11) rfl rfl rfl ?_)
   refine r_cons (s_pick_t (.bool true) (by exact congrArg Value.bool hb11) rfl rfl ?_)
   refine r_cons (s_move (.bool true) rfl rfl ?_)
   refine r_cons (r_pass rfl rfl rfl rfl rfl ?_)
   refine r_cons (r_pass rfl rfl rfl rfl rfl ?_)
   refine r_cons (r_pass rfl rfl rfl rfl rfl ?_)
   refine r_cons (r_pass rfl rfl rfl rfl rfl ?_)
   refine r_cons (r_passN rfl rfl rfl rfl ?_)
   refine r_cons (r_passN rfl rfl rfl rfl ?_)
   refine r_cons (r_passN rfl rfl rfl rfl ?_)
   refine r_cons (r_passN rfl rfl rfl rfl ?_)
   refine r_cons (r_passN rfl rfl rfl rfl ?_)
   refine r_cons (r_passN rfl rfl rfl rfl ?_)
   refine r_cons (r_passN rfl rfl rfl rfl ?_)
   refine r_cons (r_passN rfl rfl rfl rfl ?_)
   refine r_cons (r_passN rfl rfl rfl rfl ?_)
   refine r_cons (r_pass rfl rfl rfl rfl rfl ?_)
   refine r_cons (s_pick_t (.bool true) rfl rfl rfl ?_)
   refine r_nil ?_
   refine g_true rfl ?_
   refine g_seq ?_
   refine g_region ?_
   refine r_cons (s_assign (.int .i64 21) rfl rfl ?_)
   refine r_nil ?_
   refine g_ret' [.int .i64 21] Try.func57 Try.results57 ⟨rfl, trivial⟩ ?_
   have H12 : St W w8 F := (H9.drop 0 rfl)
   have hzc := of_decide_eq_false (show chkB d = false from by simpa using hb11)
   exact ⟨vint (by exact (dgE_21 (by unfold dgOk; omega)).symm), H12⟩
  ·have hb11 := eq_false_of_ne_true hb11
   refine r_cons (r_take rfl (congrArg some hb11) ?_)
   refine s_fieldAddr 41 2 2 2 3 rfl fi_41_2 rfl rfl ?_
   refine r_cons (r_take rfl (congrArg some hb11) ?_)
   refine s_load (.int .i64 d.kind.v) ag_3 rfl (H9.blk_at (i := 0) rfl) rfl rfl ?_
   refine r_cons (r_take rfl (congrArg some hb11) ?_)
   by_cases hc13 : d.kind.v = 1
   ·skip
    refine s_neq false rfl rfl (ntrue hc13) rfl ?_
    refine r_cons (r_take rfl (congrArg some hb11) ?_)
    refine s_move (.bool false) rfl rfl ?_
    refine r_cons (r_pass rfl rfl rfl rfl rfl ?_)
    refine r_cons (r_pass rfl rfl rfl rfl rfl ?_)
    refine r_cons (r_pass rfl rfl rfl rfl rfl ?_)
    refine r_cons (r_take rfl (congrArg some hb11) ?_)
    refine s_pick_f (.bool false) rfl rfl rfl ?_
    refine r_cons (s_pick_f (.bool false) (by exact congrArg Value.bool hb11) rfl rfl ?_)
    refine r_cons (s_move (.bool false) rfl rfl ?_)
    refine r_cons (r_take rfl rfl ?_)
    refine s_fieldAddr 41 2 2 2 3 rfl fi_41_2 rfl rfl ?_
    refine r_cons (r_take rfl rfl ?_)
    refine s_load (.int .i64 d.kind.v) ag_3 rfl (H9.blk_at (i := 0) rfl) rfl rfl ?_
    refine r_cons (r_take rfl rfl ?_)
    refine s_eql false rfl rfl (dfalse (by omega)) rfl ?_
    refine r_cons (r_take rfl rfl ?_)
    refine s_move (.bool false) rfl rfl ?_
    refine r_cons (r_pass rfl rfl rfl rfl rfl ?_)
    refine r_cons (r_pass rfl rfl rfl rfl rfl ?_)
    refine r_cons (r_pass rfl rfl rfl rfl rfl ?_)
    refine r_cons (r_pass rfl rfl rfl rfl rfl ?_)
    refine r_cons (r_passN rfl rfl rfl rfl ?_)
    refine r_cons (r_passN rfl rfl rfl rfl ?_)
    refine r_cons (r_passN rfl rfl rfl rfl ?_)
    refine r_cons (r_passN rfl rfl rfl rfl ?_)
    refine r_cons (r_pass rfl rfl rfl rfl rfl ?_)
    refine r_cons (r_take rfl rfl ?_)
    refine s_pick_f (.bool false) rfl rfl rfl ?_
    refine r_cons (s_pick_f (.bool false) rfl rfl rfl ?_)
    refine r_nil ?_
    refine g_false rfl ?_
    refine g_skip ?_
    refine g_seq ?_
    refine g_region ?_
    refine r_cons (s_assign (.int .i64 0) rfl rfl ?_)
    refine r_nil ?_
    refine g_ret' [.int .i64 0] Try.func57 Try.results57 ⟨rfl, trivial⟩ ?_
    have H14 : St W w8 F := (H9.drop 0 rfl)
    have hzc := of_decide_eq_true (show chkB d = true from by simpa using hb11)
    exact ⟨vint (by exact (dgE_0 (by unfold dgOk; omega)).symm), H14⟩
   ·skip
    refine s_neq true rfl rfl (nfalse hc13) rfl ?_
    refine r_cons (r_take rfl (congrArg some hb11) ?_)
    refine s_move (.bool true) rfl rfl ?_
    refine r_cons (r_take rfl rfl ?_)
    refine s_fieldAddr 41 2 2 2 3 rfl fi_41_2 rfl rfl ?_
    refine r_cons (r_take rfl rfl ?_)
    refine s_load (.int .i64 d.kind.v) ag_3 rfl (H9.blk_at (i := 0) rfl) rfl rfl ?_
    refine r_cons (r_take rfl rfl ?_)
    by_cases hc15 : d.kind.v = 2
    ·skip
     refine s_neq false rfl rfl (ntrue hc15) rfl ?_
     refine r_cons (r_take rfl (congrArg some hb11) ?_)
     refine s_pick_t (.bool false) rfl rfl rfl ?_
     refine r_cons (s_pick_f (.bool false) (by exact congrArg Value.bool hb11) rfl rfl ?_)
     refine r_cons (s_move (.bool false) rfl rfl ?_)
     refine r_cons (r_take rfl rfl ?_)
     refine s_fieldAddr 41 2 2 2 3 rfl fi_41_2 rfl rfl ?_
     refine r_cons (r_take rfl rfl ?_)
     refine s_load (.int .i64 d.kind.v) ag_3 rfl (H9.blk_at (i := 0) rfl) rfl rfl ?_
     refine r_cons (r_take rfl rfl ?_)
     refine s_eql true rfl rfl (dtrue (by omega)) rfl ?_
     refine r_cons (r_take rfl rfl ?_)
     refine s_move (.bool true) rfl rfl ?_
     refine r_cons (r_take rfl rfl ?_)
     refine s_fieldAddr 41 3 3 3 2 rfl fi_41_3 rfl rfl ?_
     refine r_cons (r_take rfl rfl ?_)
     refine s_load (.int .i64 d.seq.v) ag_2 rfl (H9.blk_at (i := 0) rfl) rfl rfl ?_
     refine r_cons (r_take rfl rfl ?_)
     by_cases hc16 : d.seq.v = 0
     ·skip
      refine s_neq false rfl rfl (ntrue hc16) rfl ?_
      refine r_cons (r_take rfl rfl ?_)
      refine s_move (.bool false) rfl rfl ?_
      refine r_cons (r_take rfl rfl ?_)
      refine s_fieldAddr 41 5 5 5 26 rfl fi_41_5 rfl rfl ?_
      refine r_cons (r_take rfl rfl ?_)
      refine s_load (.slice pp1 d.body.length cc2) ag_26 rfl (H9.blk_at (i := 0) rfl) rfl rfl ?_
      refine r_cons (r_take rfl rfl ?_)
      refine s_len d.body.length rfl ⟨_, un_26⟩ rfl ?_
      refine r_cons (r_take rfl rfl ?_)
      by_cases hc17 : (0 : Int) < (d.body.length : Int)
      ·skip
       refine s_gtr true rfl rfl (dtrue hc17) rfl ?_
       refine r_cons (r_take rfl rfl ?_)
       refine s_pick_f (.bool true) rfl rfl rfl ?_
       refine r_cons (r_take rfl rfl ?_)
       refine s_pick_t (.bool true) rfl rfl rfl ?_
       refine r_cons (s_pick_f (.bool true) rfl rfl rfl ?_)
       refine r_nil ?_
       refine g_true rfl ?_
       refine g_seq ?_
       refine g_region ?_
       refine r_cons (s_assign (.int .i64 21) rfl rfl ?_)
       refine r_nil ?_
       refine g_ret' [.int .i64 21] Try.func57 Try.results57 ⟨rfl, trivial⟩ ?_
       have H18 : St W w8 F := (H9.drop 0 rfl)
       have hzc := of_decide_eq_true (show chkB d = true from by simpa using hb11)
       exact ⟨vint (by exact (dgE_21 (by unfold dgOk; omega)).symm), H18⟩
      ·skip
       refine s_gtr false rfl rfl (dfalse hc17) rfl ?_
       refine r_cons (r_take rfl rfl ?_)
       refine s_pick_f (.bool false) rfl rfl rfl ?_
       refine r_cons (r_take rfl rfl ?_)
       refine s_pick_t (.bool false) rfl rfl rfl ?_
       refine r_cons (s_pick_f (.bool false) rfl rfl rfl ?_)
       refine r_nil ?_
       refine g_false rfl ?_
       refine g_skip ?_
       refine g_seq ?_
       refine g_region ?_
       refine r_cons (s_assign (.int .i64 0) rfl rfl ?_)
       refine r_nil ?_
       refine g_ret' [.int .i64 0] Try.func57 Try.results57 ⟨rfl, trivial⟩ ?_
       have H19 : St W w8 F := (H9.drop 0 rfl)
       have hzc := of_decide_eq_true (show chkB d = true from by simpa using hb11)
       exact ⟨vint (by exact (dgE_0 (by unfold dgOk; omega)).symm), H19⟩
     ·skip
      refine s_neq true rfl rfl (nfalse hc16) rfl ?_
      refine r_cons (r_take rfl rfl ?_)
      refine s_move (.bool true) rfl rfl ?_
      refine r_cons (r_pass rfl rfl rfl rfl rfl ?_)
      refine r_cons (r_pass rfl rfl rfl rfl rfl ?_)
      refine r_cons (r_pass rfl rfl rfl rfl rfl ?_)
      refine r_cons (r_pass rfl rfl rfl rfl rfl ?_)
      refine r_cons (r_take rfl rfl ?_)
      refine s_pick_t (.bool true) rfl rfl rfl ?_
      refine r_cons (r_take rfl rfl ?_)
      refine s_pick_t (.bool true) rfl rfl rfl ?_
      refine r_cons (s_pick_f (.bool true) rfl rfl rfl ?_)
      refine r_nil ?_
      refine g_true rfl ?_
      refine g_seq ?_
      refine g_region ?_
      refine r_cons (s_assign (.int .i64 21) rfl rfl ?_)
      refine r_nil ?_
      refine g_ret' [.int .i64 21] Try.func57 Try.results57 ⟨rfl, trivial⟩ ?_
      have H20 : St W w8 F := (H9.drop 0 rfl)
      have hzc := of_decide_eq_true (show chkB d = true from by simpa using hb11)
      exact ⟨vint (by exact (dgE_21 (by unfold dgOk; omega)).symm), H20⟩
    ·skip
     refine s_neq true rfl rfl (nfalse hc15) rfl ?_
     refine r_cons (r_take rfl (congrArg some hb11) ?_)
     refine s_pick_t (.bool true) rfl rfl rfl ?_
     refine r_cons (s_pick_f (.bool true) (by exact congrArg Value.bool hb11) rfl rfl ?_)
     refine r_cons (s_move (.bool true) rfl rfl ?_)
     refine r_cons (r_pass rfl rfl rfl rfl rfl ?_)
     refine r_cons (r_pass rfl rfl rfl rfl rfl ?_)
     refine r_cons (r_pass rfl rfl rfl rfl rfl ?_)
     refine r_cons (r_pass rfl rfl rfl rfl rfl ?_)
     refine r_cons (r_passN rfl rfl rfl rfl ?_)
     refine r_cons (r_passN rfl rfl rfl rfl ?_)
     refine r_cons (r_passN rfl rfl rfl rfl ?_)
     refine r_cons (r_passN rfl rfl rfl rfl ?_)
     refine r_cons (r_passN rfl rfl rfl rfl ?_)
     refine r_cons (r_passN rfl rfl rfl rfl ?_)
     refine r_cons (r_passN rfl rfl rfl rfl ?_)
     refine r_cons (r_passN rfl rfl rfl rfl ?_)
     refine r_cons (r_passN rfl rfl rfl rfl ?_)
     refine r_cons (r_pass rfl rfl rfl rfl rfl ?_)
     refine r_cons (s_pick_t (.bool true) rfl rfl rfl ?_)
     refine r_nil ?_
     refine g_true rfl ?_
     refine g_seq ?_
     refine g_region ?_
     refine r_cons (s_assign (.int .i64 21) rfl rfl ?_)
     refine r_nil ?_
     refine g_ret' [.int .i64 21] Try.func57 Try.results57 ⟨rfl, trivial⟩ ?_
     have H21 : St W w8 F := (H9.drop 0 rfl)
     have hzc := of_decide_eq_true (show chkB d = true from by simpa using hb11)
     exact ⟨vint (by exact (dgE_21 (by unfold dgOk; omega)).symm), H21⟩
 ·intro join7
  refine g_region ?_
  refine r_cons (s_fieldAddr 41 0 0 0 3 rfl fi_41_0 rfl rfl ?_)
  refine r_cons (s_load (.int .i64 d.frm.v) ag_3 rfl (H6.blk_at (i := 0) rfl) rfl rfl ?_)
  refine r_cons (s_call [.int .i64 d.frm.v] pl_64 rfl rfl (eyrieref02_broker d.frm.v H6) ?_)
  rintro _ w22 ⟨rfl, H23⟩
  refine r_cons (s_move (.bool (brB d.frm.v)) rfl rfl ?_)
  by_cases hb24 : (brB d.frm.v) = true
  ·skip
   refine r_cons (r_take rfl (congrArg some hb24) ?_)
   refine s_fieldAddr 41 1 1 1 3 rfl fi_41_1 rfl rfl ?_
   refine r_cons (r_take rfl (congrArg some hb24) ?_)
   refine s_load (.int .i64 d.to_.v) ag_3 rfl (H23.blk_at (i := 0) rfl) rfl rfl ?_
   refine r_cons (r_take rfl (congrArg some hb24) ?_)
   refine s_call [.int .i64 d.to_.v] pl_64 rfl rfl (eyrieref02_broker d.to_.v H23) ?_
   rintro _ w25 ⟨rfl, H26⟩
   refine r_cons (s_pick_t (.bool (brB d.to_.v)) (by exact congrArg Value.bool hb24) rfl rfl ?_)
   refine r_cons (s_move (.bool (brB d.to_.v)) rfl rfl ?_)
   by_cases hb27 : (brB d.to_.v) = true
   ·skip
    refine r_cons (r_take rfl (congrArg some hb27) ?_)
    refine s_fieldAddr 41 0 0 0 3 rfl fi_41_0 rfl rfl ?_
    refine r_cons (r_take rfl (congrArg some hb27) ?_)
    refine s_load (.int .i64 d.frm.v) ag_3 rfl (H26.blk_at (i := 0) rfl) rfl rfl ?_
    refine r_cons (r_take rfl (congrArg some hb27) ?_)
    refine s_fieldAddr 41 1 1 1 3 rfl fi_41_1 rfl rfl ?_
    refine r_cons (r_take rfl (congrArg some hb27) ?_)
    refine s_load (.int .i64 d.to_.v) ag_3 rfl (H26.blk_at (i := 0) rfl) rfl rfl ?_
    refine r_cons (r_take rfl (congrArg some hb27) ?_)
    by_cases hc28 : d.frm.v = d.to_.v
    ·skip
     refine s_neq false rfl rfl (ntrue hc28) rfl ?_
     refine r_cons (s_pick_t (.bool false) (by exact congrArg Value.bool hb27) rfl rfl ?_)
     refine r_cons (s_move (.bool false) rfl rfl ?_)
     refine r_cons (r_pass rfl rfl rfl rfl rfl ?_)
     refine r_cons (r_pass rfl rfl rfl rfl rfl ?_)
     refine r_cons (r_pass rfl rfl rfl rfl rfl ?_)
     refine r_cons (s_pick_f (.bool false) rfl rfl rfl ?_)
     refine r_cons (s_move (.bool false) rfl rfl ?_)
     refine r_cons (r_pass rfl rfl rfl rfl rfl ?_)
     refine r_cons (r_pass rfl rfl rfl rfl rfl ?_)
     refine r_cons (r_pass rfl rfl rfl rfl rfl ?_)
     refine r_cons (s_pick_f (.bool false) rfl rfl rfl ?_)
     refine r_cons (s_move (.bool false) rfl rfl ?_)
     refine r_cons (r_pass rfl rfl rfl rfl rfl ?_)
     refine r_cons (r_pass rfl rfl rfl rfl rfl ?_)
     refine r_cons (r_pass rfl rfl rfl rfl rfl ?_)
     refine r_cons (r_pass rfl rfl rfl rfl rfl ?_)
     refine r_cons (s_pick_f (.bool false) rfl rfl rfl ?_)
     refine r_cons (s_assign (.bool false) rfl rfl ?_)
     refine r_nil ?_
     have hz286 : (brB d.frm.v) = true := by simpa using hb24
     simp only [timeB, brB, decide_eq_true_eq, decide_eq_false_iff_not] at hz286
     have hz288 : (brB d.to_.v) = true := by simpa using hb27
     simp only [timeB, brB, decide_eq_true_eq, decide_eq_false_iff_not] at hz288
     have H29 : St W w25 (blk bk4 (.cells #[.int .i64 d.frm.v, .int .i64 d.to_.v, .int .i64 d.kind.v, .int .i64 d.seq.v, .int .i64 d.ack.v, .slice pp1 d.body.length cc2] 41 (0, 0)) :: F) := H26
     exact join7 (()) _ _ ⟨trivial, H29⟩ ⟨by first | rfl | exact vint (by omega), by first | rfl | exact vint (by omega), congrArg Value.bool (show false = chkB d from (decide_eq_false (by omega)).symm), trivial⟩
    ·skip
     refine s_neq true rfl rfl (nfalse hc28) rfl ?_
     refine r_cons (s_pick_t (.bool true) (by exact congrArg Value.bool hb27) rfl rfl ?_)
     refine r_cons (s_move (.bool true) rfl rfl ?_)
     refine r_cons (r_take rfl rfl ?_)
     refine s_fieldAddr 41 3 3 3 2 rfl fi_41_3 rfl rfl ?_
     refine r_cons (r_take rfl rfl ?_)
     refine s_load (.int .i64 d.seq.v) ag_2 rfl (H26.blk_at (i := 0) rfl) rfl rfl ?_
     refine r_cons (r_take rfl rfl ?_)
     refine s_call [.int .i64 d.seq.v] pl_65 rfl rfl (eyrieref02_time d.seq.v H26) ?_
     rintro _ w30 ⟨rfl, H31⟩
     refine r_cons (s_pick_t (.bool (timeB d.seq.v)) rfl rfl rfl ?_)
     refine r_cons (s_move (.bool (timeB d.seq.v)) rfl rfl ?_)
     by_cases hb32 : (timeB d.seq.v) = true
     ·skip
      refine r_cons (r_take rfl (congrArg some hb32) ?_)
      refine s_fieldAddr 41 4 4 4 2 rfl fi_41_4 rfl rfl ?_
      refine r_cons (r_take rfl (congrArg some hb32) ?_)
      refine s_load (.int .i64 d.ack.v) ag_2 rfl (H31.blk_at (i := 0) rfl) rfl rfl ?_
      refine r_cons (r_take rfl (congrArg some hb32) ?_)
      refine s_call [.int .i64 d.ack.v] pl_65 rfl rfl (eyrieref02_time d.ack.v H31) ?_
      rintro _ w33 ⟨rfl, H34⟩
      refine r_cons (s_pick_t (.bool (timeB d.ack.v)) (by exact congrArg Value.bool hb32) rfl rfl ?_)
      refine r_cons (s_move (.bool (timeB d.ack.v)) rfl rfl ?_)
      by_cases hb35 : (timeB d.ack.v) = true
      ·skip
       refine r_cons (r_take rfl (congrArg some hb35) ?_)
       refine s_fieldAddr 41 5 5 5 26 rfl fi_41_5 rfl rfl ?_
       refine r_cons (r_take rfl (congrArg some hb35) ?_)
       refine s_load (.slice pp1 d.body.length cc2) ag_26 rfl (H34.blk_at (i := 0) rfl) rfl rfl ?_
       refine r_cons (r_take rfl (congrArg some hb35) ?_)
       refine s_len d.body.length rfl ⟨_, un_26⟩ rfl ?_
       refine r_cons (r_take rfl (congrArg some hb35) ?_)
       by_cases hc36 : (d.body.length : Int) ≤ 16384
       ·skip
        refine s_leq true rfl rfl (dtrue hc36) rfl ?_
        refine r_cons (s_pick_t (.bool true) (by exact congrArg Value.bool hb35) rfl rfl ?_)
        refine r_cons (s_assign (.bool true) rfl rfl ?_)
        refine r_nil ?_
        have hz331 : (brB d.frm.v) = true := by simpa using hb24
        simp only [timeB, brB, decide_eq_true_eq, decide_eq_false_iff_not] at hz331
        have hz333 : (brB d.to_.v) = true := by simpa using hb27
        simp only [timeB, brB, decide_eq_true_eq, decide_eq_false_iff_not] at hz333
        have hz335 : (timeB d.seq.v) = true := by simpa using hb32
        simp only [timeB, brB, decide_eq_true_eq, decide_eq_false_iff_not] at hz335
        have hz337 : (timeB d.ack.v) = true := by simpa using hb35
        simp only [timeB, brB, decide_eq_true_eq, decide_eq_false_iff_not] at hz337
        have H37 : St W w33 (blk bk4 (.cells #[.int .i64 d.frm.v, .int .i64 d.to_.v, .int .i64 d.kind.v, .int .i64 d.seq.v, .int .i64 d.ack.v, .slice pp1 d.body.length cc2] 41 (0, 0)) :: F) := H34
        exact join7 (()) _ _ ⟨trivial, H37⟩ ⟨by first | rfl | exact vint (by omega), by first | rfl | exact vint (by omega), congrArg Value.bool (show true = chkB d from (decide_eq_true (by omega)).symm), trivial⟩
       ·skip
        refine s_leq false rfl rfl (dfalse hc36) rfl ?_
        refine r_cons (s_pick_t (.bool false) (by exact congrArg Value.bool hb35) rfl rfl ?_)
        refine r_cons (s_assign (.bool false) rfl rfl ?_)
        refine r_nil ?_
        have hz346 : (brB d.frm.v) = true := by simpa using hb24
        simp only [timeB, brB, decide_eq_true_eq, decide_eq_false_iff_not] at hz346
        have hz348 : (brB d.to_.v) = true := by simpa using hb27
        simp only [timeB, brB, decide_eq_true_eq, decide_eq_false_iff_not] at hz348
        have hz350 : (timeB d.seq.v) = true := by simpa using hb32
        simp only [timeB, brB, decide_eq_true_eq, decide_eq_false_iff_not] at hz350
        have hz352 : (timeB d.ack.v) = true := by simpa using hb35
        simp only [timeB, brB, decide_eq_true_eq, decide_eq_false_iff_not] at hz352
        have H38 : St W w33 (blk bk4 (.cells #[.int .i64 d.frm.v, .int .i64 d.to_.v, .int .i64 d.kind.v, .int .i64 d.seq.v, .int .i64 d.ack.v, .slice pp1 d.body.length cc2] 41 (0, 0)) :: F) := H34
        exact join7 (()) _ _ ⟨trivial, H38⟩ ⟨by first | rfl | exact vint (by omega), by first | rfl | exact vint (by omega), congrArg Value.bool (show false = chkB d from (decide_eq_false (by omega)).symm), trivial⟩
      ·have hb35 := eq_false_of_ne_true hb35
       refine r_cons (r_pass rfl (congrArg some hb35) rfl rfl rfl ?_)
       refine r_cons (r_pass rfl (congrArg some hb35) rfl rfl rfl ?_)
       refine r_cons (r_pass rfl (congrArg some hb35) rfl rfl rfl ?_)
       refine r_cons (r_pass rfl (congrArg some hb35) rfl rfl rfl ?_)
       refine r_cons (s_pick_f (.bool false) (by exact congrArg Value.bool hb35) rfl rfl ?_)
       refine r_cons (s_assign (.bool false) rfl rfl ?_)
       refine r_nil ?_
       have hz364 : (brB d.frm.v) = true := by simpa using hb24
       simp only [timeB, brB, decide_eq_true_eq, decide_eq_false_iff_not] at hz364
       have hz366 : (brB d.to_.v) = true := by simpa using hb27
       simp only [timeB, brB, decide_eq_true_eq, decide_eq_false_iff_not] at hz366
       have hz368 : (timeB d.seq.v) = true := by simpa using hb32
       simp only [timeB, brB, decide_eq_true_eq, decide_eq_false_iff_not] at hz368
       have hz370 : (timeB d.ack.v) = false := by simpa using hb35
       simp only [timeB, brB, decide_eq_true_eq, decide_eq_false_iff_not] at hz370
       have H39 : St W w33 (blk bk4 (.cells #[.int .i64 d.frm.v, .int .i64 d.to_.v, .int .i64 d.kind.v, .int .i64 d.seq.v, .int .i64 d.ack.v, .slice pp1 d.body.length cc2] 41 (0, 0)) :: F) := H34
       exact join7 (()) _ _ ⟨trivial, H39⟩ ⟨by first | rfl | exact vint (by omega), by first | rfl | exact vint (by omega), congrArg Value.bool (show false = chkB d from (decide_eq_false (by omega)).symm), trivial⟩
     ·have hb32 := eq_false_of_ne_true hb32
      refine r_cons (r_pass rfl (congrArg some hb32) rfl rfl rfl ?_)
      refine r_cons (r_pass rfl (congrArg some hb32) rfl rfl rfl ?_)
      refine r_cons (r_pass rfl (congrArg some hb32) rfl rfl rfl ?_)
      refine r_cons (s_pick_f (.bool false) (by exact congrArg Value.bool hb32) rfl rfl ?_)
      refine r_cons (s_move (.bool false) rfl rfl ?_)
      refine r_cons (r_pass rfl rfl rfl rfl rfl ?_)
      refine r_cons (r_pass rfl rfl rfl rfl rfl ?_)
      refine r_cons (r_pass rfl rfl rfl rfl rfl ?_)
      refine r_cons (r_pass rfl rfl rfl rfl rfl ?_)
      refine r_cons (s_pick_f (.bool false) rfl rfl rfl ?_)
      refine r_cons (s_assign (.bool false) rfl rfl ?_)
      refine r_nil ?_
      have hz387 : (brB d.frm.v) = true := by simpa using hb24
      simp only [timeB, brB, decide_eq_true_eq, decide_eq_false_iff_not] at hz387
      have hz389 : (brB d.to_.v) = true := by simpa using hb27
      simp only [timeB, brB, decide_eq_true_eq, decide_eq_false_iff_not] at hz389
      have hz391 : (timeB d.seq.v) = false := by simpa using hb32
      simp only [timeB, brB, decide_eq_true_eq, decide_eq_false_iff_not] at hz391
      have H40 : St W w30 (blk bk4 (.cells #[.int .i64 d.frm.v, .int .i64 d.to_.v, .int .i64 d.kind.v, .int .i64 d.seq.v, .int .i64 d.ack.v, .slice pp1 d.body.length cc2] 41 (0, 0)) :: F) := H31
      exact join7 (()) _ _ ⟨trivial, H40⟩ ⟨by first | rfl | exact vint (by omega), by first | rfl | exact vint (by omega), congrArg Value.bool (show false = chkB d from (decide_eq_false (by omega)).symm), trivial⟩
   ·have hb27 := eq_false_of_ne_true hb27
    refine r_cons (r_pass rfl (congrArg some hb27) rfl rfl rfl ?_)
    refine r_cons (r_pass rfl (congrArg some hb27) rfl rfl rfl ?_)
    refine r_cons (r_pass rfl (congrArg some hb27) rfl rfl rfl ?_)
    refine r_cons (r_pass rfl (congrArg some hb27) rfl rfl rfl ?_)
    refine r_cons (r_pass rfl (congrArg some hb27) rfl rfl rfl ?_)
    refine r_cons (s_pick_f (.bool false) (by exact congrArg Value.bool hb27) rfl rfl ?_)
    refine r_cons (s_move (.bool false) rfl rfl ?_)
    refine r_cons (r_pass rfl rfl rfl rfl rfl ?_)
    refine r_cons (r_pass rfl rfl rfl rfl rfl ?_)
    refine r_cons (r_pass rfl rfl rfl rfl rfl ?_)
    refine r_cons (s_pick_f (.bool false) rfl rfl rfl ?_)
    refine r_cons (s_move (.bool false) rfl rfl ?_)
    refine r_cons (r_pass rfl rfl rfl rfl rfl ?_)
    refine r_cons (r_pass rfl rfl rfl rfl rfl ?_)
    refine r_cons (r_pass rfl rfl rfl rfl rfl ?_)
    refine r_cons (s_pick_f (.bool false) rfl rfl rfl ?_)
    refine r_cons (s_move (.bool false) rfl rfl ?_)
    refine r_cons (r_pass rfl rfl rfl rfl rfl ?_)
    refine r_cons (r_pass rfl rfl rfl rfl rfl ?_)
    refine r_cons (r_pass rfl rfl rfl rfl rfl ?_)
    refine r_cons (r_pass rfl rfl rfl rfl rfl ?_)
    refine r_cons (s_pick_f (.bool false) rfl rfl rfl ?_)
    refine r_cons (s_assign (.bool false) rfl rfl ?_)
    refine r_nil ?_
    have hz420 : (brB d.frm.v) = true := by simpa using hb24
    simp only [timeB, brB, decide_eq_true_eq, decide_eq_false_iff_not] at hz420
    have hz422 : (brB d.to_.v) = false := by simpa using hb27
    simp only [timeB, brB, decide_eq_true_eq, decide_eq_false_iff_not] at hz422
    have H41 : St W w25 (blk bk4 (.cells #[.int .i64 d.frm.v, .int .i64 d.to_.v, .int .i64 d.kind.v, .int .i64 d.seq.v, .int .i64 d.ack.v, .slice pp1 d.body.length cc2] 41 (0, 0)) :: F) := H26
    exact join7 (()) _ _ ⟨trivial, H41⟩ ⟨by first | rfl | exact vint (by omega), by first | rfl | exact vint (by omega), congrArg Value.bool (show false = chkB d from (decide_eq_false (by omega)).symm), trivial⟩
  ·have hb24 := eq_false_of_ne_true hb24
   refine r_cons (r_pass rfl (congrArg some hb24) rfl rfl rfl ?_)
   refine r_cons (r_pass rfl (congrArg some hb24) rfl rfl rfl ?_)
   refine r_cons (r_pass rfl (congrArg some hb24) rfl rfl rfl ?_)
   refine r_cons (s_pick_f (.bool false) (by exact congrArg Value.bool hb24) rfl rfl ?_)
   refine r_cons (s_move (.bool false) rfl rfl ?_)
   refine r_cons (r_pass rfl rfl rfl rfl rfl ?_)
   refine r_cons (r_pass rfl rfl rfl rfl rfl ?_)
   refine r_cons (r_pass rfl rfl rfl rfl rfl ?_)
   refine r_cons (r_pass rfl rfl rfl rfl rfl ?_)
   refine r_cons (r_pass rfl rfl rfl rfl rfl ?_)
   refine r_cons (s_pick_f (.bool false) rfl rfl rfl ?_)
   refine r_cons (s_move (.bool false) rfl rfl ?_)
   refine r_cons (r_pass rfl rfl rfl rfl rfl ?_)
   refine r_cons (r_pass rfl rfl rfl rfl rfl ?_)
   refine r_cons (r_pass rfl rfl rfl rfl rfl ?_)
   refine r_cons (s_pick_f (.bool false) rfl rfl rfl ?_)
   refine r_cons (s_move (.bool false) rfl rfl ?_)
   refine r_cons (r_pass rfl rfl rfl rfl rfl ?_)
   refine r_cons (r_pass rfl rfl rfl rfl rfl ?_)
   refine r_cons (r_pass rfl rfl rfl rfl rfl ?_)
   refine r_cons (s_pick_f (.bool false) rfl rfl rfl ?_)
   refine r_cons (s_move (.bool false) rfl rfl ?_)
   refine r_cons (r_pass rfl rfl rfl rfl rfl ?_)
   refine r_cons (r_pass rfl rfl rfl rfl rfl ?_)
   refine r_cons (r_pass rfl rfl rfl rfl rfl ?_)
   refine r_cons (r_pass rfl rfl rfl rfl rfl ?_)
   refine r_cons (s_pick_f (.bool false) rfl rfl rfl ?_)
   refine r_cons (s_assign (.bool false) rfl rfl ?_)
   refine r_nil ?_
   have hz456 : (brB d.frm.v) = false := by simpa using hb24
   simp only [timeB, brB, decide_eq_true_eq, decide_eq_false_iff_not] at hz456
   have H42 : St W w22 (blk bk4 (.cells #[.int .i64 d.frm.v, .int .i64 d.to_.v, .int .i64 d.kind.v, .int .i64 d.seq.v, .int .i64 d.ack.v, .slice pp1 d.body.length cc2] 41 (0, 0)) :: F) := H23
   exact join7 (()) _ _ ⟨trivial, H42⟩ ⟨by first | rfl | exact vint (by omega), by first | rfl | exact vint (by omega), congrArg Value.bool (show false = chkB d from (decide_eq_false (by omega)).symm), trivial⟩
set_option maxHeartbeats 4000000 in
set_option maxRecDepth 100000 in
theorem eyrieref02_Same {W w : World} {F : List Atom} (d e : DgM) (bv_d bv_e : Value) {A_d : Atom} (hA_d : RdA A_d 1 bv_d d.body.length (d.body.flatMap u8c)) {j : Nat} (hj : F[j]? = some A_d) {A_e : Atom} (hA_e : RdA A_e 1 bv_e e.body.length (e.body.flatMap u8c)) {k : Nat} (hk : F[k]? = some A_e) (H : St W w F) : Calls Try.prog 54 #[.agg #[.int .i64 d.frm.v, .int .i64 d.to_.v, .int .i64 d.kind.v, .int .i64 d.seq.v, .int .i64 d.ack.v, bv_d], .agg #[.int .i64 e.frm.v, .int .i64 e.to_.v, .int .i64 e.kind.v, .int .i64 e.seq.v, .int .i64 e.ack.v, bv_e]] w (Ret fun v w' => v = .bool (dgSame d e) ∧ St W w' F) := by
 have hml := (hA_d _ _ _ j H hj).2
 obtain ⟨pp1, cc2, rfl, hn3⟩ := Rd.shape (hA_d _ _ _ j H hj).1
 have hml := (hA_e _ _ _ k H hk).2
 obtain ⟨pp4, cc5, rfl, hn6⟩ := Rd.shape (hA_e _ _ _ k H hk).1
 refine calls_of_go (n := 47) Try.func54 rfl Try.ntmps54 rfl ?_
 refine g_seq ?_
 refine g_region ?_
 refine r_cons (s_box H 41 (.agg #[.int .i64 d.frm.v, .int .i64 d.to_.v, .int .i64 d.kind.v, .int .i64 d.seq.v, .int .i64 d.ack.v, .slice pp1 d.body.length cc2]) rfl (cs := #[.int .i64 d.frm.v, .int .i64 d.to_.v, .int .i64 d.kind.v, .int .i64 d.seq.v, .int .i64 d.ack.v, .slice pp1 d.body.length cc2]) rfl rfl ?_); intro bk7 w8 H9
 refine r_cons (s_box H9 41 (.agg #[.int .i64 e.frm.v, .int .i64 e.to_.v, .int .i64 e.kind.v, .int .i64 e.seq.v, .int .i64 e.ack.v, .slice pp4 e.body.length cc5]) rfl (cs := #[.int .i64 e.frm.v, .int .i64 e.to_.v, .int .i64 e.kind.v, .int .i64 e.seq.v, .int .i64 e.ack.v, .slice pp4 e.body.length cc5]) rfl rfl ?_); intro bk10 w11 H12
 refine r_cons (s_assign (.bool false) rfl rfl ?_)
 refine r_nil ?_
 refine g_seq ?_
 refine g_region ?_
 refine r_cons (s_fieldAddr 41 0 0 0 3 rfl fi_41_0 rfl rfl ?_)
 refine r_cons (s_load (.int .i64 d.frm.v) ag_3 rfl (H12.blk_at (i := 1) rfl) rfl rfl ?_)
 refine r_cons (s_fieldAddr 41 0 0 0 3 rfl fi_41_0 rfl rfl ?_)
 refine r_cons (s_load (.int .i64 e.frm.v) ag_3 rfl (H12.blk_at (i := 0) rfl) rfl rfl ?_)
 by_cases hc13 : d.frm.v = e.frm.v
 ·skip
  refine r_cons (s_eql true rfl rfl (dtrue hc13) rfl ?_)
  refine r_cons (s_move (.bool true) rfl rfl ?_)
  refine r_cons (r_take rfl rfl ?_)
  refine s_fieldAddr 41 1 1 1 3 rfl fi_41_1 rfl rfl ?_
  refine r_cons (r_take rfl rfl ?_)
  refine s_load (.int .i64 d.to_.v) ag_3 rfl (H12.blk_at (i := 1) rfl) rfl rfl ?_
  refine r_cons (r_take rfl rfl ?_)
  refine s_fieldAddr 41 1 1 1 3 rfl fi_41_1 rfl rfl ?_
  refine r_cons (r_take rfl rfl ?_)
  refine s_load (.int .i64 e.to_.v) ag_3 rfl (H12.blk_at (i := 0) rfl) rfl rfl ?_
  refine r_cons (r_take rfl rfl ?_)
  by_cases hc14 : d.to_.v = e.to_.v
  ·skip
   refine s_eql true rfl rfl (dtrue hc14) rfl ?_
   refine r_cons (s_pick_t (.bool true) rfl rfl rfl ?_)
   refine r_cons (s_move (.bool true) rfl rfl ?_)
   refine r_cons (r_take rfl rfl ?_)
   refine s_fieldAddr 41 2 2 2 3 rfl fi_41_2 rfl rfl ?_
   refine r_cons (r_take rfl rfl ?_)
   refine s_load (.int .i64 d.kind.v) ag_3 rfl (H12.blk_at (i := 1) rfl) rfl rfl ?_
   refine r_cons (r_take rfl rfl ?_)
   refine s_fieldAddr 41 2 2 2 3 rfl fi_41_2 rfl rfl ?_
   refine r_cons (r_take rfl rfl ?_)
   refine s_load (.int .i64 e.kind.v) ag_3 rfl (H12.blk_at (i := 0) rfl) rfl rfl ?_
   refine r_cons (r_take rfl rfl ?_)
   by_cases hc15 : d.kind.v = e.kind.v
   ·skip
    refine s_eql true rfl rfl (dtrue hc15) rfl ?_
    refine r_cons (s_pick_t (.bool true) rfl rfl rfl ?_)
    refine r_cons (s_move (.bool true) rfl rfl ?_)
    refine r_cons (r_take rfl rfl ?_)
    refine s_fieldAddr 41 3 3 3 2 rfl fi_41_3 rfl rfl ?_
    refine r_cons (r_take rfl rfl ?_)
    refine s_load (.int .i64 d.seq.v) ag_2 rfl (H12.blk_at (i := 1) rfl) rfl rfl ?_
    refine r_cons (r_take rfl rfl ?_)
    refine s_fieldAddr 41 3 3 3 2 rfl fi_41_3 rfl rfl ?_
    refine r_cons (r_take rfl rfl ?_)
    refine s_load (.int .i64 e.seq.v) ag_2 rfl (H12.blk_at (i := 0) rfl) rfl rfl ?_
    refine r_cons (r_take rfl rfl ?_)
    by_cases hc16 : d.seq.v = e.seq.v
    ·skip
     refine s_eql true rfl rfl (dtrue hc16) rfl ?_
     refine r_cons (s_pick_t (.bool true) rfl rfl rfl ?_)
     refine r_cons (s_move (.bool true) rfl rfl ?_)
     refine r_cons (r_take rfl rfl ?_)
     refine s_fieldAddr 41 4 4 4 2 rfl fi_41_4 rfl rfl ?_
     refine r_cons (r_take rfl rfl ?_)
     refine s_load (.int .i64 d.ack.v) ag_2 rfl (H12.blk_at (i := 1) rfl) rfl rfl ?_
     refine r_cons (r_take rfl rfl ?_)
     refine s_fieldAddr 41 4 4 4 2 rfl fi_41_4 rfl rfl ?_
     refine r_cons (r_take rfl rfl ?_)
     refine s_load (.int .i64 e.ack.v) ag_2 rfl (H12.blk_at (i := 0) rfl) rfl rfl ?_
     refine r_cons (r_take rfl rfl ?_)
     by_cases hc17 : d.ack.v = e.ack.v
     ·skip
      refine s_eql true rfl rfl (dtrue hc17) rfl ?_
      refine r_cons (s_pick_t (.bool true) rfl rfl rfl ?_)
      refine r_cons (s_move (.bool true) rfl rfl ?_)
      refine r_cons (r_take rfl rfl ?_)
      refine s_fieldAddr 41 5 5 5 26 rfl fi_41_5 rfl rfl ?_
      refine r_cons (r_take rfl rfl ?_)
      refine s_load (.slice pp1 d.body.length cc2) ag_26 rfl (H12.blk_at (i := 1) rfl) rfl rfl ?_
      refine r_cons (r_take rfl rfl ?_)
      refine s_bytes_str (xs := d.body) rfl (by rw [bytesV_flat]; exact (hA_d _ _ _ (j + 2) H12 (by exact hj)).1) un_26 un_5 un_9 rfl ?_
      refine r_cons (r_take rfl rfl ?_)
      refine s_fieldAddr 41 5 5 5 26 rfl fi_41_5 rfl rfl ?_
      refine r_cons (r_take rfl rfl ?_)
      refine s_load (.slice pp4 e.body.length cc5) ag_26 rfl (H12.blk_at (i := 0) rfl) rfl rfl ?_
      refine r_cons (r_take rfl rfl ?_)
      refine s_bytes_str (xs := e.body) rfl (by rw [bytesV_flat]; exact (hA_e _ _ _ (k + 2) H12 (by exact hk)).1) un_26 un_5 un_9 rfl ?_
      refine r_cons (r_take rfl rfl ?_)
      refine s_seql (decide ((⟨(d.body).toArray⟩ : ByteArray) = ⟨(e.body).toArray⟩)) rfl rfl rfl rfl ?_
      refine r_cons (s_pick_t (.bool (decide ((⟨(d.body).toArray⟩ : ByteArray) = ⟨(e.body).toArray⟩))) rfl rfl rfl ?_)
      refine r_cons (s_assign (.bool (decide ((⟨(d.body).toArray⟩ : ByteArray) = ⟨(e.body).toArray⟩))) rfl rfl ?_)
      refine r_nil ?_
      refine g_ret' [.bool (decide ((⟨(d.body).toArray⟩ : ByteArray) = ⟨(e.body).toArray⟩))] Try.func54 Try.results54 ⟨rfl, trivial⟩ ?_
      have H18 : St W w11 F := ((H12.drop 0 rfl).drop 0 rfl)
      exact ⟨congrArg Value.bool (by unfold dgSame; rw [decide_eq_decide]; first | exact ⟨fun q => ⟨by assumption, by assumption, by assumption, by assumption, by assumption, q⟩, fun q => q.2.2.2.2.2⟩ | exact ⟨fun q => ⟨by assumption, by assumption, by assumption, by assumption, by assumption, bodyEq q⟩, fun q => congrArg (fun z : List UInt8 => (⟨z.toArray⟩ : ByteArray)) q.2.2.2.2.2⟩), H18⟩
     ·skip
      refine s_eql false rfl rfl (dfalse hc17) rfl ?_
      refine r_cons (s_pick_t (.bool false) rfl rfl rfl ?_)
      refine r_cons (s_move (.bool false) rfl rfl ?_)
      refine r_cons (r_pass rfl rfl rfl rfl rfl ?_)
      refine r_cons (r_pass rfl rfl rfl rfl rfl ?_)
      refine r_cons (r_pass rfl rfl rfl rfl rfl ?_)
      refine r_cons (r_pass rfl rfl rfl rfl rfl ?_)
      refine r_cons (r_pass rfl rfl rfl rfl rfl ?_)
      refine r_cons (r_pass rfl rfl rfl rfl rfl ?_)
      refine r_cons (r_pass rfl rfl rfl rfl rfl ?_)
      refine r_cons (s_pick_f (.bool false) rfl rfl rfl ?_)
      refine r_cons (s_assign (.bool false) rfl rfl ?_)
      refine r_nil ?_
      refine g_ret' [.bool false] Try.func54 Try.results54 ⟨rfl, trivial⟩ ?_
      have H19 : St W w11 F := ((H12.drop 0 rfl).drop 0 rfl)
      exact ⟨congrArg Value.bool (Eq.symm (decide_eq_false (fun ⟨q1, q2, q3, q4, q5, q6⟩ => by first | exact absurd q1 (by assumption) | exact absurd q2 (by assumption) | exact absurd q3 (by assumption) | exact absurd q4 (by assumption) | exact absurd q5 (by assumption)))), H19⟩
    ·skip
     refine s_eql false rfl rfl (dfalse hc16) rfl ?_
     refine r_cons (s_pick_t (.bool false) rfl rfl rfl ?_)
     refine r_cons (s_move (.bool false) rfl rfl ?_)
     refine r_cons (r_pass rfl rfl rfl rfl rfl ?_)
     refine r_cons (r_pass rfl rfl rfl rfl rfl ?_)
     refine r_cons (r_pass rfl rfl rfl rfl rfl ?_)
     refine r_cons (r_pass rfl rfl rfl rfl rfl ?_)
     refine r_cons (r_pass rfl rfl rfl rfl rfl ?_)
     refine r_cons (s_pick_f (.bool false) rfl rfl rfl ?_)
     refine r_cons (s_move (.bool false) rfl rfl ?_)
     refine r_cons (r_pass rfl rfl rfl rfl rfl ?_)
     refine r_cons (r_pass rfl rfl rfl rfl rfl ?_)
     refine r_cons (r_pass rfl rfl rfl rfl rfl ?_)
     refine r_cons (r_pass rfl rfl rfl rfl rfl ?_)
     refine r_cons (r_pass rfl rfl rfl rfl rfl ?_)
     refine r_cons (r_pass rfl rfl rfl rfl rfl ?_)
     refine r_cons (r_pass rfl rfl rfl rfl rfl ?_)
     refine r_cons (s_pick_f (.bool false) rfl rfl rfl ?_)
     refine r_cons (s_assign (.bool false) rfl rfl ?_)
     refine r_nil ?_
     refine g_ret' [.bool false] Try.func54 Try.results54 ⟨rfl, trivial⟩ ?_
     have H20 : St W w11 F := ((H12.drop 0 rfl).drop 0 rfl)
     exact ⟨congrArg Value.bool (Eq.symm (decide_eq_false (fun ⟨q1, q2, q3, q4, q5, q6⟩ => by first | exact absurd q1 (by assumption) | exact absurd q2 (by assumption) | exact absurd q3 (by assumption) | exact absurd q4 (by assumption) | exact absurd q5 (by assumption)))), H20⟩
   ·skip
    refine s_eql false rfl rfl (dfalse hc15) rfl ?_
    refine r_cons (s_pick_t (.bool false) rfl rfl rfl ?_)
    refine r_cons (s_move (.bool false) rfl rfl ?_)
    refine r_cons (r_pass rfl rfl rfl rfl rfl ?_)
    refine r_cons (r_pass rfl rfl rfl rfl rfl ?_)
    refine r_cons (r_pass rfl rfl rfl rfl rfl ?_)
    refine r_cons (r_pass rfl rfl rfl rfl rfl ?_)
    refine r_cons (r_pass rfl rfl rfl rfl rfl ?_)
    refine r_cons (s_pick_f (.bool false) rfl rfl rfl ?_)
    refine r_cons (s_move (.bool false) rfl rfl ?_)
    refine r_cons (r_pass rfl rfl rfl rfl rfl ?_)
    refine r_cons (r_pass rfl rfl rfl rfl rfl ?_)
    refine r_cons (r_pass rfl rfl rfl rfl rfl ?_)
    refine r_cons (r_pass rfl rfl rfl rfl rfl ?_)
    refine r_cons (r_pass rfl rfl rfl rfl rfl ?_)
    refine r_cons (s_pick_f (.bool false) rfl rfl rfl ?_)
    refine r_cons (s_move (.bool false) rfl rfl ?_)
    refine r_cons (r_pass rfl rfl rfl rfl rfl ?_)
    refine r_cons (r_pass rfl rfl rfl rfl rfl ?_)
    refine r_cons (r_pass rfl rfl rfl rfl rfl ?_)
    refine r_cons (r_pass rfl rfl rfl rfl rfl ?_)
    refine r_cons (r_pass rfl rfl rfl rfl rfl ?_)
    refine r_cons (r_pass rfl rfl rfl rfl rfl ?_)
    refine r_cons (r_pass rfl rfl rfl rfl rfl ?_)
    refine r_cons (s_pick_f (.bool false) rfl rfl rfl ?_)
    refine r_cons (s_assign (.bool false) rfl rfl ?_)
    refine r_nil ?_
    refine g_ret' [.bool false] Try.func54 Try.results54 ⟨rfl, trivial⟩ ?_
    have H21 : St W w11 F := ((H12.drop 0 rfl).drop 0 rfl)
    exact ⟨congrArg Value.bool (Eq.symm (decide_eq_false (fun ⟨q1, q2, q3, q4, q5, q6⟩ => by first | exact absurd q1 (by assumption) | exact absurd q2 (by assumption) | exact absurd q3 (by assumption) | exact absurd q4 (by assumption) | exact absurd q5 (by assumption)))), H21⟩
  ·skip
   refine s_eql false rfl rfl (dfalse hc14) rfl ?_
   refine r_cons (s_pick_t (.bool false) rfl rfl rfl ?_)
   refine r_cons (s_move (.bool false) rfl rfl ?_)
   refine r_cons (r_pass rfl rfl rfl rfl rfl ?_)
   refine r_cons (r_pass rfl rfl rfl rfl rfl ?_)
   refine r_cons (r_pass rfl rfl rfl rfl rfl ?_)
   refine r_cons (r_pass rfl rfl rfl rfl rfl ?_)
   refine r_cons (r_pass rfl rfl rfl rfl rfl ?_)
   refine r_cons (s_pick_f (.bool false) rfl rfl rfl ?_)
   refine r_cons (s_move (.bool false) rfl rfl ?_)
   refine r_cons (r_pass rfl rfl rfl rfl rfl ?_)
   refine r_cons (r_pass rfl rfl rfl rfl rfl ?_)
   refine r_cons (r_pass rfl rfl rfl rfl rfl ?_)
   refine r_cons (r_pass rfl rfl rfl rfl rfl ?_)
   refine r_cons (r_pass rfl rfl rfl rfl rfl ?_)
   refine r_cons (s_pick_f (.bool false) rfl rfl rfl ?_)
   refine r_cons (s_move (.bool false) rfl rfl ?_)
   refine r_cons (r_pass rfl rfl rfl rfl rfl ?_)
   refine r_cons (r_pass rfl rfl rfl rfl rfl ?_)
   refine r_cons (r_pass rfl rfl rfl rfl rfl ?_)
   refine r_cons (r_pass rfl rfl rfl rfl rfl ?_)
   refine r_cons (r_pass rfl rfl rfl rfl rfl ?_)
   refine r_cons (s_pick_f (.bool false) rfl rfl rfl ?_)
   refine r_cons (s_move (.bool false) rfl rfl ?_)
   refine r_cons (r_pass rfl rfl rfl rfl rfl ?_)
   refine r_cons (r_pass rfl rfl rfl rfl rfl ?_)
   refine r_cons (r_pass rfl rfl rfl rfl rfl ?_)
   refine r_cons (r_pass rfl rfl rfl rfl rfl ?_)
   refine r_cons (r_pass rfl rfl rfl rfl rfl ?_)
   refine r_cons (r_pass rfl rfl rfl rfl rfl ?_)
   refine r_cons (r_pass rfl rfl rfl rfl rfl ?_)
   refine r_cons (s_pick_f (.bool false) rfl rfl rfl ?_)
   refine r_cons (s_assign (.bool false) rfl rfl ?_)
   refine r_nil ?_
   refine g_ret' [.bool false] Try.func54 Try.results54 ⟨rfl, trivial⟩ ?_
   have H22 : St W w11 F := ((H12.drop 0 rfl).drop 0 rfl)
   exact ⟨congrArg Value.bool (Eq.symm (decide_eq_false (fun ⟨q1, q2, q3, q4, q5, q6⟩ => by first | exact absurd q1 (by assumption) | exact absurd q2 (by assumption) | exact absurd q3 (by assumption) | exact absurd q4 (by assumption) | exact absurd q5 (by assumption)))), H22⟩
 ·skip
  refine r_cons (s_eql false rfl rfl (dfalse hc13) rfl ?_)
  refine r_cons (s_move (.bool false) rfl rfl ?_)
  refine r_cons (r_pass rfl rfl rfl rfl rfl ?_)
  refine r_cons (r_pass rfl rfl rfl rfl rfl ?_)
  refine r_cons (r_pass rfl rfl rfl rfl rfl ?_)
  refine r_cons (r_pass rfl rfl rfl rfl rfl ?_)
  refine r_cons (r_pass rfl rfl rfl rfl rfl ?_)
  refine r_cons (s_pick_f (.bool false) rfl rfl rfl ?_)
  refine r_cons (s_move (.bool false) rfl rfl ?_)
  refine r_cons (r_pass rfl rfl rfl rfl rfl ?_)
  refine r_cons (r_pass rfl rfl rfl rfl rfl ?_)
  refine r_cons (r_pass rfl rfl rfl rfl rfl ?_)
  refine r_cons (r_pass rfl rfl rfl rfl rfl ?_)
  refine r_cons (r_pass rfl rfl rfl rfl rfl ?_)
  refine r_cons (s_pick_f (.bool false) rfl rfl rfl ?_)
  refine r_cons (s_move (.bool false) rfl rfl ?_)
  refine r_cons (r_pass rfl rfl rfl rfl rfl ?_)
  refine r_cons (r_pass rfl rfl rfl rfl rfl ?_)
  refine r_cons (r_pass rfl rfl rfl rfl rfl ?_)
  refine r_cons (r_pass rfl rfl rfl rfl rfl ?_)
  refine r_cons (r_pass rfl rfl rfl rfl rfl ?_)
  refine r_cons (s_pick_f (.bool false) rfl rfl rfl ?_)
  refine r_cons (s_move (.bool false) rfl rfl ?_)
  refine r_cons (r_pass rfl rfl rfl rfl rfl ?_)
  refine r_cons (r_pass rfl rfl rfl rfl rfl ?_)
  refine r_cons (r_pass rfl rfl rfl rfl rfl ?_)
  refine r_cons (r_pass rfl rfl rfl rfl rfl ?_)
  refine r_cons (r_pass rfl rfl rfl rfl rfl ?_)
  refine r_cons (s_pick_f (.bool false) rfl rfl rfl ?_)
  refine r_cons (s_move (.bool false) rfl rfl ?_)
  refine r_cons (r_pass rfl rfl rfl rfl rfl ?_)
  refine r_cons (r_pass rfl rfl rfl rfl rfl ?_)
  refine r_cons (r_pass rfl rfl rfl rfl rfl ?_)
  refine r_cons (r_pass rfl rfl rfl rfl rfl ?_)
  refine r_cons (r_pass rfl rfl rfl rfl rfl ?_)
  refine r_cons (r_pass rfl rfl rfl rfl rfl ?_)
  refine r_cons (r_pass rfl rfl rfl rfl rfl ?_)
  refine r_cons (s_pick_f (.bool false) rfl rfl rfl ?_)
  refine r_cons (s_assign (.bool false) rfl rfl ?_)
  refine r_nil ?_
  refine g_ret' [.bool false] Try.func54 Try.results54 ⟨rfl, trivial⟩ ?_
  have H23 : St W w11 F := ((H12.drop 0 rfl).drop 0 rfl)
  exact ⟨congrArg Value.bool (Eq.symm (decide_eq_false (fun ⟨q1, q2, q3, q4, q5, q6⟩ => by first | exact absurd q1 (by assumption) | exact absurd q2 (by assumption) | exact absurd q3 (by assumption) | exact absurd q4 (by assumption) | exact absurd q5 (by assumption)))), H23⟩
def lkC (s : EndV) (m : Nat) (l : Value) : Obj := .cells #[.int .i64 s.frm.v, .int .i64 s.to_.v, .int .i64 (s.slide : Int), l, .int .i64 (s.acked : Int), .int .i64 ((i64N s.came).v), .map (some m), .int .i64 (s.clock : Int), .bool s.owes] 62 (0, 0)
def rfC (s : EndV) (l h : Value) : Obj := .cells #[.int .i64 s.frm.v, .int .i64 s.to_.v, .int .i64 (s.slide : Int), l, .int .i64 (s.acked : Int), .int .i64 ((i64N s.came).v), h, .int .i64 (s.clock : Int), .bool s.owes] 86 (0, 0)
/-- An end: the program's. -/
def LkA (g : Nat) (s : EndV) : Atom := ex fun q : {q : Nat × Option Addr × Nat × List BodD × List (I64 × BytesD) // q.2.2.2.1.map BodD.v = s.l ∧ mapB q.2.2.2.2 = s.held} => star [blk g (lkC s q.1.1 (.slice q.1.2.1 q.1.2.2.2.1.length q.1.2.2.1)), Row 79 3 (.slice q.1.2.1 q.1.2.2.2.1.length q.1.2.2.1) q.1.2.2.2.1.length (q.1.2.2.2.1.flatMap bodCell), byA (q.1.2.2.2.1.map BodD.by), MapA q.1.1 (ents (kI .i64) evD q.1.2.2.2.2), byA (mby q.1.2.2.2.2)]
/-- Datagrams in a row. -/
def DgsA (p : Option Addr) (c : Nat) (L : List DgM) : Atom := ex fun q : {q : List DgD // q.map DgD.d = L} => star [Row 41 6 (.slice p L.length c) L.length (q.1.flatMap dgdCell), byA (q.1.map DgD.by)]
/-- Bytes in a row. -/
def BysA (p : Option Addr) (c : Nat) (L : List (List UInt8)) : Atom := ex fun q : {q : List BytesD // q.map BytesD.data = L} => star [Row 26 1 (.slice p L.length c) L.length (q.1.flatMap byCell), byA q.1]
set_option maxHeartbeats 4000000 in
set_option maxRecDepth 100000 in
theorem Lk_none {W w : World} {F : List Atom} (g : Nat) (s : EndV) (hok : endOk s)  {i : Nat} (hi : F[i]? = some (LkA g s)) (H : St W w F) : Calls Try.prog 31 #[.pointer (some ⟨g, 0, none⟩)] w (Ret fun v w' => v = .bool false ∧ St W w' F) := by
 have H0 := H.front hi
 obtain ⟨o1, o2, o3, o4, o5, o6, o8⟩ := id hok; have o7 := i64N_0 (Nat.le_trans o4 (by decide))
 refine calls_of_go (n := 12) Try.func31 rfl Try.ntmps31 rfl ?_
 refine g_seq ?_
 refine g_region ?_
 refine r_cons (s_assign (.bool false) rfl rfl ?_)
 refine r_nil ?_
 refine g_seq ?_
 refine g_region ?_
 refine r_cons (s_move (.pointer (some ⟨g, 0, none⟩)) rfl rfl ?_)
 refine r_cons (s_peql false un_30 rfl rfl rfl rfl ?_)
 refine r_cons (s_move (.bool false) rfl rfl ?_)
 refine r_cons (r_take rfl rfl ?_)
 refine s_move (.pointer (some ⟨g, 0, none⟩)) rfl rfl ?_
 refine r_cons (r_take rfl rfl ?_)
 refine s_nilCheck (.pointer (some ⟨g, 0, none⟩)) rfl ⟨_, rfl⟩ rfl ?_
 refine r_cons (r_take rfl rfl ?_)
 refine s_fieldAddr 62 5 6 6 60 rfl fi_62_5 rfl rfl ?_
 refine r_cons (r_take rfl rfl ?_)
 have H1 := H0.move 0 rfl
 obtain ⟨⟨⟨m2, pp3, cc4, L5, E6⟩, hL7, hE8⟩, H9⟩ := St.open_ex H1
 have H10 := St.open_star H9
 change L5.map BodD.v = s.l at hL7; change mapB E6 = s.held at hE8
 have hl11 := lenOf hL7; have he12 := mapB_len hE8
 have H13 : St W w (blk g (lkC s m2 (.slice pp3 L5.length cc4)) :: Row 79 3 (.slice pp3 L5.length cc4) L5.length (L5.flatMap bodCell) :: byA (L5.map BodD.by) :: MapA m2 (ents (kI .i64) evD E6) :: byA (mby E6) :: (F.set i emp)) := H10
 refine s_load (.map (some m2)) ag_60 rfl (H13.blk_at (i := 0) rfl) rfl rfl ?_
 refine r_cons (r_take rfl rfl ?_)
 refine s_meql false un_60 rfl rfl rfl rfl ?_
 refine r_cons (s_pick_f (.bool false) rfl rfl rfl ?_)
 refine r_cons (s_assign (.bool false) rfl rfl ?_)
 refine r_nil ?_
 refine g_ret' [.bool false] Try.func31 Try.results31 ⟨rfl, trivial⟩ ?_
 have H14 : St W w (LkA g s :: (F.set i emp)) := St.shut_ex ⟨(m2, pp3, cc4, L5, E6), hL7, hE8⟩ (St.shut_star (ls := [_, _, _, _, _]) H13)
 have H15 : St W w (LkA g s :: (F.set i emp)) := H14
 exact ⟨rfl, St.back_same hi H15⟩
set_option maxHeartbeats 4000000 in
set_option maxRecDepth 100000 in
theorem Lk_Waiting {W w : World} {F : List Atom} (g : Nat) (s : EndV) (hok : endOk s)  {i : Nat} (hi : F[i]? = some (LkA g s)) (H : St W w F) : Calls Try.prog 10 #[.pointer (some ⟨g, 0, none⟩)] w (Ret fun v w' => v = .int .i64 (s.l.length : Int) ∧ St W w' F) := by
 have H0 := H.front hi
 obtain ⟨o1, o2, o3, o4, o5, o6, o8⟩ := id hok; have o7 := i64N_0 (Nat.le_trans o4 (by decide))
 refine calls_of_go (n := 10) Try.func10 rfl Try.ntmps10 rfl ?_
 refine g_seq ?_
 refine g_region ?_
 refine r_cons (s_assign (.int .i64 0) rfl rfl ?_)
 refine r_nil ?_
 refine g_seq ?_
 refine g_seq ?_
 refine g_region ?_
 refine r_cons (s_move (.pointer (some ⟨g, 0, none⟩)) rfl rfl ?_)
 refine r_cons (s_call [.pointer (some ⟨g, 0, none⟩)] pl_31 rfl rfl (Lk_none g s hok (i := 0) rfl H0) ?_)
 rintro _ w1 ⟨rfl, H2⟩
 refine r_nil ?_
 refine g_false rfl ?_
 refine g_skip ?_
 refine g_seq ?_
 refine g_region ?_
 refine r_cons (s_move (.pointer (some ⟨g, 0, none⟩)) rfl rfl ?_)
 refine r_cons (s_nilCheck (.pointer (some ⟨g, 0, none⟩)) rfl ⟨_, rfl⟩ rfl ?_)
 refine r_cons (s_fieldAddr 62 2 3 3 59 rfl fi_62_2 rfl rfl ?_)
 have H3 := H2.move 0 rfl
 obtain ⟨⟨⟨m4, pp5, cc6, L7, E8⟩, hL9, hE10⟩, H11⟩ := St.open_ex H3
 have H12 := St.open_star H11
 change L7.map BodD.v = s.l at hL9; change mapB E8 = s.held at hE10
 have hl13 := lenOf hL9; have he14 := mapB_len hE10
 have H15 : St W w1 (blk g (lkC s m4 (.slice pp5 L7.length cc6)) :: Row 79 3 (.slice pp5 L7.length cc6) L7.length (L7.flatMap bodCell) :: byA (L7.map BodD.by) :: MapA m4 (ents (kI .i64) evD E8) :: byA (mby E8) :: (F.set i emp)) := H12
 refine r_cons (s_load (.slice pp5 L7.length cc6) ag_59 rfl (H15.blk_at (i := 0) rfl) rfl rfl ?_)
 refine r_cons (s_len L7.length rfl ⟨_, un_59⟩ rfl ?_)
 refine r_cons (s_assign (.int .i64 (L7.length : Int)) rfl rfl ?_)
 refine r_nil ?_
 refine g_ret' [.int .i64 (L7.length : Int)] Try.func10 Try.results10 ⟨rfl, trivial⟩ ?_
 have H16 : St W w1 (LkA g s :: (F.set i emp)) := St.shut_ex ⟨(m4, pp5, cc6, L7, E8), hL9, hE10⟩ (St.shut_star (ls := [_, _, _, _, _]) H15)
 have H17 : St W w1 (LkA g s :: (F.set i emp)) := H16
 exact ⟨by rw [hl13]; rfl, St.back_same hi H17⟩
set_option maxHeartbeats 4000000 in
set_option maxRecDepth 100000 in
theorem Lk_Next {W w : World} {F : List Atom} (g : Nat) (s : EndV) (hok : endOk s)  {i : Nat} (hi : F[i]? = some (LkA g s)) (H : St W w F) : Calls Try.prog 24 #[.pointer (some ⟨g, 0, none⟩)] w (Ret fun v w' => v = .int .i64 ((s.acked : Int) + (s.l.length : Int)) ∧ St W w' F) := by
 have H0 := H.front hi
 obtain ⟨o1, o2, o3, o4, o5, o6, o8⟩ := id hok; have o7 := i64N_0 (Nat.le_trans o4 (by decide))
 refine calls_of_go (n := 15) Try.func24 rfl Try.ntmps24 rfl ?_
 refine g_seq ?_
 refine g_region ?_
 refine r_cons (s_assign (.int .i64 0) rfl rfl ?_)
 refine r_nil ?_
 refine g_seq ?_
 refine g_seq ?_
 refine g_region ?_
 refine r_cons (s_move (.pointer (some ⟨g, 0, none⟩)) rfl rfl ?_)
 refine r_cons (s_call [.pointer (some ⟨g, 0, none⟩)] pl_31 rfl rfl (Lk_none g s hok (i := 0) rfl H0) ?_)
 rintro _ w1 ⟨rfl, H2⟩
 refine r_nil ?_
 refine g_false rfl ?_
 refine g_skip ?_
 refine g_seq ?_
 have H3 := H2.move 0 rfl
 obtain ⟨⟨⟨m4, pp5, cc6, L7, E8⟩, hL9, hE10⟩, H11⟩ := St.open_ex H3
 have H12 := St.open_star H11
 change L7.map BodD.v = s.l at hL9; change mapB E8 = s.held at hE10
 have hl13 := lenOf hL9; have he14 := mapB_len hE10
 have H15 : St W w1 (blk g (lkC s m4 (.slice pp5 L7.length cc6)) :: Row 79 3 (.slice pp5 L7.length cc6) L7.length (L7.flatMap bodCell) :: byA (L7.map BodD.by) :: MapA m4 (ents (kI .i64) evD E8) :: byA (mby E8) :: (F.set i emp)) := H12
 refine g_quiet (fun w' => St W w' (blk g (lkC s m4 (.slice pp5 L7.length cc6)) :: Row 79 3 (.slice pp5 L7.length cc6) L7.length (L7.flatMap bodCell) :: byA (L7.map BodD.by) :: MapA m4 (ents (kI .i64) evD E8) :: byA (mby E8) :: (F.set i emp))) mixed (by kernel_rfl) H15.drew ?_
 refine q_cons (q_val rfl rfl rfl (by intro w hw; exact x_move (.pointer (some ⟨g, 0, none⟩)) rfl w) ?_)
 refine q_cons (q_val rfl rfl rfl (by intro w hw; exact x_nilCheck (.pointer (some ⟨g, 0, none⟩)) rfl ⟨_, rfl⟩ w) ?_)
 refine q_cons (q_val rfl rfl rfl (by intro w hw; exact x_fieldAddr 62 3 4 4 2 rfl fi_62_3 rfl w) ?_)
 refine q_cons (q_val rfl rfl rfl (by intro w hw; exact x_load (.int .i64 (s.acked : Int)) ag_2 rfl (hw.blk_at (i := 0) rfl) rfl) ?_)
 refine q_cons (q_val rfl rfl rfl (by intro w hw; exact x_move (.pointer (some ⟨g, 0, none⟩)) rfl w) ?_)
 refine q_cons (q_val rfl rfl rfl (by intro w hw; exact x_nilCheck (.pointer (some ⟨g, 0, none⟩)) rfl ⟨_, rfl⟩ w) ?_)
 refine q_cons (q_val rfl rfl rfl (by intro w hw; exact x_fieldAddr 62 2 3 3 59 rfl fi_62_2 rfl w) ?_)
 refine q_cons (q_val rfl rfl rfl (by intro w hw; exact x_load (.slice pp5 L7.length cc6) ag_59 rfl (hw.blk_at (i := 0) rfl) rfl) ?_)
 refine q_cons (q_val rfl rfl rfl (by intro w hw; exact x_len L7.length rfl ⟨_, un_59⟩ w) ?_)
 refine q_cons (q_val rfl rfl rfl (by intro w hw; exact x_add ((s.acked : Int) + (L7.length : Int)) rfl rfl (wi64 (by omega)) w) ?_)
 refine q_cons (q_val rfl rfl rfl (by intro w hw; exact x_assign (.int .i64 ((s.acked : Int) + (L7.length : Int))) rfl w) ?_)
 refine q_nil ?_
 intro w16 H17
 refine g_ret' [.int .i64 ((s.acked : Int) + (L7.length : Int))] Try.func24 Try.results24 ⟨rfl, trivial⟩ ?_
 have H18 : St W w16 (LkA g s :: (F.set i emp)) := St.shut_ex ⟨(m4, pp5, cc6, L7, E8), hL9, hE10⟩ (St.shut_star (ls := [_, _, _, _, _]) H17)
 have H19 : St W w16 (LkA g s :: (F.set i emp)) := H18
 exact ⟨by rw [hl13]; rfl, St.back_same hi H19⟩
set_option maxHeartbeats 4000000 in
set_option maxRecDepth 100000 in
theorem Lk_Came {W w : World} {F : List Atom} (g : Nat) (s : EndV) (hok : endOk s)  {i : Nat} (hi : F[i]? = some (LkA g s)) (H : St W w F) : Calls Try.prog 25 #[.pointer (some ⟨g, 0, none⟩)] w (Ret fun v w' => v = .int .i64 (s.came : Int) ∧ St W w' F) := by
 have H0 := H.front hi
 obtain ⟨o1, o2, o3, o4, o5, o6, o8⟩ := id hok; have o7 := i64N_0 (Nat.le_trans o4 (by decide))
 refine calls_of_go (n := 9) Try.func25 rfl Try.ntmps25 rfl ?_
 refine g_seq ?_
 refine g_region ?_
 refine r_cons (s_assign (.int .i64 0) rfl rfl ?_)
 refine r_nil ?_
 refine g_seq ?_
 refine g_seq ?_
 refine g_region ?_
 refine r_cons (s_move (.pointer (some ⟨g, 0, none⟩)) rfl rfl ?_)
 refine r_cons (s_call [.pointer (some ⟨g, 0, none⟩)] pl_31 rfl rfl (Lk_none g s hok (i := 0) rfl H0) ?_)
 rintro _ w1 ⟨rfl, H2⟩
 refine r_nil ?_
 refine g_false rfl ?_
 refine g_skip ?_
 refine g_seq ?_
 refine g_region ?_
 refine r_cons (s_move (.pointer (some ⟨g, 0, none⟩)) rfl rfl ?_)
 refine r_cons (s_nilCheck (.pointer (some ⟨g, 0, none⟩)) rfl ⟨_, rfl⟩ rfl ?_)
 refine r_cons (s_fieldAddr 62 4 5 5 2 rfl fi_62_4 rfl rfl ?_)
 have H3 := H2.move 0 rfl
 obtain ⟨⟨⟨m4, pp5, cc6, L7, E8⟩, hL9, hE10⟩, H11⟩ := St.open_ex H3
 have H12 := St.open_star H11
 change L7.map BodD.v = s.l at hL9; change mapB E8 = s.held at hE10
 have hl13 := lenOf hL9; have he14 := mapB_len hE10
 have H15 : St W w1 (blk g (lkC s m4 (.slice pp5 L7.length cc6)) :: Row 79 3 (.slice pp5 L7.length cc6) L7.length (L7.flatMap bodCell) :: byA (L7.map BodD.by) :: MapA m4 (ents (kI .i64) evD E8) :: byA (mby E8) :: (F.set i emp)) := H12
 refine r_cons (s_load (.int .i64 ((i64N s.came).v)) ag_2 rfl (H15.blk_at (i := 0) rfl) rfl rfl ?_)
 refine r_cons (s_assign (.int .i64 ((i64N s.came).v)) rfl rfl ?_)
 refine r_nil ?_
 refine g_ret' [.int .i64 ((i64N s.came).v)] Try.func25 Try.results25 ⟨rfl, trivial⟩ ?_
 have H16 : St W w1 (LkA g s :: (F.set i emp)) := St.shut_ex ⟨(m4, pp5, cc6, L7, E8), hL9, hE10⟩ (St.shut_star (ls := [_, _, _, _, _]) H15)
 have H17 : St W w1 (LkA g s :: (F.set i emp)) := H16
 exact ⟨by rw [o7]; rfl, St.back_same hi H17⟩
set_option maxHeartbeats 4000000 in
set_option maxRecDepth 100000 in
theorem Lk_Under {W w : World} {F : List Atom} (g : Nat) (s : EndV) (hok : endOk s)  {i : Nat} (hi : F[i]? = some (LkA g s)) (H : St W w F) : Calls Try.prog 16 #[.pointer (some ⟨g, 0, none⟩)] w (Ret fun v w' => v = .int .i64 (under s : Int) ∧ St W w' F) := by
 have H0 := H.front hi
 obtain ⟨o1, o2, o3, o4, o5, o6, o8⟩ := id hok; have o7 := i64N_0 (Nat.le_trans o4 (by decide))
 refine calls_of_go (n := 21) Try.func16 rfl Try.ntmps16 rfl ?_
 refine g_seq ?_
 refine g_region ?_
 refine r_cons (s_assign (.int .i64 0) rfl rfl ?_)
 refine r_nil ?_
 refine g_seq ?_
 refine g_region ?_
 refine r_cons (s_assign (.int .i64 0) rfl rfl ?_)
 refine r_nil ?_
 refine g_seq ?_
 refine g_block ?_
 refine g_loop_inv (fun (x_ : Nat) => match x_ with | n => [(0, .pointer (some ⟨g, 0, none⟩)), (2, .int .i64 0), (3, .int .i64 (n : Int))]) (fun (x_ : Nat) w => match x_ with | n => (n ≤ s.l.length) ∧ (∀ j, j < n → (s.l.getD j default).sent = true) ∧ St W w (LkA g s :: (F.set i emp))) (fun (x_ : Nat) => match x_ with | n => s.l.length - n) (0) ?_ ?_ ?_
 ·exact ⟨by first | rfl | exact vint (by omega), by first | rfl | exact vint (by omega), by first | rfl | exact vint (by omega), trivial⟩
 ·exact ⟨(by omega), (fun j hj => absurd hj (by omega)), H0⟩
 ·rintro n ρ1 w2 ⟨hn, hs, H3⟩ nx4
  change Ends _ _ (upds ρ1 [(0, .pointer (some ⟨g, 0, none⟩)), (2, .int .i64 0), (3, .int .i64 (n : Int))]) w2
  refine g_seq ?_
  refine g_seq ?_
  refine g_region ?_
  refine r_cons (s_move (.int .i64 (n : Int)) rfl rfl ?_)
  refine r_cons (s_move (.pointer (some ⟨g, 0, none⟩)) rfl rfl ?_)
  refine r_cons (s_call [.pointer (some ⟨g, 0, none⟩)] pl_10 rfl rfl (Lk_Waiting g s hok (i := 0) rfl H3) ?_)
  rintro _ w5 ⟨rfl, H6⟩
  by_cases hc7 : (n : Int) < (s.l.length : Int)
  ·skip
   refine r_cons (s_lss true rfl rfl (dtrue hc7) rfl ?_)
   refine r_cons (s_move (.bool true) rfl rfl ?_)
   refine r_cons (r_take rfl rfl ?_)
   refine s_move (.pointer (some ⟨g, 0, none⟩)) rfl rfl ?_
   refine r_cons (r_take rfl rfl ?_)
   refine s_nilCheck (.pointer (some ⟨g, 0, none⟩)) rfl ⟨_, rfl⟩ rfl ?_
   refine r_cons (r_take rfl rfl ?_)
   have H8 := H6.move 0 rfl
   obtain ⟨⟨⟨m9, pp10, cc11, L12, E13⟩, hL14, hE15⟩, H16⟩ := St.open_ex H8
   have H17 := St.open_star H16
   change L12.map BodD.v = s.l at hL14; change mapB E13 = s.held at hE15
   have hl18 := lenOf hL14; have he19 := mapB_len hE15
   have H20 : St W w5 (blk g (lkC s m9 (.slice pp10 L12.length cc11)) :: Row 79 3 (.slice pp10 L12.length cc11) L12.length (L12.flatMap bodCell) :: byA (L12.map BodD.by) :: MapA m9 (ents (kI .i64) evD E13) :: byA (mby E13) :: (F.set i emp)) := H17
   obtain ⟨bk21, cur22, hp23, h24, h25, h26, h27, h28, H29⟩ := Row.open2 H20 (i := 1) rfl (by omega)
   refine s_fieldAddr 62 2 3 3 59 rfl fi_62_2 rfl rfl ?_
   refine r_cons (r_take rfl rfl ?_)
   refine s_load (.slice pp10 L12.length cc11) ag_59 rfl (H29.blk_at (i := 0) rfl) rfl rfl ?_
   refine r_cons (r_take rfl rfl ?_)
   refine s_move (.int .i64 (n : Int)) rfl rfl ?_
   refine r_cons (r_take rfl rfl ?_)
   refine s_indexAddr bk21 (off := 0) (n : Int) 3 (0 + n * 3) (by exact congrArg (fun z_ => Value.slice z_ L12.length cc11) ((fun (_ : 0 < 1) => hp23) (by omega))) rfl el_59 (by omega) rfl rfl ?_
   refine r_cons (r_take rfl rfl ?_)
   refine s_fieldAddr 79 1 1 (0 + n * 3 + 1) 4 rfl fi_79_1 rfl rfl ?_
   refine r_cons (r_take rfl rfl ?_)
   refine s_load (.bool ((L12.getD n default).v.sent)) ag_4 rfl (H29.blk_at (i := 1) rfl) (elem_cell (L := L12) (i := n) bodCell_len (by rw [(rfl : L12.length = L12.length)]; exact h27) (by have hh : L12.length = L12.length := (rfl : L12.length = L12.length); omega) default 1 (by decide) _ rfl) rfl ?_
   refine r_cons (s_pick_t (.bool ((L12.getD n default).v.sent)) rfl rfl rfl ?_)
   refine r_nil ?_
   by_cases hb30 : ((L12.getD n default).v.sent) = true
   ·skip
    refine g_true (congrArg Value.bool hb30) ?_
    refine g_skip ?_
    refine g_block ?_
    refine g_region ?_
    refine r_cons (s_move (.int .i64 (n : Int)) rfl rfl ?_)
    refine r_cons (s_add ((n : Int) + 1) rfl rfl (wi64 (by omega)) rfl ?_)
    refine r_cons (s_assign (.int .i64 ((n : Int) + 1)) rfl rfl ?_)
    refine r_nil ?_
    refine g_inBlock ?_
    have H31 := Row.shut2 (p := pp10) (n := L12.length) (c := cc11) (size := 3) (xs := L12.flatMap bodCell) H29 (i := 1) rfl hp23 h24 h25 h26 (by have hh : (cur22.toList.drop 0).take (L12.length * 3) = L12.flatMap bodCell := (by rw [(rfl : L12.length = L12.length)]; exact h27); have hk : L12.length = L12.length := (rfl : L12.length = L12.length); rw [hk] at hh; exact hh) (fun x_ hx_ => by obtain ⟨a_, _, ha_⟩ := List.mem_flatMap.1 hx_; exact one_bod a_ x_ ha_)
    have H32 : St W w5 (LkA g s :: (F.set i emp)) := St.shut_ex ⟨(m9, pp10, cc11, L12, E13), hL14, hE15⟩ (St.shut_star (ls := [_, _, _, _, _]) H31)
    have hs9 : (s.l.getD n default).sent = true := by rw [← bodAt hL14 n]; assumption
    have H33 : St W w5 (LkA g s :: (F.set i emp)) := H32
    exact nx4 (n + 1) _ _ ⟨(by omega), (fun j hj => (Nat.lt_succ_iff_lt_or_eq.1 hj).elim (hs j) (fun e => by rw [e]; exact hs9)), H33⟩ (by first | (dsimp only; omega) | omega) ⟨by first | rfl | exact vint (by omega), by first | rfl | exact vint (by omega), by first | rfl | exact vint (by omega), trivial⟩
   ·have hb30 := eq_false_of_ne_true hb30
    refine g_false (congrArg Value.bool hb30) ?_
    refine g_exit (by rfl) ?_
    refine g_seq ?_
    refine g_region ?_
    refine r_cons (s_move (.int .i64 (n : Int)) rfl rfl ?_)
    refine r_cons (s_assign (.int .i64 (n : Int)) rfl rfl ?_)
    refine r_nil ?_
    refine g_ret' [.int .i64 (n : Int)] Try.func16 Try.results16 ⟨rfl, trivial⟩ ?_
    have H34 := Row.shut2 (p := pp10) (n := L12.length) (c := cc11) (size := 3) (xs := L12.flatMap bodCell) H29 (i := 1) rfl hp23 h24 h25 h26 (by have hh : (cur22.toList.drop 0).take (L12.length * 3) = L12.flatMap bodCell := (by rw [(rfl : L12.length = L12.length)]; exact h27); have hk : L12.length = L12.length := (rfl : L12.length = L12.length); rw [hk] at hh; exact hh) (fun x_ hx_ => by obtain ⟨a_, _, ha_⟩ := List.mem_flatMap.1 hx_; exact one_bod a_ x_ ha_)
    have H35 : St W w5 (LkA g s :: (F.set i emp)) := St.shut_ex ⟨(m9, pp10, cc11, L12, E13), hL14, hE15⟩ (St.shut_star (ls := [_, _, _, _, _]) H34)
    have H36 : St W w5 (LkA g s :: (F.set i emp)) := H35
    have hu := under_eq hs hn (fun hlt => by rw [← bodAt hL14 n]; first | exact hb30 | simpa using hb30)
    exact ⟨by rw [hu]; rfl, St.back_same hi H36⟩
  ·skip
   refine r_cons (s_lss false rfl rfl (dfalse hc7) rfl ?_)
   refine r_cons (s_move (.bool false) rfl rfl ?_)
   refine r_cons (r_pass rfl rfl rfl rfl rfl ?_)
   refine r_cons (r_pass rfl rfl rfl rfl rfl ?_)
   refine r_cons (r_pass rfl rfl rfl rfl rfl ?_)
   refine r_cons (r_pass rfl rfl rfl rfl rfl ?_)
   refine r_cons (r_pass rfl rfl rfl rfl rfl ?_)
   refine r_cons (r_pass rfl rfl rfl rfl rfl ?_)
   refine r_cons (r_pass rfl rfl rfl rfl rfl ?_)
   refine r_cons (r_pass rfl rfl rfl rfl rfl ?_)
   refine r_cons (s_pick_f (.bool false) rfl rfl rfl ?_)
   refine r_nil ?_
   refine g_false rfl ?_
   refine g_exit (by rfl) ?_
   refine g_seq ?_
   refine g_region ?_
   refine r_cons (s_move (.int .i64 (n : Int)) rfl rfl ?_)
   refine r_cons (s_assign (.int .i64 (n : Int)) rfl rfl ?_)
   refine r_nil ?_
   refine g_ret' [.int .i64 (n : Int)] Try.func16 Try.results16 ⟨rfl, trivial⟩ ?_
   have H37 : St W w5 (LkA g s :: (F.set i emp)) := H6
   have hu := under_eq hs hn (fun hlt => by omega)
   exact ⟨by rw [hu]; rfl, St.back_same hi H37⟩
set_option maxHeartbeats 4000000 in
set_option maxRecDepth 100000 in
theorem Lk_Idle {W w : World} {F : List Atom} (g : Nat) (s : EndV) (hok : endOk s)  {i : Nat} (hi : F[i]? = some (LkA g s)) (H : St W w F) : Calls Try.prog 13 #[.pointer (some ⟨g, 0, none⟩)] w (Ret fun v w' => v = .bool (idle s) ∧ St W w' F) := by
 have H0 := H.front hi
 obtain ⟨o1, o2, o3, o4, o5, o6, o8⟩ := id hok; have o7 := i64N_0 (Nat.le_trans o4 (by decide))
 refine calls_of_go (n := 29) Try.func13 rfl Try.ntmps13 rfl ?_
 refine g_seq ?_
 refine g_region ?_
 refine r_cons (s_assign (.bool false) rfl rfl ?_)
 refine r_nil ?_
 refine g_seq ?_
 refine g_region ?_
 refine r_cons (s_move (.pointer (some ⟨g, 0, none⟩)) rfl rfl ?_)
 refine r_cons (s_call [.pointer (some ⟨g, 0, none⟩)] pl_31 rfl rfl (Lk_none g s hok (i := 0) rfl H0) ?_)
 rintro _ w1 ⟨rfl, H2⟩
 refine r_cons (s_not false rfl true rfl rfl ?_)
 refine r_cons (s_move (.bool true) rfl rfl ?_)
 refine r_cons (r_take rfl rfl ?_)
 refine s_move (.pointer (some ⟨g, 0, none⟩)) rfl rfl ?_
 refine r_cons (r_take rfl rfl ?_)
 refine s_nilCheck (.pointer (some ⟨g, 0, none⟩)) rfl ⟨_, rfl⟩ rfl ?_
 refine r_cons (r_take rfl rfl ?_)
 refine s_fieldAddr 62 2 3 3 59 rfl fi_62_2 rfl rfl ?_
 refine r_cons (r_take rfl rfl ?_)
 have H3 := H2.move 0 rfl
 obtain ⟨⟨⟨m4, pp5, cc6, L7, E8⟩, hL9, hE10⟩, H11⟩ := St.open_ex H3
 have H12 := St.open_star H11
 change L7.map BodD.v = s.l at hL9; change mapB E8 = s.held at hE10
 have hl13 := lenOf hL9; have he14 := mapB_len hE10
 have H15 : St W w1 (blk g (lkC s m4 (.slice pp5 L7.length cc6)) :: Row 79 3 (.slice pp5 L7.length cc6) L7.length (L7.flatMap bodCell) :: byA (L7.map BodD.by) :: MapA m4 (ents (kI .i64) evD E8) :: byA (mby E8) :: (F.set i emp)) := H12
 refine s_load (.slice pp5 L7.length cc6) ag_59 rfl (H15.blk_at (i := 0) rfl) rfl rfl ?_
 refine r_cons (r_take rfl rfl ?_)
 refine s_len L7.length rfl ⟨_, un_59⟩ rfl ?_
 refine r_cons (r_take rfl rfl ?_)
 by_cases hc16 : (L7.length : Int) = 0
 ·skip
  refine s_eql true rfl rfl (dtrue hc16) rfl ?_
  refine r_cons (s_pick_t (.bool true) rfl rfl rfl ?_)
  refine r_cons (s_move (.bool true) rfl rfl ?_)
  refine r_cons (r_take rfl rfl ?_)
  refine s_move (.pointer (some ⟨g, 0, none⟩)) rfl rfl ?_
  refine r_cons (r_take rfl rfl ?_)
  refine s_nilCheck (.pointer (some ⟨g, 0, none⟩)) rfl ⟨_, rfl⟩ rfl ?_
  refine r_cons (r_take rfl rfl ?_)
  refine s_fieldAddr 62 5 6 6 60 rfl fi_62_5 rfl rfl ?_
  refine r_cons (r_take rfl rfl ?_)
  refine s_load (.map (some m4)) ag_60 rfl (H15.blk_at (i := 0) rfl) rfl rfl ?_
  refine r_cons (r_take rfl rfl ?_)
  refine s_lenMap (ek := (kI .i64)) (ev := evD) (L := E8) (MapA.at H15 (i := 3) rfl) (E8.length) rfl un_60 rfl rfl ?_
  refine r_cons (r_take rfl rfl ?_)
  by_cases hc17 : (E8.length : Int) = 0
  ·skip
   refine s_eql true rfl rfl (dtrue hc17) rfl ?_
   refine r_cons (s_pick_t (.bool true) rfl rfl rfl ?_)
   refine r_cons (s_move (.bool true) rfl rfl ?_)
   refine r_cons (r_take rfl rfl ?_)
   refine s_move (.pointer (some ⟨g, 0, none⟩)) rfl rfl ?_
   refine r_cons (r_take rfl rfl ?_)
   refine s_nilCheck (.pointer (some ⟨g, 0, none⟩)) rfl ⟨_, rfl⟩ rfl ?_
   refine r_cons (r_take rfl rfl ?_)
   refine s_fieldAddr 62 7 8 8 4 rfl fi_62_7 rfl rfl ?_
   refine r_cons (r_take rfl rfl ?_)
   refine s_load (.bool s.owes) ag_4 rfl (H15.blk_at (i := 0) rfl) rfl rfl ?_
   refine r_cons (r_take rfl rfl ?_)
   refine s_not s.owes rfl (!s.owes) rfl rfl ?_
   refine r_cons (s_pick_t (.bool (!s.owes)) rfl rfl rfl ?_)
   refine r_cons (s_assign (.bool (!s.owes)) rfl rfl ?_)
   refine r_nil ?_
   refine g_ret' [.bool (!s.owes)] Try.func13 Try.results13 ⟨rfl, trivial⟩ ?_
   have H18 : St W w1 (LkA g s :: (F.set i emp)) := St.shut_ex ⟨(m4, pp5, cc6, L7, E8), hL9, hE10⟩ (St.shut_star (ls := [_, _, _, _, _]) H15)
   have H19 : St W w1 (LkA g s :: (F.set i emp)) := H18
   exact ⟨(by unfold idle; have q1 := hl13; have q2 := he14; exact congrArg Value.bool (by first | (simp_all; done) | (simp_all; omega))), St.back_same hi H19⟩
  ·skip
   refine s_eql false rfl rfl (dfalse hc17) rfl ?_
   refine r_cons (s_pick_t (.bool false) rfl rfl rfl ?_)
   refine r_cons (s_move (.bool false) rfl rfl ?_)
   refine r_cons (r_pass rfl rfl rfl rfl rfl ?_)
   refine r_cons (r_pass rfl rfl rfl rfl rfl ?_)
   refine r_cons (r_pass rfl rfl rfl rfl rfl ?_)
   refine r_cons (r_pass rfl rfl rfl rfl rfl ?_)
   refine r_cons (r_pass rfl rfl rfl rfl rfl ?_)
   refine r_cons (s_pick_f (.bool false) rfl rfl rfl ?_)
   refine r_cons (s_assign (.bool false) rfl rfl ?_)
   refine r_nil ?_
   refine g_ret' [.bool false] Try.func13 Try.results13 ⟨rfl, trivial⟩ ?_
   have H20 : St W w1 (LkA g s :: (F.set i emp)) := St.shut_ex ⟨(m4, pp5, cc6, L7, E8), hL9, hE10⟩ (St.shut_star (ls := [_, _, _, _, _]) H15)
   have H21 : St W w1 (LkA g s :: (F.set i emp)) := H20
   exact ⟨(by unfold idle; have q1 := hl13; have q2 := he14; exact congrArg Value.bool (by first | (simp_all; done) | (simp_all; omega))), St.back_same hi H21⟩
 ·skip
  refine s_eql false rfl rfl (dfalse hc16) rfl ?_
  refine r_cons (s_pick_t (.bool false) rfl rfl rfl ?_)
  refine r_cons (s_move (.bool false) rfl rfl ?_)
  refine r_cons (r_pass rfl rfl rfl rfl rfl ?_)
  refine r_cons (r_pass rfl rfl rfl rfl rfl ?_)
  refine r_cons (r_pass rfl rfl rfl rfl rfl ?_)
  refine r_cons (r_pass rfl rfl rfl rfl rfl ?_)
  refine r_cons (r_pass rfl rfl rfl rfl rfl ?_)
  refine r_cons (r_pass rfl rfl rfl rfl rfl ?_)
  refine r_cons (s_pick_f (.bool false) rfl rfl rfl ?_)
  refine r_cons (s_move (.bool false) rfl rfl ?_)
  refine r_cons (r_pass rfl rfl rfl rfl rfl ?_)
  refine r_cons (r_pass rfl rfl rfl rfl rfl ?_)
  refine r_cons (r_pass rfl rfl rfl rfl rfl ?_)
  refine r_cons (r_pass rfl rfl rfl rfl rfl ?_)
  refine r_cons (r_pass rfl rfl rfl rfl rfl ?_)
  refine r_cons (s_pick_f (.bool false) rfl rfl rfl ?_)
  refine r_cons (s_assign (.bool false) rfl rfl ?_)
  refine r_nil ?_
  refine g_ret' [.bool false] Try.func13 Try.results13 ⟨rfl, trivial⟩ ?_
  have H22 : St W w1 (LkA g s :: (F.set i emp)) := St.shut_ex ⟨(m4, pp5, cc6, L7, E8), hL9, hE10⟩ (St.shut_star (ls := [_, _, _, _, _]) H15)
  have H23 : St W w1 (LkA g s :: (F.set i emp)) := H22
  exact ⟨(by unfold idle; have q1 := hl13; have q2 := he14; exact congrArg Value.bool (by first | (simp_all; done) | (simp_all; omega))), St.back_same hi H23⟩
set_option maxHeartbeats 4000000 in
set_option maxRecDepth 100000 in
theorem Lk_Send {W w : World} {F : List Atom} (g : Nat) (s : EndV) (hok : endOk s) (bs : List UInt8) (v0 : Value) {i : Nat} (hi : F[i]? = some (LkA g s)) {A : Atom} (hA : RdA A 1 v0 bs.length (bs.flatMap u8c)) {j : Nat} (hj : (F.set i emp)[j]? = some A) (H : St W w F) : Calls Try.prog 22 #[.pointer (some ⟨g, 0, none⟩), v0] w (Ret fun v w' => v = .int .i64 (sendE s bs) ∧ St W w' (F.set i (LkA g (sendS s bs)))) := by
 have H0 := H.front hi
 have hml := (hA _ _ _ (j + 1) H0 (by exact hj)).2
 obtain ⟨pp1, cc2, rfl, hn3⟩ := Rd.shape (hA _ _ _ (j + 1) H0 (by exact hj)).1
 obtain ⟨o1, o2, o3, o4, o5, o6, o8⟩ := id hok; have o7 := i64N_0 (Nat.le_trans o4 (by decide))
 refine calls_of_go (n := 36) Try.func22 rfl Try.ntmps22 rfl ?_
 refine g_seq ?_
 refine g_region ?_
 refine r_cons (s_assign (.int .i64 0) rfl rfl ?_)
 refine r_nil ?_
 refine g_seq ?_
 refine g_block ?_
 refine g_seq ?_
 refine g_region ?_
 refine r_cons (s_move (.pointer (some ⟨g, 0, none⟩)) rfl rfl ?_)
 refine r_cons (s_call [.pointer (some ⟨g, 0, none⟩)] pl_31 rfl rfl (Lk_none g s hok (i := 0) rfl H0) ?_)
 rintro _ w4 ⟨rfl, H5⟩
 refine r_cons (s_assign (.bool false) rfl rfl ?_)
 refine r_nil ?_
 refine g_false rfl ?_
 refine g_seq ?_
 refine g_region ?_
 refine r_cons (s_move (.slice pp1 bs.length cc2) rfl rfl ?_)
 refine r_cons (s_len bs.length rfl ⟨_, un_26⟩ rfl ?_)
 by_cases hc6 : (16384 : Int) < (bs.length : Int)
 ·skip
  refine r_cons (s_gtr true rfl rfl (dtrue hc6) rfl ?_)
  refine r_cons (s_move (.bool true) rfl rfl ?_)
  refine r_cons (r_pass rfl rfl rfl rfl rfl ?_)
  refine r_cons (r_pass rfl rfl rfl rfl rfl ?_)
  refine r_cons (r_pass rfl rfl rfl rfl rfl ?_)
  refine r_cons (s_pick_t (.bool true) rfl rfl rfl ?_)
  refine r_cons (s_assign (.bool true) rfl rfl ?_)
  refine r_nil ?_
  refine g_true rfl ?_
  refine g_seq ?_
  refine g_region ?_
  refine r_cons (s_assign (.int .i64 3) rfl rfl ?_)
  refine r_nil ?_
  refine g_ret' [.int .i64 3] Try.func22 Try.results22 ⟨rfl, trivial⟩ ?_
  have H7 : St W w4 (LkA g s :: (F.set i emp)) := H5
  have hE : sendE s bs = 3 := by first | exact sendE_3 (.inl (by omega)) | exact sendE_3 (.inr (by omega)) | exact sendE_6 (by omega) (by omega)
  exact ⟨by rw [hE]; rfl, by rw [sendS_no (by rw [hE]; decide)]; exact St.back hi H7⟩
 ·skip
  refine r_cons (s_gtr false rfl rfl (dfalse hc6) rfl ?_)
  refine r_cons (s_move (.bool false) rfl rfl ?_)
  refine r_cons (r_take rfl rfl ?_)
  refine s_move (.pointer (some ⟨g, 0, none⟩)) rfl rfl ?_
  refine r_cons (r_take rfl rfl ?_)
  refine s_call [.pointer (some ⟨g, 0, none⟩)] pl_24 rfl rfl (Lk_Next g s hok (i := 0) rfl H5) ?_
  rintro _ w8 ⟨rfl, H9⟩
  refine r_cons (r_take rfl rfl ?_)
  by_cases hc10 : (1099511627776 : Int) ≤ ((s.acked : Int) + (s.l.length : Int))
  ·skip
   refine s_geq true rfl rfl (dtrue hc10) rfl ?_
   refine r_cons (s_pick_f (.bool true) rfl rfl rfl ?_)
   refine r_cons (s_assign (.bool true) rfl rfl ?_)
   refine r_nil ?_
   refine g_true rfl ?_
   refine g_seq ?_
   refine g_region ?_
   refine r_cons (s_assign (.int .i64 3) rfl rfl ?_)
   refine r_nil ?_
   refine g_ret' [.int .i64 3] Try.func22 Try.results22 ⟨rfl, trivial⟩ ?_
   have H11 : St W w8 (LkA g s :: (F.set i emp)) := H9
   have hE : sendE s bs = 3 := by first | exact sendE_3 (.inl (by omega)) | exact sendE_3 (.inr (by omega)) | exact sendE_6 (by omega) (by omega)
   exact ⟨by rw [hE]; rfl, by rw [sendS_no (by rw [hE]; decide)]; exact St.back hi H11⟩
  ·skip
   refine s_geq false rfl rfl (dfalse hc10) rfl ?_
   refine r_cons (s_pick_f (.bool false) rfl rfl rfl ?_)
   refine r_cons (s_assign (.bool false) rfl rfl ?_)
   refine r_nil ?_
   refine g_false rfl ?_
   refine g_seq ?_
   refine g_region ?_
   refine r_cons (s_move (.pointer (some ⟨g, 0, none⟩)) rfl rfl ?_)
   refine r_cons (s_nilCheck (.pointer (some ⟨g, 0, none⟩)) rfl ⟨_, rfl⟩ rfl ?_)
   refine r_cons (s_fieldAddr 62 2 3 3 59 rfl fi_62_2 rfl rfl ?_)
   have H12 := H9.move 0 rfl
   obtain ⟨⟨⟨m13, pp14, cc15, L16, E17⟩, hL18, hE19⟩, H20⟩ := St.open_ex H12
   have H21 := St.open_star H20
   change L16.map BodD.v = s.l at hL18; change mapB E17 = s.held at hE19
   have hl22 := lenOf hL18; have he23 := mapB_len hE19
   have H24 : St W w8 (blk g (lkC s m13 (.slice pp14 L16.length cc15)) :: Row 79 3 (.slice pp14 L16.length cc15) L16.length (L16.flatMap bodCell) :: byA (L16.map BodD.by) :: MapA m13 (ents (kI .i64) evD E17) :: byA (mby E17) :: (F.set i emp)) := H21
   refine r_cons (s_load (.slice pp14 L16.length cc15) ag_59 rfl (H24.blk_at (i := 0) rfl) rfl rfl ?_)
   refine r_cons (s_len L16.length rfl ⟨_, un_59⟩ rfl ?_)
   by_cases hc25 : (4096 : Int) ≤ (L16.length : Int)
   ·skip
    refine r_cons (s_geq true rfl rfl (dtrue hc25) rfl ?_)
    refine r_cons (s_assign (.bool true) rfl rfl ?_)
    refine r_nil ?_
    refine g_true rfl ?_
    refine g_seq ?_
    refine g_region ?_
    refine r_cons (s_assign (.int .i64 6) rfl rfl ?_)
    refine r_nil ?_
    refine g_ret' [.int .i64 6] Try.func22 Try.results22 ⟨rfl, trivial⟩ ?_
    have H26 : St W w8 (LkA g s :: (F.set i emp)) := St.shut_ex ⟨(m13, pp14, cc15, L16, E17), hL18, hE19⟩ (St.shut_star (ls := [_, _, _, _, _]) H24)
    have H27 : St W w8 (LkA g s :: (F.set i emp)) := H26
    have hE : sendE s bs = 6 := by first | exact sendE_3 (.inl (by omega)) | exact sendE_3 (.inr (by omega)) | exact sendE_6 (by omega) (by omega)
    exact ⟨by rw [hE]; rfl, by rw [sendS_no (by rw [hE]; decide)]; exact St.back hi H27⟩
   ·skip
    refine r_cons (s_geq false rfl rfl (dfalse hc25) rfl ?_)
    refine r_cons (s_assign (.bool false) rfl rfl ?_)
    refine r_nil ?_
    refine g_false rfl ?_
    refine g_skip ?_
    refine g_inBlock ?_
    refine g_seq ?_
    refine g_cut (fun (x : Nat × Option Addr × Nat × Option Addr × Nat) => match x with | (bk32, pp28, cc29, pp39, cc40) => [(4, .int .i64 0)]) (fun (x : Nat × Option Addr × Nat × Option Addr × Nat) w => match x with | (bk32, pp28, cc29, pp39, cc40) => St W w (blk bk32 (.cells #[.slice pp28 bs.length cc29, .bool false, .int .i64 0] 79 (0, 0)) :: Row 5 1 (.slice pp28 bs.length cc29) bs.length (bs.flatMap u8c) :: blk g (lkC s m13 (.slice pp39 (L16.length + 1) cc40)) :: Row 79 3 (.slice pp39 (L16.length + 1) cc40) (L16.length + 1) (L16.flatMap bodCell ++ ([.slice pp28 bs.length cc29, .bool false, .int .i64 0] : List Value)) :: byA (L16.map BodD.by) :: MapA m13 (ents (kI .i64) evD E17) :: byA (mby E17) :: (F.set i emp))) ?_ ?_
    ·rintro ⟨bk32, pp28, cc29, pp39, cc40⟩ ρ31 w29 H30
     change Ends _ _ (upds ρ31 [(4, .int .i64 0)]) w29
     refine g_seq ?_
     refine g_region ?_
     refine r_cons (s_assign (.int .i64 0) rfl rfl ?_)
     refine r_nil ?_
     refine g_ret' [.int .i64 0] Try.func22 Try.results22 ⟨rfl, trivial⟩ ?_
     have hE : sendE s bs = 0 := sendE_0 (by omega) (by omega)
     have H32 : St W w29 (blk bk32 (.cells #[.slice pp28 bs.length cc29, .bool false, .int .i64 0] 79 (0, 0)) :: Im 1 (.slice pp28 bs.length cc29) bs.length (bs.flatMap u8c) :: blk g (lkC s m13 (.slice pp39 (L16.length + 1) cc40)) :: Row 79 3 (.slice pp39 (L16.length + 1) cc40) (L16.length + 1) (L16.flatMap bodCell ++ ([.slice pp28 bs.length cc29, .bool false, .int .i64 0] : List Value)) :: byA (L16.map BodD.by) :: MapA m13 (ents (kI .i64) evD E17) :: byA (mby E17) :: (F.set i emp)) := Row.im H30 (i := 1) rfl
     have H33 := byA_add (x := (⟨⟨bs, false, 0⟩, pp28, cc29⟩ : BodD).by) H32 (i := 4) (j := 1) rfl rfl snoc_by
     have H34 : St W w29 (byA ((L16 ++ [(⟨⟨bs, false, 0⟩, pp28, cc29⟩ : BodD)]).map BodD.by) :: blk bk32 (.cells #[.slice pp28 bs.length cc29, .bool false, .int .i64 0] 79 (0, 0)) :: Im 1 (.slice pp28 bs.length cc29) bs.length (bs.flatMap u8c) :: blk g (lkC s m13 (.slice pp39 ((L16 ++ [(⟨⟨bs, false, 0⟩, pp28, cc29⟩ : BodD)]).length) cc40)) :: Row 79 3 (.slice pp39 ((L16 ++ [(⟨⟨bs, false, 0⟩, pp28, cc29⟩ : BodD)]).length) cc40) ((L16 ++ [(⟨⟨bs, false, 0⟩, pp28, cc29⟩ : BodD)]).length) ((L16 ++ [(⟨⟨bs, false, 0⟩, pp28, cc29⟩ : BodD)]).flatMap bodCell) :: byA (L16.map BodD.by) :: MapA m13 (ents (kI .i64) evD E17) :: byA (mby E17) :: (F.set i emp)) := by rw [flat_app, flat_one, List.length_append]; exact H33
     have H35 : St W w29 (blk g (lkC s m13 (.slice pp39 ((L16 ++ [(⟨⟨bs, false, 0⟩, pp28, cc29⟩ : BodD)]).length) cc40)) :: Row 79 3 (.slice pp39 ((L16 ++ [(⟨⟨bs, false, 0⟩, pp28, cc29⟩ : BodD)]).length) cc40) ((L16 ++ [(⟨⟨bs, false, 0⟩, pp28, cc29⟩ : BodD)]).length) ((L16 ++ [(⟨⟨bs, false, 0⟩, pp28, cc29⟩ : BodD)]).flatMap bodCell) :: byA ((L16 ++ [(⟨⟨bs, false, 0⟩, pp28, cc29⟩ : BodD)]).map BodD.by) :: MapA m13 (ents (kI .i64) evD E17) :: byA (mby E17) :: blk bk32 (.cells #[.slice pp28 bs.length cc29, .bool false, .int .i64 0] 79 (0, 0)) :: Im 1 (.slice pp28 bs.length cc29) bs.length (bs.flatMap u8c) :: byA (L16.map BodD.by) :: (F.set i emp)) := (((((H34.move 7 rfl).move 7 rfl).move 2 rfl).move 6 rfl).move 6 rfl)
     have H36 : St W w29 (LkA g ({ s with l := s.l ++ [⟨bs, false, 0⟩] } : EndV) :: blk bk32 (.cells #[.slice pp28 bs.length cc29, .bool false, .int .i64 0] 79 (0, 0)) :: Im 1 (.slice pp28 bs.length cc29) bs.length (bs.flatMap u8c) :: byA (L16.map BodD.by) :: (F.set i emp)) := St.shut_ex ⟨(m13, pp39, cc40, (L16 ++ [(⟨⟨bs, false, 0⟩, pp28, cc29⟩ : BodD)]), E17), (app_map (M := [(⟨⟨bs, false, 0⟩, pp28, cc29⟩ : BodD)]) hL18 rfl), hE19⟩ (St.shut_star (ls := [_, _, _, _, _]) H35)
     have H37 : St W w29 (LkA g ({ s with l := s.l ++ [⟨bs, false, 0⟩] } : EndV) :: (F.set i emp)) := (((H36.drop 1 rfl).drop 1 rfl).drop 1 rfl)
     exact ⟨by rw [hE]; rfl, by rw [sendS_yes hE]; exact St.back hi H37⟩
    ·intro join28
     refine g_any mixed 13 rfl ?_
     intro w38 hw39
     have H40 := H24.drew
     rw [← hw39] at H40
     clear hw39
     refine a_take 0 (listed' := #[true, false, false, false, false, false, false, false, false, false, false, false, false]) rfl (by kernel_rfl) (by kernel_rfl) (by kernel_rfl) rfl rfl rfl rfl (fun w => x_move (.pointer (some ⟨g, 0, none⟩)) rfl w) ?_
     refine a_take 1 (listed' := #[true, true, false, false, false, false, false, false, false, false, false, false, false]) rfl (by kernel_rfl) (by kernel_rfl) (by kernel_rfl) rfl rfl rfl rfl (fun w => x_move (.pointer (some ⟨g, 0, none⟩)) rfl w) ?_
     refine a_take 2 (listed' := #[true, true, true, false, false, false, false, false, false, false, false, false, false]) rfl (by kernel_rfl) (by kernel_rfl) (by kernel_rfl) rfl rfl rfl rfl (fun w => x_nilCheck (.pointer (some ⟨g, 0, none⟩)) rfl ⟨_, rfl⟩ w) ?_
     refine a_take 3 (listed' := #[true, true, true, true, false, false, false, false, false, false, false, false, false]) rfl (by kernel_rfl) (by kernel_rfl) (by kernel_rfl) rfl rfl rfl rfl (fun w => x_fieldAddr 62 2 3 3 59 rfl fi_62_2 rfl w) ?_
     refine a_take 5 (listed' := #[true, true, true, true, false, true, false, false, false, false, false, false, false]) rfl (by kernel_rfl) (by kernel_rfl) (by kernel_rfl) rfl rfl rfl rfl (fun w => x_move (.slice pp1 bs.length cc2) rfl w) ?_
     refine a_all (rs := [4, 6]) (by kernel_rfl) (by simp) ?_
     refine a_cons ⟨_, rfl, ?_⟩ (a_cons ⟨_, rfl, ?_⟩ (fun x hx => absurd hx (by simp)))
     ·skip
      refine s_load (.slice pp14 L16.length cc15) ag_59 rfl (H40.blk_at (i := 0) rfl) rfl rfl ?_
      change AnyG _ _ _ _ #[true, true, true, true, true, true, false, false, false, false, false, false, false] _ _
      refine a_all (rs := [6]) (by kernel_rfl) (by simp) ?_
      refine a_cons ⟨_, rfl, ?_⟩ (fun x hx => absurd hx (by simp))
      refine s_call [.slice pp1 bs.length cc2] pl_48 rfl rfl (clone_bytes _ _ bs.length (bs.flatMap u8c) hA (by first | omega | (have hlp := Nat.le_refl 0; omega)) (j := j + 5) (by exact hj) H40) ?_
      rintro _ w43 ⟨pp41, cc42, rfl, H44⟩
      change AnyG _ _ _ _ #[true, true, true, true, true, true, true, false, false, false, false, false, false] _ _
      refine a_take 7 (listed' := #[true, true, true, true, true, true, true, true, false, false, false, false, false]) rfl (by kernel_rfl) (by kernel_rfl) (by kernel_rfl) rfl rfl rfl rfl (fun w => x_build (cs := #[.slice pp41 bs.length cc42, .bool false, .int .i64 0]) (by kernel_rfl) w) ?_
      refine a_all (rs := [8]) (by kernel_rfl) (by simp) ?_
      refine a_cons ⟨_, rfl, ?_⟩ (fun x hx => absurd hx (by simp))
      refine s_buildSlice H44 3 1 (cs := #[.slice pp41 bs.length cc42, .bool false, .int .i64 0]) #[.slice none 0 0, .bool false, .int .i64 0] el_59 ze_79 (by decide) (by decide) (by kernel_rfl) rfl ?_; intro bk45 w46 H47
      change AnyG _ _ _ _ #[true, true, true, true, true, true, true, true, true, false, false, false, false] _ _
      refine a_all (rs := [9]) (by kernel_rfl) (by simp) ?_
      refine a_cons ⟨_, rfl, ?_⟩ (fun x hx => absurd hx (by simp))
      refine s_append H47 3 rfl rfl rfl (rd_blk (H47.blk_at (i := 0) rfl) rfl (nbl rfl) (by simp [Value.oneCell'])) ap_59 (by decide) (by unfold maxLen; omega) (by omega) (n' := L16.length + 1) (xs' := L16.flatMap bodCell ++ ([.slice pp41 bs.length cc42, .bool false, .int .i64 0] : List Value)) (by omega) (by first | rfl | simp) rfl ?_; intro vv48 w49 H50 hn51
      obtain ⟨pp52, cc53, rfl⟩ := Row.slice H50 (i := 3) rfl
      change AnyG _ _ _ _ #[true, true, true, true, true, true, true, true, true, true, false, false, false] _ _
      refine a_take 10 (listed' := #[true, true, true, true, true, true, true, true, true, true, true, false, false]) rfl (by kernel_rfl) (by kernel_rfl) (by kernel_rfl) rfl rfl rfl rfl (fun w => x_nilCheck (.pointer (some ⟨g, 0, none⟩)) rfl ⟨_, rfl⟩ w) ?_
      refine a_take 11 (listed' := #[true, true, true, true, true, true, true, true, true, true, true, true, false]) rfl (by kernel_rfl) (by kernel_rfl) (by kernel_rfl) rfl rfl rfl rfl (fun w => x_fieldAddr 62 2 3 3 59 rfl fi_62_2 rfl w) ?_
      refine a_all (rs := [12]) (by kernel_rfl) (by simp) ?_
      refine a_cons ⟨_, rfl, ?_⟩ (fun x hx => absurd hx (by simp))
      refine s_store H50 2 (.slice pp52 (L16.length + 1) cc53) rfl rfl rfl sz_59 rfl (nbl rfl) rfl (cs' := #[.int .i64 s.frm.v, .int .i64 s.to_.v, .int .i64 (s.slide : Int), .slice pp52 (L16.length + 1) cc53, .int .i64 (s.acked : Int), .int .i64 ((i64N s.came).v), .map (some m13), .int .i64 (s.clock : Int), .bool s.owes]) rfl ?_; intro w54 H55
      change AnyG _ _ _ _ #[true, true, true, true, true, true, true, true, true, true, true, true, true] _ _
      refine a_done (by kernel_rfl) ?_
      exact join28 (bk45, pp41, cc42, pp52, cc53) _ _ H55 ⟨rfl, trivial⟩
     ·skip
      refine s_call [.slice pp1 bs.length cc2] pl_48 rfl rfl (clone_bytes _ _ bs.length (bs.flatMap u8c) hA (by first | omega | (have hlp := Nat.le_refl 0; omega)) (j := j + 5) (by exact hj) H40) ?_
      rintro _ w58 ⟨pp56, cc57, rfl, H59⟩
      change AnyG _ _ _ _ #[true, true, true, true, false, true, true, false, false, false, false, false, false] _ _
      refine a_take 7 (listed' := #[true, true, true, true, false, true, true, true, false, false, false, false, false]) rfl (by kernel_rfl) (by kernel_rfl) (by kernel_rfl) rfl rfl rfl rfl (fun w => x_build (cs := #[.slice pp56 bs.length cc57, .bool false, .int .i64 0]) (by kernel_rfl) w) ?_
      refine a_all (rs := [4, 8]) (by kernel_rfl) (by simp) ?_
      refine a_cons ⟨_, rfl, ?_⟩ (a_cons ⟨_, rfl, ?_⟩ (fun x hx => absurd hx (by simp)))
      ·skip
       refine s_load (.slice pp14 L16.length cc15) ag_59 rfl (H59.blk_at (i := 1) rfl) rfl rfl ?_
       change AnyG _ _ _ _ #[true, true, true, true, true, true, true, true, false, false, false, false, false] _ _
       refine a_all (rs := [8]) (by kernel_rfl) (by simp) ?_
       refine a_cons ⟨_, rfl, ?_⟩ (fun x hx => absurd hx (by simp))
       refine s_buildSlice H59 3 1 (cs := #[.slice pp56 bs.length cc57, .bool false, .int .i64 0]) #[.slice none 0 0, .bool false, .int .i64 0] el_59 ze_79 (by decide) (by decide) (by kernel_rfl) rfl ?_; intro bk60 w61 H62
       change AnyG _ _ _ _ #[true, true, true, true, true, true, true, true, true, false, false, false, false] _ _
       refine a_all (rs := [9]) (by kernel_rfl) (by simp) ?_
       refine a_cons ⟨_, rfl, ?_⟩ (fun x hx => absurd hx (by simp))
       refine s_append H62 3 rfl rfl rfl (rd_blk (H62.blk_at (i := 0) rfl) rfl (nbl rfl) (by simp [Value.oneCell'])) ap_59 (by decide) (by unfold maxLen; omega) (by omega) (n' := L16.length + 1) (xs' := L16.flatMap bodCell ++ ([.slice pp56 bs.length cc57, .bool false, .int .i64 0] : List Value)) (by omega) (by first | rfl | simp) rfl ?_; intro vv63 w64 H65 hn66
       obtain ⟨pp67, cc68, rfl⟩ := Row.slice H65 (i := 3) rfl
       change AnyG _ _ _ _ #[true, true, true, true, true, true, true, true, true, true, false, false, false] _ _
       refine a_take 10 (listed' := #[true, true, true, true, true, true, true, true, true, true, true, false, false]) rfl (by kernel_rfl) (by kernel_rfl) (by kernel_rfl) rfl rfl rfl rfl (fun w => x_nilCheck (.pointer (some ⟨g, 0, none⟩)) rfl ⟨_, rfl⟩ w) ?_
       refine a_take 11 (listed' := #[true, true, true, true, true, true, true, true, true, true, true, true, false]) rfl (by kernel_rfl) (by kernel_rfl) (by kernel_rfl) rfl rfl rfl rfl (fun w => x_fieldAddr 62 2 3 3 59 rfl fi_62_2 rfl w) ?_
       refine a_all (rs := [12]) (by kernel_rfl) (by simp) ?_
       refine a_cons ⟨_, rfl, ?_⟩ (fun x hx => absurd hx (by simp))
       refine s_store H65 2 (.slice pp67 (L16.length + 1) cc68) rfl rfl rfl sz_59 rfl (nbl rfl) rfl (cs' := #[.int .i64 s.frm.v, .int .i64 s.to_.v, .int .i64 (s.slide : Int), .slice pp67 (L16.length + 1) cc68, .int .i64 (s.acked : Int), .int .i64 ((i64N s.came).v), .map (some m13), .int .i64 (s.clock : Int), .bool s.owes]) rfl ?_; intro w69 H70
       change AnyG _ _ _ _ #[true, true, true, true, true, true, true, true, true, true, true, true, true] _ _
       refine a_done (by kernel_rfl) ?_
       exact join28 (bk60, pp56, cc57, pp67, cc68) _ _ H70 ⟨rfl, trivial⟩
      ·skip
       refine s_buildSlice H59 3 1 (cs := #[.slice pp56 bs.length cc57, .bool false, .int .i64 0]) #[.slice none 0 0, .bool false, .int .i64 0] el_59 ze_79 (by decide) (by decide) (by kernel_rfl) rfl ?_; intro bk71 w72 H73
       change AnyG _ _ _ _ #[true, true, true, true, false, true, true, true, true, false, false, false, false] _ _
       refine a_all (rs := [4]) (by kernel_rfl) (by simp) ?_
       refine a_cons ⟨_, rfl, ?_⟩ (fun x hx => absurd hx (by simp))
       refine s_load (.slice pp14 L16.length cc15) ag_59 rfl (H73.blk_at (i := 2) rfl) rfl rfl ?_
       change AnyG _ _ _ _ #[true, true, true, true, true, true, true, true, true, false, false, false, false] _ _
       refine a_all (rs := [9]) (by kernel_rfl) (by simp) ?_
       refine a_cons ⟨_, rfl, ?_⟩ (fun x hx => absurd hx (by simp))
       refine s_append H73 3 rfl rfl rfl (rd_blk (H73.blk_at (i := 0) rfl) rfl (nbl rfl) (by simp [Value.oneCell'])) ap_59 (by decide) (by unfold maxLen; omega) (by omega) (n' := L16.length + 1) (xs' := L16.flatMap bodCell ++ ([.slice pp56 bs.length cc57, .bool false, .int .i64 0] : List Value)) (by omega) (by first | rfl | simp) rfl ?_; intro vv74 w75 H76 hn77
       obtain ⟨pp78, cc79, rfl⟩ := Row.slice H76 (i := 3) rfl
       change AnyG _ _ _ _ #[true, true, true, true, true, true, true, true, true, true, false, false, false] _ _
       refine a_take 10 (listed' := #[true, true, true, true, true, true, true, true, true, true, true, false, false]) rfl (by kernel_rfl) (by kernel_rfl) (by kernel_rfl) rfl rfl rfl rfl (fun w => x_nilCheck (.pointer (some ⟨g, 0, none⟩)) rfl ⟨_, rfl⟩ w) ?_
       refine a_take 11 (listed' := #[true, true, true, true, true, true, true, true, true, true, true, true, false]) rfl (by kernel_rfl) (by kernel_rfl) (by kernel_rfl) rfl rfl rfl rfl (fun w => x_fieldAddr 62 2 3 3 59 rfl fi_62_2 rfl w) ?_
       refine a_all (rs := [12]) (by kernel_rfl) (by simp) ?_
       refine a_cons ⟨_, rfl, ?_⟩ (fun x hx => absurd hx (by simp))
       refine s_store H76 2 (.slice pp78 (L16.length + 1) cc79) rfl rfl rfl sz_59 rfl (nbl rfl) rfl (cs' := #[.int .i64 s.frm.v, .int .i64 s.to_.v, .int .i64 (s.slide : Int), .slice pp78 (L16.length + 1) cc79, .int .i64 (s.acked : Int), .int .i64 ((i64N s.came).v), .map (some m13), .int .i64 (s.clock : Int), .bool s.owes]) rfl ?_; intro w80 H81
       change AnyG _ _ _ _ #[true, true, true, true, true, true, true, true, true, true, true, true, true] _ _
       refine a_done (by kernel_rfl) ?_
       exact join28 (bk71, pp56, cc57, pp78, cc79) _ _ H81 ⟨rfl, trivial⟩
set_option maxHeartbeats 4000000 in
set_option maxRecDepth 100000 in
theorem Lk_data {W w : World} {F : List Atom} (g : Nat) (s : EndV) (hok : endOk s) (k : Nat) (hk : k < s.l.length) (hkb : (s.l.getD k default).b.length ≤ 140737488355328) {i : Nat} (hi : F[i]? = some (LkA g s)) (H : St W w F) : Calls Try.prog 53 #[.pointer (some ⟨g, 0, none⟩), .int .i64 (k : Int)] w (Ret fun v w' => ∃ p c, v = .agg #[.int .i64 ((dgOf s k (s.l.getD k default).b).frm.v), .int .i64 ((dgOf s k (s.l.getD k default).b).to_.v), .int .i64 ((dgOf s k (s.l.getD k default).b).kind.v), .int .i64 ((dgOf s k (s.l.getD k default).b).seq.v), .int .i64 ((dgOf s k (s.l.getD k default).b).ack.v), .slice p ((dgOf s k (s.l.getD k default).b).body.length) c] ∧ St W w' (Im 1 (.slice p ((dgOf s k (s.l.getD k default).b).body.length) c) (((dgOf s k (s.l.getD k default).b).body).length) (((dgOf s k (s.l.getD k default).b).body).flatMap u8c) :: F.set i (LkA g (dtS s k)))) := by
 have H0 := H.front hi
 obtain ⟨o1, o2, o3, o4, o5, o6, o8⟩ := id hok; have o7 := i64N_0 (Nat.le_trans o4 (by decide))
 refine calls_of_go (n := 56) Try.func53 rfl Try.ntmps53 rfl ?_
 refine g_seq ?_
 refine g_region ?_
 refine r_cons (s_alloc H0 41 ze_41 rfl ?_); intro bk1 w2 H3
 refine r_nil ?_
 refine g_seq ?_
 have H4 := H3.move 1 rfl
 obtain ⟨⟨⟨m5, pp6, cc7, L8, E9⟩, hL10, hE11⟩, H12⟩ := St.open_ex H4
 have H13 := St.open_star H12
 change L8.map BodD.v = s.l at hL10; change mapB E9 = s.held at hE11
 have hl14 := lenOf hL10; have he15 := mapB_len hE11
 have H16 : St W w2 (blk g (lkC s m5 (.slice pp6 L8.length cc7)) :: Row 79 3 (.slice pp6 L8.length cc7) L8.length (L8.flatMap bodCell) :: byA (L8.map BodD.by) :: MapA m5 (ents (kI .i64) evD E9) :: byA (mby E9) :: blk bk1 (.cells #[.int .i64 0, .int .i64 0, .int .i64 0, .int .i64 0, .int .i64 0, .slice none 0 0] 41 (0, 0)) :: (F.set i emp)) := H13
 have hk3 : k < L8.length := by rw [hl14]; exact hk
 obtain ⟨bk17, cur18, hp19, h20, h21, h22, h23, h24, H25⟩ := Row.open2 H16 (i := 1) rfl (by omega)
 have H26 : St W w2 (blk g (lkC s m5 (.slice pp6 L8.length cc7)) :: byA (L8.map BodD.by) :: MapA m5 (ents (kI .i64) evD E9) :: byA (mby E9) :: blk bk1 (.cells #[.int .i64 0, .int .i64 0, .int .i64 0, .int .i64 0, .int .i64 0, .slice none 0 0] 41 (0, 0)) :: blk bk17 (.cells cur18 79 (0, 0)) :: (F.set i emp)) := ((((((H25.move 1 rfl).move 5 rfl).move 5 rfl).move 5 rfl).move 5 rfl).move 5 rfl)
 refine g_mix (fun t_ w => St W w (blk g (lkC s m5 (.slice pp6 L8.length cc7)) :: byA (L8.map BodD.by) :: MapA m5 (ents (kI .i64) evD E9) :: byA (mby E9) :: blk bk1 (.cells #[.int .i64 0, .int .i64 0, .int .i64 0, .int .i64 0, .int .i64 0, .slice none 0 0] 41 (0, 0)) :: t_)) (blk bk17 (.cells cur18 79 (0, 0)) :: (F.set i emp)) mixed 20 rfl H26.drew ?_
 refine f_first 0 (listed' := #[true, false, false, false, false, false, false, false, false, false, false, false, false, false, false, false, false, false, false, false]) rfl (by kernel_rfl) (by kernel_rfl) (by kernel_rfl) rfl ?_
 refine f_val rfl rfl rfl (by intro _ w _; exact x_move (.pointer (some ⟨g, 0, none⟩)) rfl w) ?_
 refine f_first 1 (listed' := #[true, true, false, false, false, false, false, false, false, false, false, false, false, false, false, false, false, false, false, false]) rfl (by kernel_rfl) (by kernel_rfl) (by kernel_rfl) rfl ?_
 refine f_val rfl rfl rfl (by intro t_ w hw; exact x_nilCheck (.pointer (some ⟨g, 0, none⟩)) rfl ⟨_, rfl⟩ w) ?_
 refine f_first 2 (listed' := #[true, true, true, false, false, false, false, false, false, false, false, false, false, false, false, false, false, false, false, false]) rfl (by kernel_rfl) (by kernel_rfl) (by kernel_rfl) rfl ?_
 refine f_val rfl rfl rfl (by intro t_ w hw; exact x_fieldAddr 62 2 3 3 59 rfl fi_62_2 rfl w) ?_
 refine f_first 3 (listed' := #[true, true, true, true, false, false, false, false, false, false, false, false, false, false, false, false, false, false, false, false]) rfl (by kernel_rfl) (by kernel_rfl) (by kernel_rfl) rfl ?_
 refine f_val rfl rfl rfl (by intro t_ w hw; exact x_load (.slice pp6 L8.length cc7) ag_59 rfl (hw.blk_at (i := 0) rfl) rfl) ?_
 refine f_first 4 (listed' := #[true, true, true, true, true, false, false, false, false, false, false, false, false, false, false, false, false, false, false, false]) rfl (by kernel_rfl) (by kernel_rfl) (by kernel_rfl) rfl ?_
 refine f_val rfl rfl rfl (by intro _ w _; exact x_move (.int .i64 (k : Int)) rfl w) ?_
 refine f_first 5 (listed' := #[true, true, true, true, true, true, false, false, false, false, false, false, false, false, false, false, false, false, false, false]) rfl (by kernel_rfl) (by kernel_rfl) (by kernel_rfl) rfl ?_
 refine f_val rfl rfl rfl (by intro _ w _; exact x_move (.pointer (some ⟨g, 0, none⟩)) rfl w) ?_
 refine f_first 6 (listed' := #[true, true, true, true, true, true, true, false, false, false, false, false, false, false, false, false, false, false, false, false]) rfl (by kernel_rfl) (by kernel_rfl) (by kernel_rfl) rfl ?_
 refine f_val rfl rfl rfl (by intro t_ w hw; exact x_nilCheck (.pointer (some ⟨g, 0, none⟩)) rfl ⟨_, rfl⟩ w) ?_
 refine f_first 7 (listed' := #[true, true, true, true, true, true, true, true, false, false, false, false, false, false, false, false, false, false, false, false]) rfl (by kernel_rfl) (by kernel_rfl) (by kernel_rfl) rfl ?_
 refine f_val rfl rfl rfl (by intro t_ w hw; exact x_fieldAddr 62 2 3 3 59 rfl fi_62_2 rfl w) ?_
 refine f_first 8 (listed' := #[true, true, true, true, true, true, true, true, true, false, false, false, false, false, false, false, false, false, false, false]) rfl (by kernel_rfl) (by kernel_rfl) (by kernel_rfl) rfl ?_
 refine f_val rfl rfl rfl (by intro t_ w hw; exact x_load (.slice pp6 L8.length cc7) ag_59 rfl (hw.blk_at (i := 0) rfl) rfl) ?_
 refine f_first 9 (listed' := #[true, true, true, true, true, true, true, true, true, true, false, false, false, false, false, false, false, false, false, false]) rfl (by kernel_rfl) (by kernel_rfl) (by kernel_rfl) rfl ?_
 refine f_val rfl rfl rfl (by intro _ w _; exact x_move (.int .i64 (k : Int)) rfl w) ?_
 refine f_first 10 (listed' := #[true, true, true, true, true, true, true, true, true, true, true, false, false, false, false, false, false, false, false, false]) rfl (by kernel_rfl) (by kernel_rfl) (by kernel_rfl) rfl ?_
 refine f_val rfl rfl rfl (by intro _ w _; exact x_move (.pointer (some ⟨g, 0, none⟩)) rfl w) ?_
 refine f_first 11 (listed' := #[true, true, true, true, true, true, true, true, true, true, true, true, false, false, false, false, false, false, false, false]) rfl (by kernel_rfl) (by kernel_rfl) (by kernel_rfl) rfl ?_
 refine f_val rfl rfl rfl (by intro t_ w hw; exact x_nilCheck (.pointer (some ⟨g, 0, none⟩)) rfl ⟨_, rfl⟩ w) ?_
 refine f_first 12 (listed' := #[true, true, true, true, true, true, true, true, true, true, true, true, true, false, false, false, false, false, false, false]) rfl (by kernel_rfl) (by kernel_rfl) (by kernel_rfl) rfl ?_
 refine f_val rfl rfl rfl (by intro t_ w hw; exact x_fieldAddr 62 6 7 7 2 rfl fi_62_6 rfl w) ?_
 refine f_first 13 (listed' := #[true, true, true, true, true, true, true, true, true, true, true, true, true, true, false, false, false, false, false, false]) rfl (by kernel_rfl) (by kernel_rfl) (by kernel_rfl) rfl ?_
 refine f_val rfl rfl rfl (by intro t_ w hw; exact x_load (.int .i64 (s.clock : Int)) ag_2 rfl (hw.blk_at (i := 0) rfl) rfl) ?_
 refine f_first 14 (listed' := #[true, true, true, true, true, true, true, true, true, true, true, true, true, true, true, false, false, false, false, false]) rfl (by kernel_rfl) (by kernel_rfl) (by kernel_rfl) rfl ?_
 refine f_val rfl rfl rfl (by intro t_ w hw; exact x_indexAddr bk17 (off := 0) (k : Int) 3 (0 + k * 3) (by exact congrArg (fun z_ => Value.slice z_ L8.length cc7) ((fun (_ : 0 < 1) => hp19) (by omega))) rfl el_59 (by omega) rfl w) ?_
 refine f_first 15 (listed' := #[true, true, true, true, true, true, true, true, true, true, true, true, true, true, true, true, false, false, false, false]) rfl (by kernel_rfl) (by kernel_rfl) (by kernel_rfl) rfl ?_
 refine f_val rfl rfl rfl (by intro t_ w hw; exact x_fieldAddr 79 1 1 (0 + k * 3 + 1) 4 rfl fi_79_1 rfl w) ?_
 refine f_all (rs := [16]) (by kernel_rfl) (by simp) ?_
 refine a_cons ⟨_, rfl, ?_⟩ (fun x hx => absurd hx (by simp))
 intro w27 H28
 try dsimp only at H28
 have hx31 := row_set (f := bodCell) (s := 3) (L := L8) (cur := cur18) bodCell_len (by rw [(rfl : L8.length = L8.length)]; exact h23) (show L8.length * 3 ≤ cur18.size by rw [(rfl : L8.length = L8.length), h22]; exact Nat.mul_le_mul_right 3 h20) (j := k) (by have hh := (rfl : L8.length = L8.length); omega) default 1 (by decide) (.bool true) (⟨⟨(L8.getD k default).v.b, true, (L8.getD k default).v.tm⟩, (L8.getD k default).p, (L8.getD k default).c⟩ : BodD) rfl
 refine s_store H28 5 (.bool true) rfl rfl rfl sz_4 rfl (by have hh := (rfl : L8.length = L8.length); have hk := (show L8.length * 3 ≤ cur18.size by rw [(rfl : L8.length = L8.length), h22]; exact Nat.mul_le_mul_right 3 h20); omega) (by simp) (cs' := (cur18.setIfInBounds (0 + k * 3 + 1) (.bool true))) rfl ?_; intro w29 H30
 refine ⟨blk bk17 (.cells (cur18.setIfInBounds (0 + k * 3 + 1) (.bool true)) 79 (0, 0)) :: (F.set i emp), ?_, H30⟩
 change FReg _ _ _ _ _ #[true, true, true, true, true, true, true, true, true, true, true, true, true, true, true, true, true, false, false, false] _ _
 refine f_first 17 (listed' := #[true, true, true, true, true, true, true, true, true, true, true, true, true, true, true, true, true, true, false, false]) rfl (by kernel_rfl) (by kernel_rfl) (by kernel_rfl) rfl ?_
 refine f_val rfl rfl rfl (by intro t_ w hw; exact x_indexAddr bk17 (off := 0) (k : Int) 3 (0 + k * 3) (by exact congrArg (fun z_ => Value.slice z_ L8.length cc7) ((fun (_ : 0 < 1) => hp19) (by omega))) rfl el_59 (by omega) rfl w) ?_
 refine f_first 18 (listed' := #[true, true, true, true, true, true, true, true, true, true, true, true, true, true, true, true, true, true, true, false]) rfl (by kernel_rfl) (by kernel_rfl) (by kernel_rfl) rfl ?_
 refine f_val rfl rfl rfl (by intro t_ w hw; exact x_fieldAddr 79 2 2 (0 + k * 3 + 2) 2 rfl fi_79_2 rfl w) ?_
 refine f_all (rs := [19]) (by kernel_rfl) (by simp) ?_
 refine a_cons ⟨_, rfl, ?_⟩ (fun x hx => absurd hx (by simp))
 intro w32 H33
 try dsimp only at H33
 have hx36 := row_set (f := bodCell) (s := 3) (L := (L8.set k (⟨⟨(L8.getD k default).v.b, true, (L8.getD k default).v.tm⟩, (L8.getD k default).p, (L8.getD k default).c⟩ : BodD))) (cur := (cur18.setIfInBounds (0 + k * 3 + 1) (.bool true))) bodCell_len hx31 (show (L8.set k (⟨⟨(L8.getD k default).v.b, true, (L8.getD k default).v.tm⟩, (L8.getD k default).p, (L8.getD k default).c⟩ : BodD)).length * 3 ≤ (cur18.setIfInBounds (0 + k * 3 + 1) (.bool true)).size by rw [(show ((L8.set k (⟨⟨(L8.getD k default).v.b, true, (L8.getD k default).v.tm⟩, (L8.getD k default).p, (L8.getD k default).c⟩ : BodD))).length = L8.length from by first | (rw [List.length_set]; exact (rfl : L8.length = L8.length)) | rw [List.length_set]), (show (cur18.setIfInBounds (0 + k * 3 + 1) (.bool true)).size = cc7 * 3 from by rw [Array.size_setIfInBounds]; exact h22)]; exact Nat.mul_le_mul_right 3 h20) (j := k) (by have hh := (show ((L8.set k (⟨⟨(L8.getD k default).v.b, true, (L8.getD k default).v.tm⟩, (L8.getD k default).p, (L8.getD k default).c⟩ : BodD))).length = L8.length from by first | (rw [List.length_set]; exact (rfl : L8.length = L8.length)) | rw [List.length_set]); omega) default 2 (by decide) (.int .i64 (s.clock : Int)) (⟨⟨((L8.set k (⟨⟨(L8.getD k default).v.b, true, (L8.getD k default).v.tm⟩, (L8.getD k default).p, (L8.getD k default).c⟩ : BodD)).getD k default).v.b, ((L8.set k (⟨⟨(L8.getD k default).v.b, true, (L8.getD k default).v.tm⟩, (L8.getD k default).p, (L8.getD k default).c⟩ : BodD)).getD k default).v.sent, s.clock⟩, ((L8.set k (⟨⟨(L8.getD k default).v.b, true, (L8.getD k default).v.tm⟩, (L8.getD k default).p, (L8.getD k default).c⟩ : BodD)).getD k default).p, ((L8.set k (⟨⟨(L8.getD k default).v.b, true, (L8.getD k default).v.tm⟩, (L8.getD k default).p, (L8.getD k default).c⟩ : BodD)).getD k default).c⟩ : BodD) rfl
 refine s_store H33 5 (.int .i64 (s.clock : Int)) rfl rfl rfl sz_2 rfl (by have hh := (show ((L8.set k (⟨⟨(L8.getD k default).v.b, true, (L8.getD k default).v.tm⟩, (L8.getD k default).p, (L8.getD k default).c⟩ : BodD))).length = L8.length from by first | (rw [List.length_set]; exact (rfl : L8.length = L8.length)) | rw [List.length_set]); have hk := (show (L8.set k (⟨⟨(L8.getD k default).v.b, true, (L8.getD k default).v.tm⟩, (L8.getD k default).p, (L8.getD k default).c⟩ : BodD)).length * 3 ≤ (cur18.setIfInBounds (0 + k * 3 + 1) (.bool true)).size by rw [(show ((L8.set k (⟨⟨(L8.getD k default).v.b, true, (L8.getD k default).v.tm⟩, (L8.getD k default).p, (L8.getD k default).c⟩ : BodD))).length = L8.length from by first | (rw [List.length_set]; exact (rfl : L8.length = L8.length)) | rw [List.length_set]), (show (cur18.setIfInBounds (0 + k * 3 + 1) (.bool true)).size = cc7 * 3 from by rw [Array.size_setIfInBounds]; exact h22)]; exact Nat.mul_le_mul_right 3 h20); omega) (by simp) (cs' := ((cur18.setIfInBounds (0 + k * 3 + 1) (.bool true)).setIfInBounds (0 + k * 3 + 2) (.int .i64 (s.clock : Int)))) rfl ?_; intro w34 H35
 refine ⟨blk bk17 (.cells ((cur18.setIfInBounds (0 + k * 3 + 1) (.bool true)).setIfInBounds (0 + k * 3 + 2) (.int .i64 (s.clock : Int))) 79 (0, 0)) :: (F.set i emp), ?_, H35⟩
 change FReg _ _ _ _ _ #[true, true, true, true, true, true, true, true, true, true, true, true, true, true, true, true, true, true, true, true] _ _
 refine f_done (by kernel_rfl) ?_
 intro w37 H38
 refine g_seq ?_
 refine g_region ?_
 refine r_cons (s_move (.pointer (some ⟨g, 0, none⟩)) rfl rfl ?_)
 refine r_cons (s_nilCheck (.pointer (some ⟨g, 0, none⟩)) rfl ⟨_, rfl⟩ rfl ?_)
 refine r_cons (s_fieldAddr 62 7 8 8 4 rfl fi_62_7 rfl rfl ?_)
 refine r_cons (s_store H38 0 (.bool false) rfl rfl rfl sz_4 rfl (nbl rfl) rfl (cs' := #[.int .i64 s.frm.v, .int .i64 s.to_.v, .int .i64 (s.slide : Int), .slice pp6 L8.length cc7, .int .i64 (s.acked : Int), .int .i64 ((i64N s.came).v), .map (some m5), .int .i64 (s.clock : Int), .bool false]) rfl ?_); intro w39 H40
 refine r_nil ?_
 refine g_seq ?_
 have H41 := Row.shut2 (p := pp6) (n := L8.length) (c := cc7) (size := 3) (xs := (bset L8 k s.clock).flatMap bodCell) H40 (i := 5) rfl hp19 h20 h21 (show ((cur18.setIfInBounds (0 + k * 3 + 1) (.bool true)).setIfInBounds (0 + k * 3 + 2) (.int .i64 (s.clock : Int))).size = cc7 * 3 from by rw [Array.size_setIfInBounds]; exact (show (cur18.setIfInBounds (0 + k * 3 + 1) (.bool true)).size = cc7 * 3 from by rw [Array.size_setIfInBounds]; exact h22)) (by have hh : (((cur18.setIfInBounds (0 + k * 3 + 1) (.bool true)).setIfInBounds (0 + k * 3 + 2) (.int .i64 (s.clock : Int))).toList.drop 0).take (((L8.set k (⟨⟨(L8.getD k default).v.b, true, (L8.getD k default).v.tm⟩, (L8.getD k default).p, (L8.getD k default).c⟩ : BodD)).set k (⟨⟨((L8.set k (⟨⟨(L8.getD k default).v.b, true, (L8.getD k default).v.tm⟩, (L8.getD k default).p, (L8.getD k default).c⟩ : BodD)).getD k default).v.b, ((L8.set k (⟨⟨(L8.getD k default).v.b, true, (L8.getD k default).v.tm⟩, (L8.getD k default).p, (L8.getD k default).c⟩ : BodD)).getD k default).v.sent, s.clock⟩, ((L8.set k (⟨⟨(L8.getD k default).v.b, true, (L8.getD k default).v.tm⟩, (L8.getD k default).p, (L8.getD k default).c⟩ : BodD)).getD k default).p, ((L8.set k (⟨⟨(L8.getD k default).v.b, true, (L8.getD k default).v.tm⟩, (L8.getD k default).p, (L8.getD k default).c⟩ : BodD)).getD k default).c⟩ : BodD)).length * 3) = ((L8.set k (⟨⟨(L8.getD k default).v.b, true, (L8.getD k default).v.tm⟩, (L8.getD k default).p, (L8.getD k default).c⟩ : BodD)).set k (⟨⟨((L8.set k (⟨⟨(L8.getD k default).v.b, true, (L8.getD k default).v.tm⟩, (L8.getD k default).p, (L8.getD k default).c⟩ : BodD)).getD k default).v.b, ((L8.set k (⟨⟨(L8.getD k default).v.b, true, (L8.getD k default).v.tm⟩, (L8.getD k default).p, (L8.getD k default).c⟩ : BodD)).getD k default).v.sent, s.clock⟩, ((L8.set k (⟨⟨(L8.getD k default).v.b, true, (L8.getD k default).v.tm⟩, (L8.getD k default).p, (L8.getD k default).c⟩ : BodD)).getD k default).p, ((L8.set k (⟨⟨(L8.getD k default).v.b, true, (L8.getD k default).v.tm⟩, (L8.getD k default).p, (L8.getD k default).c⟩ : BodD)).getD k default).c⟩ : BodD)).flatMap bodCell := hx36; have hk : ((L8.set k (⟨⟨(L8.getD k default).v.b, true, (L8.getD k default).v.tm⟩, (L8.getD k default).p, (L8.getD k default).c⟩ : BodD)).set k (⟨⟨((L8.set k (⟨⟨(L8.getD k default).v.b, true, (L8.getD k default).v.tm⟩, (L8.getD k default).p, (L8.getD k default).c⟩ : BodD)).getD k default).v.b, ((L8.set k (⟨⟨(L8.getD k default).v.b, true, (L8.getD k default).v.tm⟩, (L8.getD k default).p, (L8.getD k default).c⟩ : BodD)).getD k default).v.sent, s.clock⟩, ((L8.set k (⟨⟨(L8.getD k default).v.b, true, (L8.getD k default).v.tm⟩, (L8.getD k default).p, (L8.getD k default).c⟩ : BodD)).getD k default).p, ((L8.set k (⟨⟨(L8.getD k default).v.b, true, (L8.getD k default).v.tm⟩, (L8.getD k default).p, (L8.getD k default).c⟩ : BodD)).getD k default).c⟩ : BodD)).length = L8.length := (show (((L8.set k (⟨⟨(L8.getD k default).v.b, true, (L8.getD k default).v.tm⟩, (L8.getD k default).p, (L8.getD k default).c⟩ : BodD)).set k (⟨⟨((L8.set k (⟨⟨(L8.getD k default).v.b, true, (L8.getD k default).v.tm⟩, (L8.getD k default).p, (L8.getD k default).c⟩ : BodD)).getD k default).v.b, ((L8.set k (⟨⟨(L8.getD k default).v.b, true, (L8.getD k default).v.tm⟩, (L8.getD k default).p, (L8.getD k default).c⟩ : BodD)).getD k default).v.sent, s.clock⟩, ((L8.set k (⟨⟨(L8.getD k default).v.b, true, (L8.getD k default).v.tm⟩, (L8.getD k default).p, (L8.getD k default).c⟩ : BodD)).getD k default).p, ((L8.set k (⟨⟨(L8.getD k default).v.b, true, (L8.getD k default).v.tm⟩, (L8.getD k default).p, (L8.getD k default).c⟩ : BodD)).getD k default).c⟩ : BodD))).length = L8.length from by first | (rw [List.length_set]; exact (show ((L8.set k (⟨⟨(L8.getD k default).v.b, true, (L8.getD k default).v.tm⟩, (L8.getD k default).p, (L8.getD k default).c⟩ : BodD))).length = L8.length from by first | (rw [List.length_set]; exact (rfl : L8.length = L8.length)) | rw [List.length_set])) | rw [List.length_set]); rw [hk] at hh; rw [(show ((L8.set k (⟨⟨(L8.getD k default).v.b, true, (L8.getD k default).v.tm⟩, (L8.getD k default).p, (L8.getD k default).c⟩ : BodD)).set k (⟨⟨((L8.set k (⟨⟨(L8.getD k default).v.b, true, (L8.getD k default).v.tm⟩, (L8.getD k default).p, (L8.getD k default).c⟩ : BodD)).getD k default).v.b, ((L8.set k (⟨⟨(L8.getD k default).v.b, true, (L8.getD k default).v.tm⟩, (L8.getD k default).p, (L8.getD k default).c⟩ : BodD)).getD k default).v.sent, s.clock⟩, ((L8.set k (⟨⟨(L8.getD k default).v.b, true, (L8.getD k default).v.tm⟩, (L8.getD k default).p, (L8.getD k default).c⟩ : BodD)).getD k default).p, ((L8.set k (⟨⟨(L8.getD k default).v.b, true, (L8.getD k default).v.tm⟩, (L8.getD k default).p, (L8.getD k default).c⟩ : BodD)).getD k default).c⟩ : BodD)) = (bset L8 k s.clock) from by unfold bset; rw [List.set_set, getD_set_self (by omega)]; rfl)] at hh; exact hh) (fun x_ hx_ => by obtain ⟨a_, _, ha_⟩ := List.mem_flatMap.1 hx_; exact one_bod a_ x_ ha_)
 have H42 := byA_sub H41 (i := 1) rfl (bset_by (k := k) (t := s.clock) (by omega))
 have H43 : St W w39 (byA ((bset L8 k s.clock).map BodD.by) :: blk g (.cells #[.int .i64 s.frm.v, .int .i64 s.to_.v, .int .i64 (s.slide : Int), .slice pp6 ((bset L8 k s.clock).length) cc7, .int .i64 (s.acked : Int), .int .i64 ((i64N s.came).v), .map (some m5), .int .i64 (s.clock : Int), .bool false] 62 (0, 0)) :: byA (L8.map BodD.by) :: MapA m5 (ents (kI .i64) evD E9) :: byA (mby E9) :: blk bk1 (.cells #[.int .i64 0, .int .i64 0, .int .i64 0, .int .i64 0, .int .i64 0, .slice none 0 0] 41 (0, 0)) :: Row 79 3 (.slice pp6 ((bset L8 k s.clock).length) cc7) ((bset L8 k s.clock).length) ((bset L8 k s.clock).flatMap bodCell) :: (F.set i emp)) := by rw [bset_len]; exact H42
 have H44 : St W w39 (blk g (.cells #[.int .i64 s.frm.v, .int .i64 s.to_.v, .int .i64 (s.slide : Int), .slice pp6 ((bset L8 k s.clock).length) cc7, .int .i64 (s.acked : Int), .int .i64 ((i64N s.came).v), .map (some m5), .int .i64 (s.clock : Int), .bool false] 62 (0, 0)) :: Row 79 3 (.slice pp6 ((bset L8 k s.clock).length) cc7) ((bset L8 k s.clock).length) ((bset L8 k s.clock).flatMap bodCell) :: byA ((bset L8 k s.clock).map BodD.by) :: MapA m5 (ents (kI .i64) evD E9) :: byA (mby E9) :: byA (L8.map BodD.by) :: blk bk1 (.cells #[.int .i64 0, .int .i64 0, .int .i64 0, .int .i64 0, .int .i64 0, .slice none 0 0] 41 (0, 0)) :: (F.set i emp)) := (((((H43.move 4 rfl).move 4 rfl).move 2 rfl).move 6 rfl).move 4 rfl)
 have H45 : St W w39 (LkA g (dtS s k) :: byA (L8.map BodD.by) :: blk bk1 (.cells #[.int .i64 0, .int .i64 0, .int .i64 0, .int .i64 0, .int .i64 0, .slice none 0 0] 41 (0, 0)) :: (F.set i emp)) := St.shut_ex ⟨(m5, pp6, cc7, (bset L8 k s.clock), E9), (bset_v hL10 k s.clock), hE11⟩ (St.shut_star (ls := [_, _, _, _, _]) H44)
 have H46 := H45.move 0 rfl
 obtain ⟨⟨⟨m47, pp48, cc49, L50, E51⟩, hL52, hE53⟩, H54⟩ := St.open_ex H46
 have H55 := St.open_star H54
 change L50.map BodD.v = (dtS s k).l at hL52; change mapB E51 = (dtS s k).held at hE53
 have hl56 := lenOf hL52; have he57 := mapB_len hE53
 have H58 : St W w39 (blk g (lkC (dtS s k) m47 (.slice pp48 L50.length cc49)) :: Row 79 3 (.slice pp48 L50.length cc49) L50.length (L50.flatMap bodCell) :: byA (L50.map BodD.by) :: MapA m47 (ents (kI .i64) evD E51) :: byA (mby E51) :: byA (L8.map BodD.by) :: blk bk1 (.cells #[.int .i64 0, .int .i64 0, .int .i64 0, .int .i64 0, .int .i64 0, .slice none 0 0] 41 (0, 0)) :: (F.set i emp)) := H55
 have hk3 : k < L50.length := by rw [hl56]; show k < (s.l.set k _).length; rw [List.length_set]; exact hk
 obtain ⟨bk59, cur60, hp61, h62, h63, h64, h65, h66, H67⟩ := Row.open2 H58 (i := 1) rfl (by omega)
 have hd9 : (dtS s k).acked = s.acked := rfl
 have hb3 : (L50.getD k default).v.b = (s.l.getD k default).b := by rw [bodAt hL52 k]; show ((s.l.set k _).getD k default).b = _; rw [getD_set_self hk]; rfl
 have H68 : St W w39 (Im 1 (.slice ((L50.getD k default).p) ((L50.getD k default).v.b.length) ((L50.getD k default).c)) (((L50.getD k default).v.b).length) (((L50.getD k default).v.b).flatMap u8c) :: blk g (lkC (dtS s k) m47 (.slice pp48 L50.length cc49)) :: blk bk59 (.cells cur60 79 (0, 0)) :: byA (L50.map BodD.by) :: MapA m47 (ents (kI .i64) evD E51) :: byA (mby E51) :: byA (L8.map BodD.by) :: blk bk1 (.cells #[.int .i64 0, .int .i64 0, .int .i64 0, .int .i64 0, .int .i64 0, .slice none 0 0] 41 (0, 0)) :: (F.set i emp)) := byA_at H67 (i := 2) rfl (by_at (k := k) hk3)
 have hz3 := Im.len H68 (i := 0) rfl
 have hz4 := Im.cap H68 (i := 0) rfl
 have hkb3 := hkb; rw [← hb3] at hkb3
 refine g_mix (fun t_ w => St W w (Im 1 (.slice ((L50.getD k default).p) ((L50.getD k default).v.b.length) ((L50.getD k default).c)) (((L50.getD k default).v.b).length) (((L50.getD k default).v.b).flatMap u8c) :: blk g (lkC (dtS s k) m47 (.slice pp48 L50.length cc49)) :: blk bk59 (.cells cur60 79 (0, 0)) :: byA (L50.map BodD.by) :: MapA m47 (ents (kI .i64) evD E51) :: byA (mby E51) :: byA (L8.map BodD.by) :: t_)) (blk bk1 (.cells #[.int .i64 0, .int .i64 0, .int .i64 0, .int .i64 0, .int .i64 0, .slice none 0 0] 41 (0, 0)) :: (F.set i emp)) mixed 31 rfl H68.drew ?_
 refine f_first 0 (listed' := #[true, false, false, false, false, false, false, false, false, false, false, false, false, false, false, false, false, false, false, false, false, false, false, false, false, false, false, false, false, false, false]) rfl (by kernel_rfl) (by kernel_rfl) (by kernel_rfl) rfl ?_
 refine f_val rfl rfl rfl (by intro _ w _; exact x_move (.pointer (some ⟨g, 0, none⟩)) rfl w) ?_
 refine f_first 1 (listed' := #[true, true, false, false, false, false, false, false, false, false, false, false, false, false, false, false, false, false, false, false, false, false, false, false, false, false, false, false, false, false, false]) rfl (by kernel_rfl) (by kernel_rfl) (by kernel_rfl) rfl ?_
 refine f_val rfl rfl rfl (by intro t_ w hw; exact x_nilCheck (.pointer (some ⟨g, 0, none⟩)) rfl ⟨_, rfl⟩ w) ?_
 refine f_first 2 (listed' := #[true, true, true, false, false, false, false, false, false, false, false, false, false, false, false, false, false, false, false, false, false, false, false, false, false, false, false, false, false, false, false]) rfl (by kernel_rfl) (by kernel_rfl) (by kernel_rfl) rfl ?_
 refine f_val rfl rfl rfl (by intro t_ w hw; exact x_fieldAddr 62 0 0 0 46 rfl fi_62_0 rfl w) ?_
 refine f_first 3 (listed' := #[true, true, true, true, false, false, false, false, false, false, false, false, false, false, false, false, false, false, false, false, false, false, false, false, false, false, false, false, false, false, false]) rfl (by kernel_rfl) (by kernel_rfl) (by kernel_rfl) rfl ?_
 refine f_val rfl rfl rfl (by intro t_ w hw; exact x_fieldAddr 46 0 0 0 3 rfl fi_46_0 rfl w) ?_
 refine f_first 4 (listed' := #[true, true, true, true, true, false, false, false, false, false, false, false, false, false, false, false, false, false, false, false, false, false, false, false, false, false, false, false, false, false, false]) rfl (by kernel_rfl) (by kernel_rfl) (by kernel_rfl) rfl ?_
 refine f_val rfl rfl rfl (by intro t_ w hw; exact x_load (.int .i64 ((dtS s k).frm.v)) ag_3 rfl (hw.blk_at (i := 1) rfl) rfl) ?_
 refine f_first 5 (listed' := #[true, true, true, true, true, true, false, false, false, false, false, false, false, false, false, false, false, false, false, false, false, false, false, false, false, false, false, false, false, false, false]) rfl (by kernel_rfl) (by kernel_rfl) (by kernel_rfl) rfl ?_
 refine f_val rfl rfl rfl (by intro _ w _; exact x_move (.pointer (some ⟨g, 0, none⟩)) rfl w) ?_
 refine f_first 6 (listed' := #[true, true, true, true, true, true, true, false, false, false, false, false, false, false, false, false, false, false, false, false, false, false, false, false, false, false, false, false, false, false, false]) rfl (by kernel_rfl) (by kernel_rfl) (by kernel_rfl) rfl ?_
 refine f_val rfl rfl rfl (by intro t_ w hw; exact x_nilCheck (.pointer (some ⟨g, 0, none⟩)) rfl ⟨_, rfl⟩ w) ?_
 refine f_first 7 (listed' := #[true, true, true, true, true, true, true, true, false, false, false, false, false, false, false, false, false, false, false, false, false, false, false, false, false, false, false, false, false, false, false]) rfl (by kernel_rfl) (by kernel_rfl) (by kernel_rfl) rfl ?_
 refine f_val rfl rfl rfl (by intro t_ w hw; exact x_fieldAddr 62 0 0 0 46 rfl fi_62_0 rfl w) ?_
 refine f_first 8 (listed' := #[true, true, true, true, true, true, true, true, true, false, false, false, false, false, false, false, false, false, false, false, false, false, false, false, false, false, false, false, false, false, false]) rfl (by kernel_rfl) (by kernel_rfl) (by kernel_rfl) rfl ?_
 refine f_val rfl rfl rfl (by intro t_ w hw; exact x_fieldAddr 46 1 1 1 3 rfl fi_46_1 rfl w) ?_
 refine f_first 9 (listed' := #[true, true, true, true, true, true, true, true, true, true, false, false, false, false, false, false, false, false, false, false, false, false, false, false, false, false, false, false, false, false, false]) rfl (by kernel_rfl) (by kernel_rfl) (by kernel_rfl) rfl ?_
 refine f_val rfl rfl rfl (by intro t_ w hw; exact x_load (.int .i64 ((dtS s k).to_.v)) ag_3 rfl (hw.blk_at (i := 1) rfl) rfl) ?_
 refine f_first 10 (listed' := #[true, true, true, true, true, true, true, true, true, true, true, false, false, false, false, false, false, false, false, false, false, false, false, false, false, false, false, false, false, false, false]) rfl (by kernel_rfl) (by kernel_rfl) (by kernel_rfl) rfl ?_
 refine f_val rfl rfl rfl (by intro _ w _; exact x_move (.pointer (some ⟨g, 0, none⟩)) rfl w) ?_
 refine f_first 11 (listed' := #[true, true, true, true, true, true, true, true, true, true, true, true, false, false, false, false, false, false, false, false, false, false, false, false, false, false, false, false, false, false, false]) rfl (by kernel_rfl) (by kernel_rfl) (by kernel_rfl) rfl ?_
 refine f_val rfl rfl rfl (by intro t_ w hw; exact x_nilCheck (.pointer (some ⟨g, 0, none⟩)) rfl ⟨_, rfl⟩ w) ?_
 refine f_first 12 (listed' := #[true, true, true, true, true, true, true, true, true, true, true, true, true, false, false, false, false, false, false, false, false, false, false, false, false, false, false, false, false, false, false]) rfl (by kernel_rfl) (by kernel_rfl) (by kernel_rfl) rfl ?_
 refine f_val rfl rfl rfl (by intro t_ w hw; exact x_fieldAddr 62 3 4 4 2 rfl fi_62_3 rfl w) ?_
 refine f_first 13 (listed' := #[true, true, true, true, true, true, true, true, true, true, true, true, true, true, false, false, false, false, false, false, false, false, false, false, false, false, false, false, false, false, false]) rfl (by kernel_rfl) (by kernel_rfl) (by kernel_rfl) rfl ?_
 refine f_val rfl rfl rfl (by intro t_ w hw; exact x_load (.int .i64 ((dtS s k).acked : Int)) ag_2 rfl (hw.blk_at (i := 1) rfl) rfl) ?_
 refine f_first 14 (listed' := #[true, true, true, true, true, true, true, true, true, true, true, true, true, true, true, false, false, false, false, false, false, false, false, false, false, false, false, false, false, false, false]) rfl (by kernel_rfl) (by kernel_rfl) (by kernel_rfl) rfl ?_
 refine f_val rfl rfl rfl (by intro _ w _; exact x_move (.int .i64 (k : Int)) rfl w) ?_
 refine f_first 15 (listed' := #[true, true, true, true, true, true, true, true, true, true, true, true, true, true, true, true, false, false, false, false, false, false, false, false, false, false, false, false, false, false, false]) rfl (by kernel_rfl) (by kernel_rfl) (by kernel_rfl) rfl ?_
 refine f_val rfl rfl rfl (by intro t_ w hw; exact x_add (((dtS s k).acked : Int) + (k : Int)) rfl rfl (wi64 (by omega)) w) ?_
 refine f_first 16 (listed' := #[true, true, true, true, true, true, true, true, true, true, true, true, true, true, true, true, true, false, false, false, false, false, false, false, false, false, false, false, false, false, false]) rfl (by kernel_rfl) (by kernel_rfl) (by kernel_rfl) rfl ?_
 refine f_val rfl rfl rfl (by intro _ w _; exact x_move (.pointer (some ⟨g, 0, none⟩)) rfl w) ?_
 refine f_first 17 (listed' := #[true, true, true, true, true, true, true, true, true, true, true, true, true, true, true, true, true, true, false, false, false, false, false, false, false, false, false, false, false, false, false]) rfl (by kernel_rfl) (by kernel_rfl) (by kernel_rfl) rfl ?_
 refine f_val rfl rfl rfl (by intro t_ w hw; exact x_nilCheck (.pointer (some ⟨g, 0, none⟩)) rfl ⟨_, rfl⟩ w) ?_
 refine f_first 18 (listed' := #[true, true, true, true, true, true, true, true, true, true, true, true, true, true, true, true, true, true, true, false, false, false, false, false, false, false, false, false, false, false, false]) rfl (by kernel_rfl) (by kernel_rfl) (by kernel_rfl) rfl ?_
 refine f_val rfl rfl rfl (by intro t_ w hw; exact x_fieldAddr 62 4 5 5 2 rfl fi_62_4 rfl w) ?_
 refine f_first 19 (listed' := #[true, true, true, true, true, true, true, true, true, true, true, true, true, true, true, true, true, true, true, true, false, false, false, false, false, false, false, false, false, false, false]) rfl (by kernel_rfl) (by kernel_rfl) (by kernel_rfl) rfl ?_
 refine f_val rfl rfl rfl (by intro t_ w hw; exact x_load (.int .i64 ((i64N (dtS s k).came).v)) ag_2 rfl (hw.blk_at (i := 1) rfl) rfl) ?_
 refine f_first 20 (listed' := #[true, true, true, true, true, true, true, true, true, true, true, true, true, true, true, true, true, true, true, true, true, false, false, false, false, false, false, false, false, false, false]) rfl (by kernel_rfl) (by kernel_rfl) (by kernel_rfl) rfl ?_
 refine f_val rfl rfl rfl (by intro _ w _; exact x_move (.pointer (some ⟨g, 0, none⟩)) rfl w) ?_
 refine f_first 21 (listed' := #[true, true, true, true, true, true, true, true, true, true, true, true, true, true, true, true, true, true, true, true, true, true, false, false, false, false, false, false, false, false, false]) rfl (by kernel_rfl) (by kernel_rfl) (by kernel_rfl) rfl ?_
 refine f_val rfl rfl rfl (by intro t_ w hw; exact x_nilCheck (.pointer (some ⟨g, 0, none⟩)) rfl ⟨_, rfl⟩ w) ?_
 refine f_first 22 (listed' := #[true, true, true, true, true, true, true, true, true, true, true, true, true, true, true, true, true, true, true, true, true, true, true, false, false, false, false, false, false, false, false]) rfl (by kernel_rfl) (by kernel_rfl) (by kernel_rfl) rfl ?_
 refine f_val rfl rfl rfl (by intro t_ w hw; exact x_fieldAddr 62 2 3 3 59 rfl fi_62_2 rfl w) ?_
 refine f_first 23 (listed' := #[true, true, true, true, true, true, true, true, true, true, true, true, true, true, true, true, true, true, true, true, true, true, true, true, false, false, false, false, false, false, false]) rfl (by kernel_rfl) (by kernel_rfl) (by kernel_rfl) rfl ?_
 refine f_val rfl rfl rfl (by intro t_ w hw; exact x_load (.slice pp48 L50.length cc49) ag_59 rfl (hw.blk_at (i := 1) rfl) rfl) ?_
 refine f_first 24 (listed' := #[true, true, true, true, true, true, true, true, true, true, true, true, true, true, true, true, true, true, true, true, true, true, true, true, true, false, false, false, false, false, false]) rfl (by kernel_rfl) (by kernel_rfl) (by kernel_rfl) rfl ?_
 refine f_val rfl rfl rfl (by intro _ w _; exact x_move (.int .i64 (k : Int)) rfl w) ?_
 refine f_first 25 (listed' := #[true, true, true, true, true, true, true, true, true, true, true, true, true, true, true, true, true, true, true, true, true, true, true, true, true, true, false, false, false, false, false]) rfl (by kernel_rfl) (by kernel_rfl) (by kernel_rfl) rfl ?_
 refine f_val rfl rfl rfl (by intro t_ w hw; exact x_indexAddr bk59 (off := 0) (k : Int) 3 (0 + k * 3) (by exact congrArg (fun z_ => Value.slice z_ L50.length cc49) ((fun (_ : 0 < 1) => hp61) (by omega))) rfl el_59 (by omega) rfl w) ?_
 refine f_first 26 (listed' := #[true, true, true, true, true, true, true, true, true, true, true, true, true, true, true, true, true, true, true, true, true, true, true, true, true, true, true, false, false, false, false]) rfl (by kernel_rfl) (by kernel_rfl) (by kernel_rfl) rfl ?_
 refine f_val rfl rfl rfl (by intro t_ w hw; exact x_fieldAddr 79 0 0 (0 + k * 3) 26 rfl fi_79_0 rfl w) ?_
 refine f_first 27 (listed' := #[true, true, true, true, true, true, true, true, true, true, true, true, true, true, true, true, true, true, true, true, true, true, true, true, true, true, true, true, false, false, false]) rfl (by kernel_rfl) (by kernel_rfl) (by kernel_rfl) rfl ?_
 refine f_val rfl rfl rfl (by intro t_ w hw; exact x_load (.slice ((L50.getD k default).p) ((L50.getD k default).v.b.length) ((L50.getD k default).c)) ag_26 rfl (hw.blk_at (i := 2) rfl) (elem_cell (L := L50) (i := k) bodCell_len (by rw [(rfl : L50.length = L50.length)]; exact h65) (by have hh : L50.length = L50.length := (rfl : L50.length = L50.length); omega) default 0 (by decide) _ rfl)) ?_
 refine f_all (rs := [28]) (by kernel_rfl) (by simp) ?_
 refine a_cons ⟨_, rfl, ?_⟩ (fun x hx => absurd hx (by simp))
 intro w69 H70
 try dsimp only at H70
 refine s_call [.slice ((L50.getD k default).p) ((L50.getD k default).v.b.length) ((L50.getD k default).c)] pl_48 rfl rfl (clone_bytes _ _ (((L50.getD k default).v.b).length) (((L50.getD k default).v.b).flatMap u8c) RdA.im (by first | omega | (have hlp := Nat.le_refl 0; omega)) (j := 0) rfl H70) ?_
 rintro _ w73 ⟨pp71, cc72, rfl, H74⟩
 have H75 : St W w73 (Im 1 (.slice ((L50.getD k default).p) ((L50.getD k default).v.b.length) ((L50.getD k default).c)) (((L50.getD k default).v.b).length) (((L50.getD k default).v.b).flatMap u8c) :: blk g (lkC (dtS s k) m47 (.slice pp48 L50.length cc49)) :: blk bk59 (.cells cur60 79 (0, 0)) :: byA (L50.map BodD.by) :: MapA m47 (ents (kI .i64) evD E51) :: byA (mby E51) :: byA (L8.map BodD.by) :: Row 5 1 (.slice pp71 (((L50.getD k default).v.b).length) cc72) (((L50.getD k default).v.b).length) (((L50.getD k default).v.b).flatMap u8c) :: blk bk1 (.cells #[.int .i64 0, .int .i64 0, .int .i64 0, .int .i64 0, .int .i64 0, .slice none 0 0] 41 (0, 0)) :: (F.set i emp)) := (((((((((H74.move 8 rfl).move 1 rfl).move 8 rfl).move 8 rfl).move 8 rfl).move 8 rfl).move 8 rfl).move 8 rfl).move 8 rfl)
 refine ⟨Row 5 1 (.slice pp71 (((L50.getD k default).v.b).length) cc72) (((L50.getD k default).v.b).length) (((L50.getD k default).v.b).flatMap u8c) :: blk bk1 (.cells #[.int .i64 0, .int .i64 0, .int .i64 0, .int .i64 0, .int .i64 0, .slice none 0 0] 41 (0, 0)) :: (F.set i emp), ?_, H75⟩
 change FReg _ _ _ _ _ #[true, true, true, true, true, true, true, true, true, true, true, true, true, true, true, true, true, true, true, true, true, true, true, true, true, true, true, true, true, false, false] _ _
 refine f_first 29 (listed' := #[true, true, true, true, true, true, true, true, true, true, true, true, true, true, true, true, true, true, true, true, true, true, true, true, true, true, true, true, true, true, false]) rfl (by kernel_rfl) (by kernel_rfl) (by kernel_rfl) rfl ?_
 refine f_val rfl rfl rfl (by intro t_ w hw; exact x_build (cs := #[.int .i64 ((dtS s k).frm.v), .int .i64 ((dtS s k).to_.v), .int .i64 1, .int .i64 (((dtS s k).acked : Int) + (k : Int)), .int .i64 ((i64N (dtS s k).came).v), .slice pp71 (((L50.getD k default).v.b).length) cc72]) (by kernel_rfl) w) ?_
 refine f_all (rs := [30]) (by kernel_rfl) (by simp) ?_
 refine a_cons ⟨_, rfl, ?_⟩ (fun x hx => absurd hx (by simp))
 intro w76 H77
 try dsimp only at H77
 refine s_storeAgg H77 8 #[.int .i64 ((dtS s k).frm.v), .int .i64 ((dtS s k).to_.v), .int .i64 1, .int .i64 (((dtS s k).acked : Int) + (k : Int)), .int .i64 ((i64N (dtS s k).came).v), .slice pp71 (((L50.getD k default).v.b).length) cc72] 6 rfl rfl rfl sz_41 rfl (by simp [Value.oneCell']) (nbl rfl) (fun o h1 h2 => by first | (simp; done) | (simp; omega)) (cs' := #[.int .i64 ((dtS s k).frm.v), .int .i64 ((dtS s k).to_.v), .int .i64 1, .int .i64 (((dtS s k).acked : Int) + (k : Int)), .int .i64 ((i64N (dtS s k).came).v), .slice pp71 (((L50.getD k default).v.b).length) cc72]) rfl ?_; intro w78 H79
 refine ⟨Row 5 1 (.slice pp71 (((L50.getD k default).v.b).length) cc72) (((L50.getD k default).v.b).length) (((L50.getD k default).v.b).flatMap u8c) :: blk bk1 (.cells #[.int .i64 ((dtS s k).frm.v), .int .i64 ((dtS s k).to_.v), .int .i64 1, .int .i64 (((dtS s k).acked : Int) + (k : Int)), .int .i64 ((i64N (dtS s k).came).v), .slice pp71 (((L50.getD k default).v.b).length) cc72] 41 (0, 0)) :: (F.set i emp), ?_, H79⟩
 change FReg _ _ _ _ _ #[true, true, true, true, true, true, true, true, true, true, true, true, true, true, true, true, true, true, true, true, true, true, true, true, true, true, true, true, true, true, true] _ _
 refine f_done (by kernel_rfl) ?_
 intro w80 H81
 refine g_ret' [.agg #[.int .i64 ((dtS s k).frm.v), .int .i64 ((dtS s k).to_.v), .int .i64 1, .int .i64 (((dtS s k).acked : Int) + (k : Int)), .int .i64 ((i64N (dtS s k).came).v), .slice pp71 (((L50.getD k default).v.b).length) cc72]] Try.func53 Try.results53 ⟨(res_cellN rfl ag_41 (H81.blk_at (i := 8) rfl) (nbl rfl) rfl), trivial⟩ ?_
 have H82 : St W w80 (Im 1 (.slice ((L50.getD k default).p) ((L50.getD k default).v.b.length) ((L50.getD k default).c)) (((L50.getD k default).v.b).length) (((L50.getD k default).v.b).flatMap u8c) :: blk g (lkC (dtS s k) m47 (.slice pp48 L50.length cc49)) :: blk bk59 (.cells cur60 79 (0, 0)) :: byA (L50.map BodD.by) :: MapA m47 (ents (kI .i64) evD E51) :: byA (mby E51) :: byA (L8.map BodD.by) :: Row 5 1 (.slice pp71 ((dgOf s k (s.l.getD k default).b).body.length) cc72) ((dgOf s k (s.l.getD k default).b).body.length) ((dgOf s k (s.l.getD k default).b).body.flatMap u8c) :: blk bk1 (.cells #[.int .i64 ((dtS s k).frm.v), .int .i64 ((dtS s k).to_.v), .int .i64 1, .int .i64 (((dtS s k).acked : Int) + (k : Int)), .int .i64 ((i64N (dtS s k).came).v), .slice pp71 (((L50.getD k default).v.b).length) cc72] 41 (0, 0)) :: (F.set i emp)) := by rw [show (dgOf s k (s.l.getD k default).b).body = (L50.getD k default).v.b from hb3.symm]; exact H81
 have H83 : St W w80 (Im 1 (.slice ((L50.getD k default).p) ((L50.getD k default).v.b.length) ((L50.getD k default).c)) (((L50.getD k default).v.b).length) (((L50.getD k default).v.b).flatMap u8c) :: blk g (lkC (dtS s k) m47 (.slice pp48 L50.length cc49)) :: blk bk59 (.cells cur60 79 (0, 0)) :: byA (L50.map BodD.by) :: MapA m47 (ents (kI .i64) evD E51) :: byA (mby E51) :: byA (L8.map BodD.by) :: Im 1 (.slice pp71 ((dgOf s k (s.l.getD k default).b).body.length) cc72) (((dgOf s k (s.l.getD k default).b).body).length) (((dgOf s k (s.l.getD k default).b).body).flatMap u8c) :: blk bk1 (.cells #[.int .i64 ((dtS s k).frm.v), .int .i64 ((dtS s k).to_.v), .int .i64 1, .int .i64 (((dtS s k).acked : Int) + (k : Int)), .int .i64 ((i64N (dtS s k).came).v), .slice pp71 (((L50.getD k default).v.b).length) cc72] 41 (0, 0)) :: (F.set i emp)) := Row.im H82 (i := 7) rfl
 have H84 := Row.shut2 (p := pp48) (n := L50.length) (c := cc49) (size := 3) (xs := L50.flatMap bodCell) H83 (i := 2) rfl hp61 h62 h63 h64 (by have hh : (cur60.toList.drop 0).take (L50.length * 3) = L50.flatMap bodCell := (by rw [(rfl : L50.length = L50.length)]; exact h65); have hk : L50.length = L50.length := (rfl : L50.length = L50.length); rw [hk] at hh; exact hh) (fun x_ hx_ => by obtain ⟨a_, _, ha_⟩ := List.mem_flatMap.1 hx_; exact one_bod a_ x_ ha_)
 have H85 : St W w80 (blk g (lkC (dtS s k) m47 (.slice pp48 L50.length cc49)) :: Row 79 3 (.slice pp48 L50.length cc49) L50.length (L50.flatMap bodCell) :: byA (L50.map BodD.by) :: MapA m47 (ents (kI .i64) evD E51) :: byA (mby E51) :: Im 1 (.slice ((L50.getD k default).p) ((L50.getD k default).v.b.length) ((L50.getD k default).c)) (((L50.getD k default).v.b).length) (((L50.getD k default).v.b).flatMap u8c) :: byA (L8.map BodD.by) :: Im 1 (.slice pp71 ((dgOf s k (s.l.getD k default).b).body.length) cc72) (((dgOf s k (s.l.getD k default).b).body).length) (((dgOf s k (s.l.getD k default).b).body).flatMap u8c) :: blk bk1 (.cells #[.int .i64 ((dtS s k).frm.v), .int .i64 ((dtS s k).to_.v), .int .i64 1, .int .i64 (((dtS s k).acked : Int) + (k : Int)), .int .i64 ((i64N (dtS s k).came).v), .slice pp71 (((L50.getD k default).v.b).length) cc72] 41 (0, 0)) :: (F.set i emp)) := (((((H84.move 5 rfl).move 5 rfl).move 5 rfl).move 5 rfl).move 5 rfl)
 have H86 : St W w80 (LkA g (dtS s k) :: Im 1 (.slice ((L50.getD k default).p) ((L50.getD k default).v.b.length) ((L50.getD k default).c)) (((L50.getD k default).v.b).length) (((L50.getD k default).v.b).flatMap u8c) :: byA (L8.map BodD.by) :: Im 1 (.slice pp71 ((dgOf s k (s.l.getD k default).b).body.length) cc72) (((dgOf s k (s.l.getD k default).b).body).length) (((dgOf s k (s.l.getD k default).b).body).flatMap u8c) :: blk bk1 (.cells #[.int .i64 ((dtS s k).frm.v), .int .i64 ((dtS s k).to_.v), .int .i64 1, .int .i64 (((dtS s k).acked : Int) + (k : Int)), .int .i64 ((i64N (dtS s k).came).v), .slice pp71 (((L50.getD k default).v.b).length) cc72] 41 (0, 0)) :: (F.set i emp)) := St.shut_ex ⟨(m47, pp48, cc49, L50, E51), hL52, hE53⟩ (St.shut_star (ls := [_, _, _, _, _]) H85)
 have H87 : St W w80 (Im 1 (.slice pp71 ((dgOf s k (s.l.getD k default).b).body.length) cc72) (((dgOf s k (s.l.getD k default).b).body).length) (((dgOf s k (s.l.getD k default).b).body).flatMap u8c) :: LkA g (dtS s k) :: (F.set i emp)) := ((((H86.move 3 rfl).drop 2 rfl).drop 2 rfl).drop 2 rfl)
 have H88 : St W w80 (LkA g (dtS s k) :: (Im 1 (.slice pp71 ((dgOf s k (s.l.getD k default).b).body.length) cc72) (((dgOf s k (s.l.getD k default).b).body).length) (((dgOf s k (s.l.getD k default).b).body).flatMap u8c) :: F).set (i + 1) emp) := (H87.move 1 rfl)
 have hq3 := i64N_v (n := s.acked + k) (by omega)
 exact ⟨pp71, cc72, by show Value.agg #[.int .i64 s.frm.v, .int .i64 s.to_.v, .int .i64 1, .int .i64 ((s.acked : Int) + (k : Int)), .int .i64 (i64N s.came).v, .slice pp71 (L50.getD k default).v.b.length cc72] = .agg #[.int .i64 s.frm.v, .int .i64 s.to_.v, .int .i64 1, .int .i64 (i64N (s.acked + k)).v, .int .i64 (i64N s.came).v, .slice pp71 (s.l.getD k default).b.length cc72]; rw [hq3, hb3, show ((s.acked + k : Nat) : Int) = (s.acked : Int) + (k : Int) from by omega], St.back (i := i + 1) (by exact hi) H88⟩
set_option maxHeartbeats 4000000 in
set_option maxRecDepth 100000 in
theorem Out_1 {W w : World} {F : List Atom} (x : BodD) (H : St W w F) : Calls Try.prog 49 #[.agg #[.slice x.p x.v.b.length x.c, .bool x.v.sent, .int .i64 (x.v.tm : Int)]] w (Ret fun v w' => v = .bool (ns x.v) ∧ St W w' F) := by
 refine calls_of_go (n := 6) Try.func49 rfl Try.ntmps49 rfl ?_
 refine g_seq ?_
 refine g_region ?_
 refine r_cons (s_box H 79 (.agg #[.slice x.p x.v.b.length x.c, .bool x.v.sent, .int .i64 (x.v.tm : Int)]) rfl (cs := #[.slice x.p x.v.b.length x.c, .bool x.v.sent, .int .i64 (x.v.tm : Int)]) rfl rfl ?_); intro bk1 w2 H3
 refine r_cons (s_assign (.bool false) rfl rfl ?_)
 refine r_nil ?_
 refine g_seq ?_
 refine g_region ?_
 refine r_cons (s_fieldAddr 79 1 1 1 4 rfl fi_79_1 rfl rfl ?_)
 refine r_cons (s_load (.bool x.v.sent) ag_4 rfl (H3.blk_at (i := 0) rfl) rfl rfl ?_)
 refine r_cons (s_not x.v.sent rfl (!x.v.sent) rfl rfl ?_)
 refine r_cons (s_assign (.bool (!x.v.sent)) rfl rfl ?_)
 refine r_nil ?_
 refine g_ret' [.bool (!x.v.sent)] Try.func49 Try.results49 ⟨rfl, trivial⟩ ?_
 have H4 : St W w2 F := (H3.drop 0 rfl)
 exact ⟨rfl, H4⟩
set_option maxHeartbeats 4000000 in
set_option maxRecDepth 100000 in
theorem Tick_1 {W w : World} {F : List Atom} (g bx : Nat) (s : EndV) (hok : endOk s) (x : BodD) (hx : x.v.tm ≤ 4611686018427387904) (H : St W w (LkA g s :: blk bx (.cells #[.pointer (some ⟨g, 0, none⟩)] 30 (0, 0)) :: F)) : Calls Try.prog 33 #[.agg #[.slice x.p x.v.b.length x.c, .bool x.v.sent, .int .i64 (x.v.tm : Int)], .pointer (some ⟨bx, 0, none⟩)] w (Ret fun v w' => v = .bool (rs s.clock x.v) ∧ St W w' (LkA g s :: blk bx (.cells #[.pointer (some ⟨g, 0, none⟩)] 30 (0, 0)) :: F)) := by
 obtain ⟨o1, o2, o3, o4, o5, o6, o8⟩ := id hok
 refine calls_of_go (n := 16) Try.func33 rfl Try.ntmps33 rfl ?_
 refine g_seq ?_
 refine g_region ?_
 refine r_cons (s_box H 79 (.agg #[.slice x.p x.v.b.length x.c, .bool x.v.sent, .int .i64 (x.v.tm : Int)]) rfl (cs := #[.slice x.p x.v.b.length x.c, .bool x.v.sent, .int .i64 (x.v.tm : Int)]) rfl rfl ?_); intro bk1 w2 H3
 refine r_cons (s_assign (.bool false) rfl rfl ?_)
 refine r_nil ?_
 refine g_seq ?_
 have H4 := H3.move 1 rfl
 obtain ⟨⟨⟨m5, pp6, cc7, L8, E9⟩, hL10, hE11⟩, H12⟩ := St.open_ex H4
 have H13 := St.open_star H12
 change L8.map BodD.v = s.l at hL10; change mapB E9 = s.held at hE11
 have hl14 := lenOf hL10; have he15 := mapB_len hE11
 have H16 : St W w2 (blk g (lkC s m5 (.slice pp6 L8.length cc7)) :: Row 79 3 (.slice pp6 L8.length cc7) L8.length (L8.flatMap bodCell) :: byA (L8.map BodD.by) :: MapA m5 (ents (kI .i64) evD E9) :: byA (mby E9) :: blk bk1 (.cells #[.slice x.p x.v.b.length x.c, .bool x.v.sent, .int .i64 (x.v.tm : Int)] 79 (0, 0)) :: blk bx (.cells #[.pointer (some ⟨g, 0, none⟩)] 30 (0, 0)) :: F) := H13
 refine g_quiet (fun w' => St W w' (blk g (lkC s m5 (.slice pp6 L8.length cc7)) :: Row 79 3 (.slice pp6 L8.length cc7) L8.length (L8.flatMap bodCell) :: byA (L8.map BodD.by) :: MapA m5 (ents (kI .i64) evD E9) :: byA (mby E9) :: blk bk1 (.cells #[.slice x.p x.v.b.length x.c, .bool x.v.sent, .int .i64 (x.v.tm : Int)] 79 (0, 0)) :: blk bx (.cells #[.pointer (some ⟨g, 0, none⟩)] 30 (0, 0)) :: F)) mixed (by kernel_rfl) H16.drew ?_
 refine q_cons (q_val rfl rfl rfl (by intro w hw; exact x_fieldAddr 79 1 1 1 4 rfl fi_79_1 rfl w) ?_)
 refine q_cons (q_val rfl rfl rfl (by intro w hw; exact x_load (.bool x.v.sent) ag_4 rfl (hw.blk_at (i := 5) rfl) rfl) ?_)
 refine q_cons (q_val rfl rfl rfl (by intro w hw; exact x_move (.bool x.v.sent) rfl w) ?_)
 by_cases hb17 : (x.v.sent) = true
 ·skip
  refine q_cons (q_take rfl (congrArg some hb17) ?_)
  refine q_val rfl rfl rfl (by intro w hw; exact x_load (.pointer (some ⟨g, 0, none⟩)) ag_30 rfl (hw.blk_at (i := 6) rfl) rfl) ?_
  refine q_cons (q_take rfl (congrArg some hb17) ?_)
  refine q_val rfl rfl rfl (by intro w hw; exact x_nilCheck (.pointer (some ⟨g, 0, none⟩)) rfl ⟨_, rfl⟩ w) ?_
  refine q_cons (q_take rfl (congrArg some hb17) ?_)
  refine q_val rfl rfl rfl (by intro w hw; exact x_fieldAddr 62 6 7 7 2 rfl fi_62_6 rfl w) ?_
  refine q_cons (q_take rfl (congrArg some hb17) ?_)
  refine q_val rfl rfl rfl (by intro w hw; exact x_load (.int .i64 (s.clock : Int)) ag_2 rfl (hw.blk_at (i := 0) rfl) rfl) ?_
  refine q_cons (q_take rfl (congrArg some hb17) ?_)
  refine q_val rfl rfl rfl (by intro w hw; exact x_fieldAddr 79 2 2 2 2 rfl fi_79_2 rfl w) ?_
  refine q_cons (q_take rfl (congrArg some hb17) ?_)
  refine q_val rfl rfl rfl (by intro w hw; exact x_load (.int .i64 (x.v.tm : Int)) ag_2 rfl (hw.blk_at (i := 5) rfl) rfl) ?_
  refine q_cons (q_take rfl (congrArg some hb17) ?_)
  refine q_val rfl rfl rfl (by intro w hw; exact x_sub ((s.clock : Int) - (x.v.tm : Int)) rfl rfl (wi64 (by omega)) w) ?_
  refine q_cons (q_take rfl (congrArg some hb17) ?_)
  by_cases hc18 : (4 : Int) ≤ (s.clock : Int) - (x.v.tm : Int)
  ·skip
   refine q_val rfl rfl rfl (by intro w hw; exact x_geq true rfl rfl (dtrue hc18) w) ?_
   refine q_cons (q_val rfl rfl rfl (by intro w hw; exact x_pick_t (.bool true) (by exact congrArg Value.bool hb17) rfl w) ?_)
   refine q_cons (q_val rfl rfl rfl (by intro w hw; exact x_assign (.bool true) rfl w) ?_)
   refine q_nil ?_
   intro w19 H20
   refine g_ret' [.bool true] Try.func33 Try.results33 ⟨rfl, trivial⟩ ?_
   have H21 : St W w19 (LkA g s :: blk bk1 (.cells #[.slice x.p x.v.b.length x.c, .bool x.v.sent, .int .i64 (x.v.tm : Int)] 79 (0, 0)) :: blk bx (.cells #[.pointer (some ⟨g, 0, none⟩)] 30 (0, 0)) :: F) := St.shut_ex ⟨(m5, pp6, cc7, L8, E9), hL10, hE11⟩ (St.shut_star (ls := [_, _, _, _, _]) H20)
   have H22 : St W w19 (LkA g s :: blk bx (.cells #[.pointer (some ⟨g, 0, none⟩)] 30 (0, 0)) :: F) := (((H21.move 2 rfl).move 1 rfl).drop 2 rfl)
   exact ⟨congrArg Value.bool (by unfold rs; first | (simp_all; done) | (simp_all; omega)), H22⟩
  ·skip
   refine q_val rfl rfl rfl (by intro w hw; exact x_geq false rfl rfl (dfalse hc18) w) ?_
   refine q_cons (q_val rfl rfl rfl (by intro w hw; exact x_pick_t (.bool false) (by exact congrArg Value.bool hb17) rfl w) ?_)
   refine q_cons (q_val rfl rfl rfl (by intro w hw; exact x_assign (.bool false) rfl w) ?_)
   refine q_nil ?_
   intro w23 H24
   refine g_ret' [.bool false] Try.func33 Try.results33 ⟨rfl, trivial⟩ ?_
   have H25 : St W w23 (LkA g s :: blk bk1 (.cells #[.slice x.p x.v.b.length x.c, .bool x.v.sent, .int .i64 (x.v.tm : Int)] 79 (0, 0)) :: blk bx (.cells #[.pointer (some ⟨g, 0, none⟩)] 30 (0, 0)) :: F) := St.shut_ex ⟨(m5, pp6, cc7, L8, E9), hL10, hE11⟩ (St.shut_star (ls := [_, _, _, _, _]) H24)
   have H26 : St W w23 (LkA g s :: blk bx (.cells #[.pointer (some ⟨g, 0, none⟩)] 30 (0, 0)) :: F) := (((H25.move 2 rfl).move 1 rfl).drop 2 rfl)
   exact ⟨congrArg Value.bool (by unfold rs; first | (simp_all; done) | (simp_all; omega)), H26⟩
 ·have hb17 := eq_false_of_ne_true hb17
  refine q_cons (q_pass rfl (congrArg some hb17) rfl rfl rfl ?_)
  refine q_cons (q_pass rfl (congrArg some hb17) rfl rfl rfl ?_)
  refine q_cons (q_pass rfl (congrArg some hb17) rfl rfl rfl ?_)
  refine q_cons (q_pass rfl (congrArg some hb17) rfl rfl rfl ?_)
  refine q_cons (q_pass rfl (congrArg some hb17) rfl rfl rfl ?_)
  refine q_cons (q_pass rfl (congrArg some hb17) rfl rfl rfl ?_)
  refine q_cons (q_pass rfl (congrArg some hb17) rfl rfl rfl ?_)
  refine q_cons (q_pass rfl (congrArg some hb17) rfl rfl rfl ?_)
  refine q_cons (q_val rfl rfl rfl (by intro w hw; exact x_pick_f (.bool false) (by exact congrArg Value.bool hb17) rfl w) ?_)
  refine q_cons (q_val rfl rfl rfl (by intro w hw; exact x_assign (.bool false) rfl w) ?_)
  refine q_nil ?_
  intro w27 H28
  refine g_ret' [.bool false] Try.func33 Try.results33 ⟨rfl, trivial⟩ ?_
  have H29 : St W w27 (LkA g s :: blk bk1 (.cells #[.slice x.p x.v.b.length x.c, .bool x.v.sent, .int .i64 (x.v.tm : Int)] 79 (0, 0)) :: blk bx (.cells #[.pointer (some ⟨g, 0, none⟩)] 30 (0, 0)) :: F) := St.shut_ex ⟨(m5, pp6, cc7, L8, E9), hL10, hE11⟩ (St.shut_star (ls := [_, _, _, _, _]) H28)
  have H30 : St W w27 (LkA g s :: blk bx (.cells #[.pointer (some ⟨g, 0, none⟩)] 30 (0, 0)) :: F) := (((H29.move 2 rfl).move 1 rfl).drop 2 rfl)
  exact ⟨congrArg Value.bool (by unfold rs; first | (simp_all; done) | (simp_all; omega)), H30⟩
set_option maxHeartbeats 4000000 in
set_option maxRecDepth 100000 in
theorem these_1 {W w : World} {F : List Atom} (g : Nat) (s : EndV) (hok : endOk s) (H : St W w (LkA g s :: F)) : Calls Try.prog 32 #[.pointer (some ⟨g, 0, none⟩), .func (.func 49) #[] #[]] w (Ret fun v w' => ∃ p c, v = .slice p ((thT ns s).length) c ∧ St W w' (DgsA p c (thT ns s) :: LkA g (thS ns s) :: F)) := by
 obtain ⟨o1, o2, o3, o4, o5, o6, o8⟩ := id hok; have o7 := i64N_0 (Nat.le_trans o4 (by decide))
 refine calls_of_go (n := 37) Try.func32 rfl Try.ntmps32 rfl ?_
 refine g_seq ?_
 refine g_region ?_
 refine r_cons (s_assign (.slice none 0 0) rfl rfl ?_)
 refine r_nil ?_
 refine g_seq ?_
 refine g_region ?_
 refine r_cons (s_assign (.slice none 0 0) rfl rfl ?_)
 refine r_nil ?_
 refine g_seq ?_
 refine g_seq ?_
 have H1 := H.move 0 rfl
 obtain ⟨⟨⟨m2, pp3, cc4, L5, E6⟩, hL7, hE8⟩, H9⟩ := St.open_ex H1
 have H10 := St.open_star H9
 change L5.map BodD.v = s.l at hL7; change mapB E6 = s.held at hE8
 have hl11 := lenOf hL7; have he12 := mapB_len hE8
 have H13 : St W w (blk g (lkC s m2 (.slice pp3 L5.length cc4)) :: Row 79 3 (.slice pp3 L5.length cc4) L5.length (L5.flatMap bodCell) :: byA (L5.map BodD.by) :: MapA m2 (ents (kI .i64) evD E6) :: byA (mby E6) :: F) := H10
 refine g_quiet (fun w' => St W w' (blk g (lkC s m2 (.slice pp3 L5.length cc4)) :: Row 79 3 (.slice pp3 L5.length cc4) L5.length (L5.flatMap bodCell) :: byA (L5.map BodD.by) :: MapA m2 (ents (kI .i64) evD E6) :: byA (mby E6) :: F)) mixed (by kernel_rfl) H13.drew ?_
 refine q_cons (q_val rfl rfl rfl (by intro w hw; exact x_move (.pointer (some ⟨g, 0, none⟩)) rfl w) ?_)
 refine q_cons (q_val rfl rfl rfl (by intro w hw; exact x_nilCheck (.pointer (some ⟨g, 0, none⟩)) rfl ⟨_, rfl⟩ w) ?_)
 refine q_cons (q_val rfl rfl rfl (by intro w hw; exact x_fieldAddr 62 1 2 2 3 rfl fi_62_1 rfl w) ?_)
 refine q_cons (q_val rfl rfl rfl (by intro w hw; exact x_load (.int .i64 (s.slide : Int)) ag_3 rfl (hw.blk_at (i := 0) rfl) rfl) ?_)
 refine q_cons (q_val rfl rfl rfl (by intro w hw; exact x_move (.pointer (some ⟨g, 0, none⟩)) rfl w) ?_)
 refine q_cons (q_val rfl rfl rfl (by intro w hw; exact x_nilCheck (.pointer (some ⟨g, 0, none⟩)) rfl ⟨_, rfl⟩ w) ?_)
 refine q_cons (q_val rfl rfl rfl (by intro w hw; exact x_fieldAddr 62 2 3 3 59 rfl fi_62_2 rfl w) ?_)
 refine q_cons (q_val rfl rfl rfl (by intro w hw; exact x_load (.slice pp3 L5.length cc4) ag_59 rfl (hw.blk_at (i := 0) rfl) rfl) ?_)
 refine q_cons (q_val rfl rfl rfl (by intro w hw; exact x_len L5.length rfl ⟨_, un_59⟩ w) ?_)
 refine q_cons (q_val rfl rfl rfl (by intro w hw; exact x_min2 ((winN s : Nat) : Int) rfl rfl (by unfold winN; omega) w) ?_)
 refine q_cons (q_val rfl rfl rfl (by intro w hw; exact x_move (.int .i64 0) rfl w) ?_)
 refine q_nil ?_
 intro w14 H15
 refine g_block ?_
 have H16 : St W w14 (LkA g s :: F) := St.shut_ex ⟨(m2, pp3, cc4, L5, E6), hL7, hE8⟩ (St.shut_star (ls := [_, _, _, _, _]) H15)
 have H17 := Row.nil_intro H16 41 6
 have H18 := byA_nil H17
 have H19 : St W w14 (Row 41 6 (.slice none 0 0) 0 [] :: byA (([] : List DgD).map DgD.by) :: LkA g s :: F) := (((H18.move 2 rfl).move 1 rfl).move 2 rfl)
 have H20 : St W w14 (Row 41 6 (.slice none 0 0) 0 [] :: byA (([] : List DgD).map DgD.by) :: LkA g (thK ns s 0) :: F) := by rw [thK_0]; exact H19
 refine g_loop_inv (fun (x_ : Nat × (List DgD) × (Option Addr) × Nat) => match x_ with | (k, D, p, c) => [(0, .pointer (some ⟨g, 0, none⟩)), (1, .func (.func 49) #[] #[]), (4, .slice none 0 0), (5, .slice p D.length c), (16, .int .i64 ((winN s : Nat) : Int)), (17, .int .i64 (k : Int))]) (fun (x_ : Nat × (List DgD) × (Option Addr) × Nat) w => match x_ with | (k, D, p, c) => (k ≤ winN s) ∧ (D.map DgD.d = goT ns s k) ∧ St W w (Row 41 6 (.slice p D.length c) D.length (D.flatMap dgdCell) :: byA (D.map DgD.by) :: LkA g (thK ns s k) :: F)) (fun (x_ : Nat × (List DgD) × (Option Addr) × Nat) => match x_ with | (k, D, p, c) => winN s - k) (0, [], none, 0) ?_ ?_ ?_
 ·exact ⟨by first | rfl | exact vint (by omega), by first | rfl | exact vint (by omega), by first | rfl | exact vint (by omega), by first | rfl | exact vint (by omega), by first | rfl | exact vint (by omega), by first | rfl | exact vint (by omega), trivial⟩
 ·exact ⟨(by omega), rfl, H20⟩
 ·rintro ⟨k, D, p, c⟩ ρ21 w22 ⟨hkn, hD, H23⟩ nx24
  change Ends _ _ (upds ρ21 [(0, .pointer (some ⟨g, 0, none⟩)), (1, .func (.func 49) #[] #[]), (4, .slice none 0 0), (5, .slice p D.length c), (16, .int .i64 ((winN s : Nat) : Int)), (17, .int .i64 (k : Int))]) w22
  have hDl := lenOf hD; have hDl2 := goT_len ns s k; have hw1 : winN s ≤ s.l.length := Nat.min_le_right _ _; have hw2 : winN s ≤ 64 := Nat.le_trans (Nat.min_le_left _ _) o6
  refine g_seq ?_
  refine g_region ?_
  by_cases hc25 : (k : Int) < ((winN s : Nat) : Int)
  ·skip
   refine r_cons (s_lss true rfl rfl (dtrue hc25) rfl ?_)
   refine r_nil ?_
   refine g_seq ?_
   refine g_true rfl ?_
   refine g_skip ?_
   refine g_seq ?_
   refine g_block ?_
   refine g_seq ?_
   refine g_region ?_
   refine r_cons (s_move (.int .i64 (k : Int)) rfl rfl ?_)
   refine r_cons (s_assign (.int .i64 (k : Int)) rfl rfl ?_)
   refine r_nil ?_
   refine g_seq ?_
   refine g_region ?_
   refine r_cons (s_move (.func (.func 49) #[] #[]) rfl rfl ?_)
   refine r_cons (s_move (.pointer (some ⟨g, 0, none⟩)) rfl rfl ?_)
   refine r_cons (s_nilCheck (.pointer (some ⟨g, 0, none⟩)) rfl ⟨_, rfl⟩ rfl ?_)
   have H26 := H23.move 2 rfl
   obtain ⟨⟨⟨m27, pp28, cc29, L30, E31⟩, hL32, hE33⟩, H34⟩ := St.open_ex H26
   have H35 := St.open_star H34
   change L30.map BodD.v = (thK ns s k).l at hL32; change mapB E31 = (thK ns s k).held at hE33
   have hl36 := lenOf hL32; have he37 := mapB_len hE33
   have H38 : St W w22 (blk g (lkC (thK ns s k) m27 (.slice pp28 L30.length cc29)) :: Row 79 3 (.slice pp28 L30.length cc29) L30.length (L30.flatMap bodCell) :: byA (L30.map BodD.by) :: MapA m27 (ents (kI .i64) evD E31) :: byA (mby E31) :: Row 41 6 (.slice p D.length c) D.length (D.flatMap dgdCell) :: byA (D.map DgD.by) :: F) := H35
   have hk9 : k < L30.length := by rw [hl36, thK_len]; omega
   obtain ⟨bk39, cur40, hp41, h42, h43, h44, h45, h46, H47⟩ := Row.open2 H38 (i := 1) rfl (by omega)
   refine r_cons (s_fieldAddr 62 2 3 3 59 rfl fi_62_2 rfl rfl ?_)
   refine r_cons (s_load (.slice pp28 L30.length cc29) ag_59 rfl (H47.blk_at (i := 0) rfl) rfl rfl ?_)
   refine r_cons (s_move (.int .i64 (k : Int)) rfl rfl ?_)
   refine r_cons (s_indexAddr bk39 (off := 0) (k : Int) 3 (0 + k * 3) (by exact congrArg (fun z_ => Value.slice z_ L30.length cc29) ((fun (_ : 0 < 1) => hp41) (by omega))) rfl el_59 (by omega) rfl rfl ?_)
   refine r_cons (s_loadAgg [.slice ((L30.getD k default).p) ((L30.getD k default).v.b.length) ((L30.getD k default).c), .bool ((L30.getD k default).v.sent), .int .i64 ((L30.getD k default).v.tm : Int)] 3 ag_79 rfl (H47.blk_at (i := 1) rfl) (by have := elem_size (i := k) (s := 3) (show 0 + L30.length * 3 ≤ cur40.size by have := (show L30.length * 3 ≤ cur40.size by rw [(rfl : L30.length = L30.length), h44]; exact Nat.mul_le_mul_right 3 h42); omega) (by have hh : L30.length = L30.length := (rfl : L30.length = L30.length); omega); omega) (elem_take bodCell_len (by rw [(rfl : L30.length = L30.length)]; exact h45) (by have hh : L30.length = L30.length := (rfl : L30.length = L30.length); omega) default) rfl ?_)
   refine r_cons (s_callv [] [.agg #[.slice ((L30.getD k default).p) ((L30.getD k default).v.b.length) ((L30.getD k default).c), .bool ((L30.getD k default).v.sent), .int .i64 ((L30.getD k default).v.tm : Int)]] rfl pl_49 rfl rfl (Out_1 (L30.getD k default) H47) ?_)
   rintro _ w48 ⟨rfl, H49⟩
   refine r_nil ?_
   by_cases hb50 : (ns (L30.getD k default).v) = true
   ·skip
    refine g_true (congrArg Value.bool hb50) ?_
    refine g_region ?_
    refine r_cons (s_move (.slice p D.length c) rfl rfl ?_)
    refine r_cons (s_move (.pointer (some ⟨g, 0, none⟩)) rfl rfl ?_)
    refine r_cons (s_move (.int .i64 (k : Int)) rfl rfl ?_)
    have H51 := Row.shut2 (p := pp28) (n := L30.length) (c := cc29) (size := 3) (xs := L30.flatMap bodCell) H49 (i := 1) rfl hp41 h42 h43 h44 (by have hh : (cur40.toList.drop 0).take (L30.length * 3) = L30.flatMap bodCell := (by rw [(rfl : L30.length = L30.length)]; exact h45); have hk : L30.length = L30.length := (rfl : L30.length = L30.length); rw [hk] at hh; exact hh) (fun x_ hx_ => by obtain ⟨a_, _, ha_⟩ := List.mem_flatMap.1 hx_; exact one_bod a_ x_ ha_)
    have H52 : St W w48 (LkA g (thK ns s k) :: Row 41 6 (.slice p D.length c) D.length (D.flatMap dgdCell) :: byA (D.map DgD.by) :: F) := St.shut_ex ⟨(m27, pp28, cc29, L30, E31), hL32, hE33⟩ (St.shut_star (ls := [_, _, _, _, _]) H51)
    refine r_cons (s_call [.pointer (some ⟨g, 0, none⟩), .int .i64 (k : Int)] pl_53 rfl rfl (Lk_data g (thK ns s k) (endOk_thK hok k) k (by rw [thK_len]; unfold winN at *; omega) (by rw [thK_at]; exact Nat.le_trans (o2 k (by unfold winN at *; omega)).2 (by decide)) (i := 0) rfl H52) ?_)
    rintro _ w55 ⟨pp53, cc54, rfl, H56⟩
    refine r_cons (s_buildSlice H56 6 1 (cs := #[.int .i64 ((dgOf (thK ns s k) k ((thK ns s k).l.getD k default).b).frm.v), .int .i64 ((dgOf (thK ns s k) k ((thK ns s k).l.getD k default).b).to_.v), .int .i64 ((dgOf (thK ns s k) k ((thK ns s k).l.getD k default).b).kind.v), .int .i64 ((dgOf (thK ns s k) k ((thK ns s k).l.getD k default).b).seq.v), .int .i64 ((dgOf (thK ns s k) k ((thK ns s k).l.getD k default).b).ack.v), .slice pp53 ((dgOf (thK ns s k) k ((thK ns s k).l.getD k default).b).body.length) cc54]) #[.int .i64 0, .int .i64 0, .int .i64 0, .int .i64 0, .int .i64 0, .slice none 0 0] el_34 ze_41 (by decide) (by decide) (by kernel_rfl) rfl ?_); intro bk57 w58 H59
    refine r_cons (s_append H59 3 rfl rfl rfl (rd_blk (H59.blk_at (i := 0) rfl) rfl (nbl rfl) (by simp [Value.oneCell'])) ap_34 (by decide) (by unfold maxLen; omega) (by omega) (n' := D.length + 1) (xs' := D.flatMap dgdCell ++ ([.int .i64 ((dgOf (thK ns s k) k ((thK ns s k).l.getD k default).b).frm.v), .int .i64 ((dgOf (thK ns s k) k ((thK ns s k).l.getD k default).b).to_.v), .int .i64 ((dgOf (thK ns s k) k ((thK ns s k).l.getD k default).b).kind.v), .int .i64 ((dgOf (thK ns s k) k ((thK ns s k).l.getD k default).b).seq.v), .int .i64 ((dgOf (thK ns s k) k ((thK ns s k).l.getD k default).b).ack.v), .slice pp53 ((dgOf (thK ns s k) k ((thK ns s k).l.getD k default).b).body.length) cc54] : List Value)) (by omega) (by first | rfl | simp) rfl ?_); intro vv60 w61 H62 hn63
    obtain ⟨pp64, cc65, rfl⟩ := Row.slice H62 (i := 3) rfl
    refine r_cons (s_assign (.slice pp64 (D.length + 1) cc65) rfl rfl ?_)
    refine r_nil ?_
    refine g_inBlock ?_
    refine g_region ?_
    refine r_cons (s_add ((k : Int) + 1) rfl rfl (wi64 (by omega)) rfl ?_)
    refine r_cons (s_move (.int .i64 ((k : Int) + 1)) rfl rfl ?_)
    refine r_nil ?_
    have hq66 : ns (s.l.getD k default) = true := by rw [← thK_at ns s k, ← bodAt hL32 k]; exact hb50
    have H67 : St W w61 (blk bk57 (.cells #[.int .i64 ((dgOf (thK ns s k) k ((thK ns s k).l.getD k default).b).frm.v), .int .i64 ((dgOf (thK ns s k) k ((thK ns s k).l.getD k default).b).to_.v), .int .i64 ((dgOf (thK ns s k) k ((thK ns s k).l.getD k default).b).kind.v), .int .i64 ((dgOf (thK ns s k) k ((thK ns s k).l.getD k default).b).seq.v), .int .i64 ((dgOf (thK ns s k) k ((thK ns s k).l.getD k default).b).ack.v), .slice pp53 ((dgOf (thK ns s k) k ((thK ns s k).l.getD k default).b).body.length) cc54] 41 (0, 0)) :: Im 1 (.slice pp53 ((dgOf (thK ns s k) k ((thK ns s k).l.getD k default).b).body.length) cc54) (((dgOf (thK ns s k) k ((thK ns s k).l.getD k default).b).body).length) (((dgOf (thK ns s k) k ((thK ns s k).l.getD k default).b).body).flatMap u8c) :: LkA g (thK ns s (k + 1)) :: Row 41 6 (.slice pp64 (D.length + 1) cc65) (D.length + 1) (D.flatMap dgdCell ++ ([.int .i64 ((dgOf (thK ns s k) k ((thK ns s k).l.getD k default).b).frm.v), .int .i64 ((dgOf (thK ns s k) k ((thK ns s k).l.getD k default).b).to_.v), .int .i64 ((dgOf (thK ns s k) k ((thK ns s k).l.getD k default).b).kind.v), .int .i64 ((dgOf (thK ns s k) k ((thK ns s k).l.getD k default).b).seq.v), .int .i64 ((dgOf (thK ns s k) k ((thK ns s k).l.getD k default).b).ack.v), .slice pp53 ((dgOf (thK ns s k) k ((thK ns s k).l.getD k default).b).body.length) cc54] : List Value)) :: byA (D.map DgD.by) :: F) := by rw [← thK_yes hq66]; exact H62
    have H68 : St W w61 (blk bk57 (.cells #[.int .i64 ((dgOf (thK ns s k) k ((thK ns s k).l.getD k default).b).frm.v), .int .i64 ((dgOf (thK ns s k) k ((thK ns s k).l.getD k default).b).to_.v), .int .i64 ((dgOf (thK ns s k) k ((thK ns s k).l.getD k default).b).kind.v), .int .i64 ((dgOf (thK ns s k) k ((thK ns s k).l.getD k default).b).seq.v), .int .i64 ((dgOf (thK ns s k) k ((thK ns s k).l.getD k default).b).ack.v), .slice pp53 ((dgOf (thK ns s k) k ((thK ns s k).l.getD k default).b).body.length) cc54] 41 (0, 0)) :: Im 1 (.slice pp53 ((dgOf (thK ns s k) k ((thK ns s k).l.getD k default).b).body.length) cc54) (((dgOf (thK ns s k) k ((thK ns s k).l.getD k default).b).body).length) (((dgOf (thK ns s k) k ((thK ns s k).l.getD k default).b).body).flatMap u8c) :: LkA g (thK ns s (k + 1)) :: Row 41 6 (.slice pp64 ((D ++ [(⟨(dgOf (thK ns s k) k ((thK ns s k).l.getD k default).b), pp53, cc54⟩ : DgD)]).length) cc65) ((D ++ [(⟨(dgOf (thK ns s k) k ((thK ns s k).l.getD k default).b), pp53, cc54⟩ : DgD)]).length) ((D ++ [(⟨(dgOf (thK ns s k) k ((thK ns s k).l.getD k default).b), pp53, cc54⟩ : DgD)]).flatMap dgdCell) :: byA (D.map DgD.by) :: F) := by rw [flat_app, flat_one, List.length_append]; exact H67
    have H69 := byA_add (x := (⟨(dgOf (thK ns s k) k ((thK ns s k).l.getD k default).b), pp53, cc54⟩ : DgD).by) H68 (i := 4) (j := 1) rfl rfl snoc_dg
    have H70 : St W w61 (Row 41 6 (.slice pp64 ((D ++ [(⟨(dgOf (thK ns s k) k ((thK ns s k).l.getD k default).b), pp53, cc54⟩ : DgD)]).length) cc65) ((D ++ [(⟨(dgOf (thK ns s k) k ((thK ns s k).l.getD k default).b), pp53, cc54⟩ : DgD)]).length) ((D ++ [(⟨(dgOf (thK ns s k) k ((thK ns s k).l.getD k default).b), pp53, cc54⟩ : DgD)]).flatMap dgdCell) :: byA ((D ++ [(⟨(dgOf (thK ns s k) k ((thK ns s k).l.getD k default).b), pp53, cc54⟩ : DgD)]).map DgD.by) :: LkA g (thK ns s (k + 1)) :: F) := ((((((H69.move 3 rfl).move 1 rfl).move 4 rfl).drop 3 rfl).drop 3 rfl).drop 3 rfl)
    exact nx24 (k + 1, (D ++ [(⟨(dgOf (thK ns s k) k ((thK ns s k).l.getD k default).b), pp53, cc54⟩ : DgD)]), pp64, cc65) _ _ ⟨(by omega), (by rw [List.map_append, hD, goT_yes hq66]; show _ ++ [dgOf (thK ns s k) k ((thK ns s k).l.getD k default).b] = _; rw [thK_at]; rfl), H70⟩ (by first | (dsimp only; omega) | omega) ⟨by first | rfl | exact vint (by omega), by first | rfl | exact vint (by omega), by first | rfl | exact vint (by omega), by first | rfl | (show Value.slice _ _ _ = _; rw [List.length_append]; rfl), by first | rfl | exact vint (by omega), by first | rfl | exact vint (by omega), trivial⟩
   ·have hb50 := eq_false_of_ne_true hb50
    refine g_false (congrArg Value.bool hb50) ?_
    refine g_skip ?_
    refine g_inBlock ?_
    refine g_region ?_
    refine r_cons (s_add ((k : Int) + 1) rfl rfl (wi64 (by omega)) rfl ?_)
    refine r_cons (s_move (.int .i64 ((k : Int) + 1)) rfl rfl ?_)
    refine r_nil ?_
    have H71 := Row.shut2 (p := pp28) (n := L30.length) (c := cc29) (size := 3) (xs := L30.flatMap bodCell) H49 (i := 1) rfl hp41 h42 h43 h44 (by have hh : (cur40.toList.drop 0).take (L30.length * 3) = L30.flatMap bodCell := (by rw [(rfl : L30.length = L30.length)]; exact h45); have hk : L30.length = L30.length := (rfl : L30.length = L30.length); rw [hk] at hh; exact hh) (fun x_ hx_ => by obtain ⟨a_, _, ha_⟩ := List.mem_flatMap.1 hx_; exact one_bod a_ x_ ha_)
    have H72 : St W w48 (LkA g (thK ns s k) :: Row 41 6 (.slice p D.length c) D.length (D.flatMap dgdCell) :: byA (D.map DgD.by) :: F) := St.shut_ex ⟨(m27, pp28, cc29, L30, E31), hL32, hE33⟩ (St.shut_star (ls := [_, _, _, _, _]) H71)
    have hq73 : ns (s.l.getD k default) = false := by rw [← thK_at ns s k, ← bodAt hL32 k]; exact hb50
    have H74 : St W w48 (LkA g (thK ns s (k + 1)) :: Row 41 6 (.slice p D.length c) D.length (D.flatMap dgdCell) :: byA (D.map DgD.by) :: F) := by rw [← thK_no hq73]; exact H72
    have H75 : St W w48 (Row 41 6 (.slice p D.length c) D.length (D.flatMap dgdCell) :: byA (D.map DgD.by) :: LkA g (thK ns s (k + 1)) :: F) := ((H74.move 2 rfl).move 2 rfl)
    exact nx24 (k + 1, D, p, c) _ _ ⟨(by omega), (by rw [goT_no hq73]; exact hD), H75⟩ (by first | (dsimp only; omega) | omega) ⟨by first | rfl | exact vint (by omega), by first | rfl | exact vint (by omega), by first | rfl | exact vint (by omega), by first | rfl | exact vint (by omega), by first | rfl | exact vint (by omega), by first | rfl | exact vint (by omega), trivial⟩
  ·skip
   refine r_cons (s_lss false rfl rfl (dfalse hc25) rfl ?_)
   refine r_nil ?_
   refine g_seq ?_
   refine g_false rfl ?_
   refine g_exit (by rfl) ?_
   refine g_seq ?_
   refine g_region ?_
   refine r_cons (s_move (.slice p D.length c) rfl rfl ?_)
   refine r_cons (s_assign (.slice p D.length c) rfl rfl ?_)
   refine r_nil ?_
   refine g_ret' [.slice p D.length c] Try.func32 Try.results32 ⟨rfl, trivial⟩ ?_
   have hk0 : k = winN s := by omega
   have H76 : St W w22 (Row 41 6 (.slice p ((thT ns s).length) c) ((thT ns s).length) (D.flatMap dgdCell) :: byA (D.map DgD.by) :: LkA g (thK ns s k) :: F) := by rw [show (thT ns s).length = D.length from (lenOf (show D.map DgD.d = thT ns s from by rw [hD, hk0]; rfl)).symm]; exact H23
   have H77 : St W w22 (DgsA p c (thT ns s) :: LkA g (thK ns s k) :: F) := St.shut_ex ⟨D, (show D.map DgD.d = thT ns s from by rw [hD, hk0]; rfl)⟩ (St.shut_star (ls := [_, _]) H76)
   have H78 : St W w22 (DgsA p c (thT ns s) :: LkA g (thS ns s) :: F) := by rw [show thS ns s = thK ns s k from by rw [hk0]; rfl]; exact H77
   have H79 : St W w22 (DgsA p c (thT ns s) :: LkA g (thS ns s) :: F) := ((H78.move 1 rfl).move 1 rfl)
   exact ⟨_, _, by rw [hDl, hk0]; rfl, H79⟩
set_option maxHeartbeats 4000000 in
set_option maxRecDepth 100000 in
theorem these_2 {W w : World} {F : List Atom} (g bx : Nat) (s : EndV) (hok : endOk s) (H : St W w (LkA g s :: blk bx (.cells #[.pointer (some ⟨g, 0, none⟩)] 30 (0, 0)) :: F)) : Calls Try.prog 32 #[.pointer (some ⟨g, 0, none⟩), .func (.func 33) #[] #[.pointer (some ⟨bx, 0, none⟩)]] w (Ret fun v w' => ∃ p c, v = .slice p ((thT (rs s.clock) s).length) c ∧ St W w' (DgsA p c (thT (rs s.clock) s) :: LkA g (thS (rs s.clock) s) :: blk bx (.cells #[.pointer (some ⟨g, 0, none⟩)] 30 (0, 0)) :: F)) := by
 obtain ⟨o1, o2, o3, o4, o5, o6, o8⟩ := id hok; have o7 := i64N_0 (Nat.le_trans o4 (by decide))
 refine calls_of_go (n := 37) Try.func32 rfl Try.ntmps32 rfl ?_
 refine g_seq ?_
 refine g_region ?_
 refine r_cons (s_assign (.slice none 0 0) rfl rfl ?_)
 refine r_nil ?_
 refine g_seq ?_
 refine g_region ?_
 refine r_cons (s_assign (.slice none 0 0) rfl rfl ?_)
 refine r_nil ?_
 refine g_seq ?_
 refine g_seq ?_
 have H1 := H.move 0 rfl
 obtain ⟨⟨⟨m2, pp3, cc4, L5, E6⟩, hL7, hE8⟩, H9⟩ := St.open_ex H1
 have H10 := St.open_star H9
 change L5.map BodD.v = s.l at hL7; change mapB E6 = s.held at hE8
 have hl11 := lenOf hL7; have he12 := mapB_len hE8
 have H13 : St W w (blk g (lkC s m2 (.slice pp3 L5.length cc4)) :: Row 79 3 (.slice pp3 L5.length cc4) L5.length (L5.flatMap bodCell) :: byA (L5.map BodD.by) :: MapA m2 (ents (kI .i64) evD E6) :: byA (mby E6) :: blk bx (.cells #[.pointer (some ⟨g, 0, none⟩)] 30 (0, 0)) :: F) := H10
 refine g_quiet (fun w' => St W w' (blk g (lkC s m2 (.slice pp3 L5.length cc4)) :: Row 79 3 (.slice pp3 L5.length cc4) L5.length (L5.flatMap bodCell) :: byA (L5.map BodD.by) :: MapA m2 (ents (kI .i64) evD E6) :: byA (mby E6) :: blk bx (.cells #[.pointer (some ⟨g, 0, none⟩)] 30 (0, 0)) :: F)) mixed (by kernel_rfl) H13.drew ?_
 refine q_cons (q_val rfl rfl rfl (by intro w hw; exact x_move (.pointer (some ⟨g, 0, none⟩)) rfl w) ?_)
 refine q_cons (q_val rfl rfl rfl (by intro w hw; exact x_nilCheck (.pointer (some ⟨g, 0, none⟩)) rfl ⟨_, rfl⟩ w) ?_)
 refine q_cons (q_val rfl rfl rfl (by intro w hw; exact x_fieldAddr 62 1 2 2 3 rfl fi_62_1 rfl w) ?_)
 refine q_cons (q_val rfl rfl rfl (by intro w hw; exact x_load (.int .i64 (s.slide : Int)) ag_3 rfl (hw.blk_at (i := 0) rfl) rfl) ?_)
 refine q_cons (q_val rfl rfl rfl (by intro w hw; exact x_move (.pointer (some ⟨g, 0, none⟩)) rfl w) ?_)
 refine q_cons (q_val rfl rfl rfl (by intro w hw; exact x_nilCheck (.pointer (some ⟨g, 0, none⟩)) rfl ⟨_, rfl⟩ w) ?_)
 refine q_cons (q_val rfl rfl rfl (by intro w hw; exact x_fieldAddr 62 2 3 3 59 rfl fi_62_2 rfl w) ?_)
 refine q_cons (q_val rfl rfl rfl (by intro w hw; exact x_load (.slice pp3 L5.length cc4) ag_59 rfl (hw.blk_at (i := 0) rfl) rfl) ?_)
 refine q_cons (q_val rfl rfl rfl (by intro w hw; exact x_len L5.length rfl ⟨_, un_59⟩ w) ?_)
 refine q_cons (q_val rfl rfl rfl (by intro w hw; exact x_min2 ((winN s : Nat) : Int) rfl rfl (by unfold winN; omega) w) ?_)
 refine q_cons (q_val rfl rfl rfl (by intro w hw; exact x_move (.int .i64 0) rfl w) ?_)
 refine q_nil ?_
 intro w14 H15
 refine g_block ?_
 have H16 : St W w14 (LkA g s :: blk bx (.cells #[.pointer (some ⟨g, 0, none⟩)] 30 (0, 0)) :: F) := St.shut_ex ⟨(m2, pp3, cc4, L5, E6), hL7, hE8⟩ (St.shut_star (ls := [_, _, _, _, _]) H15)
 have H17 := Row.nil_intro H16 41 6
 have H18 := byA_nil H17
 have H19 : St W w14 (Row 41 6 (.slice none 0 0) 0 [] :: byA (([] : List DgD).map DgD.by) :: LkA g s :: blk bx (.cells #[.pointer (some ⟨g, 0, none⟩)] 30 (0, 0)) :: F) := ((((H18.move 3 rfl).move 3 rfl).move 2 rfl).move 3 rfl)
 have H20 : St W w14 (Row 41 6 (.slice none 0 0) 0 [] :: byA (([] : List DgD).map DgD.by) :: LkA g (thK (rs s.clock) s 0) :: blk bx (.cells #[.pointer (some ⟨g, 0, none⟩)] 30 (0, 0)) :: F) := by rw [thK_0]; exact H19
 refine g_loop_inv (fun (x_ : Nat × (List DgD) × (Option Addr) × Nat) => match x_ with | (k, D, p, c) => [(0, .pointer (some ⟨g, 0, none⟩)), (1, .func (.func 33) #[] #[.pointer (some ⟨bx, 0, none⟩)]), (4, .slice none 0 0), (5, .slice p D.length c), (16, .int .i64 ((winN s : Nat) : Int)), (17, .int .i64 (k : Int))]) (fun (x_ : Nat × (List DgD) × (Option Addr) × Nat) w => match x_ with | (k, D, p, c) => (k ≤ winN s) ∧ (D.map DgD.d = goT (rs s.clock) s k) ∧ St W w (Row 41 6 (.slice p D.length c) D.length (D.flatMap dgdCell) :: byA (D.map DgD.by) :: LkA g (thK (rs s.clock) s k) :: blk bx (.cells #[.pointer (some ⟨g, 0, none⟩)] 30 (0, 0)) :: F)) (fun (x_ : Nat × (List DgD) × (Option Addr) × Nat) => match x_ with | (k, D, p, c) => winN s - k) (0, [], none, 0) ?_ ?_ ?_
 ·exact ⟨by first | rfl | exact vint (by omega), by first | rfl | exact vint (by omega), by first | rfl | exact vint (by omega), by first | rfl | exact vint (by omega), by first | rfl | exact vint (by omega), by first | rfl | exact vint (by omega), trivial⟩
 ·exact ⟨(by omega), rfl, H20⟩
 ·rintro ⟨k, D, p, c⟩ ρ21 w22 ⟨hkn, hD, H23⟩ nx24
  change Ends _ _ (upds ρ21 [(0, .pointer (some ⟨g, 0, none⟩)), (1, .func (.func 33) #[] #[.pointer (some ⟨bx, 0, none⟩)]), (4, .slice none 0 0), (5, .slice p D.length c), (16, .int .i64 ((winN s : Nat) : Int)), (17, .int .i64 (k : Int))]) w22
  have hDl := lenOf hD; have hDl2 := goT_len (rs s.clock) s k; have hw1 : winN s ≤ s.l.length := Nat.min_le_right _ _; have hw2 : winN s ≤ 64 := Nat.le_trans (Nat.min_le_left _ _) o6
  refine g_seq ?_
  refine g_region ?_
  by_cases hc25 : (k : Int) < ((winN s : Nat) : Int)
  ·skip
   refine r_cons (s_lss true rfl rfl (dtrue hc25) rfl ?_)
   refine r_nil ?_
   refine g_seq ?_
   refine g_true rfl ?_
   refine g_skip ?_
   refine g_seq ?_
   refine g_block ?_
   refine g_seq ?_
   refine g_region ?_
   refine r_cons (s_move (.int .i64 (k : Int)) rfl rfl ?_)
   refine r_cons (s_assign (.int .i64 (k : Int)) rfl rfl ?_)
   refine r_nil ?_
   refine g_seq ?_
   refine g_region ?_
   refine r_cons (s_move (.func (.func 33) #[] #[.pointer (some ⟨bx, 0, none⟩)]) rfl rfl ?_)
   refine r_cons (s_move (.pointer (some ⟨g, 0, none⟩)) rfl rfl ?_)
   refine r_cons (s_nilCheck (.pointer (some ⟨g, 0, none⟩)) rfl ⟨_, rfl⟩ rfl ?_)
   have H26 := H23.move 2 rfl
   obtain ⟨⟨⟨m27, pp28, cc29, L30, E31⟩, hL32, hE33⟩, H34⟩ := St.open_ex H26
   have H35 := St.open_star H34
   change L30.map BodD.v = (thK (rs s.clock) s k).l at hL32; change mapB E31 = (thK (rs s.clock) s k).held at hE33
   have hl36 := lenOf hL32; have he37 := mapB_len hE33
   have H38 : St W w22 (blk g (lkC (thK (rs s.clock) s k) m27 (.slice pp28 L30.length cc29)) :: Row 79 3 (.slice pp28 L30.length cc29) L30.length (L30.flatMap bodCell) :: byA (L30.map BodD.by) :: MapA m27 (ents (kI .i64) evD E31) :: byA (mby E31) :: Row 41 6 (.slice p D.length c) D.length (D.flatMap dgdCell) :: byA (D.map DgD.by) :: blk bx (.cells #[.pointer (some ⟨g, 0, none⟩)] 30 (0, 0)) :: F) := H35
   have hk9 : k < L30.length := by rw [hl36, thK_len]; omega
   obtain ⟨bk39, cur40, hp41, h42, h43, h44, h45, h46, H47⟩ := Row.open2 H38 (i := 1) rfl (by omega)
   refine r_cons (s_fieldAddr 62 2 3 3 59 rfl fi_62_2 rfl rfl ?_)
   refine r_cons (s_load (.slice pp28 L30.length cc29) ag_59 rfl (H47.blk_at (i := 0) rfl) rfl rfl ?_)
   refine r_cons (s_move (.int .i64 (k : Int)) rfl rfl ?_)
   refine r_cons (s_indexAddr bk39 (off := 0) (k : Int) 3 (0 + k * 3) (by exact congrArg (fun z_ => Value.slice z_ L30.length cc29) ((fun (_ : 0 < 1) => hp41) (by omega))) rfl el_59 (by omega) rfl rfl ?_)
   refine r_cons (s_loadAgg [.slice ((L30.getD k default).p) ((L30.getD k default).v.b.length) ((L30.getD k default).c), .bool ((L30.getD k default).v.sent), .int .i64 ((L30.getD k default).v.tm : Int)] 3 ag_79 rfl (H47.blk_at (i := 1) rfl) (by have := elem_size (i := k) (s := 3) (show 0 + L30.length * 3 ≤ cur40.size by have := (show L30.length * 3 ≤ cur40.size by rw [(rfl : L30.length = L30.length), h44]; exact Nat.mul_le_mul_right 3 h42); omega) (by have hh : L30.length = L30.length := (rfl : L30.length = L30.length); omega); omega) (elem_take bodCell_len (by rw [(rfl : L30.length = L30.length)]; exact h45) (by have hh : L30.length = L30.length := (rfl : L30.length = L30.length); omega) default) rfl ?_)
   have H48 := Row.shut2 (p := pp28) (n := L30.length) (c := cc29) (size := 3) (xs := L30.flatMap bodCell) H47 (i := 1) rfl hp41 h42 h43 h44 (by have hh : (cur40.toList.drop 0).take (L30.length * 3) = L30.flatMap bodCell := (by rw [(rfl : L30.length = L30.length)]; exact h45); have hk : L30.length = L30.length := (rfl : L30.length = L30.length); rw [hk] at hh; exact hh) (fun x_ hx_ => by obtain ⟨a_, _, ha_⟩ := List.mem_flatMap.1 hx_; exact one_bod a_ x_ ha_)
   have H49 : St W w22 (LkA g (thK (rs s.clock) s k) :: Row 41 6 (.slice p D.length c) D.length (D.flatMap dgdCell) :: byA (D.map DgD.by) :: blk bx (.cells #[.pointer (some ⟨g, 0, none⟩)] 30 (0, 0)) :: F) := St.shut_ex ⟨(m27, pp28, cc29, L30, E31), hL32, hE33⟩ (St.shut_star (ls := [_, _, _, _, _]) H48)
   have H50 : St W w22 (LkA g (thK (rs s.clock) s k) :: blk bx (.cells #[.pointer (some ⟨g, 0, none⟩)] 30 (0, 0)) :: Row 41 6 (.slice p D.length c) D.length (D.flatMap dgdCell) :: byA (D.map DgD.by) :: F) := ((H49.move 3 rfl).move 1 rfl)
   refine r_cons (s_callv [.pointer (some ⟨bx, 0, none⟩)] [.agg #[.slice ((L30.getD k default).p) ((L30.getD k default).v.b.length) ((L30.getD k default).c), .bool ((L30.getD k default).v.sent), .int .i64 ((L30.getD k default).v.tm : Int)], .pointer (some ⟨bx, 0, none⟩)] rfl pl_33 rfl rfl (Tick_1 g bx (thK (rs s.clock) s k) (endOk_thK hok k) (L30.getD k default) (by rw [bodAt hL32 k]; exact ((endOk_thK (q := (rs s.clock)) hok k).2.1 k (by rw [thK_len]; unfold winN at *; omega)).1) H50) ?_)
   rintro _ w51 ⟨rfl, H52⟩
   refine r_nil ?_
   by_cases hb53 : (rs (thK (rs s.clock) s k).clock (L30.getD k default).v) = true
   ·skip
    refine g_true (congrArg Value.bool hb53) ?_
    refine g_region ?_
    refine r_cons (s_move (.slice p D.length c) rfl rfl ?_)
    refine r_cons (s_move (.pointer (some ⟨g, 0, none⟩)) rfl rfl ?_)
    refine r_cons (s_move (.int .i64 (k : Int)) rfl rfl ?_)
    refine r_cons (s_call [.pointer (some ⟨g, 0, none⟩), .int .i64 (k : Int)] pl_53 rfl rfl (Lk_data g (thK (rs s.clock) s k) (endOk_thK hok k) k (by rw [thK_len]; unfold winN at *; omega) (by rw [thK_at]; exact Nat.le_trans (o2 k (by unfold winN at *; omega)).2 (by decide)) (i := 0) rfl H52) ?_)
    rintro _ w56 ⟨pp54, cc55, rfl, H57⟩
    refine r_cons (s_buildSlice H57 6 1 (cs := #[.int .i64 ((dgOf (thK (rs s.clock) s k) k ((thK (rs s.clock) s k).l.getD k default).b).frm.v), .int .i64 ((dgOf (thK (rs s.clock) s k) k ((thK (rs s.clock) s k).l.getD k default).b).to_.v), .int .i64 ((dgOf (thK (rs s.clock) s k) k ((thK (rs s.clock) s k).l.getD k default).b).kind.v), .int .i64 ((dgOf (thK (rs s.clock) s k) k ((thK (rs s.clock) s k).l.getD k default).b).seq.v), .int .i64 ((dgOf (thK (rs s.clock) s k) k ((thK (rs s.clock) s k).l.getD k default).b).ack.v), .slice pp54 ((dgOf (thK (rs s.clock) s k) k ((thK (rs s.clock) s k).l.getD k default).b).body.length) cc55]) #[.int .i64 0, .int .i64 0, .int .i64 0, .int .i64 0, .int .i64 0, .slice none 0 0] el_34 ze_41 (by decide) (by decide) (by kernel_rfl) rfl ?_); intro bk58 w59 H60
    refine r_cons (s_append H60 4 rfl rfl rfl (rd_blk (H60.blk_at (i := 0) rfl) rfl (nbl rfl) (by simp [Value.oneCell'])) ap_34 (by decide) (by unfold maxLen; omega) (by omega) (n' := D.length + 1) (xs' := D.flatMap dgdCell ++ ([.int .i64 ((dgOf (thK (rs s.clock) s k) k ((thK (rs s.clock) s k).l.getD k default).b).frm.v), .int .i64 ((dgOf (thK (rs s.clock) s k) k ((thK (rs s.clock) s k).l.getD k default).b).to_.v), .int .i64 ((dgOf (thK (rs s.clock) s k) k ((thK (rs s.clock) s k).l.getD k default).b).kind.v), .int .i64 ((dgOf (thK (rs s.clock) s k) k ((thK (rs s.clock) s k).l.getD k default).b).seq.v), .int .i64 ((dgOf (thK (rs s.clock) s k) k ((thK (rs s.clock) s k).l.getD k default).b).ack.v), .slice pp54 ((dgOf (thK (rs s.clock) s k) k ((thK (rs s.clock) s k).l.getD k default).b).body.length) cc55] : List Value)) (by omega) (by first | rfl | simp) rfl ?_); intro vv61 w62 H63 hn64
    obtain ⟨pp65, cc66, rfl⟩ := Row.slice H63 (i := 4) rfl
    refine r_cons (s_assign (.slice pp65 (D.length + 1) cc66) rfl rfl ?_)
    refine r_nil ?_
    refine g_inBlock ?_
    refine g_region ?_
    refine r_cons (s_add ((k : Int) + 1) rfl rfl (wi64 (by omega)) rfl ?_)
    refine r_cons (s_move (.int .i64 ((k : Int) + 1)) rfl rfl ?_)
    refine r_nil ?_
    have hq67 : (rs s.clock) (s.l.getD k default) = true := by rw [← thK_at (rs s.clock) s k, ← bodAt hL32 k]; exact hb53
    have H68 : St W w62 (blk bk58 (.cells #[.int .i64 ((dgOf (thK (rs s.clock) s k) k ((thK (rs s.clock) s k).l.getD k default).b).frm.v), .int .i64 ((dgOf (thK (rs s.clock) s k) k ((thK (rs s.clock) s k).l.getD k default).b).to_.v), .int .i64 ((dgOf (thK (rs s.clock) s k) k ((thK (rs s.clock) s k).l.getD k default).b).kind.v), .int .i64 ((dgOf (thK (rs s.clock) s k) k ((thK (rs s.clock) s k).l.getD k default).b).seq.v), .int .i64 ((dgOf (thK (rs s.clock) s k) k ((thK (rs s.clock) s k).l.getD k default).b).ack.v), .slice pp54 ((dgOf (thK (rs s.clock) s k) k ((thK (rs s.clock) s k).l.getD k default).b).body.length) cc55] 41 (0, 0)) :: Im 1 (.slice pp54 ((dgOf (thK (rs s.clock) s k) k ((thK (rs s.clock) s k).l.getD k default).b).body.length) cc55) (((dgOf (thK (rs s.clock) s k) k ((thK (rs s.clock) s k).l.getD k default).b).body).length) (((dgOf (thK (rs s.clock) s k) k ((thK (rs s.clock) s k).l.getD k default).b).body).flatMap u8c) :: LkA g (thK (rs s.clock) s (k + 1)) :: blk bx (.cells #[.pointer (some ⟨g, 0, none⟩)] 30 (0, 0)) :: Row 41 6 (.slice pp65 (D.length + 1) cc66) (D.length + 1) (D.flatMap dgdCell ++ ([.int .i64 ((dgOf (thK (rs s.clock) s k) k ((thK (rs s.clock) s k).l.getD k default).b).frm.v), .int .i64 ((dgOf (thK (rs s.clock) s k) k ((thK (rs s.clock) s k).l.getD k default).b).to_.v), .int .i64 ((dgOf (thK (rs s.clock) s k) k ((thK (rs s.clock) s k).l.getD k default).b).kind.v), .int .i64 ((dgOf (thK (rs s.clock) s k) k ((thK (rs s.clock) s k).l.getD k default).b).seq.v), .int .i64 ((dgOf (thK (rs s.clock) s k) k ((thK (rs s.clock) s k).l.getD k default).b).ack.v), .slice pp54 ((dgOf (thK (rs s.clock) s k) k ((thK (rs s.clock) s k).l.getD k default).b).body.length) cc55] : List Value)) :: byA (D.map DgD.by) :: F) := by rw [← thK_yes hq67]; exact H63
    have H69 : St W w62 (blk bk58 (.cells #[.int .i64 ((dgOf (thK (rs s.clock) s k) k ((thK (rs s.clock) s k).l.getD k default).b).frm.v), .int .i64 ((dgOf (thK (rs s.clock) s k) k ((thK (rs s.clock) s k).l.getD k default).b).to_.v), .int .i64 ((dgOf (thK (rs s.clock) s k) k ((thK (rs s.clock) s k).l.getD k default).b).kind.v), .int .i64 ((dgOf (thK (rs s.clock) s k) k ((thK (rs s.clock) s k).l.getD k default).b).seq.v), .int .i64 ((dgOf (thK (rs s.clock) s k) k ((thK (rs s.clock) s k).l.getD k default).b).ack.v), .slice pp54 ((dgOf (thK (rs s.clock) s k) k ((thK (rs s.clock) s k).l.getD k default).b).body.length) cc55] 41 (0, 0)) :: Im 1 (.slice pp54 ((dgOf (thK (rs s.clock) s k) k ((thK (rs s.clock) s k).l.getD k default).b).body.length) cc55) (((dgOf (thK (rs s.clock) s k) k ((thK (rs s.clock) s k).l.getD k default).b).body).length) (((dgOf (thK (rs s.clock) s k) k ((thK (rs s.clock) s k).l.getD k default).b).body).flatMap u8c) :: LkA g (thK (rs s.clock) s (k + 1)) :: blk bx (.cells #[.pointer (some ⟨g, 0, none⟩)] 30 (0, 0)) :: Row 41 6 (.slice pp65 ((D ++ [(⟨(dgOf (thK (rs s.clock) s k) k ((thK (rs s.clock) s k).l.getD k default).b), pp54, cc55⟩ : DgD)]).length) cc66) ((D ++ [(⟨(dgOf (thK (rs s.clock) s k) k ((thK (rs s.clock) s k).l.getD k default).b), pp54, cc55⟩ : DgD)]).length) ((D ++ [(⟨(dgOf (thK (rs s.clock) s k) k ((thK (rs s.clock) s k).l.getD k default).b), pp54, cc55⟩ : DgD)]).flatMap dgdCell) :: byA (D.map DgD.by) :: F) := by rw [flat_app, flat_one, List.length_append]; exact H68
    have H70 := byA_add (x := (⟨(dgOf (thK (rs s.clock) s k) k ((thK (rs s.clock) s k).l.getD k default).b), pp54, cc55⟩ : DgD).by) H69 (i := 5) (j := 1) rfl rfl snoc_dg
    have H71 : St W w62 (Row 41 6 (.slice pp65 ((D ++ [(⟨(dgOf (thK (rs s.clock) s k) k ((thK (rs s.clock) s k).l.getD k default).b), pp54, cc55⟩ : DgD)]).length) cc66) ((D ++ [(⟨(dgOf (thK (rs s.clock) s k) k ((thK (rs s.clock) s k).l.getD k default).b), pp54, cc55⟩ : DgD)]).length) ((D ++ [(⟨(dgOf (thK (rs s.clock) s k) k ((thK (rs s.clock) s k).l.getD k default).b), pp54, cc55⟩ : DgD)]).flatMap dgdCell) :: byA ((D ++ [(⟨(dgOf (thK (rs s.clock) s k) k ((thK (rs s.clock) s k).l.getD k default).b), pp54, cc55⟩ : DgD)]).map DgD.by) :: LkA g (thK (rs s.clock) s (k + 1)) :: blk bx (.cells #[.pointer (some ⟨g, 0, none⟩)] 30 (0, 0)) :: F) := (((((((H70.move 4 rfl).move 4 rfl).move 2 rfl).move 5 rfl).drop 4 rfl).drop 4 rfl).drop 4 rfl)
    exact nx24 (k + 1, (D ++ [(⟨(dgOf (thK (rs s.clock) s k) k ((thK (rs s.clock) s k).l.getD k default).b), pp54, cc55⟩ : DgD)]), pp65, cc66) _ _ ⟨(by omega), (by rw [List.map_append, hD, goT_yes hq67]; show _ ++ [dgOf (thK (rs s.clock) s k) k ((thK (rs s.clock) s k).l.getD k default).b] = _; rw [thK_at]; rfl), H71⟩ (by first | (dsimp only; omega) | omega) ⟨by first | rfl | exact vint (by omega), by first | rfl | exact vint (by omega), by first | rfl | exact vint (by omega), by first | rfl | (show Value.slice _ _ _ = _; rw [List.length_append]; rfl), by first | rfl | exact vint (by omega), by first | rfl | exact vint (by omega), trivial⟩
   ·have hb53 := eq_false_of_ne_true hb53
    refine g_false (congrArg Value.bool hb53) ?_
    refine g_skip ?_
    refine g_inBlock ?_
    refine g_region ?_
    refine r_cons (s_add ((k : Int) + 1) rfl rfl (wi64 (by omega)) rfl ?_)
    refine r_cons (s_move (.int .i64 ((k : Int) + 1)) rfl rfl ?_)
    refine r_nil ?_
    have hq72 : (rs s.clock) (s.l.getD k default) = false := by rw [← thK_at (rs s.clock) s k, ← bodAt hL32 k]; exact hb53
    have H73 : St W w51 (LkA g (thK (rs s.clock) s (k + 1)) :: blk bx (.cells #[.pointer (some ⟨g, 0, none⟩)] 30 (0, 0)) :: Row 41 6 (.slice p D.length c) D.length (D.flatMap dgdCell) :: byA (D.map DgD.by) :: F) := by rw [← thK_no hq72]; exact H52
    have H74 : St W w51 (Row 41 6 (.slice p D.length c) D.length (D.flatMap dgdCell) :: byA (D.map DgD.by) :: LkA g (thK (rs s.clock) s (k + 1)) :: blk bx (.cells #[.pointer (some ⟨g, 0, none⟩)] 30 (0, 0)) :: F) := ((((H73.move 1 rfl).move 1 rfl).move 3 rfl).move 3 rfl)
    exact nx24 (k + 1, D, p, c) _ _ ⟨(by omega), (by rw [goT_no hq72]; exact hD), H74⟩ (by first | (dsimp only; omega) | omega) ⟨by first | rfl | exact vint (by omega), by first | rfl | exact vint (by omega), by first | rfl | exact vint (by omega), by first | rfl | exact vint (by omega), by first | rfl | exact vint (by omega), by first | rfl | exact vint (by omega), trivial⟩
  ·skip
   refine r_cons (s_lss false rfl rfl (dfalse hc25) rfl ?_)
   refine r_nil ?_
   refine g_seq ?_
   refine g_false rfl ?_
   refine g_exit (by rfl) ?_
   refine g_seq ?_
   refine g_region ?_
   refine r_cons (s_move (.slice p D.length c) rfl rfl ?_)
   refine r_cons (s_assign (.slice p D.length c) rfl rfl ?_)
   refine r_nil ?_
   refine g_ret' [.slice p D.length c] Try.func32 Try.results32 ⟨rfl, trivial⟩ ?_
   have hk0 : k = winN s := by omega
   have H75 : St W w22 (Row 41 6 (.slice p ((thT (rs s.clock) s).length) c) ((thT (rs s.clock) s).length) (D.flatMap dgdCell) :: byA (D.map DgD.by) :: LkA g (thK (rs s.clock) s k) :: blk bx (.cells #[.pointer (some ⟨g, 0, none⟩)] 30 (0, 0)) :: F) := by rw [show (thT (rs s.clock) s).length = D.length from (lenOf (show D.map DgD.d = thT (rs s.clock) s from by rw [hD, hk0]; rfl)).symm]; exact H23
   have H76 : St W w22 (DgsA p c (thT (rs s.clock) s) :: LkA g (thK (rs s.clock) s k) :: blk bx (.cells #[.pointer (some ⟨g, 0, none⟩)] 30 (0, 0)) :: F) := St.shut_ex ⟨D, (show D.map DgD.d = thT (rs s.clock) s from by rw [hD, hk0]; rfl)⟩ (St.shut_star (ls := [_, _]) H75)
   have H77 : St W w22 (DgsA p c (thT (rs s.clock) s) :: LkA g (thS (rs s.clock) s) :: blk bx (.cells #[.pointer (some ⟨g, 0, none⟩)] 30 (0, 0)) :: F) := by rw [show thS (rs s.clock) s = thK (rs s.clock) s k from by rw [hk0]; rfl]; exact H76
   have H78 : St W w22 (DgsA p c (thT (rs s.clock) s) :: LkA g (thS (rs s.clock) s) :: blk bx (.cells #[.pointer (some ⟨g, 0, none⟩)] 30 (0, 0)) :: F) := (((H77.move 2 rfl).move 2 rfl).move 2 rfl)
   exact ⟨_, _, by rw [hDl, hk0]; rfl, H78⟩
end Sl
