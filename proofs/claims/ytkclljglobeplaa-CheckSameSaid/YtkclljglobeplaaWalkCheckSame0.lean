/- Walks of the program's functions. Printed by a program of this claim's author. No condition. -/
import Derived.Test.YtkclljglobeplaaSlCH
import Derived.Test.YtkclljglobeplaaSlQ
import Derived.Test.YtkclljglobeplaaProg
namespace Sl
open _root_.Go _root_.Go.RowKit _root_.Go.Proofs
set_option linter.all false
theorem us_9 : (Try.prog.underlying 9).isSome = true := by kernel_rfl
theorem un_69 : Try.prog.underlying 69 = some (.slice 5) := by kernel_rfl
theorem un_5 : Try.prog.underlying 5 = some (.int .u8) := by kernel_rfl
theorem el_69 : elemSize Try.prog 69 = some (5, 1) := by kernel_rfl
theorem ag_5 : isAggB Try.prog 5 = false ∧ (Try.prog.underlying 5).isSome = true := ⟨by kernel_rfl, by kernel_rfl⟩
theorem st_9 : isStr Try.prog 9 = true := by kernel_rfl
theorem fi_39_0 : fieldOff Try.prog 39 0 = some (0, 3) := by kernel_rfl
theorem ag_3 : isAggB Try.prog 3 = false ∧ (Try.prog.underlying 3).isSome = true := ⟨by kernel_rfl, by kernel_rfl⟩
theorem fi_39_2 : fieldOff Try.prog 39 2 = some (2, 9) := by kernel_rfl
theorem ag_9 : isAggB Try.prog 9 = false ∧ (Try.prog.underlying 9).isSome = true := ⟨by kernel_rfl, by kernel_rfl⟩
theorem fi_39_1 : fieldOff Try.prog 39 1 = some (1, 2) := by kernel_rfl
theorem ag_2 : isAggB Try.prog 2 = false ∧ (Try.prog.underlying 2).isSome = true := ⟨by kernel_rfl, by kernel_rfl⟩
theorem un_9 : Try.prog.underlying 9 = some (.string) := by kernel_rfl
theorem ag_57 : isAggB Try.prog 57 = false ∧ (Try.prog.underlying 57).isSome = true := ⟨by kernel_rfl, by kernel_rfl⟩
theorem un_57 : Try.prog.underlying 57 = some (.map 9 4) := by kernel_rfl
theorem pl_68 : plainFn Try.prog 68 = true := by kernel_rfl
theorem ag_36 : isAggB Try.prog 36 = false ∧ (Try.prog.underlying 36).isSome = true := ⟨by kernel_rfl, by kernel_rfl⟩
theorem el_36 : elemSize Try.prog 36 = some (9, 1) := by kernel_rfl
theorem ze_9 : zeroOf Try.prog 9 = some #[.string ByteArray.empty] := by kernel_rfl
theorem in_9 : (Try.prog.info? 9).map (fun i => (i.zero, i.size, i.bytes)) = some (some (.string ByteArray.empty), 1, 16) := by kernel_rfl
theorem un_36 : Try.prog.underlying 36 = some (.slice 9) := by kernel_rfl
theorem ap_36 : appInfo Try.prog 36 9 1 16 1 := appInfo_mk un_36 in_9 rfl
theorem sz_36 : (Try.prog.info? 36).map (·.size) = some 1 := by kernel_rfl
theorem pl_69 : plainFn Try.prog 69 = true := by kernel_rfl
theorem pl_66 : plainFn Try.prog 66 = true := by kernel_rfl
theorem pl_67 : plainFn Try.prog 67 = true := by kernel_rfl
theorem pl_62 : plainFn Try.prog 62 = true := by kernel_rfl
theorem mixed : Try.prog.follows .mixedOrders = true := by kernel_rfl
theorem fi_25_4 : fieldOff Try.prog 25 4 = some (4, 23) := by kernel_rfl
theorem ag_23 : isAggB Try.prog 23 = false ∧ (Try.prog.underlying 23).isSome = true := ⟨by kernel_rfl, by kernel_rfl⟩
theorem un_23 : Try.prog.underlying 23 = some (.slice 25) := by kernel_rfl
theorem el_23 : elemSize Try.prog 23 = some (25, 5) := by kernel_rfl
theorem ag_25 : isAggB Try.prog 25 = true ∧ (Try.prog.info? 25).map (·.size) = some 5 := ⟨by kernel_rfl, by kernel_rfl⟩
theorem ze_25 : zeroOf Try.prog 25 = some #[.int .i64 0, .string ByteArray.empty, .string ByteArray.empty, .slice none 0 0, .slice none 0 0] := by kernel_rfl
theorem sz_25 : (Try.prog.info? 25).map (·.size) = some 5 := by kernel_rfl
theorem pl_13 : plainFn Try.prog 13 = true := by kernel_rfl
theorem pl_14 : plainFn Try.prog 14 = true := by kernel_rfl
theorem pl_15 : plainFn Try.prog 15 = true := by kernel_rfl
theorem pl_16 : plainFn Try.prog 16 = true := by kernel_rfl
theorem pl_17 : plainFn Try.prog 17 = true := by kernel_rfl
theorem fi_25_0 : fieldOff Try.prog 25 0 = some (0, 3) := by kernel_rfl
theorem fi_25_1 : fieldOff Try.prog 25 1 = some (1, 9) := by kernel_rfl
theorem pl_59 : plainFn Try.prog 59 = true := by kernel_rfl
theorem pl_58 : plainFn Try.prog 58 = true := by kernel_rfl
theorem ag_59 : isAggB Try.prog 59 = false ∧ (Try.prog.underlying 59).isSome = true := ⟨by kernel_rfl, by kernel_rfl⟩
theorem pl_43 : plainFn Try.prog 43 = true := by kernel_rfl
theorem ze_57 : zeroOf Try.prog 57 = some #[.map none] := by kernel_rfl
theorem sz_57 : (Try.prog.info? 57).map (·.size) = some 1 := by kernel_rfl
theorem ze_59 : zeroOf Try.prog 59 = some #[.nilFunc] := by kernel_rfl
theorem sz_59 : (Try.prog.info? 59).map (·.size) = some 1 := by kernel_rfl
theorem pl_44 : plainFn Try.prog 44 = true := by kernel_rfl
theorem pl_26 : plainFn Try.prog 26 = true := by kernel_rfl
theorem un_62 : Try.prog.underlying 62 = some (.map 9 3) := by kernel_rfl
theorem zv_3 : ∀ w : World, (zeroValue 3).run Try.prog w = .ok (.int .i64 0) w := fun w => by kernel_rfl
theorem pl_21 : plainFn Try.prog 21 = true := by kernel_rfl
theorem pl_24 : plainFn Try.prog 24 = true := by kernel_rfl
theorem zv_4 : ∀ w : World, (zeroValue 4).run Try.prog w = .ok (.bool false) w := fun w => by kernel_rfl
theorem fi_41_1 : fieldOff Try.prog 41 1 = some (1, 9) := by kernel_rfl
theorem fi_41_0 : fieldOff Try.prog 41 0 = some (0, 9) := by kernel_rfl
theorem fi_41_2 : fieldOff Try.prog 41 2 = some (2, 39) := by kernel_rfl
theorem ag_39 : isAggB Try.prog 39 = true ∧ (Try.prog.info? 39).map (·.size) = some 3 := ⟨by kernel_rfl, by kernel_rfl⟩
theorem pl_60 : plainFn Try.prog 60 = true := by kernel_rfl
theorem ev_39 {a0 b0 : Int} {a1 b1 : Int} {a2 b2 : ByteArray} : EqV Try.prog Op.maxDepth 39 (.agg #[.int .i64 a0, .int .i64 a1, .string a2]) (.agg #[.int .i64 b0, .int .i64 b1, .string b2]) (decide (a0 = b0) && (decide (a1 = b1) && (decide (a2 = b2) && true))) := (EqV.struct (d := 9999) (l := [_, _, _]) Try.underlying39 rfl (by kernel_rfl) (EqF.cons (a := .int .i64 a0) (b := .int .i64 b0) rfl (fun w => by kernel_rfl) (fun w => by kernel_rfl) (EqV.int (d := 9998) Try.underlying3) (EqF.cons (a := .int .i64 a1) (b := .int .i64 b1) rfl (fun w => by kernel_rfl) (fun w => by kernel_rfl) (EqV.int (d := 9998) Try.underlying2) (EqF.cons (a := .string a2) (b := .string b2) rfl (fun w => by kernel_rfl) (fun w => by kernel_rfl) (EqV.str (d := 9998) Try.underlying9) EqF.nil))))
theorem gd_39 : Try.prog.eqGuardType Try.prog.depth 39 = false := by kernel_rfl
theorem pl_37 : plainFn Try.prog 37 = true := by kernel_rfl
theorem pl_48 : plainFn Try.prog 48 = true := by kernel_rfl
theorem fi_43_1 : fieldOff Try.prog 43 1 = some (5, 3) := by kernel_rfl
theorem fi_43_0 : fieldOff Try.prog 43 0 = some (0, 41) := by kernel_rfl
theorem ag_41 : isAggB Try.prog 41 = true ∧ (Try.prog.info? 41).map (·.size) = some 5 := ⟨by kernel_rfl, by kernel_rfl⟩
theorem pl_46 : plainFn Try.prog 46 = true := by kernel_rfl
theorem fi_43_2 : fieldOff Try.prog 43 2 = some (6, 41) := by kernel_rfl
theorem un_22 : Try.prog.underlying 22 = some (.slice 43) := by kernel_rfl
theorem el_22 : elemSize Try.prog 22 = some (43, 11) := by kernel_rfl
theorem ag_43 : isAggB Try.prog 43 = true ∧ (Try.prog.info? 43).map (·.size) = some 11 := ⟨by kernel_rfl, by kernel_rfl⟩
theorem ze_43 : zeroOf Try.prog 43 = some #[.string ByteArray.empty, .string ByteArray.empty, .int .i64 0, .int .i64 0, .string ByteArray.empty, .int .i64 0, .string ByteArray.empty, .string ByteArray.empty, .int .i64 0, .int .i64 0, .string ByteArray.empty] := by kernel_rfl
theorem sz_43 : (Try.prog.info? 43).map (·.size) = some 11 := by kernel_rfl
theorem pl_28 : plainFn Try.prog 28 = true := by kernel_rfl
theorem fi_25_2 : fieldOff Try.prog 25 2 = some (2, 9) := by kernel_rfl
theorem fi_25_3 : fieldOff Try.prog 25 3 = some (3, 22) := by kernel_rfl
theorem ag_22 : isAggB Try.prog 22 = false ∧ (Try.prog.underlying 22).isSome = true := ⟨by kernel_rfl, by kernel_rfl⟩
theorem pl_38 : plainFn Try.prog 38 = true := by kernel_rfl
theorem pl_40 : plainFn Try.prog 40 = true := by kernel_rfl
theorem fi_27_0 : fieldOff Try.prog 27 0 = some (0, 9) := by kernel_rfl
theorem fi_27_1 : fieldOff Try.prog 27 1 = some (1, 2) := by kernel_rfl
theorem el_54 : elemSize Try.prog 54 = some (34, 1) := by kernel_rfl
theorem ze_34 : zeroOf Try.prog 34 = some #[.nilFunc] := by kernel_rfl
theorem un_54 : Try.prog.underlying 54 = some (.slice 34) := by kernel_rfl
theorem ag_34 : isAggB Try.prog 34 = false ∧ (Try.prog.underlying 34).isSome = true := ⟨by kernel_rfl, by kernel_rfl⟩
theorem fi_27_2 : fieldOff Try.prog 27 2 = some (2, 25) := by kernel_rfl
theorem pl_19 : plainFn Try.prog 19 = true := by kernel_rfl
theorem fi_27_3 : fieldOff Try.prog 27 3 = some (7, 22) := by kernel_rfl
theorem ze_27 : zeroOf Try.prog 27 = some #[.string ByteArray.empty, .int .i64 0, .int .i64 0, .string ByteArray.empty, .string ByteArray.empty, .slice none 0 0, .slice none 0 0, .slice none 0 0] := by kernel_rfl
theorem sz_27 : (Try.prog.info? 27).map (·.size) = some 8 := by kernel_rfl
theorem ag_27 : isAggB Try.prog 27 = true ∧ (Try.prog.info? 27).map (·.size) = some 8 := ⟨by kernel_rfl, by kernel_rfl⟩
theorem sz_3 : (Try.prog.info? 3).map (·.size) = some 1 := by kernel_rfl
theorem pl_11 : plainFn Try.prog 11 = true := by kernel_rfl
theorem pl_23 : plainFn Try.prog 23 = true := by kernel_rfl
theorem pl_9 : plainFn Try.prog 9 = true := by kernel_rfl
theorem pl_10 : plainFn Try.prog 10 = true := by kernel_rfl
theorem in_43 : (Try.prog.info? 43).map (fun i => (i.zero, i.size, i.bytes)) = some (some (.agg #[.string ByteArray.empty, .string ByteArray.empty, .int .i64 0, .int .i64 0, .string ByteArray.empty, .int .i64 0, .string ByteArray.empty, .string ByteArray.empty, .int .i64 0, .int .i64 0, .string ByteArray.empty]), 11, 136) := by kernel_rfl
theorem ap_22 : appInfo Try.prog 22 43 11 136 11 := appInfo_mk un_22 in_43 rfl
theorem in_25 : (Try.prog.info? 25).map (fun i => (i.zero, i.size, i.bytes)) = some (some (.agg #[.int .i64 0, .string ByteArray.empty, .string ByteArray.empty, .slice none 0 0, .slice none 0 0]), 5, 88) := by kernel_rfl
theorem ap_23 : appInfo Try.prog 23 25 5 88 5 := appInfo_mk un_23 in_25 rfl
theorem pl_50 : plainFn Try.prog 50 = true := by kernel_rfl
theorem pl_64 : plainFn Try.prog 64 = true := by kernel_rfl
theorem sz_22 : (Try.prog.info? 22).map (·.size) = some 1 := by kernel_rfl
theorem sz_23 : (Try.prog.info? 23).map (·.size) = some 1 := by kernel_rfl
theorem pl_51 : plainFn Try.prog 51 = true := by kernel_rfl
theorem pl_32 : plainFn Try.prog 32 = true := by kernel_rfl
theorem ev_43 {a0 b0 : ByteArray} {a1 b1 : ByteArray} {a2 b2 : Int} {a3 b3 : Int} {a4 b4 : ByteArray} {a5 b5 : Int} {a6 b6 : ByteArray} {a7 b7 : ByteArray} {a8 b8 : Int} {a9 b9 : Int} {a10 b10 : ByteArray} : EqV Try.prog Op.maxDepth 43 (.agg #[.string a0, .string a1, .int .i64 a2, .int .i64 a3, .string a4, .int .i64 a5, .string a6, .string a7, .int .i64 a8, .int .i64 a9, .string a10]) (.agg #[.string b0, .string b1, .int .i64 b2, .int .i64 b3, .string b4, .int .i64 b5, .string b6, .string b7, .int .i64 b8, .int .i64 b9, .string b10]) ((decide (a0 = b0) && (decide (a1 = b1) && ((decide (a2 = b2) && (decide (a3 = b3) && (decide (a4 = b4) && true))) && true))) && (decide (a5 = b5) && ((decide (a6 = b6) && (decide (a7 = b7) && ((decide (a8 = b8) && (decide (a9 = b9) && (decide (a10 = b10) && true))) && true))) && true))) := (EqV.struct (d := 9999) (l := [_, _, _]) Try.underlying43 rfl (by kernel_rfl) (EqF.cons (a := .agg #[.string a0, .string a1, .int .i64 a2, .int .i64 a3, .string a4]) (b := .agg #[.string b0, .string b1, .int .i64 b2, .int .i64 b3, .string b4]) rfl (fun w => by kernel_rfl) (fun w => by kernel_rfl) (EqV.struct (d := 9998) (l := [_, _, _]) Try.underlying41 rfl (by kernel_rfl) (EqF.cons (a := .string a0) (b := .string b0) rfl (fun w => by kernel_rfl) (fun w => by kernel_rfl) (EqV.str (d := 9997) Try.underlying9) (EqF.cons (a := .string a1) (b := .string b1) rfl (fun w => by kernel_rfl) (fun w => by kernel_rfl) (EqV.str (d := 9997) Try.underlying9) (EqF.cons (a := .agg #[.int .i64 a2, .int .i64 a3, .string a4]) (b := .agg #[.int .i64 b2, .int .i64 b3, .string b4]) rfl (fun w => by kernel_rfl) (fun w => by kernel_rfl) (EqV.struct (d := 9997) (l := [_, _, _]) Try.underlying39 rfl (by kernel_rfl) (EqF.cons (a := .int .i64 a2) (b := .int .i64 b2) rfl (fun w => by kernel_rfl) (fun w => by kernel_rfl) (EqV.int (d := 9996) Try.underlying3) (EqF.cons (a := .int .i64 a3) (b := .int .i64 b3) rfl (fun w => by kernel_rfl) (fun w => by kernel_rfl) (EqV.int (d := 9996) Try.underlying2) (EqF.cons (a := .string a4) (b := .string b4) rfl (fun w => by kernel_rfl) (fun w => by kernel_rfl) (EqV.str (d := 9996) Try.underlying9) EqF.nil)))) EqF.nil)))) (EqF.cons (a := .int .i64 a5) (b := .int .i64 b5) rfl (fun w => by kernel_rfl) (fun w => by kernel_rfl) (EqV.int (d := 9998) Try.underlying3) (EqF.cons (a := .agg #[.string a6, .string a7, .int .i64 a8, .int .i64 a9, .string a10]) (b := .agg #[.string b6, .string b7, .int .i64 b8, .int .i64 b9, .string b10]) rfl (fun w => by kernel_rfl) (fun w => by kernel_rfl) (EqV.struct (d := 9998) (l := [_, _, _]) Try.underlying41 rfl (by kernel_rfl) (EqF.cons (a := .string a6) (b := .string b6) rfl (fun w => by kernel_rfl) (fun w => by kernel_rfl) (EqV.str (d := 9997) Try.underlying9) (EqF.cons (a := .string a7) (b := .string b7) rfl (fun w => by kernel_rfl) (fun w => by kernel_rfl) (EqV.str (d := 9997) Try.underlying9) (EqF.cons (a := .agg #[.int .i64 a8, .int .i64 a9, .string a10]) (b := .agg #[.int .i64 b8, .int .i64 b9, .string b10]) rfl (fun w => by kernel_rfl) (fun w => by kernel_rfl) (EqV.struct (d := 9997) (l := [_, _, _]) Try.underlying39 rfl (by kernel_rfl) (EqF.cons (a := .int .i64 a8) (b := .int .i64 b8) rfl (fun w => by kernel_rfl) (fun w => by kernel_rfl) (EqV.int (d := 9996) Try.underlying3) (EqF.cons (a := .int .i64 a9) (b := .int .i64 b9) rfl (fun w => by kernel_rfl) (fun w => by kernel_rfl) (EqV.int (d := 9996) Try.underlying2) (EqF.cons (a := .string a10) (b := .string b10) rfl (fun w => by kernel_rfl) (fun w => by kernel_rfl) (EqV.str (d := 9996) Try.underlying9) EqF.nil)))) EqF.nil)))) EqF.nil))))
theorem gd_43 : Try.prog.eqGuardType Try.prog.depth 43 = false := by kernel_rfl
theorem pl_54 : plainFn Try.prog 54 = true := by kernel_rfl
theorem pl_53 : plainFn Try.prog 53 = true := by kernel_rfl
theorem pl_65 : plainFn Try.prog 65 = true := by kernel_rfl
theorem pl_56 : plainFn Try.prog 56 = true := by kernel_rfl
theorem pl_55 : plainFn Try.prog 55 = true := by kernel_rfl
theorem pl_36 : plainFn Try.prog 36 = true := by kernel_rfl
theorem pl_34 : plainFn Try.prog 34 = true := by kernel_rfl
theorem pl_35 : plainFn Try.prog 35 = true := by kernel_rfl
theorem un_4 : Try.prog.underlying 4 = some (.bool) := by kernel_rfl
set_option maxHeartbeats 4000000 in
set_option maxRecDepth 100000 in
theorem value_Name {W w : World} {F : List Atom} (s : ByteArray) (hs : s.size ≤ 140737488355328) (H : St W w F) : Calls Try.prog 37 #[.string s] w (Ret fun v w' => v = .bool (nameB s) ∧ St W w' F) := by
  refine calls_of_go (n := 54) Try.func37 rfl Try.ntmps37 rfl ?_
  refine g_seq ?_
  refine g_region ?_
  refine r_cons (s_assign (.bool false) rfl rfl ?_)
  refine r_nil ?_
  refine g_seq ?_
  refine g_seq ?_
  refine g_region ?_
  refine r_cons (s_move (.string s) rfl rfl ?_)
  refine r_cons (s_str_bytes H s rfl us_9 un_69 un_5 rfl ?_); intro bk1 w2 cap4 N5 tl6 hN5 hcap4 htl6 H3
  refine r_cons (s_len s.size rfl ⟨_, un_69⟩ rfl ?_)
  refine r_cons (s_move (.int .i64 0) rfl rfl ?_)
  refine r_nil ?_
  refine g_block ?_
  have H7 : St W w2 (blk bk1 (.cells ((bytesV s.data.toList ++ tl6).toArray) 5 (N5, N5 + 1)) :: F) := H3
  refine g_loop_inv (fun (x_ : Nat) => match x_ with | i => [(7, .slice (some ⟨bk1, 0, none⟩) s.size cap4), (8, .int .i64 (s.size : Int)), (9, .int .i64 (i : Int)), (0, .string s)]) (fun (x_ : Nat) w => match x_ with | i => (i ≤ s.size) ∧ (∀ j, j < i → charB j (bAt s j) = true) ∧ St W w (blk bk1 (.cells ((bytesV s.data.toList ++ tl6).toArray) 5 (N5, N5 + 1)) :: F)) (fun (x_ : Nat) => match x_ with | i => s.size - i) (0) ?_ ?_ ?_
  · exact ⟨by first | rfl | exact vint (by omega), by first | rfl | exact vint (by omega), by first | rfl | exact vint (by omega), by first | rfl | exact vint (by omega), trivial⟩
  · exact ⟨(by omega), (fun j hj => by omega), H7⟩
  · rintro i ρ8 w9 ⟨hi, hz, H10⟩ nx11
    change Ends _ _ (upds ρ8 [(7, .slice (some ⟨bk1, 0, none⟩) s.size cap4), (8, .int .i64 (s.size : Int)), (9, .int .i64 (i : Int)), (0, .string s)]) w9
    refine g_seq ?_
    refine g_region ?_
    by_cases hc12 : (i : Int) < (s.size : Int)
    · skip
      refine r_cons (s_lss true rfl rfl (dtrue hc12) rfl ?_)
      refine r_nil ?_
      refine g_seq ?_
      refine g_true rfl ?_
      refine g_skip ?_
      refine g_seq ?_
      refine g_block ?_
      refine g_seq ?_
      refine g_region ?_
      refine r_cons (s_move (.int .i64 (i : Int)) rfl rfl ?_)
      refine r_cons (s_indexAddr bk1 (i : Int) 1 (0 + i * 1) rfl rfl el_69 (by omega) rfl rfl ?_)
      refine r_cons (s_load (.int .u8 (bAt s i)) ag_5 rfl (H10.blk_at (i := 0) rfl) (by simpa using bytes_get s tl6 i (by omega)) rfl ?_)
      refine r_cons (s_assign (.int .i64 (i : Int)) rfl rfl ?_)
      refine r_cons (s_assign (.int .u8 (bAt s i)) rfl rfl ?_)
      refine r_nil ?_
      refine g_seq ?_
      refine g_cut (fun _ : Unit => [(7, .slice (some ⟨bk1, 0, none⟩) s.size cap4), (8, .int .i64 (s.size : Int)), (9, .int .i64 (i : Int)), (0, .string s), (10, .bool true), (11, .int .i64 (i : Int)), (12, .pointer (some ⟨bk1, 0 + i * 1, none⟩)), (13, .int .u8 (bAt s i)), (3, .int .i64 (i : Int)), (4, .int .u8 (bAt s i)), (5, .bool (letterB (bAt s i)))]) (fun _ w => St W w (blk bk1 (.cells ((bytesV s.data.toList ++ tl6).toArray) 5 (N5, N5 + 1)) :: F)) ?_ ?_
      · rintro ⟨⟩ ρ16 w14 H15
        change Ends _ _ (upds ρ16 [(7, .slice (some ⟨bk1, 0, none⟩) s.size cap4), (8, .int .i64 (s.size : Int)), (9, .int .i64 (i : Int)), (0, .string s), (10, .bool true), (11, .int .i64 (i : Int)), (12, .pointer (some ⟨bk1, 0 + i * 1, none⟩)), (13, .int .u8 (bAt s i)), (3, .int .i64 (i : Int)), (4, .int .u8 (bAt s i)), (5, .bool (letterB (bAt s i)))]) w14
        refine g_seq ?_
        refine g_cut (fun _ : Unit => [(7, .slice (some ⟨bk1, 0, none⟩) s.size cap4), (8, .int .i64 (s.size : Int)), (9, .int .i64 (i : Int)), (0, .string s), (10, .bool true), (11, .int .i64 (i : Int)), (12, .pointer (some ⟨bk1, 0 + i * 1, none⟩)), (13, .int .u8 (bAt s i)), (3, .int .i64 (i : Int)), (4, .int .u8 (bAt s i)), (5, .bool (letterB (bAt s i))), (45, .bool (!charB i (bAt s i)))]) (fun _ w => St W w (blk bk1 (.cells ((bytesV s.data.toList ++ tl6).toArray) 5 (N5, N5 + 1)) :: F)) ?_ ?_
        · rintro ⟨⟩ ρ20 w18 H19
          change Ends _ _ (upds ρ20 [(7, .slice (some ⟨bk1, 0, none⟩) s.size cap4), (8, .int .i64 (s.size : Int)), (9, .int .i64 (i : Int)), (0, .string s), (10, .bool true), (11, .int .i64 (i : Int)), (12, .pointer (some ⟨bk1, 0 + i * 1, none⟩)), (13, .int .u8 (bAt s i)), (3, .int .i64 (i : Int)), (4, .int .u8 (bAt s i)), (5, .bool (letterB (bAt s i))), (45, .bool (!charB i (bAt s i)))]) w18
          by_cases hb21 : (!charB i (bAt s i)) = true
          · skip
            refine g_true (congrArg Value.bool hb21) ?_
            refine g_seq ?_
            refine g_region ?_
            refine r_cons (s_assign (.bool false) rfl rfl ?_)
            refine r_nil ?_
            refine g_ret' [.bool false] Try.func37 Try.results37 ⟨rfl, trivial⟩ ?_
            have H22 : St W w18 F := (H19.drop 0 rfl)
            exact ⟨congrArg Value.bool (by first | exact (nameB_no s i (by omega) (by simpa using hb21)).symm | (rw [nameB_is s (fun j hj => hz j (by omega))]; first | exact (decide_eq_true ⟨by assumption, by omega⟩).symm | exact (decide_eq_false (by intro h; first | exact absurd h.1 (by simpa using ‹_›) | omega)).symm)), H22⟩
          · have hb21 := eq_false_of_ne_true hb21
            refine g_false (congrArg Value.bool hb21) ?_
            refine g_skip ?_
            refine g_inBlock ?_
            refine g_region ?_
            refine r_cons (s_add ((i : Int) + 1) rfl rfl (wi64 (by omega)) rfl ?_)
            refine r_cons (s_move (.int .i64 ((i : Int) + 1)) rfl rfl ?_)
            refine r_nil ?_
            have H23 : St W w18 (blk bk1 (.cells ((bytesV s.data.toList ++ tl6).toArray) 5 (N5, N5 + 1)) :: F) := H19
            exact nx11 (i + 1) _ _ ⟨(by omega), (fun j hj => (Nat.lt_or_ge j i).elim (hz j) (fun h => by rw [show j = i from by omega]; simpa using hb21)), H23⟩ (by first | (dsimp only; omega) | omega) ⟨by first | rfl | exact vint (by omega), by first | rfl | exact vint (by omega), by first | rfl | exact vint (by omega), by first | rfl | exact vint (by omega), trivial⟩
        · intro join17
          refine g_region ?_
          refine r_cons (s_move (.bool (letterB (bAt s i))) rfl rfl ?_)
          refine r_cons (s_not (letterB (bAt s i)) rfl (!(letterB (bAt s i))) rfl rfl ?_)
          refine r_cons (s_move (.bool (!(letterB (bAt s i)))) rfl rfl ?_)
          by_cases hb24 : (!(letterB (bAt s i))) = true
          · skip
            refine r_cons (r_take rfl (congrArg some hb24) ?_)
            refine s_move (.int .i64 (i : Int)) rfl rfl ?_
            refine r_cons (r_take rfl (congrArg some hb24) ?_)
            by_cases hc25 : (i : Int) = 0
            · skip
              refine s_eql true rfl rfl (dtrue hc25) rfl ?_
              refine r_cons (r_take rfl (congrArg some hb24) ?_)
              refine s_move (.bool true) rfl rfl ?_
              refine r_cons (r_pass rfl rfl rfl rfl rfl ?_)
              refine r_cons (r_pass rfl rfl rfl rfl rfl ?_)
              refine r_cons (r_take rfl (congrArg some hb24) ?_)
              refine s_pick_t (.bool true) rfl rfl rfl ?_
              refine r_cons (r_take rfl (congrArg some hb24) ?_)
              refine s_move (.bool true) rfl rfl ?_
              refine r_cons (r_pass rfl rfl rfl rfl rfl ?_)
              refine r_cons (r_pass rfl rfl rfl rfl rfl ?_)
              refine r_cons (r_take rfl (congrArg some hb24) ?_)
              refine s_pick_t (.bool true) rfl rfl rfl ?_
              refine r_cons (s_pick_t (.bool true) (by exact congrArg Value.bool hb24) rfl rfl ?_)
              refine r_nil ?_
              exact join17 () _ _ H15 ⟨rfl, rfl, rfl, rfl, rfl, rfl, rfl, rfl, rfl, rfl, rfl, congrArg Value.bool (by unfold charB; simp [*]; try omega), trivial⟩
            · skip
              refine s_eql false rfl rfl (dfalse hc25) rfl ?_
              refine r_cons (r_take rfl (congrArg some hb24) ?_)
              refine s_move (.bool false) rfl rfl ?_
              refine r_cons (r_take rfl rfl ?_)
              refine s_move (.int .u8 (bAt s i)) rfl rfl ?_
              refine r_cons (r_take rfl rfl ?_)
              by_cases hc26 : bAt s i < 48
              · skip
                refine s_lss true rfl rfl (dtrue hc26) rfl ?_
                refine r_cons (r_take rfl (congrArg some hb24) ?_)
                refine s_pick_f (.bool true) rfl rfl rfl ?_
                refine r_cons (r_take rfl (congrArg some hb24) ?_)
                refine s_move (.bool true) rfl rfl ?_
                refine r_cons (r_pass rfl rfl rfl rfl rfl ?_)
                refine r_cons (r_pass rfl rfl rfl rfl rfl ?_)
                refine r_cons (r_take rfl (congrArg some hb24) ?_)
                refine s_pick_t (.bool true) rfl rfl rfl ?_
                refine r_cons (s_pick_t (.bool true) (by exact congrArg Value.bool hb24) rfl rfl ?_)
                refine r_nil ?_
                exact join17 () _ _ H15 ⟨rfl, rfl, rfl, rfl, rfl, rfl, rfl, rfl, rfl, rfl, rfl, congrArg Value.bool (by unfold charB; simp [*]; try omega), trivial⟩
              · skip
                refine s_lss false rfl rfl (dfalse hc26) rfl ?_
                refine r_cons (r_take rfl (congrArg some hb24) ?_)
                refine s_pick_f (.bool false) rfl rfl rfl ?_
                refine r_cons (r_take rfl (congrArg some hb24) ?_)
                refine s_move (.bool false) rfl rfl ?_
                refine r_cons (r_take rfl rfl ?_)
                refine s_move (.int .u8 (bAt s i)) rfl rfl ?_
                refine r_cons (r_take rfl rfl ?_)
                by_cases hc27 : (57 : Int) < bAt s i
                · skip
                  refine s_gtr true rfl rfl (dtrue hc27) rfl ?_
                  refine r_cons (r_take rfl (congrArg some hb24) ?_)
                  refine s_pick_f (.bool true) rfl rfl rfl ?_
                  refine r_cons (s_pick_t (.bool true) (by exact congrArg Value.bool hb24) rfl rfl ?_)
                  refine r_nil ?_
                  exact join17 () _ _ H15 ⟨rfl, rfl, rfl, rfl, rfl, rfl, rfl, rfl, rfl, rfl, rfl, congrArg Value.bool (by unfold charB; simp [*]; try omega), trivial⟩
                · skip
                  refine s_gtr false rfl rfl (dfalse hc27) rfl ?_
                  refine r_cons (r_take rfl (congrArg some hb24) ?_)
                  refine s_pick_f (.bool false) rfl rfl rfl ?_
                  refine r_cons (s_pick_t (.bool false) (by exact congrArg Value.bool hb24) rfl rfl ?_)
                  refine r_nil ?_
                  exact join17 () _ _ H15 ⟨rfl, rfl, rfl, rfl, rfl, rfl, rfl, rfl, rfl, rfl, rfl, congrArg Value.bool (by unfold charB; simp [*]; try omega), trivial⟩
          · have hb24 := eq_false_of_ne_true hb24
            refine r_cons (r_pass rfl (congrArg some hb24) rfl rfl rfl ?_)
            refine r_cons (r_pass rfl (congrArg some hb24) rfl rfl rfl ?_)
            refine r_cons (r_pass rfl (congrArg some hb24) rfl rfl rfl ?_)
            refine r_cons (r_passN rfl rfl rfl rfl ?_)
            refine r_cons (r_passN rfl rfl rfl rfl ?_)
            refine r_cons (r_pass rfl (congrArg some hb24) rfl rfl rfl ?_)
            refine r_cons (r_pass rfl (congrArg some hb24) rfl rfl rfl ?_)
            refine r_cons (r_passN rfl rfl rfl rfl ?_)
            refine r_cons (r_passN rfl rfl rfl rfl ?_)
            refine r_cons (r_pass rfl (congrArg some hb24) rfl rfl rfl ?_)
            refine r_cons (s_pick_f (.bool false) (by exact congrArg Value.bool hb24) rfl rfl ?_)
            refine r_nil ?_
            exact join17 () _ _ H15 ⟨rfl, rfl, rfl, rfl, rfl, rfl, rfl, rfl, rfl, rfl, rfl, congrArg Value.bool (by unfold charB; simp [*]; try omega), trivial⟩
      · intro join13
        refine g_region ?_
        refine r_cons (s_move (.int .u8 (bAt s i)) rfl rfl ?_)
        by_cases hc28 : bAt s i = 95
        · skip
          refine r_cons (s_eql true rfl rfl (dtrue hc28) rfl ?_)
          refine r_cons (s_move (.bool true) rfl rfl ?_)
          refine r_cons (r_pass rfl rfl rfl rfl rfl ?_)
          refine r_cons (r_pass rfl rfl rfl rfl rfl ?_)
          refine r_cons (r_pass rfl rfl rfl rfl rfl ?_)
          refine r_cons (r_passN rfl rfl rfl rfl ?_)
          refine r_cons (r_passN rfl rfl rfl rfl ?_)
          refine r_cons (r_pass rfl rfl rfl rfl rfl ?_)
          refine r_cons (s_pick_t (.bool true) rfl rfl rfl ?_)
          refine r_cons (s_move (.bool true) rfl rfl ?_)
          refine r_cons (r_pass rfl rfl rfl rfl rfl ?_)
          refine r_cons (r_pass rfl rfl rfl rfl rfl ?_)
          refine r_cons (r_pass rfl rfl rfl rfl rfl ?_)
          refine r_cons (r_passN rfl rfl rfl rfl ?_)
          refine r_cons (r_passN rfl rfl rfl rfl ?_)
          refine r_cons (r_pass rfl rfl rfl rfl rfl ?_)
          refine r_cons (s_pick_t (.bool true) rfl rfl rfl ?_)
          refine r_cons (s_assign (.bool true) rfl rfl ?_)
          refine r_nil ?_
          exact join13 () _ _ H10 ⟨rfl, rfl, rfl, rfl, rfl, rfl, rfl, rfl, rfl, rfl, congrArg Value.bool (by unfold letterB; first | exact (decide_eq_true (by omega)).symm | exact (decide_eq_false (by omega)).symm), trivial⟩
        · skip
          refine r_cons (s_eql false rfl rfl (dfalse hc28) rfl ?_)
          refine r_cons (s_move (.bool false) rfl rfl ?_)
          refine r_cons (r_take rfl rfl ?_)
          refine s_move (.int .u8 (bAt s i)) rfl rfl ?_
          refine r_cons (r_take rfl rfl ?_)
          by_cases hc29 : (97 : Int) ≤ bAt s i
          · skip
            refine s_geq true rfl rfl (dtrue hc29) rfl ?_
            refine r_cons (r_take rfl rfl ?_)
            refine s_move (.bool true) rfl rfl ?_
            refine r_cons (r_take rfl rfl ?_)
            refine s_move (.int .u8 (bAt s i)) rfl rfl ?_
            refine r_cons (r_take rfl rfl ?_)
            by_cases hc30 : bAt s i ≤ 122
            · skip
              refine s_leq true rfl rfl (dtrue hc30) rfl ?_
              refine r_cons (r_take rfl rfl ?_)
              refine s_pick_t (.bool true) rfl rfl rfl ?_
              refine r_cons (s_pick_f (.bool true) rfl rfl rfl ?_)
              refine r_cons (s_move (.bool true) rfl rfl ?_)
              refine r_cons (r_pass rfl rfl rfl rfl rfl ?_)
              refine r_cons (r_pass rfl rfl rfl rfl rfl ?_)
              refine r_cons (r_pass rfl rfl rfl rfl rfl ?_)
              refine r_cons (r_passN rfl rfl rfl rfl ?_)
              refine r_cons (r_passN rfl rfl rfl rfl ?_)
              refine r_cons (r_pass rfl rfl rfl rfl rfl ?_)
              refine r_cons (s_pick_t (.bool true) rfl rfl rfl ?_)
              refine r_cons (s_assign (.bool true) rfl rfl ?_)
              refine r_nil ?_
              exact join13 () _ _ H10 ⟨rfl, rfl, rfl, rfl, rfl, rfl, rfl, rfl, rfl, rfl, congrArg Value.bool (by unfold letterB; first | exact (decide_eq_true (by omega)).symm | exact (decide_eq_false (by omega)).symm), trivial⟩
            · skip
              refine s_leq false rfl rfl (dfalse hc30) rfl ?_
              refine r_cons (r_take rfl rfl ?_)
              refine s_pick_t (.bool false) rfl rfl rfl ?_
              refine r_cons (s_pick_f (.bool false) rfl rfl rfl ?_)
              refine r_cons (s_move (.bool false) rfl rfl ?_)
              refine r_cons (r_take rfl rfl ?_)
              refine s_move (.int .u8 (bAt s i)) rfl rfl ?_
              refine r_cons (r_take rfl rfl ?_)
              refine s_geq true rfl rfl (dtrue (by omega)) rfl ?_
              refine r_cons (r_take rfl rfl ?_)
              refine s_move (.bool true) rfl rfl ?_
              refine r_cons (r_take rfl rfl ?_)
              refine s_move (.int .u8 (bAt s i)) rfl rfl ?_
              refine r_cons (r_take rfl rfl ?_)
              refine s_leq false rfl rfl (dfalse (by omega)) rfl ?_
              refine r_cons (r_take rfl rfl ?_)
              refine s_pick_t (.bool false) rfl rfl rfl ?_
              refine r_cons (s_pick_f (.bool false) rfl rfl rfl ?_)
              refine r_cons (s_assign (.bool false) rfl rfl ?_)
              refine r_nil ?_
              exact join13 () _ _ H10 ⟨rfl, rfl, rfl, rfl, rfl, rfl, rfl, rfl, rfl, rfl, congrArg Value.bool (by unfold letterB; first | exact (decide_eq_true (by omega)).symm | exact (decide_eq_false (by omega)).symm), trivial⟩
          · skip
            refine s_geq false rfl rfl (dfalse hc29) rfl ?_
            refine r_cons (r_take rfl rfl ?_)
            refine s_move (.bool false) rfl rfl ?_
            refine r_cons (r_pass rfl rfl rfl rfl rfl ?_)
            refine r_cons (r_pass rfl rfl rfl rfl rfl ?_)
            refine r_cons (r_take rfl rfl ?_)
            refine s_pick_f (.bool false) rfl rfl rfl ?_
            refine r_cons (s_pick_f (.bool false) rfl rfl rfl ?_)
            refine r_cons (s_move (.bool false) rfl rfl ?_)
            refine r_cons (r_take rfl rfl ?_)
            refine s_move (.int .u8 (bAt s i)) rfl rfl ?_
            refine r_cons (r_take rfl rfl ?_)
            by_cases hc31 : (65 : Int) ≤ bAt s i
            · skip
              refine s_geq true rfl rfl (dtrue hc31) rfl ?_
              refine r_cons (r_take rfl rfl ?_)
              refine s_move (.bool true) rfl rfl ?_
              refine r_cons (r_take rfl rfl ?_)
              refine s_move (.int .u8 (bAt s i)) rfl rfl ?_
              refine r_cons (r_take rfl rfl ?_)
              by_cases hc32 : bAt s i ≤ 90
              · skip
                refine s_leq true rfl rfl (dtrue hc32) rfl ?_
                refine r_cons (r_take rfl rfl ?_)
                refine s_pick_t (.bool true) rfl rfl rfl ?_
                refine r_cons (s_pick_f (.bool true) rfl rfl rfl ?_)
                refine r_cons (s_assign (.bool true) rfl rfl ?_)
                refine r_nil ?_
                exact join13 () _ _ H10 ⟨rfl, rfl, rfl, rfl, rfl, rfl, rfl, rfl, rfl, rfl, congrArg Value.bool (by unfold letterB; first | exact (decide_eq_true (by omega)).symm | exact (decide_eq_false (by omega)).symm), trivial⟩
              · skip
                refine s_leq false rfl rfl (dfalse hc32) rfl ?_
                refine r_cons (r_take rfl rfl ?_)
                refine s_pick_t (.bool false) rfl rfl rfl ?_
                refine r_cons (s_pick_f (.bool false) rfl rfl rfl ?_)
                refine r_cons (s_assign (.bool false) rfl rfl ?_)
                refine r_nil ?_
                exact join13 () _ _ H10 ⟨rfl, rfl, rfl, rfl, rfl, rfl, rfl, rfl, rfl, rfl, congrArg Value.bool (by unfold letterB; first | exact (decide_eq_true (by omega)).symm | exact (decide_eq_false (by omega)).symm), trivial⟩
            · skip
              refine s_geq false rfl rfl (dfalse hc31) rfl ?_
              refine r_cons (r_take rfl rfl ?_)
              refine s_move (.bool false) rfl rfl ?_
              refine r_cons (r_pass rfl rfl rfl rfl rfl ?_)
              refine r_cons (r_pass rfl rfl rfl rfl rfl ?_)
              refine r_cons (r_take rfl rfl ?_)
              refine s_pick_f (.bool false) rfl rfl rfl ?_
              refine r_cons (s_pick_f (.bool false) rfl rfl rfl ?_)
              refine r_cons (s_assign (.bool false) rfl rfl ?_)
              refine r_nil ?_
              exact join13 () _ _ H10 ⟨rfl, rfl, rfl, rfl, rfl, rfl, rfl, rfl, rfl, rfl, congrArg Value.bool (by unfold letterB; first | exact (decide_eq_true (by omega)).symm | exact (decide_eq_false (by omega)).symm), trivial⟩
    · skip
      refine r_cons (s_lss false rfl rfl (dfalse hc12) rfl ?_)
      refine r_nil ?_
      refine g_seq ?_
      refine g_false rfl ?_
      refine g_exit (by rfl) ?_
      refine g_seq ?_
      refine g_region ?_
      refine r_cons (s_move (.string s) rfl rfl ?_)
      by_cases hc33 : s = ByteArray.empty
      · skip
        refine r_cons (s_sneq false rfl rfl (ntrue hc33) rfl ?_)
        refine r_cons (s_move (.bool false) rfl rfl ?_)
        refine r_cons (r_pass rfl rfl rfl rfl rfl ?_)
        refine r_cons (r_pass rfl rfl rfl rfl rfl ?_)
        refine r_cons (r_pass rfl rfl rfl rfl rfl ?_)
        refine r_cons (s_pick_f (.bool false) rfl rfl rfl ?_)
        refine r_cons (s_assign (.bool false) rfl rfl ?_)
        refine r_nil ?_
        refine g_ret' [.bool false] Try.func37 Try.results37 ⟨rfl, trivial⟩ ?_
        have H34 : St W w9 F := (H10.drop 0 rfl)
        exact ⟨congrArg Value.bool (by first | exact (nameB_no s i (by omega) (by simpa using rfl)).symm | (rw [nameB_is s (fun j hj => hz j (by omega))]; first | exact (decide_eq_true ⟨by assumption, by omega⟩).symm | exact (decide_eq_false (by intro h; first | exact absurd h.1 (by simpa using ‹_›) | omega)).symm)), H34⟩
      · skip
        refine r_cons (s_sneq true rfl rfl (nfalse hc33) rfl ?_)
        refine r_cons (s_move (.bool true) rfl rfl ?_)
        refine r_cons (r_take rfl rfl ?_)
        refine s_move (.string s) rfl rfl ?_
        refine r_cons (r_take rfl rfl ?_)
        refine s_len_str (s).size rfl st_9 rfl rfl ?_
        refine r_cons (r_take rfl rfl ?_)
        by_cases hc35 : (s.size : Int) ≤ 32
        · skip
          refine s_leq true rfl rfl (dtrue hc35) rfl ?_
          refine r_cons (s_pick_t (.bool true) rfl rfl rfl ?_)
          refine r_cons (s_assign (.bool true) rfl rfl ?_)
          refine r_nil ?_
          refine g_ret' [.bool true] Try.func37 Try.results37 ⟨rfl, trivial⟩ ?_
          have H36 : St W w9 F := (H10.drop 0 rfl)
          exact ⟨congrArg Value.bool (by first | exact (nameB_no s i (by omega) (by simpa using rfl)).symm | (rw [nameB_is s (fun j hj => hz j (by omega))]; first | exact (decide_eq_true ⟨by assumption, by omega⟩).symm | exact (decide_eq_false (by intro h; first | exact absurd h.1 (by simpa using ‹_›) | omega)).symm)), H36⟩
        · skip
          refine s_leq false rfl rfl (dfalse hc35) rfl ?_
          refine r_cons (s_pick_t (.bool false) rfl rfl rfl ?_)
          refine r_cons (s_assign (.bool false) rfl rfl ?_)
          refine r_nil ?_
          refine g_ret' [.bool false] Try.func37 Try.results37 ⟨rfl, trivial⟩ ?_
          have H37 : St W w9 F := (H10.drop 0 rfl)
          exact ⟨congrArg Value.bool (by first | exact (nameB_no s i (by omega) (by simpa using rfl)).symm | (rw [nameB_is s (fun j hj => hz j (by omega))]; first | exact (decide_eq_true ⟨by assumption, by omega⟩).symm | exact (decide_eq_false (by intro h; first | exact absurd h.1 (by simpa using ‹_›) | omega)).symm)), H37⟩
set_option maxHeartbeats 4000000 in
set_option maxRecDepth 100000 in
theorem value_Check {W w : World} {F : List Atom} (k n : Int) (s : ByteArray) (H : St W w F) : Calls Try.prog 60 #[.agg #[.int .i64 k, .int .i64 n, .string s]] w (Ret fun v w' => v = .int .i64 (valE k n s) ∧ St W w' F) := by
  refine calls_of_go (n := 27) Try.func60 rfl Try.ntmps60 rfl ?_
  refine g_seq ?_
  refine g_region ?_
  refine r_cons (s_box H 39 (.agg #[.int .i64 k, .int .i64 n, .string s]) rfl (cs := #[.int .i64 k, .int .i64 n, .string s]) rfl rfl ?_); intro bk1 w2 H3
  refine r_cons (s_assign (.int .i64 0) rfl rfl ?_)
  refine r_nil ?_
  refine g_seq ?_
  refine g_seq ?_
  refine g_region ?_
  refine r_cons (s_fieldAddr 39 0 0 0 3 rfl fi_39_0 rfl rfl ?_)
  refine r_cons (s_load (.int .i64 k) ag_3 rfl (H3.blk_at (i := 0) rfl) rfl rfl ?_)
  by_cases hc4 : k = 1
  · skip
    refine r_cons (s_eql true rfl rfl (dtrue hc4) rfl ?_)
    refine r_cons (s_move (.bool true) rfl rfl ?_)
    refine r_cons (r_take rfl rfl ?_)
    refine s_fieldAddr 39 2 2 2 9 rfl fi_39_2 rfl rfl ?_
    refine r_cons (r_take rfl rfl ?_)
    refine s_load (.string s) ag_9 rfl (H3.blk_at (i := 0) rfl) rfl rfl ?_
    refine r_cons (r_take rfl rfl ?_)
    by_cases hc5 : s = ByteArray.empty
    · skip
      refine s_seql true rfl rfl (dtrue hc5) rfl ?_
      refine r_cons (s_pick_t (.bool true) rfl rfl rfl ?_)
      refine r_cons (s_move (.bool true) rfl rfl ?_)
      refine r_cons (r_pass rfl rfl rfl rfl rfl ?_)
      refine r_cons (r_pass rfl rfl rfl rfl rfl ?_)
      refine r_cons (r_pass rfl rfl rfl rfl rfl ?_)
      refine r_cons (r_pass rfl rfl rfl rfl rfl ?_)
      refine r_cons (r_passN rfl rfl rfl rfl ?_)
      refine r_cons (r_passN rfl rfl rfl rfl ?_)
      refine r_cons (r_passN rfl rfl rfl rfl ?_)
      refine r_cons (r_pass rfl rfl rfl rfl rfl ?_)
      refine r_cons (r_pass rfl rfl rfl rfl rfl ?_)
      refine r_cons (r_passN rfl rfl rfl rfl ?_)
      refine r_cons (r_passN rfl rfl rfl rfl ?_)
      refine r_cons (r_passN rfl rfl rfl rfl ?_)
      refine r_cons (r_passN rfl rfl rfl rfl ?_)
      refine r_cons (r_pass rfl rfl rfl rfl rfl ?_)
      refine r_cons (s_pick_t (.bool true) rfl rfl rfl ?_)
      refine r_nil ?_
      refine g_true rfl ?_
      refine g_seq ?_
      refine g_region ?_
      refine r_cons (s_assign (.int .i64 0) rfl rfl ?_)
      refine r_nil ?_
      refine g_ret' [.int .i64 0] Try.func60 Try.results60 ⟨rfl, trivial⟩ ?_
      have H6 : St W w2 F := (H3.drop 0 rfl)
      exact ⟨vint (by first | (exfalso; omega) | exact (valE_0 (.inl ⟨by omega, by assumption⟩)).symm | exact (valE_0 (.inr ⟨by omega, by omega, by omega⟩)).symm | exact (valE_30 (by rintro (⟨_, _⟩ | ⟨_, _, _⟩) <;> first | omega | contradiction)).symm), H6⟩
    · skip
      refine s_seql false rfl rfl (dfalse hc5) rfl ?_
      refine r_cons (s_pick_t (.bool false) rfl rfl rfl ?_)
      refine r_cons (s_move (.bool false) rfl rfl ?_)
      refine r_cons (r_take rfl rfl ?_)
      refine s_fieldAddr 39 0 0 0 3 rfl fi_39_0 rfl rfl ?_
      refine r_cons (r_take rfl rfl ?_)
      refine s_load (.int .i64 k) ag_3 rfl (H3.blk_at (i := 0) rfl) rfl rfl ?_
      refine r_cons (r_take rfl rfl ?_)
      refine s_eql false rfl rfl (dfalse (by omega)) rfl ?_
      refine r_cons (r_take rfl rfl ?_)
      refine s_move (.bool false) rfl rfl ?_
      refine r_cons (r_pass rfl rfl rfl rfl rfl ?_)
      refine r_cons (r_pass rfl rfl rfl rfl rfl ?_)
      refine r_cons (r_pass rfl rfl rfl rfl rfl ?_)
      refine r_cons (r_take rfl rfl ?_)
      refine s_pick_f (.bool false) rfl rfl rfl ?_
      refine r_cons (r_take rfl rfl ?_)
      refine s_move (.bool false) rfl rfl ?_
      refine r_cons (r_pass rfl rfl rfl rfl rfl ?_)
      refine r_cons (r_pass rfl rfl rfl rfl rfl ?_)
      refine r_cons (r_pass rfl rfl rfl rfl rfl ?_)
      refine r_cons (r_pass rfl rfl rfl rfl rfl ?_)
      refine r_cons (r_take rfl rfl ?_)
      refine s_pick_f (.bool false) rfl rfl rfl ?_
      refine r_cons (s_pick_f (.bool false) rfl rfl rfl ?_)
      refine r_nil ?_
      refine g_false rfl ?_
      refine g_skip ?_
      refine g_seq ?_
      refine g_region ?_
      refine r_cons (s_assign (.int .i64 30) rfl rfl ?_)
      refine r_nil ?_
      refine g_ret' [.int .i64 30] Try.func60 Try.results60 ⟨rfl, trivial⟩ ?_
      have H7 : St W w2 F := (H3.drop 0 rfl)
      exact ⟨vint (by first | (exfalso; omega) | exact (valE_0 (.inl ⟨by omega, by assumption⟩)).symm | exact (valE_0 (.inr ⟨by omega, by omega, by omega⟩)).symm | exact (valE_30 (by rintro (⟨_, _⟩ | ⟨_, _, _⟩) <;> first | omega | contradiction)).symm), H7⟩
  · skip
    refine r_cons (s_eql false rfl rfl (dfalse hc4) rfl ?_)
    refine r_cons (s_move (.bool false) rfl rfl ?_)
    refine r_cons (r_pass rfl rfl rfl rfl rfl ?_)
    refine r_cons (r_pass rfl rfl rfl rfl rfl ?_)
    refine r_cons (r_pass rfl rfl rfl rfl rfl ?_)
    refine r_cons (s_pick_f (.bool false) rfl rfl rfl ?_)
    refine r_cons (s_move (.bool false) rfl rfl ?_)
    refine r_cons (r_take rfl rfl ?_)
    refine s_fieldAddr 39 0 0 0 3 rfl fi_39_0 rfl rfl ?_
    refine r_cons (r_take rfl rfl ?_)
    refine s_load (.int .i64 k) ag_3 rfl (H3.blk_at (i := 0) rfl) rfl rfl ?_
    refine r_cons (r_take rfl rfl ?_)
    by_cases hc8 : k = 2
    · skip
      refine s_eql true rfl rfl (dtrue hc8) rfl ?_
      refine r_cons (r_take rfl rfl ?_)
      refine s_move (.bool true) rfl rfl ?_
      refine r_cons (r_take rfl rfl ?_)
      refine s_fieldAddr 39 1 1 1 2 rfl fi_39_1 rfl rfl ?_
      refine r_cons (r_take rfl rfl ?_)
      refine s_load (.int .i64 n) ag_2 rfl (H3.blk_at (i := 0) rfl) rfl rfl ?_
      refine r_cons (r_take rfl rfl ?_)
      by_cases hc9 : n = 0
      · skip
        refine s_eql true rfl rfl (dtrue hc9) rfl ?_
        refine r_cons (r_take rfl rfl ?_)
        refine s_pick_t (.bool true) rfl rfl rfl ?_
        refine r_cons (r_take rfl rfl ?_)
        refine s_move (.bool true) rfl rfl ?_
        refine r_cons (r_take rfl rfl ?_)
        refine s_fieldAddr 39 2 2 2 9 rfl fi_39_2 rfl rfl ?_
        refine r_cons (r_take rfl rfl ?_)
        refine s_load (.string s) ag_9 rfl (H3.blk_at (i := 0) rfl) rfl rfl ?_
        refine r_cons (r_take rfl rfl ?_)
        refine s_len_str (s).size rfl st_9 rfl rfl ?_
        refine r_cons (r_take rfl rfl ?_)
        by_cases hc10 : (s.size : Int) ≤ 64
        · skip
          refine s_leq true rfl rfl (dtrue hc10) rfl ?_
          refine r_cons (r_take rfl rfl ?_)
          refine s_pick_t (.bool true) rfl rfl rfl ?_
          refine r_cons (s_pick_f (.bool true) rfl rfl rfl ?_)
          refine r_nil ?_
          refine g_true rfl ?_
          refine g_seq ?_
          refine g_region ?_
          refine r_cons (s_assign (.int .i64 0) rfl rfl ?_)
          refine r_nil ?_
          refine g_ret' [.int .i64 0] Try.func60 Try.results60 ⟨rfl, trivial⟩ ?_
          have H11 : St W w2 F := (H3.drop 0 rfl)
          exact ⟨vint (by first | (exfalso; omega) | exact (valE_0 (.inl ⟨by omega, by assumption⟩)).symm | exact (valE_0 (.inr ⟨by omega, by omega, by omega⟩)).symm | exact (valE_30 (by rintro (⟨_, _⟩ | ⟨_, _, _⟩) <;> first | omega | contradiction)).symm), H11⟩
        · skip
          refine s_leq false rfl rfl (dfalse hc10) rfl ?_
          refine r_cons (r_take rfl rfl ?_)
          refine s_pick_t (.bool false) rfl rfl rfl ?_
          refine r_cons (s_pick_f (.bool false) rfl rfl rfl ?_)
          refine r_nil ?_
          refine g_false rfl ?_
          refine g_skip ?_
          refine g_seq ?_
          refine g_region ?_
          refine r_cons (s_assign (.int .i64 30) rfl rfl ?_)
          refine r_nil ?_
          refine g_ret' [.int .i64 30] Try.func60 Try.results60 ⟨rfl, trivial⟩ ?_
          have H12 : St W w2 F := (H3.drop 0 rfl)
          exact ⟨vint (by first | (exfalso; omega) | exact (valE_0 (.inl ⟨by omega, by assumption⟩)).symm | exact (valE_0 (.inr ⟨by omega, by omega, by omega⟩)).symm | exact (valE_30 (by rintro (⟨_, _⟩ | ⟨_, _, _⟩) <;> first | omega | contradiction)).symm), H12⟩
      · skip
        refine s_eql false rfl rfl (dfalse hc9) rfl ?_
        refine r_cons (r_take rfl rfl ?_)
        refine s_pick_t (.bool false) rfl rfl rfl ?_
        refine r_cons (r_take rfl rfl ?_)
        refine s_move (.bool false) rfl rfl ?_
        refine r_cons (r_pass rfl rfl rfl rfl rfl ?_)
        refine r_cons (r_pass rfl rfl rfl rfl rfl ?_)
        refine r_cons (r_pass rfl rfl rfl rfl rfl ?_)
        refine r_cons (r_pass rfl rfl rfl rfl rfl ?_)
        refine r_cons (r_take rfl rfl ?_)
        refine s_pick_f (.bool false) rfl rfl rfl ?_
        refine r_cons (s_pick_f (.bool false) rfl rfl rfl ?_)
        refine r_nil ?_
        refine g_false rfl ?_
        refine g_skip ?_
        refine g_seq ?_
        refine g_region ?_
        refine r_cons (s_assign (.int .i64 30) rfl rfl ?_)
        refine r_nil ?_
        refine g_ret' [.int .i64 30] Try.func60 Try.results60 ⟨rfl, trivial⟩ ?_
        have H13 : St W w2 F := (H3.drop 0 rfl)
        exact ⟨vint (by first | (exfalso; omega) | exact (valE_0 (.inl ⟨by omega, by assumption⟩)).symm | exact (valE_0 (.inr ⟨by omega, by omega, by omega⟩)).symm | exact (valE_30 (by rintro (⟨_, _⟩ | ⟨_, _, _⟩) <;> first | omega | contradiction)).symm), H13⟩
    · skip
      refine s_eql false rfl rfl (dfalse hc8) rfl ?_
      refine r_cons (r_take rfl rfl ?_)
      refine s_move (.bool false) rfl rfl ?_
      refine r_cons (r_pass rfl rfl rfl rfl rfl ?_)
      refine r_cons (r_pass rfl rfl rfl rfl rfl ?_)
      refine r_cons (r_pass rfl rfl rfl rfl rfl ?_)
      refine r_cons (r_take rfl rfl ?_)
      refine s_pick_f (.bool false) rfl rfl rfl ?_
      refine r_cons (r_take rfl rfl ?_)
      refine s_move (.bool false) rfl rfl ?_
      refine r_cons (r_pass rfl rfl rfl rfl rfl ?_)
      refine r_cons (r_pass rfl rfl rfl rfl rfl ?_)
      refine r_cons (r_pass rfl rfl rfl rfl rfl ?_)
      refine r_cons (r_pass rfl rfl rfl rfl rfl ?_)
      refine r_cons (r_take rfl rfl ?_)
      refine s_pick_f (.bool false) rfl rfl rfl ?_
      refine r_cons (s_pick_f (.bool false) rfl rfl rfl ?_)
      refine r_nil ?_
      refine g_false rfl ?_
      refine g_skip ?_
      refine g_seq ?_
      refine g_region ?_
      refine r_cons (s_assign (.int .i64 30) rfl rfl ?_)
      refine r_nil ?_
      refine g_ret' [.int .i64 30] Try.func60 Try.results60 ⟨rfl, trivial⟩ ?_
      have H14 : St W w2 F := (H3.drop 0 rfl)
      exact ⟨vint (by first | (exfalso; omega) | exact (valE_0 (.inl ⟨by omega, by assumption⟩)).symm | exact (valE_0 (.inr ⟨by omega, by omega, by omega⟩)).symm | exact (valE_30 (by rintro (⟨_, _⟩ | ⟨_, _, _⟩) <;> first | omega | contradiction)).symm), H14⟩
set_option maxHeartbeats 4000000 in
set_option maxRecDepth 100000 in
theorem Keys1_S {W w : World} {F : List Atom} (g r l : Nat) (L : List Str) (N : Nat) (J Jx : List Str → Atom) (hN : L.length ≤ N) {i j : Nat} (hi : F[i]? = some (imm g (.cells #[.map (some r)] 57 (0, 0)))) (hj : F[j]? = some (MapA r (ents kS vB (setOf L)))) (hY : ∀ w G pre (x : Str), (pre ++ [x]).length ≤ N → St W w (J pre :: emp :: G) → YieldAt Try.prog l [.string x.v] w (fun v w' => (v = .bool true ∧ St W w' (J (pre ++ [x]) :: G)) ∨ (v = .bool false ∧ St W w' (Jx (pre ++ [x]) :: G)))) (H : St W w (J [] :: F)) : Calls Try.prog 68 #[.func (.yield l) #[] #[], .pointer (some ⟨g, 0, none⟩)] w (Ret fun v w' => ∃ M : List Str, (M.Perm L ∧ St W w' (J M :: F)) ∨ (True ∧ St W w' (Jx M :: F))) := by
  have H0 := (H.dup (i := i + 1) (by exact hi) (imm_pers _ _)).front (i := j + 2) (by exact hj)
  have H1 : St W w (MapA r (ents kS vB (setOf L)) :: imm g (.cells #[.map (some r)] 57 (0, 0)) :: J [] :: (F.set j emp)) := H0
  refine calls_of_go (n := 14) Try.func68 rfl Try.ntmps68 rfl ?_
  refine g_seq ?_
  refine g_region ?_
  refine r_cons (s_load (.map (some r)) ag_57 rfl (H1.imm_at (i := 1) rfl) rfl rfl ?_)
  refine r_cons (s_range H1 0 rfl un_57 rfl rfl ?_); intro it2 w3 H4
  have H5 : St W w3 (MapIt it2 r (ents kS vB (setOf L)) (ents kS vB (setOf L)) none :: imm g (.cells #[.map (some r)] 57 (0, 0)) :: J [] :: (F.set j emp)) := H4.drop 1 rfl
  refine r_nil ?_
  refine g_block ?_
  have H6 : St W w3 (J [] :: MapIt it2 r (ents kS vB (setOf L)) (ents kS vB (setOf L)) none :: imm g (.cells #[.map (some r)] 57 (0, 0)) :: (F.set j emp)) := (((H5.move 1 rfl).move 1 rfl).move 2 rfl)
  refine g_loop_inv (fun (x_ : (List Str) × (List (Str × Bool)) × (Option (Value × Value))) => match x_ with | (pre, rest, last) => [(0, .func (.yield l) #[] #[]), (5, .pointer (some ⟨it2, 0, none⟩))]) (fun (x_ : (List Str) × (List (Str × Bool)) × (Option (Value × Value))) w => match x_ with | (pre, rest, last) => ((pre ++ rest.map (·.1)).Perm ((setOf L).map (·.1))) ∧ St W w (J pre :: MapIt it2 r (ents kS vB (setOf L)) (ents kS vB rest) last :: imm g (.cells #[.map (some r)] 57 (0, 0)) :: (F.set j emp))) (fun (x_ : (List Str) × (List (Str × Bool)) × (Option (Value × Value))) => match x_ with | (pre, rest, last) => rest.length) ([], setOf L, none) ?_ ?_ ?_
  · exact ⟨by first | rfl | exact vint (by omega), by first | rfl | exact vint (by omega), trivial⟩
  · exact ⟨(List.Perm.refl _), H6⟩
  · rintro ⟨pre, rest, last⟩ ρ7 w8 ⟨hperm, H9⟩ nx10
    change Ends _ _ (upds ρ7 [(0, .func (.yield l) #[] #[]), (5, .pointer (some ⟨it2, 0, none⟩))]) w8
    refine g_seq ?_
    refine g_region ?_
    refine r_cons (s_nextT (ek := kS) (ev := vB) (rest := rest) H9 1 rfl rfl rfl ?_ ?_)
    · intro h011
      refine r_cons (s_extract (.bool false) #[.bool false] rfl rfl rfl ?_)
      refine r_nil ?_
      refine g_seq ?_
      refine g_false rfl ?_
      refine g_exit (by rfl) ?_
      refine g_end' [] Try.func68 Try.results68 trivial ?_
      have H17 : St W w8 (MapIt it2 r (ents kS vB (setOf L)) (ents kS vB rest) last :: J pre :: (F.set j emp)) := ((H9.move 1 rfl).drop 2 rfl)
      have H18 : St W w8 (MapA r (ents kS vB (setOf L)) :: (J pre :: F).set (j + 1) emp) := MapIt.shut (i := 0) H17 rfl
      have hr0 := h011
      exact ⟨_, .inl ⟨keys_end hr0 hperm, St.back_same (i := j + 1) (by exact hj) H18⟩⟩
    · intro jn12 en13 w14 hj15 H16
      have H19 : St W w14 (J pre :: MapIt it2 r (ents kS vB (setOf L)) (ents kS vB (rest.eraseIdx jn12)) (some (kS en13.1, vB en13.2)) :: imm g (.cells #[.map (some r)] 57 (0, 0)) :: (F.set j emp)) := H16
      refine r_cons (s_extract (.bool true) #[.bool true, .string en13.1.v, .bool en13.2] rfl rfl rfl ?_)
      refine r_nil ?_
      refine g_seq ?_
      refine g_true rfl ?_
      refine g_skip ?_
      refine g_block ?_
      refine g_seq ?_
      refine g_region ?_
      refine r_cons (s_entry (.tuple #[.string en13.1.v, .bool en13.2]) H19 1 rfl rfl rfl rfl ?_)
      refine r_cons (s_extract (.string en13.1.v) #[.string en13.1.v, .bool en13.2] rfl rfl rfl ?_)
      refine r_cons (s_assign (.string en13.1.v) rfl rfl ?_)
      refine r_nil ?_
      refine g_seq ?_
      refine g_region ?_
      refine r_cons (s_move (.func (.yield l) #[] #[]) rfl rfl ?_)
      refine r_cons (s_move (.string en13.1.v) rfl rfl ?_)
      have hlen9 := keys_step hj15 hperm hN
      refine r_cons (s_yield l [.string en13.1.v] rfl rfl rfl (hY _ _ pre en13.1 hlen9 (H19.cons_emp.move 1 rfl)) ?_)
      rintro _ w20 (⟨rfl, H21⟩ | ⟨rfl, H21⟩)
      · skip
        have H22 : St W w20 (J (pre ++ [en13.1]) :: MapIt it2 r (ents kS vB (setOf L)) (ents kS vB (rest.eraseIdx jn12)) (some (kS en13.1, vB en13.2)) :: imm g (.cells #[.map (some r)] 57 (0, 0)) :: (F.set j emp)) := H21
        refine r_cons (s_not true rfl false rfl rfl ?_)
        refine r_nil ?_
        refine g_false rfl ?_
        refine g_skip ?_
        refine g_inBlock ?_
        have H23 : St W w20 (J (pre ++ [en13.1]) :: MapIt it2 r (ents kS vB (setOf L)) (ents kS vB (rest.eraseIdx jn12)) (some (kS en13.1, vB en13.2)) :: imm g (.cells #[.map (some r)] 57 (0, 0)) :: (F.set j emp)) := (((H22.move 2 rfl).move 2 rfl).move 2 rfl)
        exact nx10 ((pre ++ [en13.1]), (rest.eraseIdx jn12), (some (kS en13.1, vB en13.2))) _ _ ⟨(perm_step hj15 hperm), H23⟩ (by first | (dsimp only; exact rest_len (by assumption)) | exact rest_len (by assumption)) ⟨by first | rfl | exact vint (by omega), by first | rfl | exact vint (by omega), trivial⟩
      · skip
        have H24 : St W w20 (Jx (pre ++ [en13.1]) :: MapIt it2 r (ents kS vB (setOf L)) (ents kS vB (rest.eraseIdx jn12)) (some (kS en13.1, vB en13.2)) :: imm g (.cells #[.map (some r)] 57 (0, 0)) :: (F.set j emp)) := H21
        refine r_cons (s_not false rfl true rfl rfl ?_)
        refine r_nil ?_
        refine g_true rfl ?_
        refine g_ret' [] Try.func68 Try.results68 trivial ?_
        have H25 : St W w20 (MapIt it2 r (ents kS vB (setOf L)) (ents kS vB (rest.eraseIdx jn12)) (some (kS en13.1, vB en13.2)) :: Jx (pre ++ [en13.1]) :: (F.set j emp)) := ((H24.move 1 rfl).drop 2 rfl)
        have H26 : St W w20 (MapA r (ents kS vB (setOf L)) :: (Jx (pre ++ [en13.1]) :: F).set (j + 1) emp) := MapIt.shut (i := 0) H25 rfl
        exact ⟨_, .inr ⟨trivial, St.back_same (i := j + 1) (by exact hj) H26⟩⟩
set_option maxHeartbeats 4000000 in
set_option maxRecDepth 100000 in
theorem Keys_S {W w : World} {F : List Atom} (r : Nat) (H : St W w F) : Calls Try.prog 59 #[.map (some r)] w (Ret fun v w' => ∃ g, v = .func (.func 68) #[] #[.pointer (some ⟨g, 0, none⟩)] ∧ St W w' (imm g (.cells #[.map (some r)] 57 (0, 0)) :: F)) := by
  refine calls_of_go (n := 4) Try.func59 rfl Try.ntmps59 rfl ?_
  refine g_seq ?_
  refine g_region ?_
  refine r_cons (s_box H 57 (.map (some r)) rfl (cs := #[.map (some r)]) rfl rfl ?_); intro bk1 w2 H3
  refine r_cons (s_assign (.nilFunc) rfl rfl ?_)
  refine r_nil ?_
  refine g_seq ?_
  refine g_region ?_
  refine r_cons (s_makeFunc (.func (.func 68) #[] #[.pointer (some ⟨bk1, 0, none⟩)]) rfl rfl ?_)
  refine r_cons (s_assign (.func (.func 68) #[] #[.pointer (some ⟨bk1, 0, none⟩)]) rfl rfl ?_)
  refine r_nil ?_
  refine g_ret' [.func (.func 68) #[] #[.pointer (some ⟨bk1, 0, none⟩)]] Try.func59 Try.results59 ⟨rfl, trivial⟩ ?_
  have H4 : St W w2 (blk bk1 (.cells #[.map (some r)] 57 (0, 0)) :: F) := H3
  exact ⟨_, rfl, blk_imm H4 (i := 0) rfl⟩
set_option maxHeartbeats 4000000 in
set_option maxRecDepth 100000 in
theorem AppendSeq_S {W w : World} {F : List Atom} (g r : Nat) (L : List Str) {i j : Nat} (hi : F[i]? = some (imm g (.cells #[.map (some r)] 57 (0, 0)))) (hj : F[j]? = some (MapA r (ents kS vB (setOf L)))) (hN : L.length * 16 ≤ 140737488355328) (H : St W w F) : Calls Try.prog 69 #[.slice none 0 0, .func (.func 68) #[] #[.pointer (some ⟨g, 0, none⟩)]] w (Ret fun v w' => ∃ (M : List Str) (p : Option Addr) (c : Nat), M.Perm L ∧ v = .slice p M.length c ∧ St W w' (Row 9 1 (.slice p M.length c) M.length (M.flatMap strCell) :: F)) := by
  have H0 := (H.dup (i := i) (by exact hi) (imm_pers _ _)).front (i := j + 1) (by exact hj)
  have H1 : St W w (MapA r (ents kS vB (setOf L)) :: imm g (.cells #[.map (some r)] 57 (0, 0)) :: (F.set j emp)) := H0
  refine calls_of_go (n := 13) Try.func69 rfl Try.ntmps69 rfl ?_
  refine g_seq ?_
  refine g_region ?_
  refine r_cons (s_box H1 36 (.slice none 0 0) rfl (cs := #[.slice none 0 0]) rfl rfl ?_); intro bk2 w3 H4
  refine r_cons (s_assign (.slice none 0 0) rfl rfl ?_)
  refine r_nil ?_
  refine g_seq ?_
  refine g_seq ?_
  refine g_region ?_
  refine r_cons (s_move (.func (.func 68) #[] #[.pointer (some ⟨g, 0, none⟩)]) rfl rfl ?_)
  refine r_nil ?_
  refine g_block ?_
  have H5 := Row.nil_intro H4 9 1
  have H6 : St W w3 (blk bk2 (.cells #[.slice none 0 0] 36 (0, 0)) :: Row 9 1 (.slice none 0 0) 0 [] :: MapA r (ents kS vB (setOf L)) :: imm g (.cells #[.map (some r)] 57 (0, 0)) :: (F.set j emp)) := (H5.move 1 rfl)
  have H7 : St W w3 ((ex fun q : Option Addr × Nat => star [blk bk2 (.cells #[.slice q.1 ([] : List Str).length q.2] 36 (0, 0)), Row 9 1 (.slice q.1 ([] : List Str).length q.2) ([] : List Str).length (([] : List Str).flatMap strCell)]) :: MapA r (ents kS vB (setOf L)) :: imm g (.cells #[.map (some r)] 57 (0, 0)) :: (F.set j emp)) := St.shut_ex (none, 0) (St.shut_star (ls := [blk bk2 (.cells #[.slice none 0 0] 36 (0, 0)), Row 9 1 (.slice none 0 0) 0 []]) H6)
  refine g_range1 (W := W) (F := MapA r (ents kS vB (setOf L)) :: imm g (.cells #[.map (some r)] 57 (0, 0)) :: (F.set j emp)) 68 [.pointer (some ⟨g, 0, none⟩)] rfl rfl pl_68 (fun x_ : Str => .string x_.v) rfl (fun x_ : Str => emp) (fun pre_ => (ex fun q : Option Addr × Nat => star [blk bk2 (.cells #[.slice q.1 pre_.length q.2] 36 (0, 0)), Row 9 1 (.slice q.1 pre_.length q.2) pre_.length (pre_.flatMap strCell)])) (fun c_ pre_ => pure' False) (fun pre_ x_ => (pre_ ++ [x_]).length ≤ L.length) (fun L_ => L_.Perm L) (fun L_ => True) H7 ?_ ?_ ?_ ?_
  · intro l8 r9 w10 G11 pre12 x13 hr14 hr15 hok16 H17
    try dsimp only at hok16 H17
    have H18 : St W w10 (blk l8 (.loop r9) :: (ex fun q : Option Addr × Nat => star [blk bk2 (.cells #[.slice q.1 pre12.length q.2] 36 (0, 0)), Row 9 1 (.slice q.1 pre12.length q.2) pre12.length (pre12.flatMap strCell)]) :: emp :: G11) := H17
    have H19 := H18.move 1 rfl
    obtain ⟨⟨pp20, cc21⟩, H22⟩ := St.open_ex H19
    have H23 := St.open_star H22
    have H24 : St W w10 (blk bk2 (.cells #[.slice pp20 pre12.length cc21] 36 (0, 0)) :: Row 9 1 (.slice pp20 pre12.length cc21) pre12.length (pre12.flatMap strCell) :: blk l8 (.loop r9) :: emp :: G11) := H23
    have hpl : pre12.length + 1 ≤ L.length := by have h9 := hok16; simp only [List.length_append, List.length_cons, List.length_nil] at h9; omega
    refine g_region ?_
    refine r_cons (s_assign (.string x13.v) rfl rfl ?_)
    refine r_nil ?_
    refine g_beginRound H24 (i := 2) rfl hr14 ?_; intro w25 H26
    have H27 : St W w25 (blk bk2 (.cells #[.slice pp20 pre12.length cc21] 36 (0, 0)) :: Row 9 1 (.slice pp20 pre12.length cc21) pre12.length (pre12.flatMap strCell) :: blk l8 (.loop { r9 with state := .busy }) :: emp :: G11) := H26
    refine g_block ?_
    refine g_region ?_
    refine r_cons (s_load (.slice pp20 pre12.length cc21) ag_36 rfl (H27.blk_at (i := 0) rfl) rfl rfl ?_)
    refine r_cons (s_move (.string x13.v) rfl rfl ?_)
    refine r_cons (s_buildSlice H27 1 1 (cs := #[.string x13.v]) #[.string ByteArray.empty] el_36 ze_9 (by decide) (by decide) (by kernel_rfl) rfl ?_); intro bk28 w29 H30
    refine r_cons (s_append H30 2 rfl rfl rfl (rd_blk (H30.blk_at (i := 0) rfl) rfl (Nat.le_of_ble_eq_true rfl) (by simp [Value.oneCell'])) ap_36 (by decide) (by unfold maxLen; omega) (by omega) (n' := pre12.length + 1) (xs' := pre12.flatMap strCell ++ ([.string x13.v] : List Value)) (by omega) (by first | rfl | simp) rfl ?_); intro vv31 w32 H33 hn34
    obtain ⟨pp35, cc36, rfl⟩ := Row.slice H33 (i := 2) rfl
    refine r_cons (s_store H33 1 (.slice pp35 (pre12.length + 1) cc36) rfl rfl rfl sz_36 rfl (Nat.le_of_ble_eq_true rfl) rfl (cs' := #[.slice pp35 (pre12.length + 1) cc36]) rfl ?_); intro w37 H38
    refine r_nil ?_
    refine g_inBlock ?_
    have H39 : St W w37 (blk bk28 (.cells #[.string x13.v] 9 (0, 0)) :: blk bk2 (.cells #[.slice pp35 ((pre12 ++ [x13]).length) cc36] 36 (0, 0)) :: Row 9 1 (.slice pp35 ((pre12 ++ [x13]).length) cc36) ((pre12 ++ [x13]).length) ((pre12 ++ [x13]).flatMap strCell) :: blk l8 (.loop { r9 with state := .busy }) :: emp :: G11) := by rw [List.flatMap_append, List.length_append]; exact H38
    have H40 : St W w37 (blk bk2 (.cells #[.slice pp35 ((pre12 ++ [x13]).length) cc36] 36 (0, 0)) :: Row 9 1 (.slice pp35 ((pre12 ++ [x13]).length) cc36) ((pre12 ++ [x13]).length) ((pre12 ++ [x13]).flatMap strCell) :: blk bk28 (.cells #[.string x13.v] 9 (0, 0)) :: blk l8 (.loop { r9 with state := .busy }) :: emp :: G11) := ((H39.move 2 rfl).move 2 rfl)
    have H41 : St W w37 ((ex fun q : Option Addr × Nat => star [blk bk2 (.cells #[.slice q.1 (pre12 ++ [x13]).length q.2] 36 (0, 0)), Row 9 1 (.slice q.1 (pre12 ++ [x13]).length q.2) (pre12 ++ [x13]).length ((pre12 ++ [x13]).flatMap strCell)]) :: blk bk28 (.cells #[.string x13.v] 9 (0, 0)) :: blk l8 (.loop { r9 with state := .busy }) :: emp :: G11) := St.shut_ex (pp35, cc36) (St.shut_star (ls := [blk bk2 (.cells #[.slice pp35 ((pre12 ++ [x13]).length) cc36] 36 (0, 0)), Row 9 1 (.slice pp35 ((pre12 ++ [x13]).length) cc36) ((pre12 ++ [x13]).length) ((pre12 ++ [x13]).flatMap strCell)]) H40)
    have H42 : St W w37 (blk l8 (.loop { r9 with state := .busy }) :: (ex fun q : Option Addr × Nat => star [blk bk2 (.cells #[.slice q.1 (pre12 ++ [x13]).length q.2] 36 (0, 0)), Row 9 1 (.slice q.1 (pre12 ++ [x13]).length q.2) (pre12 ++ [x13]).length ((pre12 ++ [x13]).flatMap strCell)]) :: G11) := (((H41.move 2 rfl).drop 2 rfl).drop 2 rfl)
    refine g_round_end hr14 hr15 H42 (i := 0) rfl ?_; intro w43 H44
    exact .inl ⟨rfl, H44⟩
  · intro l J Jx B w H hY; exact Keys1_S g r l L L.length J Jx (Nat.le_refl _) (i := 2) rfl (j := 1) rfl hY H
  · intro D45 L46 w47 hS48 H49
    have H51 : St W w47 ((ex fun q : Option Addr × Nat => star [blk bk2 (.cells #[.slice q.1 L46.length q.2] 36 (0, 0)), Row 9 1 (.slice q.1 L46.length q.2) L46.length (L46.flatMap strCell)]) :: blk D45 (.deferred (some [])) :: MapA r (ents kS vB (setOf L)) :: imm g (.cells #[.map (some r)] 57 (0, 0)) :: (F.set j emp)) := H49
    obtain ⟨⟨pp52, cc53⟩, H54⟩ := St.open_ex H51
    have H55 := St.open_star H54
    have H56 : St W w47 (blk bk2 (.cells #[.slice pp52 L46.length cc53] 36 (0, 0)) :: Row 9 1 (.slice pp52 L46.length cc53) L46.length (L46.flatMap strCell) :: blk D45 (.deferred (some [])) :: MapA r (ents kS vB (setOf L)) :: imm g (.cells #[.map (some r)] 57 (0, 0)) :: (F.set j emp)) := H55
    refine g_inBlock ?_
    refine g_seq ?_
    refine g_region ?_
    refine r_cons (s_load (.slice pp52 L46.length cc53) ag_36 rfl (H56.blk_at (i := 0) rfl) rfl rfl ?_)
    refine r_cons (s_assign (.slice pp52 L46.length cc53) rfl rfl ?_)
    refine r_nil ?_
    obtain ⟨hd57, H58⟩ := H56.collect (i := 2) rfl
    refine g_retD _ [.slice pp52 L46.length cc53] Try.func69 Try.results69 rfl ⟨hd57, trivial⟩ ⟨rfl, trivial⟩ ?_
    have H59 : St W (w47.putObj D45 (.deferred none)) (MapA r (ents kS vB (setOf L)) :: Row 9 1 (.slice pp52 L46.length cc53) L46.length (L46.flatMap strCell) :: (F.set j emp)) := ((((H58.move 1 rfl).move 2 rfl).drop 2 rfl).drop 2 rfl)
    have H60 : St W (w47.putObj D45 (.deferred none)) (MapA r (ents kS vB (setOf L)) :: (Row 9 1 (.slice pp52 L46.length cc53) L46.length (L46.flatMap strCell) :: F).set (j + 1) emp) := H59
    exact ⟨L46, _, _, hS48, rfl, St.back_same (i := j + 1) (by exact hj) H60⟩
  · intro D61 c66 L62 w63 hS64 H65
    have H67 : St W w63 (pure' False :: blk D61 (.deferred (some [])) :: MapA r (ents kS vB (setOf L)) :: imm g (.cells #[.map (some r)] 57 (0, 0)) :: (F.set j emp)) := H65
    exact (St.open_pure H67).1.elim
set_option maxHeartbeats 4000000 in
set_option maxRecDepth 100000 in
theorem Collect_S {W w : World} {F : List Atom} (g r : Nat) (L : List Str) {i j : Nat} (hi : F[i]? = some (imm g (.cells #[.map (some r)] 57 (0, 0)))) (hj : F[j]? = some (MapA r (ents kS vB (setOf L)))) (hN : L.length * 16 ≤ 140737488355328) (H : St W w F) : Calls Try.prog 66 #[.func (.func 68) #[] #[.pointer (some ⟨g, 0, none⟩)]] w (Ret fun v w' => ∃ (M : List Str) (p : Option Addr) (c : Nat), M.Perm L ∧ v = .slice p M.length c ∧ St W w' (Row 9 1 (.slice p M.length c) M.length (M.flatMap strCell) :: F)) := by
  have H0 := (H.dup (i := i) (by exact hi) (imm_pers _ _)).front (i := j + 1) (by exact hj)
  have H1 : St W w (MapA r (ents kS vB (setOf L)) :: imm g (.cells #[.map (some r)] 57 (0, 0)) :: (F.set j emp)) := H0
  refine calls_of_go (n := 5) Try.func66 rfl Try.ntmps66 rfl ?_
  refine g_seq ?_
  refine g_region ?_
  refine r_cons (s_assign (.slice none 0 0) rfl rfl ?_)
  refine r_nil ?_
  refine g_seq ?_
  refine g_region ?_
  refine r_cons (s_move (.func (.func 68) #[] #[.pointer (some ⟨g, 0, none⟩)]) rfl rfl ?_)
  refine r_cons (s_call [.slice none 0 0, .func (.func 68) #[] #[.pointer (some ⟨g, 0, none⟩)]] pl_69 rfl rfl (AppendSeq_S g r L (i := 1) rfl (j := 0) rfl hN H1) ?_)
  rintro _ w6 ⟨M2, pp3, cc4, hp5, rfl, H7⟩
  refine r_cons (s_assign (.slice pp3 M2.length cc4) rfl rfl ?_)
  refine r_nil ?_
  refine g_ret' [.slice pp3 M2.length cc4] Try.func66 Try.results66 ⟨rfl, trivial⟩ ?_
  have H8 : St W w6 (MapA r (ents kS vB (setOf L)) :: Row 9 1 (.slice pp3 M2.length cc4) M2.length (M2.flatMap strCell) :: (F.set j emp)) := ((H7.move 1 rfl).drop 2 rfl)
  have H9 : St W w6 (MapA r (ents kS vB (setOf L)) :: (Row 9 1 (.slice pp3 M2.length cc4) M2.length (M2.flatMap strCell) :: F).set (j + 1) emp) := H8
  exact ⟨M2, _, _, hp5, rfl, St.back_same (i := j + 1) (by exact hj) H9⟩
def sortL_ren : Shelf.Ren := ⟨fun | 6 => 67 | 8 => 71 | 9 => 70 | 19 => 81 | 20 => 82 | 21 => 72 | 22 => 73 | 23 => 74 | 24 => 75 | 25 => 76 | 26 => 77 | 27 => 78 | 28 => 79 | 29 => 80 | 36 => 83 | 31 => 84 | 32 => 85 | 37 => 86 | 38 => 87 | 39 => 88 | 41 => 89 | n => n, fun | 27 => 36 | 29 => 9 | 3 => 3 | 32 => 84 | 26 => 36 | 0 => 0 | 44 => 95 | 46 => 97 | 4 => 4 | 36 => 87 | 35 => 86 | 41 => 92 | 5 => 5 | 9 => 9 | 53 => 98 | 57 => 102 | 63 => 104 | 64 => 105 | n => n, fun n => n⟩
theorem sortL : SlLaysM.n6 Try.prog sortL_ren where
  mixed := by kernel_rfl
  f6 := ⟨"slices.Sort[[]string,string]", by decide, Try.func67.trans (congrArg some (by kernel_rfl))⟩
  f8 := Try.func71.trans (congrArg some (by kernel_rfl))
  f9 := ⟨"slices.pdqsortOrdered[string]", by decide, Try.func70.trans (congrArg some (by kernel_rfl))⟩
  f19 := Try.func81.trans (congrArg some (by kernel_rfl))
  f20 := Try.func82.trans (congrArg some (by kernel_rfl))
  f21 := ⟨"slices.insertionSortOrdered[string]", by decide, Try.func72.trans (congrArg some (by kernel_rfl))⟩
  f22 := ⟨"slices.heapSortOrdered[string]", by decide, Try.func73.trans (congrArg some (by kernel_rfl))⟩
  f23 := ⟨"slices.breakPatternsOrdered[string]", by decide, Try.func74.trans (congrArg some (by kernel_rfl))⟩
  f24 := ⟨"slices.choosePivotOrdered[string]", by decide, Try.func75.trans (congrArg some (by kernel_rfl))⟩
  f25 := ⟨"slices.reverseRangeOrdered[string]", by decide, Try.func76.trans (congrArg some (by kernel_rfl))⟩
  f26 := ⟨"slices.partialInsertionSortOrdered[string]", by decide, Try.func77.trans (congrArg some (by kernel_rfl))⟩
  f27 := ⟨"cmp.Less[string]", by decide, Try.func78.trans (congrArg some (by kernel_rfl))⟩
  f28 := ⟨"slices.partitionEqualOrdered[string]", by decide, Try.func79.trans (congrArg some (by kernel_rfl))⟩
  f29 := ⟨"slices.partitionOrdered[string]", by decide, Try.func80.trans (congrArg some (by kernel_rfl))⟩
  f31 := Try.func84.trans (congrArg some (by kernel_rfl))
  f32 := Try.func85.trans (congrArg some (by kernel_rfl))
  f36 := ⟨"slices.siftDownOrdered[string]", by decide, Try.func83.trans (congrArg some (by kernel_rfl))⟩
  f37 := ⟨"slices.medianAdjacentOrdered[string]", by decide, Try.func86.trans (congrArg some (by kernel_rfl))⟩
  f38 := ⟨"slices.medianOrdered[string]", by decide, Try.func87.trans (congrArg some (by kernel_rfl))⟩
  f39 := ⟨"cmp.isNaN[string]", by decide, Try.func88.trans (congrArg some (by kernel_rfl))⟩
  f41 := ⟨"slices.order2Ordered[string]", by decide, Try.func89.trans (congrArg some (by kernel_rfl))⟩
  t0 := Try.underlying0
  a0 := Try.isAgg0
  z0 := Try.sizeOf0
  v0 := Try.zeroValue0
  t3 := Try.underlying3
  a3 := Try.isAgg3
  z3 := Try.sizeOf3
  v3 := Try.zeroValue3
  t4 := Try.underlying4
  a4 := Try.isAgg4
  z4 := Try.sizeOf4
  v4 := Try.zeroValue4
  t5 := Try.underlying5
  a5 := Try.isAgg5
  z5 := Try.sizeOf5
  v5 := Try.zeroValue5
  t9 := Try.underlying9
  a9 := Try.isAgg9
  z9 := Try.sizeOf9
  v9 := Try.zeroValue9
  t26 := Try.underlying36
  a26 := Try.isAgg36
  z26 := Try.sizeOf36
  v26 := Try.zeroValue36
  t27 := Try.underlying36
  a27 := Try.isAgg36
  z27 := Try.sizeOf36
  v27 := Try.zeroValue36
  t29 := Try.underlying9
  a29 := Try.isAgg9
  z29 := Try.sizeOf9
  v29 := Try.zeroValue9
  t32 := Try.underlying84
  a32 := Try.isAgg84
  z32 := Try.sizeOf84
  v32 := Try.zeroValue84
  t35 := Try.underlying86
  a35 := Try.isAgg86
  z35 := Try.sizeOf86
  v35 := Try.zeroValue86
  t36 := Try.underlying87
  a36 := Try.isAgg87
  z36 := Try.sizeOf87
  v36 := Try.zeroValue87
  t41 := Try.underlying92
  a41 := Try.isAgg92
  z41 := Try.sizeOf92
  v41 := Try.zeroValue92
  t44 := Try.underlying95
  a44 := Try.isAgg95
  z44 := Try.sizeOf95
  v44 := Try.zeroValue95
  t46 := Try.underlying97
  a46 := Try.isAgg97
  z46 := Try.sizeOf97
  v46 := Try.zeroValue97
  t53 := Try.underlying98
  a53 := Try.isAgg98
  z53 := Try.sizeOf98
  v53 := Try.zeroValue98
  t57 := Try.underlying102
  a57 := Try.isAgg102
  z57 := Try.sizeOf102
  v57 := Try.zeroValue102
  t63 := Try.underlying104
  a63 := Try.isAgg104
  z63 := Try.sizeOf104
  v63 := Try.zeroValue104
  t64 := Try.underlying105
  a64 := Try.isAgg105
  z64 := Try.sizeOf105
  v64 := Try.zeroValue105
set_option maxHeartbeats 4000000 in
set_option maxRecDepth 100000 in
theorem Sorted_S {W w : World} {F : List Atom} (g r : Nat) (L : List Str) {i j : Nat} (hi : F[i]? = some (imm g (.cells #[.map (some r)] 57 (0, 0)))) (hj : F[j]? = some (MapA r (ents kS vB (setOf L)))) (hN : L.length * 16 ≤ 140737488355328) (H : St W w F) : Calls Try.prog 58 #[.func (.func 68) #[] #[.pointer (some ⟨g, 0, none⟩)]] w (Ret fun v w' => ∃ p c, v = .slice p L.length c ∧ St W w' (Im 1 (.slice p L.length c) L.length ((sortS L).flatMap strCell) :: F)) := by
  have H0 := (H.dup (i := i) (by exact hi) (imm_pers _ _)).front (i := j + 1) (by exact hj)
  have H1 : St W w (MapA r (ents kS vB (setOf L)) :: imm g (.cells #[.map (some r)] 57 (0, 0)) :: (F.set j emp)) := H0
  refine calls_of_go (n := 9) Try.func58 rfl Try.ntmps58 rfl ?_
  refine g_seq ?_
  refine g_region ?_
  refine r_cons (s_assign (.slice none 0 0) rfl rfl ?_)
  refine r_nil ?_
  refine g_seq ?_
  refine g_region ?_
  refine r_cons (s_move (.func (.func 68) #[] #[.pointer (some ⟨g, 0, none⟩)]) rfl rfl ?_)
  refine r_cons (s_call [.func (.func 68) #[] #[.pointer (some ⟨g, 0, none⟩)]] pl_66 rfl rfl (Collect_S g r L (i := 1) rfl (j := 0) rfl hN H1) ?_)
  rintro _ w6 ⟨M2, pp3, cc4, hp5, rfl, H7⟩
  refine r_cons (s_assign (.slice pp3 M2.length cc4) rfl rfl ?_)
  refine r_nil ?_
  refine g_seq ?_
  refine g_region ?_
  refine r_cons (s_move (.slice pp3 M2.length cc4) rfl rfl ?_)
  refine r_cons (s_call [.slice pp3 M2.length cc4] pl_67 rfl rfl (sort_str sortL H7 (i := 0) rfl (by have h9 := hp5.length_eq; omega)) ?_)
  rintro _ w8 ⟨rfl, H9⟩
  refine r_nil ?_
  refine g_seq ?_
  refine g_region ?_
  refine r_cons (s_move (.slice pp3 M2.length cc4) rfl rfl ?_)
  refine r_cons (s_assign (.slice pp3 M2.length cc4) rfl rfl ?_)
  refine r_nil ?_
  refine g_ret' [.slice pp3 M2.length cc4] Try.func58 Try.results58 ⟨rfl, trivial⟩ ?_
  have H10 : St W w8 (MapA r (ents kS vB (setOf L)) :: Row 9 1 (.slice pp3 M2.length cc4) M2.length ((sortS M2).flatMap strCell) :: (F.set j emp)) := ((H9.move 1 rfl).drop 2 rfl)
  have H11 : St W w8 (MapA r (ents kS vB (setOf L)) :: (Row 9 1 (.slice pp3 M2.length cc4) M2.length ((sortS M2).flatMap strCell) :: F).set (j + 1) emp) := H10
  have hx := St.back_same (i := j + 1) (by exact hj) H11
  have hq := Row.im hx (i := 0) rfl
  rw [sortS_of_perm hp5, hp5.length_eq] at hq
  exact ⟨_, _, by rw [← hp5.length_eq]; rfl, hq⟩
set_option maxHeartbeats 4000000 in
set_option maxRecDepth 100000 in
theorem Index_str {W w : World} {F : List Atom} (L : List Str) (lv : Value) (s : ByteArray) {m : Nat} (hm : F[m]? = some (Im 1 lv L.length (L.flatMap strCell))) (H : St W w F) : Calls Try.prog 62 #[lv, .string s] w (Ret fun v w' => v = .int .i64 (idxB (fun x : Str => decide (s = x.v)) L) ∧ St W w' F) := by
  obtain ⟨pp1, cc2, rfl, hn3⟩ := Rd.shape (Im.rd H (i := m) hm)
  have H4 := H.dup (i := m + 0) (by exact hm) (Im_pers _ _ _ _)
  have H5 : St W w (Im 1 (.slice pp1 L.length cc2) L.length (L.flatMap strCell) :: F) := H4
  obtain ⟨pA6, cA7, gA8, oA9, kA10, eA11, zA12, he18, hn13, hp14, hx15, hs16, hml, H17⟩ := Im.open_ H5 (i := 0) rfl
  obtain ⟨rfl, rfl⟩ : pp1 = pA6 ∧ cc2 = cA7 := by injection he18 with a_ b_ c_; exact ⟨a_, c_⟩
  refine calls_of_go (n := 19) Try.func62 rfl Try.ntmps62 rfl ?_
  refine g_seq ?_
  refine g_region ?_
  refine r_cons (s_assign (.int .i64 0) rfl rfl ?_)
  refine r_nil ?_
  refine g_seq ?_
  refine g_seq ?_
  refine g_region ?_
  refine r_cons (s_move (.slice pp1 L.length cc2) rfl rfl ?_)
  refine r_cons (s_len L.length rfl ⟨_, un_36⟩ rfl ?_)
  refine r_cons (s_move (.int .i64 0) rfl rfl ?_)
  refine r_nil ?_
  refine g_block ?_
  have H19 : St W w (imi (0 < L.length) gA8 (.cells kA10 eA11 zA12) :: Im 1 (.slice pp1 L.length cc2) L.length (L.flatMap strCell) :: F) := ((H17.move 1 rfl).move 1 rfl)
  refine g_loop_inv (fun (x_ : Nat) => match x_ with | j => [(0, .slice pp1 L.length cc2), (1, .string s), (4, .int .i64 0), (7, .int .i64 (L.length : Int)), (8, .int .i64 (j : Int))]) (fun (x_ : Nat) w => match x_ with | j => (j ≤ L.length) ∧ (∀ q, q < j → decide (s = (L.getD q default).v) = false) ∧ St W w (imi (0 < L.length) gA8 (.cells kA10 eA11 zA12) :: Im 1 (.slice pp1 L.length cc2) L.length (L.flatMap strCell) :: F)) (fun (x_ : Nat) => match x_ with | j => L.length - j) (0) ?_ ?_ ?_
  · exact ⟨by first | rfl | exact vint (by omega), by first | rfl | exact vint (by omega), by first | rfl | exact vint (by omega), by first | rfl | exact vint (by omega), by first | rfl | exact vint (by omega), trivial⟩
  · exact ⟨(by omega), (fun q hq => by omega), H19⟩
  · rintro j ρ20 w21 ⟨hjn, hz, H22⟩ nx23
    change Ends _ _ (upds ρ20 [(0, .slice pp1 L.length cc2), (1, .string s), (4, .int .i64 0), (7, .int .i64 (L.length : Int)), (8, .int .i64 (j : Int))]) w21
    refine g_seq ?_
    refine g_region ?_
    by_cases hc24 : (j : Int) < (L.length : Int)
    · skip
      refine r_cons (s_lss true rfl rfl (dtrue hc24) rfl ?_)
      refine r_nil ?_
      refine g_seq ?_
      refine g_true rfl ?_
      refine g_skip ?_
      refine g_seq ?_
      refine g_block ?_
      refine g_seq ?_
      refine g_region ?_
      refine r_cons (s_move (.int .i64 (j : Int)) rfl rfl ?_)
      refine r_cons (s_assign (.int .i64 (j : Int)) rfl rfl ?_)
      refine r_nil ?_
      refine g_seq ?_
      refine g_region ?_
      refine r_cons (s_move (.string s) rfl rfl ?_)
      refine r_cons (s_move (.slice pp1 L.length cc2) rfl rfl ?_)
      refine r_cons (s_move (.int .i64 (j : Int)) rfl rfl ?_)
      refine r_cons (s_indexAddr gA8 (off := oA9) (j : Int) 1 (oA9 + j * 1) (by exact congrArg (fun z_ => Value.slice z_ L.length cc2) (hp14 (by omega))) rfl el_36 (by omega) rfl rfl ?_)
      refine r_cons (s_load (.string ((L.getD j default).v)) ag_9 rfl (H22.imi_at (i := 0) rfl (by omega)) (elem_cell (L := L) (i := j) strCell_len (hx15 (by omega)) (by omega) default 0 (by decide) _ rfl) rfl ?_)
      by_cases hc25 : s = (L.getD j default).v
      · skip
        refine r_cons (s_seql true rfl rfl (dtrue hc25) rfl ?_)
        refine r_nil ?_
        refine g_true rfl ?_
        refine g_seq ?_
        refine g_region ?_
        refine r_cons (s_move (.int .i64 (j : Int)) rfl rfl ?_)
        refine r_cons (s_assign (.int .i64 (j : Int)) rfl rfl ?_)
        refine r_nil ?_
        refine g_ret' [.int .i64 (j : Int)] Try.func62 Try.results62 ⟨rfl, trivial⟩ ?_
        have H26 : St W w21 F := ((H22.drop 0 rfl).drop 0 rfl)
        exact ⟨vint (idxB_at (p := fun x : Str => decide (s = x.v)) hz (by omega) (decide_eq_true hc25)).symm, H26⟩
      · skip
        refine r_cons (s_seql false rfl rfl (dfalse hc25) rfl ?_)
        refine r_nil ?_
        refine g_false rfl ?_
        refine g_skip ?_
        refine g_inBlock ?_
        refine g_region ?_
        refine r_cons (s_add ((j : Int) + 1) rfl rfl (wi64 (by omega)) rfl ?_)
        refine r_cons (s_move (.int .i64 ((j : Int) + 1)) rfl rfl ?_)
        refine r_nil ?_
        have H27 : St W w21 (imi (0 < L.length) gA8 (.cells kA10 eA11 zA12) :: Im 1 (.slice pp1 L.length cc2) L.length (L.flatMap strCell) :: F) := ((H22.move 1 rfl).move 1 rfl)
        exact nx23 (j + 1) _ _ ⟨(by omega), (fun q hq => (Nat.lt_or_ge q j).elim (hz q) (fun h => by rw [show q = j from by omega]; exact decide_eq_false hc25)), H27⟩ (by first | (dsimp only; omega) | omega) ⟨by first | rfl | exact vint (by omega), by first | rfl | exact vint (by omega), by first | rfl | exact vint (by omega), by first | rfl | exact vint (by omega), by first | rfl | exact vint (by omega), trivial⟩
    · skip
      refine r_cons (s_lss false rfl rfl (dfalse hc24) rfl ?_)
      refine r_nil ?_
      refine g_seq ?_
      refine g_false rfl ?_
      refine g_exit (by rfl) ?_
      refine g_seq ?_
      refine g_region ?_
      refine r_cons (s_assign (.int .i64 (-1)) rfl rfl ?_)
      refine r_nil ?_
      refine g_ret' [.int .i64 (-1)] Try.func62 Try.results62 ⟨rfl, trivial⟩ ?_
      have H28 : St W w21 F := ((H22.drop 0 rfl).drop 0 rfl)
      exact ⟨vint (idxB_none (p := fun x : Str => decide (s = x.v)) (fun q hq => hz q (by omega))).symm, H28⟩
set_option maxHeartbeats 4000000 in
set_option maxRecDepth 100000 in
theorem Contains_str {W w : World} {F : List Atom} (L : List Str) (lv : Value) (s : ByteArray) {m : Nat} (hm : F[m]? = some (Im 1 lv L.length (L.flatMap strCell))) (H : St W w F) : Calls Try.prog 48 #[lv, .string s] w (Ret fun v w' => v = .bool (hasS L s) ∧ St W w' F) := by
  refine calls_of_go (n := 9) Try.func48 rfl Try.ntmps48 rfl ?_
  refine g_seq ?_
  refine g_region ?_
  refine r_cons (s_assign (.bool false) rfl rfl ?_)
  refine r_nil ?_
  refine g_seq ?_
  refine g_region ?_
  refine r_cons (s_move (lv) rfl rfl ?_)
  refine r_cons (s_move (.string s) rfl rfl ?_)
  refine r_cons (s_call [lv, .string s] pl_62 rfl rfl (Index_str L lv s hm H) ?_)
  rintro _ w1 ⟨rfl, H2⟩
  refine r_cons (s_geq (decide ((0 : Int) ≤ idxB (fun x : Str => decide (s = x.v)) L)) rfl rfl rfl rfl ?_)
  refine r_cons (s_assign (.bool (decide ((0 : Int) ≤ idxB (fun x : Str => decide (s = x.v)) L))) rfl rfl ?_)
  refine r_nil ?_
  refine g_ret' [.bool (decide ((0 : Int) ≤ idxB (fun x : Str => decide (s = x.v)) L))] Try.func48 Try.results48 ⟨rfl, trivial⟩ ?_
  exact ⟨congrArg Value.bool (has_idx L s), H2⟩
set_option maxHeartbeats 4000000 in
set_option maxRecDepth 100000 in
theorem Equal_str {W w : World} {F : List Atom} (L M : List Str) (lv mv : Value) {m : Nat} (hm : F[m]? = some (Im 1 lv L.length (L.flatMap strCell))) {n : Nat} (hn : F[n]? = some (Im 1 mv M.length (M.flatMap strCell))) (H : St W w F) : Calls Try.prog 23 #[lv, mv] w (Ret fun v w' => v = .bool (eqS L M) ∧ St W w' F) := by
  obtain ⟨pp1, cc2, rfl, hn3⟩ := Rd.shape (Im.rd H (i := m) hm)
  have H4 := H.dup (i := m + 0) (by exact hm) (Im_pers _ _ _ _)
  have H5 : St W w (Im 1 (.slice pp1 L.length cc2) L.length (L.flatMap strCell) :: F) := H4
  obtain ⟨pp6, cc7, rfl, hn8⟩ := Rd.shape (Im.rd H (i := n) hn)
  have H9 := H5.dup (i := n + 1) (by exact hn) (Im_pers _ _ _ _)
  have H10 : St W w (Im 1 (.slice pp6 M.length cc7) M.length (M.flatMap strCell) :: Im 1 (.slice pp1 L.length cc2) L.length (L.flatMap strCell) :: F) := H9
  refine calls_of_go (n := 26) Try.func23 rfl Try.ntmps23 rfl ?_
  refine g_seq ?_
  refine g_region ?_
  refine r_cons (s_assign (.bool false) rfl rfl ?_)
  refine r_nil ?_
  refine g_seq ?_
  refine g_seq ?_
  refine g_region ?_
  refine r_cons (s_move (.slice pp1 L.length cc2) rfl rfl ?_)
  refine r_cons (s_len L.length rfl ⟨_, un_36⟩ rfl ?_)
  refine r_cons (s_move (.slice pp6 M.length cc7) rfl rfl ?_)
  refine r_cons (s_len M.length rfl ⟨_, un_36⟩ rfl ?_)
  by_cases hc11 : (L.length : Int) = (M.length : Int)
  · skip
    refine r_cons (s_neq false rfl rfl (ntrue hc11) rfl ?_)
    refine r_nil ?_
    refine g_false rfl ?_
    refine g_skip ?_
    refine g_seq ?_
    refine g_seq ?_
    refine g_region ?_
    refine r_cons (s_move (.slice pp1 L.length cc2) rfl rfl ?_)
    refine r_cons (s_len L.length rfl ⟨_, un_36⟩ rfl ?_)
    refine r_cons (s_move (.int .i64 0) rfl rfl ?_)
    refine r_nil ?_
    refine g_block ?_
    obtain ⟨pA12, cA13, gA14, oA15, kA16, eA17, zA18, he24, hn19, hp20, hx21, hs22, hml, H23⟩ := Im.open_ H10 (i := 1) rfl
    obtain ⟨rfl, rfl⟩ : pp1 = pA12 ∧ cc2 = cA13 := by injection he24 with a_ b_ c_; exact ⟨a_, c_⟩
    obtain ⟨pA25, cA26, gA27, oA28, kA29, eA30, zA31, he37, hn32, hp33, hx34, hs35, hml, H36⟩ := Im.open_ H23 (i := 1) rfl
    obtain ⟨rfl, rfl⟩ : pp6 = pA25 ∧ cc7 = cA26 := by injection he37 with a_ b_ c_; exact ⟨a_, c_⟩
    have H38 : St W w (imi (0 < M.length) gA27 (.cells kA29 eA30 zA31) :: imi (0 < L.length) gA14 (.cells kA16 eA17 zA18) :: Im 1 (.slice pp6 M.length cc7) M.length (M.flatMap strCell) :: Im 1 (.slice pp1 L.length cc2) L.length (L.flatMap strCell) :: F) := ((((H36.move 3 rfl).move 3 rfl).move 3 rfl).move 3 rfl)
    refine g_loop_inv (fun (x_ : Nat) => match x_ with | j => [(0, .slice pp1 L.length cc2), (1, .slice pp6 M.length cc7), (4, .bool false), (12, .int .i64 (L.length : Int)), (13, .int .i64 (j : Int))]) (fun (x_ : Nat) w => match x_ with | j => (j ≤ L.length) ∧ (∀ q, q < j → (L.getD q default).v = (M.getD q default).v) ∧ St W w (imi (0 < M.length) gA27 (.cells kA29 eA30 zA31) :: imi (0 < L.length) gA14 (.cells kA16 eA17 zA18) :: Im 1 (.slice pp6 M.length cc7) M.length (M.flatMap strCell) :: Im 1 (.slice pp1 L.length cc2) L.length (L.flatMap strCell) :: F)) (fun (x_ : Nat) => match x_ with | j => L.length - j) (0) ?_ ?_ ?_
    · exact ⟨by first | rfl | exact vint (by omega), by first | rfl | exact vint (by omega), by first | rfl | exact vint (by omega), by first | rfl | exact vint (by omega), by first | rfl | exact vint (by omega), trivial⟩
    · exact ⟨(by omega), (fun q hq => by omega), H38⟩
    · rintro j ρ39 w40 ⟨hjn, hz, H41⟩ nx42
      change Ends _ _ (upds ρ39 [(0, .slice pp1 L.length cc2), (1, .slice pp6 M.length cc7), (4, .bool false), (12, .int .i64 (L.length : Int)), (13, .int .i64 (j : Int))]) w40
      refine g_seq ?_
      refine g_region ?_
      by_cases hc43 : (j : Int) < (L.length : Int)
      · skip
        refine r_cons (s_lss true rfl rfl (dtrue hc43) rfl ?_)
        refine r_nil ?_
        refine g_seq ?_
        refine g_true rfl ?_
        refine g_skip ?_
        refine g_seq ?_
        refine g_block ?_
        refine g_seq ?_
        refine g_region ?_
        refine r_cons (s_move (.int .i64 (j : Int)) rfl rfl ?_)
        refine r_cons (s_assign (.int .i64 (j : Int)) rfl rfl ?_)
        refine r_nil ?_
        refine g_seq ?_
        refine g_quiet (fun w' => St W w' (imi (0 < M.length) gA27 (.cells kA29 eA30 zA31) :: imi (0 < L.length) gA14 (.cells kA16 eA17 zA18) :: Im 1 (.slice pp6 M.length cc7) M.length (M.flatMap strCell) :: Im 1 (.slice pp1 L.length cc2) L.length (L.flatMap strCell) :: F)) mixed (by kernel_rfl) H41.drew ?_
        refine q_cons (q_val rfl rfl rfl (by intro w hw; exact x_move (.slice pp1 L.length cc2) rfl w) ?_)
        refine q_cons (q_val rfl rfl rfl (by intro w hw; exact x_move (.int .i64 (j : Int)) rfl w) ?_)
        refine q_cons (q_val rfl rfl rfl (by intro w hw; exact x_indexAddr gA14 (off := oA15) (j : Int) 1 (oA15 + j * 1) (by exact congrArg (fun z_ => Value.slice z_ L.length cc2) (hp20 (by omega))) rfl el_36 (by omega) rfl w) ?_)
        refine q_cons (q_val rfl rfl rfl (by intro w hw; exact x_load (.string ((L.getD j default).v)) ag_9 rfl (hw.imi_at (i := 1) rfl (by omega)) (elem_cell (L := L) (i := j) strCell_len (hx21 (by omega)) (by omega) default 0 (by decide) _ rfl)) ?_)
        refine q_cons (q_val rfl rfl rfl (by intro w hw; exact x_move (.slice pp6 M.length cc7) rfl w) ?_)
        refine q_cons (q_val rfl rfl rfl (by intro w hw; exact x_move (.int .i64 (j : Int)) rfl w) ?_)
        refine q_cons (q_val rfl rfl rfl (by intro w hw; exact x_indexAddr gA27 (off := oA28) (j : Int) 1 (oA28 + j * 1) (by exact congrArg (fun z_ => Value.slice z_ M.length cc7) (hp33 (by omega))) rfl el_36 (by omega) rfl w) ?_)
        refine q_cons (q_val rfl rfl rfl (by intro w hw; exact x_load (.string ((M.getD j default).v)) ag_9 rfl (hw.imi_at (i := 0) rfl (by omega)) (elem_cell (L := M) (i := j) strCell_len (hx34 (by omega)) (by omega) default 0 (by decide) _ rfl)) ?_)
        by_cases hc44 : (L.getD j default).v = (M.getD j default).v
        · skip
          refine q_cons (q_val rfl rfl rfl (by intro w hw; exact x_sneq false rfl rfl (ntrue hc44) w) ?_)
          refine q_nil ?_
          intro w45 H46
          refine g_false rfl ?_
          refine g_skip ?_
          refine g_inBlock ?_
          refine g_region ?_
          refine r_cons (s_add ((j : Int) + 1) rfl rfl (wi64 (by omega)) rfl ?_)
          refine r_cons (s_move (.int .i64 ((j : Int) + 1)) rfl rfl ?_)
          refine r_nil ?_
          have H47 : St W w45 (imi (0 < M.length) gA27 (.cells kA29 eA30 zA31) :: imi (0 < L.length) gA14 (.cells kA16 eA17 zA18) :: Im 1 (.slice pp6 M.length cc7) M.length (M.flatMap strCell) :: Im 1 (.slice pp1 L.length cc2) L.length (L.flatMap strCell) :: F) := ((((H46.move 3 rfl).move 3 rfl).move 3 rfl).move 3 rfl)
          exact nx42 (j + 1) _ _ ⟨(by omega), (fun q hq => (Nat.lt_or_ge q j).elim (hz q) (fun h => by rw [show q = j from by omega]; exact hc44)), H47⟩ (by first | (dsimp only; omega) | omega) ⟨by first | rfl | exact vint (by omega), by first | rfl | exact vint (by omega), by first | rfl | exact vint (by omega), by first | rfl | exact vint (by omega), by first | rfl | exact vint (by omega), trivial⟩
        · skip
          refine q_cons (q_val rfl rfl rfl (by intro w hw; exact x_sneq true rfl rfl (nfalse hc44) w) ?_)
          refine q_nil ?_
          intro w48 H49
          refine g_true rfl ?_
          refine g_seq ?_
          refine g_region ?_
          refine r_cons (s_assign (.bool false) rfl rfl ?_)
          refine r_nil ?_
          refine g_ret' [.bool false] Try.func23 Try.results23 ⟨rfl, trivial⟩ ?_
          have H50 : St W w48 F := ((((H49.drop 0 rfl).drop 0 rfl).drop 0 rfl).drop 0 rfl)
          exact ⟨congrArg Value.bool (eqS_at hc44).symm, H50⟩
      · skip
        refine r_cons (s_lss false rfl rfl (dfalse hc43) rfl ?_)
        refine r_nil ?_
        refine g_seq ?_
        refine g_false rfl ?_
        refine g_exit (by rfl) ?_
        refine g_seq ?_
        refine g_region ?_
        refine r_cons (s_assign (.bool true) rfl rfl ?_)
        refine r_nil ?_
        refine g_ret' [.bool true] Try.func23 Try.results23 ⟨rfl, trivial⟩ ?_
        have H51 : St W w40 F := ((((H41.drop 0 rfl).drop 0 rfl).drop 0 rfl).drop 0 rfl)
        exact ⟨congrArg Value.bool (eqS_all (by omega) (fun q hq => hz q (by omega))).symm, H51⟩
  · skip
    refine r_cons (s_neq true rfl rfl (nfalse hc11) rfl ?_)
    refine r_nil ?_
    refine g_true rfl ?_
    refine g_seq ?_
    refine g_region ?_
    refine r_cons (s_assign (.bool false) rfl rfl ?_)
    refine r_nil ?_
    refine g_ret' [.bool false] Try.func23 Try.results23 ⟨rfl, trivial⟩ ?_
    have H52 : St W w F := ((H10.drop 0 rfl).drop 0 rfl)
    exact ⟨congrArg Value.bool (eqS_len (by omega)).symm, H52⟩
set_option maxHeartbeats 4000000 in
set_option maxRecDepth 100000 in
theorem check_Terms_r (N : Nat) : ∀ (n : NodeD), sizeOf n < N → ∀ {W w : World} {F : List Atom}  {i : Nat} (hi : F[i]? = some (NodeA n)) (H : St W w F), Calls Try.prog 13 #[.agg #[.int .i64 n.kind.v, .string n.var.v, .string n.typ.v, .slice n.tp n.tests.length n.tc, .slice n.kp n.kids.length n.kc]] w (Ret fun v w' => v = .int .i64 (termsN n) ∧ St W w' F) := by
  induction N with | zero => exact fun n hN => absurd hN (Nat.not_lt_zero _) | succ N ih => ?_
  intro n hN W w F i hi H
  have H1 := NodeA.kids H (i := i + 0) (by exact hi)
  have H2 : St W w (Im 5 (.slice n.kp n.kids.length n.kc) n.kids.length (n.kids.flatMap nodeCell) :: NodesA n.kids :: F) := H1
  refine calls_of_go (n := 23) Try.func13 rfl Try.ntmps13 rfl ?_
  refine g_seq ?_
  refine g_region ?_
  refine r_cons (s_box H2 25 (.agg #[.int .i64 n.kind.v, .string n.var.v, .string n.typ.v, .slice n.tp n.tests.length n.tc, .slice n.kp n.kids.length n.kc]) rfl (cs := #[.int .i64 n.kind.v, .string n.var.v, .string n.typ.v, .slice n.tp n.tests.length n.tc, .slice n.kp n.kids.length n.kc]) rfl rfl ?_); intro bk3 w4 H5
  refine r_cons (s_assign (.int .i64 0) rfl rfl ?_)
  refine r_nil ?_
  refine g_seq ?_
  refine g_seq ?_
  refine g_region ?_
  refine r_cons (s_fieldAddr 25 4 4 4 23 rfl fi_25_4 rfl rfl ?_)
  refine r_cons (s_load (.slice n.kp n.kids.length n.kc) ag_23 rfl (H5.blk_at (i := 0) rfl) rfl rfl ?_)
  refine r_cons (s_len n.kids.length rfl ⟨_, un_23⟩ rfl ?_)
  by_cases hc6 : (n.kids.length : Int) = 0
  · skip
    refine r_cons (s_eql true rfl rfl (dtrue hc6) rfl ?_)
    refine r_nil ?_
    refine g_true rfl ?_
    refine g_seq ?_
    refine g_region ?_
    refine r_cons (s_assign (.int .i64 1) rfl rfl ?_)
    refine r_nil ?_
    refine g_ret' [.int .i64 1] Try.func13 Try.results13 ⟨rfl, trivial⟩ ?_
    have H7 : St W w4 F := (((H5.drop 0 rfl).drop 0 rfl).drop 0 rfl)
    exact ⟨vint (by rw [termsN_eq, if_pos (by rw [List.isEmpty_iff]; exact List.eq_nil_of_length_eq_zero (by omega))]), H7⟩
  · skip
    refine r_cons (s_eql false rfl rfl (dfalse hc6) rfl ?_)
    refine r_nil ?_
    refine g_false rfl ?_
    refine g_skip ?_
    refine g_seq ?_
    refine g_region ?_
    refine r_cons (s_assign (.int .i64 0) rfl rfl ?_)
    refine r_nil ?_
    refine g_seq ?_
    refine g_seq ?_
    refine g_region ?_
    refine r_cons (s_fieldAddr 25 4 4 4 23 rfl fi_25_4 rfl rfl ?_)
    refine r_cons (s_load (.slice n.kp n.kids.length n.kc) ag_23 rfl (H5.blk_at (i := 0) rfl) rfl rfl ?_)
    refine r_cons (s_len n.kids.length rfl ⟨_, un_23⟩ rfl ?_)
    refine r_cons (s_move (.int .i64 0) rfl rfl ?_)
    refine r_nil ?_
    refine g_block ?_
    obtain ⟨pA8, cA9, gA10, oA11, kA12, eA13, zA14, he20, hn15, hp16, hx17, hs18, hml, H19⟩ := Im.open_ H5 (i := 1) rfl
    obtain ⟨rfl, rfl⟩ : n.kp = pA8 ∧ n.kc = cA9 := by injection he20 with a_ b_ c_; exact ⟨a_, c_⟩
    have H21 : St W w4 (imi (0 < n.kids.length) gA10 (.cells kA12 eA13 zA14) :: Im 5 (.slice n.kp n.kids.length n.kc) n.kids.length (n.kids.flatMap nodeCell) :: NodesA n.kids :: F) := ((((H19.move 3 rfl).move 3 rfl).move 2 rfl).drop 3 rfl)
    refine g_loop_inv (fun (x_ : Nat) => match x_ with | j => [(2, .int .i64 0), (3, .int .i64 ((n.kids.take j).foldl (fun s k => wI (s + termsN k)) 0)), (11, .slice n.kp n.kids.length n.kc), (12, .int .i64 (n.kids.length : Int)), (13, .int .i64 (j : Int))]) (fun (x_ : Nat) w => match x_ with | j => (j ≤ n.kids.length) ∧ St W w (imi (0 < n.kids.length) gA10 (.cells kA12 eA13 zA14) :: Im 5 (.slice n.kp n.kids.length n.kc) n.kids.length (n.kids.flatMap nodeCell) :: NodesA n.kids :: F)) (fun (x_ : Nat) => match x_ with | j => n.kids.length - j) (0) ?_ ?_ ?_
    · exact ⟨by first | rfl | exact vint (by omega), by first | rfl | exact vint (by omega), by first | rfl | exact vint (by omega), by first | rfl | exact vint (by omega), by first | rfl | exact vint (by omega), trivial⟩
    · exact ⟨(by omega), H21⟩
    · rintro j ρ22 w23 ⟨hjl, H24⟩ nx25
      change Ends _ _ (upds ρ22 [(2, .int .i64 0), (3, .int .i64 ((n.kids.take j).foldl (fun s k => wI (s + termsN k)) 0)), (11, .slice n.kp n.kids.length n.kc), (12, .int .i64 (n.kids.length : Int)), (13, .int .i64 (j : Int))]) w23
      refine g_seq ?_
      refine g_region ?_
      by_cases hc26 : (j : Int) < (n.kids.length : Int)
      · skip
        refine r_cons (s_lss true rfl rfl (dtrue hc26) rfl ?_)
        refine r_nil ?_
        refine g_seq ?_
        refine g_true rfl ?_
        refine g_skip ?_
        refine g_seq ?_
        refine g_block ?_
        refine g_seq ?_
        refine g_region ?_
        refine r_cons (s_indexAddr gA10 (off := oA11) (j : Int) 5 (oA11 + j * 5) (by exact congrArg (fun z_ => Value.slice z_ n.kids.length n.kc) (hp16 (by omega))) rfl el_23 (by omega) rfl rfl ?_)
        refine r_cons (s_loadAgg [.int .i64 ((n.kids.getD j default).kind.v), .string ((n.kids.getD j default).var.v), .string ((n.kids.getD j default).typ.v), .slice ((n.kids.getD j default).tp) ((n.kids.getD j default).tests.length) ((n.kids.getD j default).tc), .slice ((n.kids.getD j default).kp) ((n.kids.getD j default).kids.length) ((n.kids.getD j default).kc)] 5 ag_25 rfl (H24.imi_at (i := 0) rfl (by omega)) (by have := elem_size (i := j) (s := 5) (hs18 (by omega)) (by omega); omega) (elem_take nodeCell_len (hx17 (by omega)) (by omega) default) rfl ?_)
        refine r_cons (s_alloc H24 25 ze_25 rfl ?_); intro bk27 w28 H29
        refine r_cons (s_storeAgg H29 0 #[.int .i64 ((n.kids.getD j default).kind.v), .string ((n.kids.getD j default).var.v), .string ((n.kids.getD j default).typ.v), .slice ((n.kids.getD j default).tp) ((n.kids.getD j default).tests.length) ((n.kids.getD j default).tc), .slice ((n.kids.getD j default).kp) ((n.kids.getD j default).kids.length) ((n.kids.getD j default).kc)] 5 rfl rfl rfl sz_25 rfl (by simp [Value.oneCell']) (Nat.le_of_ble_eq_true rfl) (fun o h1 h2 => by first | (simp; done) | (simp; omega)) (cs' := #[.int .i64 ((n.kids.getD j default).kind.v), .string ((n.kids.getD j default).var.v), .string ((n.kids.getD j default).typ.v), .slice ((n.kids.getD j default).tp) ((n.kids.getD j default).tests.length) ((n.kids.getD j default).tc), .slice ((n.kids.getD j default).kp) ((n.kids.getD j default).kids.length) ((n.kids.getD j default).kc)]) rfl ?_); intro w30 H31
        refine r_nil ?_
        refine g_region ?_
        refine r_cons (s_move (.int .i64 ((n.kids.take j).foldl (fun s k => wI (s + termsN k)) 0)) rfl rfl ?_)
        refine r_cons (s_loadAgg [.int .i64 ((n.kids.getD j default).kind.v), .string ((n.kids.getD j default).var.v), .string ((n.kids.getD j default).typ.v), .slice ((n.kids.getD j default).tp) ((n.kids.getD j default).tests.length) ((n.kids.getD j default).tc), .slice ((n.kids.getD j default).kp) ((n.kids.getD j default).kids.length) ((n.kids.getD j default).kc)] 5 ag_25 rfl (H31.blk_at (i := 0) rfl) (Nat.le_of_ble_eq_true rfl) rfl rfl ?_)
        have H32 := NodesA.at H31 (i := 3) rfl (j := j) (by omega)
        refine r_cons (s_call [.agg #[.int .i64 ((n.kids.getD j default).kind.v), .string ((n.kids.getD j default).var.v), .string ((n.kids.getD j default).typ.v), .slice ((n.kids.getD j default).tp) ((n.kids.getD j default).tests.length) ((n.kids.getD j default).tc), .slice ((n.kids.getD j default).kp) ((n.kids.getD j default).kids.length) ((n.kids.getD j default).kc)]] pl_13 rfl rfl (ih (n.kids.getD j default) (by have h9 := kid_lt (n := n) (j := j) (by omega); omega) (i := 0) rfl H32) ?_)
        rintro _ w33 ⟨rfl, H34⟩
        refine r_cons (s_add (wI ((n.kids.take j).foldl (fun s k => wI (s + termsN k)) 0 + termsN (n.kids.getD j default))) rfl rfl rfl rfl ?_)
        refine r_cons (s_assign (.int .i64 (wI ((n.kids.take j).foldl (fun s k => wI (s + termsN k)) 0 + termsN (n.kids.getD j default)))) rfl rfl ?_)
        refine r_nil ?_
        refine g_inBlock ?_
        refine g_region ?_
        refine r_cons (s_add ((j : Int) + 1) rfl rfl (wi64 (by omega)) rfl ?_)
        refine r_cons (s_move (.int .i64 ((j : Int) + 1)) rfl rfl ?_)
        refine r_nil ?_
        have H35 : St W w33 (imi (0 < n.kids.length) gA10 (.cells kA12 eA13 zA14) :: Im 5 (.slice n.kp n.kids.length n.kc) n.kids.length (n.kids.flatMap nodeCell) :: NodesA n.kids :: F) := (((((H34.move 4 rfl).move 4 rfl).move 4 rfl).drop 3 rfl).drop 3 rfl)
        exact nx25 (j + 1) _ _ ⟨(by omega), H35⟩ (by first | (dsimp only; omega) | omega) ⟨by first | rfl | exact vint (by omega), congrArg (Value.int .i64) (fold_step (fun s k => wI (s + termsN k)) 0 (by omega)).symm, by first | rfl | exact vint (by omega), by first | rfl | exact vint (by omega), by first | rfl | exact vint (by omega), trivial⟩
      · skip
        refine r_cons (s_lss false rfl rfl (dfalse hc26) rfl ?_)
        refine r_nil ?_
        refine g_seq ?_
        refine g_false rfl ?_
        refine g_exit (by rfl) ?_
        refine g_seq ?_
        refine g_region ?_
        refine r_cons (s_move (.int .i64 ((n.kids.take j).foldl (fun s k => wI (s + termsN k)) 0)) rfl rfl ?_)
        refine r_cons (s_assign (.int .i64 ((n.kids.take j).foldl (fun s k => wI (s + termsN k)) 0)) rfl rfl ?_)
        refine r_nil ?_
        refine g_ret' [.int .i64 ((n.kids.take j).foldl (fun s k => wI (s + termsN k)) 0)] Try.func13 Try.results13 ⟨rfl, trivial⟩ ?_
        have H36 : St W w23 F := (((H24.drop 0 rfl).drop 0 rfl).drop 0 rfl)
        exact ⟨vint (by rw [termsN_eq, if_neg (Bool.eq_false_iff.1 (by rw [Bool.eq_false_iff, ne_eq, List.isEmpty_iff]; intro h9; have h8 := congrArg List.length h9; simp only [List.length_nil] at h8; omega)), fold_all _ _ (by omega)]), H36⟩
theorem check_Terms {W w : World} {F : List Atom} (n : NodeD)  {i : Nat} (hi : F[i]? = some (NodeA n)) (H : St W w F) : Calls Try.prog 13 #[.agg #[.int .i64 n.kind.v, .string n.var.v, .string n.typ.v, .slice n.tp n.tests.length n.tc, .slice n.kp n.kids.length n.kc]] w (Ret fun v w' => v = .int .i64 (termsN n) ∧ St W w' F) := check_Terms_r (sizeOf n + 1) n (Nat.lt_succ_self _) hi H
set_option maxHeartbeats 4000000 in
set_option maxRecDepth 100000 in
theorem ref07_Terms_r (N : Nat) : ∀ (n : NodeD), sizeOf n < N → ∀ {W w : World} {F : List Atom}  {i : Nat} (hi : F[i]? = some (NodeA n)) (H : St W w F), Calls Try.prog 14 #[.agg #[.int .i64 n.kind.v, .string n.var.v, .string n.typ.v, .slice n.tp n.tests.length n.tc, .slice n.kp n.kids.length n.kc]] w (Ret fun v w' => v = .int .i64 (termsN n) ∧ St W w' F) := by
  induction N with | zero => exact fun n hN => absurd hN (Nat.not_lt_zero _) | succ N ih => ?_
  intro n hN W w F i hi H
  have H1 := NodeA.kids H (i := i + 0) (by exact hi)
  have H2 : St W w (Im 5 (.slice n.kp n.kids.length n.kc) n.kids.length (n.kids.flatMap nodeCell) :: NodesA n.kids :: F) := H1
  refine calls_of_go (n := 25) Try.func14 rfl Try.ntmps14 rfl ?_
  refine g_seq ?_
  refine g_region ?_
  refine r_cons (s_box H2 25 (.agg #[.int .i64 n.kind.v, .string n.var.v, .string n.typ.v, .slice n.tp n.tests.length n.tc, .slice n.kp n.kids.length n.kc]) rfl (cs := #[.int .i64 n.kind.v, .string n.var.v, .string n.typ.v, .slice n.tp n.tests.length n.tc, .slice n.kp n.kids.length n.kc]) rfl rfl ?_); intro bk3 w4 H5
  refine r_cons (s_assign (.int .i64 0) rfl rfl ?_)
  refine r_nil ?_
  refine g_seq ?_
  refine g_seq ?_
  refine g_region ?_
  refine r_cons (s_fieldAddr 25 4 4 4 23 rfl fi_25_4 rfl rfl ?_)
  refine r_cons (s_load (.slice n.kp n.kids.length n.kc) ag_23 rfl (H5.blk_at (i := 0) rfl) rfl rfl ?_)
  refine r_cons (s_len n.kids.length rfl ⟨_, un_23⟩ rfl ?_)
  by_cases hc6 : (n.kids.length : Int) = 0
  · skip
    refine r_cons (s_eql true rfl rfl (dtrue hc6) rfl ?_)
    refine r_nil ?_
    refine g_true rfl ?_
    refine g_seq ?_
    refine g_region ?_
    refine r_cons (s_assign (.int .i64 1) rfl rfl ?_)
    refine r_nil ?_
    refine g_ret' [.int .i64 1] Try.func14 Try.results14 ⟨rfl, trivial⟩ ?_
    have H7 : St W w4 F := (((H5.drop 0 rfl).drop 0 rfl).drop 0 rfl)
    exact ⟨vint (by rw [termsN_eq, if_pos (by rw [List.isEmpty_iff]; exact List.eq_nil_of_length_eq_zero (by omega))]), H7⟩
  · skip
    refine r_cons (s_eql false rfl rfl (dfalse hc6) rfl ?_)
    refine r_nil ?_
    refine g_false rfl ?_
    refine g_skip ?_
    refine g_seq ?_
    refine g_region ?_
    refine r_cons (s_assign (.int .i64 0) rfl rfl ?_)
    refine r_nil ?_
    refine g_seq ?_
    refine g_seq ?_
    refine g_region ?_
    refine r_cons (s_assign (.int .i64 0) rfl rfl ?_)
    refine r_nil ?_
    refine g_block ?_
    obtain ⟨pA8, cA9, gA10, oA11, kA12, eA13, zA14, he20, hn15, hp16, hx17, hs18, hml, H19⟩ := Im.open_ H5 (i := 1) rfl
    obtain ⟨rfl, rfl⟩ : n.kp = pA8 ∧ n.kc = cA9 := by injection he20 with a_ b_ c_; exact ⟨a_, c_⟩
    have H21 : St W w4 (imi (0 < n.kids.length) gA10 (.cells kA12 eA13 zA14) :: blk bk3 (.cells #[.int .i64 n.kind.v, .string n.var.v, .string n.typ.v, .slice n.tp n.tests.length n.tc, .slice n.kp n.kids.length n.kc] 25 (0, 0)) :: Im 5 (.slice n.kp n.kids.length n.kc) n.kids.length (n.kids.flatMap nodeCell) :: NodesA n.kids :: F) := ((((H19.move 3 rfl).move 3 rfl).move 3 rfl).move 3 rfl)
    refine g_loop_inv (fun (x_ : Nat) => match x_ with | j => [(1, .pointer (some ⟨bk3, 0, none⟩)), (2, .int .i64 0), (3, .int .i64 ((n.kids.take j).foldl (fun s k => wI (s + termsN k)) 0)), (4, .int .i64 (j : Int))]) (fun (x_ : Nat) w => match x_ with | j => (j ≤ n.kids.length) ∧ St W w (imi (0 < n.kids.length) gA10 (.cells kA12 eA13 zA14) :: blk bk3 (.cells #[.int .i64 n.kind.v, .string n.var.v, .string n.typ.v, .slice n.tp n.tests.length n.tc, .slice n.kp n.kids.length n.kc] 25 (0, 0)) :: Im 5 (.slice n.kp n.kids.length n.kc) n.kids.length (n.kids.flatMap nodeCell) :: NodesA n.kids :: F)) (fun (x_ : Nat) => match x_ with | j => n.kids.length - j) (0) ?_ ?_ ?_
    · exact ⟨by first | rfl | exact vint (by omega), by first | rfl | exact vint (by omega), by first | rfl | exact vint (by omega), by first | rfl | exact vint (by omega), trivial⟩
    · exact ⟨(by omega), H21⟩
    · rintro j ρ22 w23 ⟨hjl, H24⟩ nx25
      change Ends _ _ (upds ρ22 [(1, .pointer (some ⟨bk3, 0, none⟩)), (2, .int .i64 0), (3, .int .i64 ((n.kids.take j).foldl (fun s k => wI (s + termsN k)) 0)), (4, .int .i64 (j : Int))]) w23
      refine g_seq ?_
      refine g_seq ?_
      refine g_region ?_
      refine r_cons (s_move (.int .i64 (j : Int)) rfl rfl ?_)
      refine r_cons (s_fieldAddr 25 4 4 4 23 rfl fi_25_4 rfl rfl ?_)
      refine r_cons (s_load (.slice n.kp n.kids.length n.kc) ag_23 rfl (H24.blk_at (i := 1) rfl) rfl rfl ?_)
      refine r_cons (s_len n.kids.length rfl ⟨_, un_23⟩ rfl ?_)
      by_cases hc26 : (j : Int) < (n.kids.length : Int)
      · skip
        refine r_cons (s_lss true rfl rfl (dtrue hc26) rfl ?_)
        refine r_nil ?_
        refine g_true rfl ?_
        refine g_skip ?_
        refine g_seq ?_
        refine g_block ?_
        refine g_region ?_
        refine r_cons (s_move (.int .i64 ((n.kids.take j).foldl (fun s k => wI (s + termsN k)) 0)) rfl rfl ?_)
        refine r_cons (s_fieldAddr 25 4 4 4 23 rfl fi_25_4 rfl rfl ?_)
        refine r_cons (s_load (.slice n.kp n.kids.length n.kc) ag_23 rfl (H24.blk_at (i := 1) rfl) rfl rfl ?_)
        refine r_cons (s_move (.int .i64 (j : Int)) rfl rfl ?_)
        refine r_cons (s_indexAddr gA10 (off := oA11) (j : Int) 5 (oA11 + j * 5) (by exact congrArg (fun z_ => Value.slice z_ n.kids.length n.kc) (hp16 (by omega))) rfl el_23 (by omega) rfl rfl ?_)
        refine r_cons (s_loadAgg [.int .i64 ((n.kids.getD j default).kind.v), .string ((n.kids.getD j default).var.v), .string ((n.kids.getD j default).typ.v), .slice ((n.kids.getD j default).tp) ((n.kids.getD j default).tests.length) ((n.kids.getD j default).tc), .slice ((n.kids.getD j default).kp) ((n.kids.getD j default).kids.length) ((n.kids.getD j default).kc)] 5 ag_25 rfl (H24.imi_at (i := 0) rfl (by omega)) (by have := elem_size (i := j) (s := 5) (hs18 (by omega)) (by omega); omega) (elem_take nodeCell_len (hx17 (by omega)) (by omega) default) rfl ?_)
        have H27 := NodesA.at H24 (i := 3) rfl (j := j) (by omega)
        refine r_cons (s_call [.agg #[.int .i64 ((n.kids.getD j default).kind.v), .string ((n.kids.getD j default).var.v), .string ((n.kids.getD j default).typ.v), .slice ((n.kids.getD j default).tp) ((n.kids.getD j default).tests.length) ((n.kids.getD j default).tc), .slice ((n.kids.getD j default).kp) ((n.kids.getD j default).kids.length) ((n.kids.getD j default).kc)]] pl_14 rfl rfl (ih (n.kids.getD j default) (by have h9 := kid_lt (n := n) (j := j) (by omega); omega) (i := 0) rfl H27) ?_)
        rintro _ w28 ⟨rfl, H29⟩
        refine r_cons (s_add (wI ((n.kids.take j).foldl (fun s k => wI (s + termsN k)) 0 + termsN (n.kids.getD j default))) rfl rfl rfl rfl ?_)
        refine r_cons (s_assign (.int .i64 (wI ((n.kids.take j).foldl (fun s k => wI (s + termsN k)) 0 + termsN (n.kids.getD j default)))) rfl rfl ?_)
        refine r_nil ?_
        refine g_inBlock ?_
        refine g_region ?_
        refine r_cons (s_move (.int .i64 (j : Int)) rfl rfl ?_)
        refine r_cons (s_add ((j : Int) + 1) rfl rfl (wi64 (by omega)) rfl ?_)
        refine r_cons (s_assign (.int .i64 ((j : Int) + 1)) rfl rfl ?_)
        refine r_nil ?_
        have H30 : St W w28 (imi (0 < n.kids.length) gA10 (.cells kA12 eA13 zA14) :: blk bk3 (.cells #[.int .i64 n.kind.v, .string n.var.v, .string n.typ.v, .slice n.tp n.tests.length n.tc, .slice n.kp n.kids.length n.kc] 25 (0, 0)) :: Im 5 (.slice n.kp n.kids.length n.kc) n.kids.length (n.kids.flatMap nodeCell) :: NodesA n.kids :: F) := (((((H29.move 4 rfl).move 4 rfl).move 4 rfl).move 4 rfl).drop 4 rfl)
        exact nx25 (j + 1) _ _ ⟨(by omega), H30⟩ (by first | (dsimp only; omega) | omega) ⟨by first | rfl | exact vint (by omega), by first | rfl | exact vint (by omega), congrArg (Value.int .i64) (fold_step (fun s k => wI (s + termsN k)) 0 (by omega)).symm, by first | rfl | exact vint (by omega), trivial⟩
      · skip
        refine r_cons (s_lss false rfl rfl (dfalse hc26) rfl ?_)
        refine r_nil ?_
        refine g_false rfl ?_
        refine g_exit (by rfl) ?_
        refine g_seq ?_
        refine g_region ?_
        refine r_cons (s_move (.int .i64 ((n.kids.take j).foldl (fun s k => wI (s + termsN k)) 0)) rfl rfl ?_)
        refine r_cons (s_assign (.int .i64 ((n.kids.take j).foldl (fun s k => wI (s + termsN k)) 0)) rfl rfl ?_)
        refine r_nil ?_
        refine g_ret' [.int .i64 ((n.kids.take j).foldl (fun s k => wI (s + termsN k)) 0)] Try.func14 Try.results14 ⟨rfl, trivial⟩ ?_
        have H31 : St W w23 F := ((((H24.drop 0 rfl).drop 0 rfl).drop 0 rfl).drop 0 rfl)
        exact ⟨vint (by rw [termsN_eq, if_neg (Bool.eq_false_iff.1 (by rw [Bool.eq_false_iff, ne_eq, List.isEmpty_iff]; intro h9; have h8 := congrArg List.length h9; simp only [List.length_nil] at h8; omega)), fold_all _ _ (by omega)]), H31⟩
theorem ref07_Terms {W w : World} {F : List Atom} (n : NodeD)  {i : Nat} (hi : F[i]? = some (NodeA n)) (H : St W w F) : Calls Try.prog 14 #[.agg #[.int .i64 n.kind.v, .string n.var.v, .string n.typ.v, .slice n.tp n.tests.length n.tc, .slice n.kp n.kids.length n.kc]] w (Ret fun v w' => v = .int .i64 (termsN n) ∧ St W w' F) := ref07_Terms_r (sizeOf n + 1) n (Nat.lt_succ_self _) hi H
set_option maxHeartbeats 4000000 in
set_option maxRecDepth 100000 in
theorem check_Deep_r (N : Nat) : ∀ (n : NodeD), sizeOf n < N → ∀ {W w : World} {F : List Atom}  {i : Nat} (hi : F[i]? = some (NodeA n)) (H : St W w F), Calls Try.prog 15 #[.agg #[.int .i64 n.kind.v, .string n.var.v, .string n.typ.v, .slice n.tp n.tests.length n.tc, .slice n.kp n.kids.length n.kc]] w (Ret fun v w' => v = .int .i64 (deepN n) ∧ St W w' F) := by
  induction N with | zero => exact fun n hN => absurd hN (Nat.not_lt_zero _) | succ N ih => ?_
  intro n hN W w F i hi H
  have H1 := NodeA.kids H (i := i + 0) (by exact hi)
  have H2 : St W w (Im 5 (.slice n.kp n.kids.length n.kc) n.kids.length (n.kids.flatMap nodeCell) :: NodesA n.kids :: F) := H1
  refine calls_of_go (n := 20) Try.func15 rfl Try.ntmps15 rfl ?_
  refine g_seq ?_
  refine g_region ?_
  refine r_cons (s_box H2 25 (.agg #[.int .i64 n.kind.v, .string n.var.v, .string n.typ.v, .slice n.tp n.tests.length n.tc, .slice n.kp n.kids.length n.kc]) rfl (cs := #[.int .i64 n.kind.v, .string n.var.v, .string n.typ.v, .slice n.tp n.tests.length n.tc, .slice n.kp n.kids.length n.kc]) rfl rfl ?_); intro bk3 w4 H5
  refine r_cons (s_assign (.int .i64 0) rfl rfl ?_)
  refine r_nil ?_
  refine g_seq ?_
  refine g_region ?_
  refine r_cons (s_assign (.int .i64 0) rfl rfl ?_)
  refine r_nil ?_
  refine g_seq ?_
  refine g_seq ?_
  refine g_region ?_
  refine r_cons (s_fieldAddr 25 4 4 4 23 rfl fi_25_4 rfl rfl ?_)
  refine r_cons (s_load (.slice n.kp n.kids.length n.kc) ag_23 rfl (H5.blk_at (i := 0) rfl) rfl rfl ?_)
  refine r_cons (s_len n.kids.length rfl ⟨_, un_23⟩ rfl ?_)
  refine r_cons (s_move (.int .i64 0) rfl rfl ?_)
  refine r_nil ?_
  refine g_block ?_
  obtain ⟨pA6, cA7, gA8, oA9, kA10, eA11, zA12, he18, hn13, hp14, hx15, hs16, hml, H17⟩ := Im.open_ H5 (i := 1) rfl
  obtain ⟨rfl, rfl⟩ : n.kp = pA6 ∧ n.kc = cA7 := by injection he18 with a_ b_ c_; exact ⟨a_, c_⟩
  have H19 : St W w4 (imi (0 < n.kids.length) gA8 (.cells kA10 eA11 zA12) :: Im 5 (.slice n.kp n.kids.length n.kc) n.kids.length (n.kids.flatMap nodeCell) :: NodesA n.kids :: F) := ((((H17.move 3 rfl).move 3 rfl).move 2 rfl).drop 3 rfl)
  refine g_loop_inv (fun (x_ : Nat) => match x_ with | j => [(2, .int .i64 0), (3, .int .i64 ((n.kids.take j).foldl (fun s k => max s (deepN k)) 0)), (7, .slice n.kp n.kids.length n.kc), (8, .int .i64 (n.kids.length : Int)), (9, .int .i64 (j : Int))]) (fun (x_ : Nat) w => match x_ with | j => (j ≤ n.kids.length) ∧ St W w (imi (0 < n.kids.length) gA8 (.cells kA10 eA11 zA12) :: Im 5 (.slice n.kp n.kids.length n.kc) n.kids.length (n.kids.flatMap nodeCell) :: NodesA n.kids :: F)) (fun (x_ : Nat) => match x_ with | j => n.kids.length - j) (0) ?_ ?_ ?_
  · exact ⟨by first | rfl | exact vint (by omega), by first | rfl | exact vint (by omega), by first | rfl | exact vint (by omega), by first | rfl | exact vint (by omega), by first | rfl | exact vint (by omega), trivial⟩
  · exact ⟨(by omega), H19⟩
  · rintro j ρ20 w21 ⟨hjl, H22⟩ nx23
    change Ends _ _ (upds ρ20 [(2, .int .i64 0), (3, .int .i64 ((n.kids.take j).foldl (fun s k => max s (deepN k)) 0)), (7, .slice n.kp n.kids.length n.kc), (8, .int .i64 (n.kids.length : Int)), (9, .int .i64 (j : Int))]) w21
    refine g_seq ?_
    refine g_region ?_
    by_cases hc24 : (j : Int) < (n.kids.length : Int)
    · skip
      refine r_cons (s_lss true rfl rfl (dtrue hc24) rfl ?_)
      refine r_nil ?_
      refine g_seq ?_
      refine g_true rfl ?_
      refine g_skip ?_
      refine g_seq ?_
      refine g_block ?_
      refine g_seq ?_
      refine g_region ?_
      refine r_cons (s_indexAddr gA8 (off := oA9) (j : Int) 5 (oA9 + j * 5) (by exact congrArg (fun z_ => Value.slice z_ n.kids.length n.kc) (hp14 (by omega))) rfl el_23 (by omega) rfl rfl ?_)
      refine r_cons (s_loadAgg [.int .i64 ((n.kids.getD j default).kind.v), .string ((n.kids.getD j default).var.v), .string ((n.kids.getD j default).typ.v), .slice ((n.kids.getD j default).tp) ((n.kids.getD j default).tests.length) ((n.kids.getD j default).tc), .slice ((n.kids.getD j default).kp) ((n.kids.getD j default).kids.length) ((n.kids.getD j default).kc)] 5 ag_25 rfl (H22.imi_at (i := 0) rfl (by omega)) (by have := elem_size (i := j) (s := 5) (hs16 (by omega)) (by omega); omega) (elem_take nodeCell_len (hx15 (by omega)) (by omega) default) rfl ?_)
      refine r_cons (s_alloc H22 25 ze_25 rfl ?_); intro bk25 w26 H27
      refine r_cons (s_storeAgg H27 0 #[.int .i64 ((n.kids.getD j default).kind.v), .string ((n.kids.getD j default).var.v), .string ((n.kids.getD j default).typ.v), .slice ((n.kids.getD j default).tp) ((n.kids.getD j default).tests.length) ((n.kids.getD j default).tc), .slice ((n.kids.getD j default).kp) ((n.kids.getD j default).kids.length) ((n.kids.getD j default).kc)] 5 rfl rfl rfl sz_25 rfl (by simp [Value.oneCell']) (Nat.le_of_ble_eq_true rfl) (fun o h1 h2 => by first | (simp; done) | (simp; omega)) (cs' := #[.int .i64 ((n.kids.getD j default).kind.v), .string ((n.kids.getD j default).var.v), .string ((n.kids.getD j default).typ.v), .slice ((n.kids.getD j default).tp) ((n.kids.getD j default).tests.length) ((n.kids.getD j default).tc), .slice ((n.kids.getD j default).kp) ((n.kids.getD j default).kids.length) ((n.kids.getD j default).kc)]) rfl ?_); intro w28 H29
      refine r_nil ?_
      refine g_region ?_
      refine r_cons (s_move (.int .i64 ((n.kids.take j).foldl (fun s k => max s (deepN k)) 0)) rfl rfl ?_)
      refine r_cons (s_loadAgg [.int .i64 ((n.kids.getD j default).kind.v), .string ((n.kids.getD j default).var.v), .string ((n.kids.getD j default).typ.v), .slice ((n.kids.getD j default).tp) ((n.kids.getD j default).tests.length) ((n.kids.getD j default).tc), .slice ((n.kids.getD j default).kp) ((n.kids.getD j default).kids.length) ((n.kids.getD j default).kc)] 5 ag_25 rfl (H29.blk_at (i := 0) rfl) (Nat.le_of_ble_eq_true rfl) rfl rfl ?_)
      have H30 := NodesA.at H29 (i := 3) rfl (j := j) (by omega)
      refine r_cons (s_call [.agg #[.int .i64 ((n.kids.getD j default).kind.v), .string ((n.kids.getD j default).var.v), .string ((n.kids.getD j default).typ.v), .slice ((n.kids.getD j default).tp) ((n.kids.getD j default).tests.length) ((n.kids.getD j default).tc), .slice ((n.kids.getD j default).kp) ((n.kids.getD j default).kids.length) ((n.kids.getD j default).kc)]] pl_15 rfl rfl (ih (n.kids.getD j default) (by have h9 := kid_lt (n := n) (j := j) (by omega); omega) (i := 0) rfl H30) ?_)
      rintro _ w31 ⟨rfl, H32⟩
      refine r_cons (s_max2 (max ((n.kids.take j).foldl (fun s k => max s (deepN k)) 0) (deepN (n.kids.getD j default))) rfl rfl (by split <;> omega) rfl ?_)
      refine r_cons (s_assign (.int .i64 (max ((n.kids.take j).foldl (fun s k => max s (deepN k)) 0) (deepN (n.kids.getD j default)))) rfl rfl ?_)
      refine r_nil ?_
      refine g_inBlock ?_
      refine g_region ?_
      refine r_cons (s_add ((j : Int) + 1) rfl rfl (wi64 (by omega)) rfl ?_)
      refine r_cons (s_move (.int .i64 ((j : Int) + 1)) rfl rfl ?_)
      refine r_nil ?_
      have H33 : St W w31 (imi (0 < n.kids.length) gA8 (.cells kA10 eA11 zA12) :: Im 5 (.slice n.kp n.kids.length n.kc) n.kids.length (n.kids.flatMap nodeCell) :: NodesA n.kids :: F) := (((((H32.move 4 rfl).move 4 rfl).move 4 rfl).drop 3 rfl).drop 3 rfl)
      exact nx23 (j + 1) _ _ ⟨(by omega), H33⟩ (by first | (dsimp only; omega) | omega) ⟨by first | rfl | exact vint (by omega), congrArg (Value.int .i64) (fold_step (fun s k => max s (deepN k)) 0 (by omega)).symm, by first | rfl | exact vint (by omega), by first | rfl | exact vint (by omega), by first | rfl | exact vint (by omega), trivial⟩
    · skip
      refine r_cons (s_lss false rfl rfl (dfalse hc24) rfl ?_)
      refine r_nil ?_
      refine g_seq ?_
      refine g_false rfl ?_
      refine g_exit (by rfl) ?_
      refine g_seq ?_
      refine g_region ?_
      refine r_cons (s_move (.int .i64 ((n.kids.take j).foldl (fun s k => max s (deepN k)) 0)) rfl rfl ?_)
      refine r_cons (s_add (wI ((n.kids.take j).foldl (fun s k => max s (deepN k)) 0 + 1)) rfl rfl rfl rfl ?_)
      refine r_cons (s_assign (.int .i64 (wI ((n.kids.take j).foldl (fun s k => max s (deepN k)) 0 + 1))) rfl rfl ?_)
      refine r_nil ?_
      refine g_ret' [.int .i64 (wI ((n.kids.take j).foldl (fun s k => max s (deepN k)) 0 + 1))] Try.func15 Try.results15 ⟨rfl, trivial⟩ ?_
      have H34 : St W w21 F := (((H22.drop 0 rfl).drop 0 rfl).drop 0 rfl)
      exact ⟨vint (by rw [deepN_eq, fold_all _ _ (by omega)]), H34⟩
theorem check_Deep {W w : World} {F : List Atom} (n : NodeD)  {i : Nat} (hi : F[i]? = some (NodeA n)) (H : St W w F) : Calls Try.prog 15 #[.agg #[.int .i64 n.kind.v, .string n.var.v, .string n.typ.v, .slice n.tp n.tests.length n.tc, .slice n.kp n.kids.length n.kc]] w (Ret fun v w' => v = .int .i64 (deepN n) ∧ St W w' F) := check_Deep_r (sizeOf n + 1) n (Nat.lt_succ_self _) hi H
set_option maxHeartbeats 4000000 in
set_option maxRecDepth 100000 in
theorem ref07_Deep_r (N : Nat) : ∀ (n : NodeD), sizeOf n < N → ∀ {W w : World} {F : List Atom}  {i : Nat} (hi : F[i]? = some (NodeA n)) (H : St W w F), Calls Try.prog 16 #[.agg #[.int .i64 n.kind.v, .string n.var.v, .string n.typ.v, .slice n.tp n.tests.length n.tc, .slice n.kp n.kids.length n.kc]] w (Ret fun v w' => v = .int .i64 (deepN n) ∧ St W w' F) := by
  induction N with | zero => exact fun n hN => absurd hN (Nat.not_lt_zero _) | succ N ih => ?_
  intro n hN W w F i hi H
  have H1 := NodeA.kids H (i := i + 0) (by exact hi)
  have H2 : St W w (Im 5 (.slice n.kp n.kids.length n.kc) n.kids.length (n.kids.flatMap nodeCell) :: NodesA n.kids :: F) := H1
  refine calls_of_go (n := 22) Try.func16 rfl Try.ntmps16 rfl ?_
  refine g_seq ?_
  refine g_region ?_
  refine r_cons (s_box H2 25 (.agg #[.int .i64 n.kind.v, .string n.var.v, .string n.typ.v, .slice n.tp n.tests.length n.tc, .slice n.kp n.kids.length n.kc]) rfl (cs := #[.int .i64 n.kind.v, .string n.var.v, .string n.typ.v, .slice n.tp n.tests.length n.tc, .slice n.kp n.kids.length n.kc]) rfl rfl ?_); intro bk3 w4 H5
  refine r_cons (s_assign (.int .i64 0) rfl rfl ?_)
  refine r_nil ?_
  refine g_seq ?_
  refine g_region ?_
  refine r_cons (s_assign (.int .i64 0) rfl rfl ?_)
  refine r_nil ?_
  refine g_seq ?_
  refine g_seq ?_
  refine g_region ?_
  refine r_cons (s_assign (.int .i64 0) rfl rfl ?_)
  refine r_nil ?_
  refine g_block ?_
  obtain ⟨pA6, cA7, gA8, oA9, kA10, eA11, zA12, he18, hn13, hp14, hx15, hs16, hml, H17⟩ := Im.open_ H5 (i := 1) rfl
  obtain ⟨rfl, rfl⟩ : n.kp = pA6 ∧ n.kc = cA7 := by injection he18 with a_ b_ c_; exact ⟨a_, c_⟩
  have H19 : St W w4 (imi (0 < n.kids.length) gA8 (.cells kA10 eA11 zA12) :: blk bk3 (.cells #[.int .i64 n.kind.v, .string n.var.v, .string n.typ.v, .slice n.tp n.tests.length n.tc, .slice n.kp n.kids.length n.kc] 25 (0, 0)) :: Im 5 (.slice n.kp n.kids.length n.kc) n.kids.length (n.kids.flatMap nodeCell) :: NodesA n.kids :: F) := ((((H17.move 3 rfl).move 3 rfl).move 3 rfl).move 3 rfl)
  refine g_loop_inv (fun (x_ : Nat) => match x_ with | j => [(1, .pointer (some ⟨bk3, 0, none⟩)), (2, .int .i64 0), (3, .int .i64 ((n.kids.take j).foldl (fun s k => max s (deepN k)) 0)), (4, .int .i64 (j : Int))]) (fun (x_ : Nat) w => match x_ with | j => (j ≤ n.kids.length) ∧ St W w (imi (0 < n.kids.length) gA8 (.cells kA10 eA11 zA12) :: blk bk3 (.cells #[.int .i64 n.kind.v, .string n.var.v, .string n.typ.v, .slice n.tp n.tests.length n.tc, .slice n.kp n.kids.length n.kc] 25 (0, 0)) :: Im 5 (.slice n.kp n.kids.length n.kc) n.kids.length (n.kids.flatMap nodeCell) :: NodesA n.kids :: F)) (fun (x_ : Nat) => match x_ with | j => n.kids.length - j) (0) ?_ ?_ ?_
  · exact ⟨by first | rfl | exact vint (by omega), by first | rfl | exact vint (by omega), by first | rfl | exact vint (by omega), by first | rfl | exact vint (by omega), trivial⟩
  · exact ⟨(by omega), H19⟩
  · rintro j ρ20 w21 ⟨hjl, H22⟩ nx23
    change Ends _ _ (upds ρ20 [(1, .pointer (some ⟨bk3, 0, none⟩)), (2, .int .i64 0), (3, .int .i64 ((n.kids.take j).foldl (fun s k => max s (deepN k)) 0)), (4, .int .i64 (j : Int))]) w21
    refine g_seq ?_
    refine g_seq ?_
    refine g_region ?_
    refine r_cons (s_move (.int .i64 (j : Int)) rfl rfl ?_)
    refine r_cons (s_fieldAddr 25 4 4 4 23 rfl fi_25_4 rfl rfl ?_)
    refine r_cons (s_load (.slice n.kp n.kids.length n.kc) ag_23 rfl (H22.blk_at (i := 1) rfl) rfl rfl ?_)
    refine r_cons (s_len n.kids.length rfl ⟨_, un_23⟩ rfl ?_)
    by_cases hc24 : (j : Int) < (n.kids.length : Int)
    · skip
      refine r_cons (s_lss true rfl rfl (dtrue hc24) rfl ?_)
      refine r_nil ?_
      refine g_true rfl ?_
      refine g_skip ?_
      refine g_seq ?_
      refine g_block ?_
      refine g_region ?_
      refine r_cons (s_move (.int .i64 ((n.kids.take j).foldl (fun s k => max s (deepN k)) 0)) rfl rfl ?_)
      refine r_cons (s_fieldAddr 25 4 4 4 23 rfl fi_25_4 rfl rfl ?_)
      refine r_cons (s_load (.slice n.kp n.kids.length n.kc) ag_23 rfl (H22.blk_at (i := 1) rfl) rfl rfl ?_)
      refine r_cons (s_move (.int .i64 (j : Int)) rfl rfl ?_)
      refine r_cons (s_indexAddr gA8 (off := oA9) (j : Int) 5 (oA9 + j * 5) (by exact congrArg (fun z_ => Value.slice z_ n.kids.length n.kc) (hp14 (by omega))) rfl el_23 (by omega) rfl rfl ?_)
      refine r_cons (s_loadAgg [.int .i64 ((n.kids.getD j default).kind.v), .string ((n.kids.getD j default).var.v), .string ((n.kids.getD j default).typ.v), .slice ((n.kids.getD j default).tp) ((n.kids.getD j default).tests.length) ((n.kids.getD j default).tc), .slice ((n.kids.getD j default).kp) ((n.kids.getD j default).kids.length) ((n.kids.getD j default).kc)] 5 ag_25 rfl (H22.imi_at (i := 0) rfl (by omega)) (by have := elem_size (i := j) (s := 5) (hs16 (by omega)) (by omega); omega) (elem_take nodeCell_len (hx15 (by omega)) (by omega) default) rfl ?_)
      have H25 := NodesA.at H22 (i := 3) rfl (j := j) (by omega)
      refine r_cons (s_call [.agg #[.int .i64 ((n.kids.getD j default).kind.v), .string ((n.kids.getD j default).var.v), .string ((n.kids.getD j default).typ.v), .slice ((n.kids.getD j default).tp) ((n.kids.getD j default).tests.length) ((n.kids.getD j default).tc), .slice ((n.kids.getD j default).kp) ((n.kids.getD j default).kids.length) ((n.kids.getD j default).kc)]] pl_16 rfl rfl (ih (n.kids.getD j default) (by have h9 := kid_lt (n := n) (j := j) (by omega); omega) (i := 0) rfl H25) ?_)
      rintro _ w26 ⟨rfl, H27⟩
      refine r_cons (s_max2 (max ((n.kids.take j).foldl (fun s k => max s (deepN k)) 0) (deepN (n.kids.getD j default))) rfl rfl (by split <;> omega) rfl ?_)
      refine r_cons (s_assign (.int .i64 (max ((n.kids.take j).foldl (fun s k => max s (deepN k)) 0) (deepN (n.kids.getD j default)))) rfl rfl ?_)
      refine r_nil ?_
      refine g_inBlock ?_
      refine g_region ?_
      refine r_cons (s_move (.int .i64 (j : Int)) rfl rfl ?_)
      refine r_cons (s_add ((j : Int) + 1) rfl rfl (wi64 (by omega)) rfl ?_)
      refine r_cons (s_assign (.int .i64 ((j : Int) + 1)) rfl rfl ?_)
      refine r_nil ?_
      have H28 : St W w26 (imi (0 < n.kids.length) gA8 (.cells kA10 eA11 zA12) :: blk bk3 (.cells #[.int .i64 n.kind.v, .string n.var.v, .string n.typ.v, .slice n.tp n.tests.length n.tc, .slice n.kp n.kids.length n.kc] 25 (0, 0)) :: Im 5 (.slice n.kp n.kids.length n.kc) n.kids.length (n.kids.flatMap nodeCell) :: NodesA n.kids :: F) := (((((H27.move 4 rfl).move 4 rfl).move 4 rfl).move 4 rfl).drop 4 rfl)
      exact nx23 (j + 1) _ _ ⟨(by omega), H28⟩ (by first | (dsimp only; omega) | omega) ⟨by first | rfl | exact vint (by omega), by first | rfl | exact vint (by omega), congrArg (Value.int .i64) (fold_step (fun s k => max s (deepN k)) 0 (by omega)).symm, by first | rfl | exact vint (by omega), trivial⟩
    · skip
      refine r_cons (s_lss false rfl rfl (dfalse hc24) rfl ?_)
      refine r_nil ?_
      refine g_false rfl ?_
      refine g_exit (by rfl) ?_
      refine g_seq ?_
      refine g_region ?_
      refine r_cons (s_move (.int .i64 ((n.kids.take j).foldl (fun s k => max s (deepN k)) 0)) rfl rfl ?_)
      refine r_cons (s_add (wI ((n.kids.take j).foldl (fun s k => max s (deepN k)) 0 + 1)) rfl rfl rfl rfl ?_)
      refine r_cons (s_assign (.int .i64 (wI ((n.kids.take j).foldl (fun s k => max s (deepN k)) 0 + 1))) rfl rfl ?_)
      refine r_nil ?_
      refine g_ret' [.int .i64 (wI ((n.kids.take j).foldl (fun s k => max s (deepN k)) 0 + 1))] Try.func16 Try.results16 ⟨rfl, trivial⟩ ?_
      have H29 : St W w21 F := ((((H22.drop 0 rfl).drop 0 rfl).drop 0 rfl).drop 0 rfl)
      exact ⟨vint (by rw [deepN_eq, fold_all _ _ (by omega)]), H29⟩
theorem ref07_Deep {W w : World} {F : List Atom} (n : NodeD)  {i : Nat} (hi : F[i]? = some (NodeA n)) (H : St W w F) : Calls Try.prog 16 #[.agg #[.int .i64 n.kind.v, .string n.var.v, .string n.typ.v, .slice n.tp n.tests.length n.tc, .slice n.kp n.kids.length n.kc]] w (Ret fun v w' => v = .int .i64 (deepN n) ∧ St W w' F) := ref07_Deep_r (sizeOf n + 1) n (Nat.lt_succ_self _) hi H
set_option maxHeartbeats 4000000 in
set_option maxRecDepth 100000 in
theorem check_Alts_r (N : Nat) : ∀ (n : NodeD), sizeOf n < N → ∀ {W w : World} {F : List Atom}  {i : Nat} (hi : F[i]? = some (NodeA n)) (H : St W w F), Calls Try.prog 17 #[.agg #[.int .i64 n.kind.v, .string n.var.v, .string n.typ.v, .slice n.tp n.tests.length n.tc, .slice n.kp n.kids.length n.kc]] w (Ret fun v w' => v = .int .i64 (altsN n) ∧ St W w' F) := by
  induction N with | zero => exact fun n hN => absurd hN (Nat.not_lt_zero _) | succ N ih => ?_
  intro n hN W w F i hi H
  have H1 := NodeA.kids H (i := i + 0) (by exact hi)
  have H2 : St W w (Im 5 (.slice n.kp n.kids.length n.kc) n.kids.length (n.kids.flatMap nodeCell) :: NodesA n.kids :: F) := H1
  refine calls_of_go (n := 35) Try.func17 rfl Try.ntmps17 rfl ?_
  refine g_seq ?_
  refine g_region ?_
  refine r_cons (s_box H2 25 (.agg #[.int .i64 n.kind.v, .string n.var.v, .string n.typ.v, .slice n.tp n.tests.length n.tc, .slice n.kp n.kids.length n.kc]) rfl (cs := #[.int .i64 n.kind.v, .string n.var.v, .string n.typ.v, .slice n.tp n.tests.length n.tc, .slice n.kp n.kids.length n.kc]) rfl rfl ?_); intro bk3 w4 H5
  refine r_cons (s_assign (.int .i64 0) rfl rfl ?_)
  refine r_nil ?_
  refine g_seq ?_
  refine g_seq ?_
  refine g_region ?_
  refine r_cons (s_fieldAddr 25 4 4 4 23 rfl fi_25_4 rfl rfl ?_)
  refine r_cons (s_load (.slice n.kp n.kids.length n.kc) ag_23 rfl (H5.blk_at (i := 0) rfl) rfl rfl ?_)
  refine r_cons (s_len n.kids.length rfl ⟨_, un_23⟩ rfl ?_)
  by_cases hc6 : (n.kids.length : Int) = 0
  · skip
    refine r_cons (s_eql true rfl rfl (dtrue hc6) rfl ?_)
    refine r_nil ?_
    refine g_true rfl ?_
    refine g_seq ?_
    refine g_region ?_
    refine r_cons (s_assign (.int .i64 1) rfl rfl ?_)
    refine r_nil ?_
    refine g_ret' [.int .i64 1] Try.func17 Try.results17 ⟨rfl, trivial⟩ ?_
    have H7 : St W w4 F := (((H5.drop 0 rfl).drop 0 rfl).drop 0 rfl)
    exact ⟨vint (by rw [altsN_eq, if_pos (by rw [List.isEmpty_iff]; exact List.eq_nil_of_length_eq_zero (by omega))]), H7⟩
  · skip
    refine r_cons (s_eql false rfl rfl (dfalse hc6) rfl ?_)
    refine r_nil ?_
    refine g_false rfl ?_
    refine g_skip ?_
    refine g_seq ?_
    refine g_region ?_
    refine r_cons (s_assign (.int .i64 0) rfl rfl ?_)
    refine r_cons (s_assign (.int .i64 1) rfl rfl ?_)
    refine r_nil ?_
    refine g_seq ?_
    refine g_seq ?_
    refine g_region ?_
    refine r_cons (s_fieldAddr 25 4 4 4 23 rfl fi_25_4 rfl rfl ?_)
    refine r_cons (s_load (.slice n.kp n.kids.length n.kc) ag_23 rfl (H5.blk_at (i := 0) rfl) rfl rfl ?_)
    refine r_cons (s_len n.kids.length rfl ⟨_, un_23⟩ rfl ?_)
    refine r_cons (s_move (.int .i64 0) rfl rfl ?_)
    refine r_nil ?_
    refine g_block ?_
    obtain ⟨pA8, cA9, gA10, oA11, kA12, eA13, zA14, he20, hn15, hp16, hx17, hs18, hml, H19⟩ := Im.open_ H5 (i := 1) rfl
    obtain ⟨rfl, rfl⟩ : n.kp = pA8 ∧ n.kc = cA9 := by injection he20 with a_ b_ c_; exact ⟨a_, c_⟩
    have H21 : St W w4 (imi (0 < n.kids.length) gA10 (.cells kA12 eA13 zA14) :: blk bk3 (.cells #[.int .i64 n.kind.v, .string n.var.v, .string n.typ.v, .slice n.tp n.tests.length n.tc, .slice n.kp n.kids.length n.kc] 25 (0, 0)) :: Im 5 (.slice n.kp n.kids.length n.kc) n.kids.length (n.kids.flatMap nodeCell) :: NodesA n.kids :: F) := ((((H19.move 3 rfl).move 3 rfl).move 3 rfl).move 3 rfl)
    refine g_loop_inv (fun (x_ : Nat) => match x_ with | j => [(1, .pointer (some ⟨bk3, 0, none⟩)), (2, .int .i64 0), (3, .int .i64 ((n.kids.take j).foldl (fun s k => min (s + altsN k) 65) 0)), (4, .int .i64 ((n.kids.take j).foldl (fun s k => min (s * altsN k) 65) 1)), (13, .slice n.kp n.kids.length n.kc), (14, .int .i64 (n.kids.length : Int)), (15, .int .i64 (j : Int))]) (fun (x_ : Nat) w => match x_ with | j => (j ≤ n.kids.length) ∧ St W w (imi (0 < n.kids.length) gA10 (.cells kA12 eA13 zA14) :: blk bk3 (.cells #[.int .i64 n.kind.v, .string n.var.v, .string n.typ.v, .slice n.tp n.tests.length n.tc, .slice n.kp n.kids.length n.kc] 25 (0, 0)) :: Im 5 (.slice n.kp n.kids.length n.kc) n.kids.length (n.kids.flatMap nodeCell) :: NodesA n.kids :: F)) (fun (x_ : Nat) => match x_ with | j => n.kids.length - j) (0) ?_ ?_ ?_
    · exact ⟨by first | rfl | exact vint (by omega), by first | rfl | exact vint (by omega), by first | rfl | exact vint (by omega), by first | rfl | exact vint (by omega), by first | rfl | exact vint (by omega), by first | rfl | exact vint (by omega), by first | rfl | exact vint (by omega), trivial⟩
    · exact ⟨(by omega), H21⟩
    · rintro j ρ22 w23 ⟨hjl, H24⟩ nx25
      change Ends _ _ (upds ρ22 [(1, .pointer (some ⟨bk3, 0, none⟩)), (2, .int .i64 0), (3, .int .i64 ((n.kids.take j).foldl (fun s k => min (s + altsN k) 65) 0)), (4, .int .i64 ((n.kids.take j).foldl (fun s k => min (s * altsN k) 65) 1)), (13, .slice n.kp n.kids.length n.kc), (14, .int .i64 (n.kids.length : Int)), (15, .int .i64 (j : Int))]) w23
      refine g_seq ?_
      refine g_region ?_
      by_cases hc26 : (j : Int) < (n.kids.length : Int)
      · skip
        refine r_cons (s_lss true rfl rfl (dtrue hc26) rfl ?_)
        refine r_nil ?_
        refine g_seq ?_
        refine g_true rfl ?_
        refine g_skip ?_
        refine g_seq ?_
        refine g_block ?_
        refine g_seq ?_
        refine g_region ?_
        refine r_cons (s_indexAddr gA10 (off := oA11) (j : Int) 5 (oA11 + j * 5) (by exact congrArg (fun z_ => Value.slice z_ n.kids.length n.kc) (hp16 (by omega))) rfl el_23 (by omega) rfl rfl ?_)
        refine r_cons (s_loadAgg [.int .i64 ((n.kids.getD j default).kind.v), .string ((n.kids.getD j default).var.v), .string ((n.kids.getD j default).typ.v), .slice ((n.kids.getD j default).tp) ((n.kids.getD j default).tests.length) ((n.kids.getD j default).tc), .slice ((n.kids.getD j default).kp) ((n.kids.getD j default).kids.length) ((n.kids.getD j default).kc)] 5 ag_25 rfl (H24.imi_at (i := 0) rfl (by omega)) (by have := elem_size (i := j) (s := 5) (hs18 (by omega)) (by omega); omega) (elem_take nodeCell_len (hx17 (by omega)) (by omega) default) rfl ?_)
        refine r_cons (s_alloc H24 25 ze_25 rfl ?_); intro bk27 w28 H29
        refine r_cons (s_storeAgg H29 0 #[.int .i64 ((n.kids.getD j default).kind.v), .string ((n.kids.getD j default).var.v), .string ((n.kids.getD j default).typ.v), .slice ((n.kids.getD j default).tp) ((n.kids.getD j default).tests.length) ((n.kids.getD j default).tc), .slice ((n.kids.getD j default).kp) ((n.kids.getD j default).kids.length) ((n.kids.getD j default).kc)] 5 rfl rfl rfl sz_25 rfl (by simp [Value.oneCell']) (Nat.le_of_ble_eq_true rfl) (fun o h1 h2 => by first | (simp; done) | (simp; omega)) (cs' := #[.int .i64 ((n.kids.getD j default).kind.v), .string ((n.kids.getD j default).var.v), .string ((n.kids.getD j default).typ.v), .slice ((n.kids.getD j default).tp) ((n.kids.getD j default).tests.length) ((n.kids.getD j default).tc), .slice ((n.kids.getD j default).kp) ((n.kids.getD j default).kids.length) ((n.kids.getD j default).kc)]) rfl ?_); intro w30 H31
        refine r_nil ?_
        refine g_seq ?_
        refine g_region ?_
        refine r_cons (s_loadAgg [.int .i64 ((n.kids.getD j default).kind.v), .string ((n.kids.getD j default).var.v), .string ((n.kids.getD j default).typ.v), .slice ((n.kids.getD j default).tp) ((n.kids.getD j default).tests.length) ((n.kids.getD j default).tc), .slice ((n.kids.getD j default).kp) ((n.kids.getD j default).kids.length) ((n.kids.getD j default).kc)] 5 ag_25 rfl (H31.blk_at (i := 0) rfl) (Nat.le_of_ble_eq_true rfl) rfl rfl ?_)
        have H32 := NodesA.at H31 (i := 4) rfl (j := j) (by omega)
        refine r_cons (s_call [.agg #[.int .i64 ((n.kids.getD j default).kind.v), .string ((n.kids.getD j default).var.v), .string ((n.kids.getD j default).typ.v), .slice ((n.kids.getD j default).tp) ((n.kids.getD j default).tests.length) ((n.kids.getD j default).tc), .slice ((n.kids.getD j default).kp) ((n.kids.getD j default).kids.length) ((n.kids.getD j default).kc)]] pl_17 rfl rfl (ih (n.kids.getD j default) (by have h9 := kid_lt (n := n) (j := j) (by omega); omega) (i := 0) rfl H32) ?_)
        rintro _ w33 ⟨rfl, H34⟩
        refine r_cons (s_assign (.int .i64 (altsN (n.kids.getD j default))) rfl rfl ?_)
        refine r_nil ?_
        refine g_seq ?_
        refine g_region ?_
        refine r_cons (s_move (.int .i64 ((n.kids.take j).foldl (fun s k => min (s + altsN k) 65) 0)) rfl rfl ?_)
        refine r_cons (s_move (.int .i64 (altsN (n.kids.getD j default))) rfl rfl ?_)
        have ha9 := altsN_range (n.kids.getD j default)
        have hs9 := sum_range (n.kids.take j)
        have hp9 := prod_range (n.kids.take j)
        refine r_cons (s_add ((n.kids.take j).foldl (fun s k => min (s + altsN k) 65) 0 + (altsN (n.kids.getD j default))) rfl rfl (wi64 (by omega)) rfl ?_)
        refine r_cons (s_min2 (min ((n.kids.take j).foldl (fun s k => min (s + altsN k) 65) 0 + (altsN (n.kids.getD j default))) 65) rfl rfl (by split <;> omega) rfl ?_)
        refine r_cons (s_assign (.int .i64 (min ((n.kids.take j).foldl (fun s k => min (s + altsN k) 65) 0 + (altsN (n.kids.getD j default))) 65)) rfl rfl ?_)
        refine r_nil ?_
        refine g_region ?_
        refine r_cons (s_move (.int .i64 ((n.kids.take j).foldl (fun s k => min (s * altsN k) 65) 1)) rfl rfl ?_)
        refine r_cons (s_move (.int .i64 (altsN (n.kids.getD j default))) rfl rfl ?_)
        have ha9 := altsN_range (n.kids.getD j default)
        have hs9 := sum_range (n.kids.take j)
        have hp9 := prod_range (n.kids.take j)
        have hm9 := mul_65 hp9.1 hp9.2 ha9.1 ha9.2
        refine r_cons (s_mul (((n.kids.take j).foldl (fun s k => min (s * altsN k) 65) 1) * (altsN (n.kids.getD j default))) rfl rfl (wi64 (by omega)) rfl ?_)
        refine r_cons (s_min2 (min (((n.kids.take j).foldl (fun s k => min (s * altsN k) 65) 1) * (altsN (n.kids.getD j default))) 65) rfl rfl (by split <;> omega) rfl ?_)
        refine r_cons (s_assign (.int .i64 (min (((n.kids.take j).foldl (fun s k => min (s * altsN k) 65) 1) * (altsN (n.kids.getD j default))) 65)) rfl rfl ?_)
        refine r_nil ?_
        refine g_inBlock ?_
        refine g_region ?_
        refine r_cons (s_add ((j : Int) + 1) rfl rfl (wi64 (by omega)) rfl ?_)
        refine r_cons (s_move (.int .i64 ((j : Int) + 1)) rfl rfl ?_)
        refine r_nil ?_
        have H35 : St W w33 (imi (0 < n.kids.length) gA10 (.cells kA12 eA13 zA14) :: blk bk3 (.cells #[.int .i64 n.kind.v, .string n.var.v, .string n.typ.v, .slice n.tp n.tests.length n.tc, .slice n.kp n.kids.length n.kc] 25 (0, 0)) :: Im 5 (.slice n.kp n.kids.length n.kc) n.kids.length (n.kids.flatMap nodeCell) :: NodesA n.kids :: F) := ((((((H34.move 5 rfl).move 5 rfl).move 5 rfl).move 5 rfl).drop 4 rfl).drop 4 rfl)
        exact nx25 (j + 1) _ _ ⟨(by omega), H35⟩ (by first | (dsimp only; omega) | omega) ⟨by first | rfl | exact vint (by omega), by first | rfl | exact vint (by omega), congrArg (Value.int .i64) (fold_step (fun s k => min (s + altsN k) 65) 0 (by omega)).symm, congrArg (Value.int .i64) (fold_step (fun s k => min (s * altsN k) 65) 1 (by omega)).symm, by first | rfl | exact vint (by omega), by first | rfl | exact vint (by omega), by first | rfl | exact vint (by omega), trivial⟩
      · skip
        refine r_cons (s_lss false rfl rfl (dfalse hc26) rfl ?_)
        refine r_nil ?_
        refine g_seq ?_
        refine g_false rfl ?_
        refine g_exit (by rfl) ?_
        refine g_seq ?_
        refine g_seq ?_
        refine g_region ?_
        refine r_cons (s_fieldAddr 25 0 0 0 3 rfl fi_25_0 rfl rfl ?_)
        refine r_cons (s_load (.int .i64 n.kind.v) ag_3 rfl (H24.blk_at (i := 1) rfl) rfl rfl ?_)
        by_cases hc36 : n.kind.v = 4
        · skip
          refine r_cons (s_eql true rfl rfl (dtrue hc36) rfl ?_)
          refine r_nil ?_
          refine g_true rfl ?_
          refine g_seq ?_
          refine g_region ?_
          refine r_cons (s_move (.int .i64 ((n.kids.take j).foldl (fun s k => min (s + altsN k) 65) 0)) rfl rfl ?_)
          refine r_cons (s_assign (.int .i64 ((n.kids.take j).foldl (fun s k => min (s + altsN k) 65) 0)) rfl rfl ?_)
          refine r_nil ?_
          refine g_ret' [.int .i64 ((n.kids.take j).foldl (fun s k => min (s + altsN k) 65) 0)] Try.func17 Try.results17 ⟨rfl, trivial⟩ ?_
          have H37 : St W w23 F := ((((H24.drop 0 rfl).drop 0 rfl).drop 0 rfl).drop 0 rfl)
          exact ⟨vint (by rw [altsN_eq, if_neg (Bool.eq_false_iff.1 (by rw [Bool.eq_false_iff, ne_eq, List.isEmpty_iff]; intro h9; have h8 := congrArg List.length h9; simp only [List.length_nil] at h8; omega)), if_pos (by omega), fold_all _ _ (by omega)]), H37⟩
        · skip
          refine r_cons (s_eql false rfl rfl (dfalse hc36) rfl ?_)
          refine r_nil ?_
          refine g_false rfl ?_
          refine g_skip ?_
          refine g_seq ?_
          refine g_region ?_
          refine r_cons (s_move (.int .i64 ((n.kids.take j).foldl (fun s k => min (s * altsN k) 65) 1)) rfl rfl ?_)
          refine r_cons (s_assign (.int .i64 ((n.kids.take j).foldl (fun s k => min (s * altsN k) 65) 1)) rfl rfl ?_)
          refine r_nil ?_
          refine g_ret' [.int .i64 ((n.kids.take j).foldl (fun s k => min (s * altsN k) 65) 1)] Try.func17 Try.results17 ⟨rfl, trivial⟩ ?_
          have H38 : St W w23 F := ((((H24.drop 0 rfl).drop 0 rfl).drop 0 rfl).drop 0 rfl)
          exact ⟨vint (by rw [altsN_eq, if_neg (Bool.eq_false_iff.1 (by rw [Bool.eq_false_iff, ne_eq, List.isEmpty_iff]; intro h9; have h8 := congrArg List.length h9; simp only [List.length_nil] at h8; omega)), if_neg (by omega), fold_all _ _ (by omega)]), H38⟩
theorem check_Alts {W w : World} {F : List Atom} (n : NodeD)  {i : Nat} (hi : F[i]? = some (NodeA n)) (H : St W w F) : Calls Try.prog 17 #[.agg #[.int .i64 n.kind.v, .string n.var.v, .string n.typ.v, .slice n.tp n.tests.length n.tc, .slice n.kp n.kids.length n.kc]] w (Ret fun v w' => v = .int .i64 (altsN n) ∧ St W w' F) := check_Alts_r (sizeOf n + 1) n (Nat.lt_succ_self _) hi H
set_option maxHeartbeats 4000000 in
set_option maxRecDepth 100000 in
theorem set_list {W w : World} {F : List Atom} (r : Nat) (L : List Str) (hN : L.length ≤ 1048577) (H : St W w (MapA r (ents kS vB (setOf L)) :: F)) : Calls Try.prog 44 #[.map (some r)] w (Ret fun v w' => ∃ p c, v = .slice p (sortS L).length c ∧ St W w' (Im 1 (.slice p (sortS L).length c) (sortS L).length ((sortS L).flatMap strCell) :: F)) := by
  refine calls_of_go (n := 6) Try.func44 rfl Try.ntmps44 rfl ?_
  refine g_seq ?_
  refine g_region ?_
  refine r_cons (s_assign (.slice none 0 0) rfl rfl ?_)
  refine r_nil ?_
  refine g_seq ?_
  refine g_region ?_
  refine r_cons (s_move (.map (some r)) rfl rfl ?_)
  refine r_cons (s_call [.map (some r)] pl_59 rfl rfl (Keys_S r H) ?_)
  rintro _ w2 ⟨bk1, rfl, H3⟩
  refine r_cons (s_call [.func (.func 68) #[] #[.pointer (some ⟨bk1, 0, none⟩)]] pl_58 rfl rfl (Sorted_S bk1 r L (i := 0) rfl (j := 1) rfl (by omega) H3) ?_)
  rintro _ w6 ⟨pp4, cc5, rfl, H7⟩
  refine r_cons (s_assign (.slice pp4 L.length cc5) rfl rfl ?_)
  refine r_nil ?_
  refine g_ret' [.slice pp4 L.length cc5] Try.func44 Try.results44 ⟨rfl, trivial⟩ ?_
  have H8 : St W w6 (Im 1 (.slice pp4 L.length cc5) L.length ((sortS L).flatMap strCell) :: F) := ((H7.drop 1 rfl).drop 1 rfl)
  exact ⟨_, _, by rw [sortS_len]; rfl, by rw [sortS_len]; exact H8⟩
set_option maxHeartbeats 4000000 in
set_option maxRecDepth 100000 in
theorem check_walk_r (N : Nat) : ∀ (n : NodeD), sizeOf n < N → ∀ {W w : World} {F : List Atom} (r g1 g2 : Nat) (L : List Str) {i : Nat} (hi : F[i]? = some (NodeA n)) {i1 : Nat} (h1 : F[i1]? = some (imm g1 (.cells #[.map (some r)] 57 (0, 0)))) {i2 : Nat} (h2 : F[i2]? = some (imm g2 (.cells #[.func (.func 43) #[] #[.pointer (some ⟨g1, 0, none⟩), .pointer (some ⟨g2, 0, none⟩)]] 59 (0, 0)))) (H : St W w (MapA r (ents kS vB (setOf L)) :: F)), Calls Try.prog 43 #[.agg #[.int .i64 n.kind.v, .string n.var.v, .string n.typ.v, .slice n.tp n.tests.length n.tc, .slice n.kp n.kids.length n.kc], .pointer (some ⟨g1, 0, none⟩), .pointer (some ⟨g2, 0, none⟩)] w (Ret fun v w' => v = .tuple #[] ∧ St W w' (MapA r (ents kS vB (setOf (walkN n L))) :: F)) := by
  induction N with | zero => exact fun n hN => absurd hN (Nat.not_lt_zero _) | succ N ih => ?_
  intro n hN W w F r g1 g2 L i hi i1 h1 i2 h2 H
  have H1 := H.dup (i := i1 + 1) (by exact h1) (imm_pers _ _)
  have H2 := H1.dup (i := i2 + 2) (by exact h2) (imm_pers _ _)
  have H3 : St W w (imm g2 (.cells #[.func (.func 43) #[] #[.pointer (some ⟨g1, 0, none⟩), .pointer (some ⟨g2, 0, none⟩)]] 59 (0, 0)) :: imm g1 (.cells #[.map (some r)] 57 (0, 0)) :: MapA r (ents kS vB (setOf L)) :: F) := H2
  have H4 := NodeA.kids H3 (i := i + 3) (by exact hi)
  have H5 : St W w (Im 5 (.slice n.kp n.kids.length n.kc) n.kids.length (n.kids.flatMap nodeCell) :: NodesA n.kids :: imm g2 (.cells #[.func (.func 43) #[] #[.pointer (some ⟨g1, 0, none⟩), .pointer (some ⟨g2, 0, none⟩)]] 59 (0, 0)) :: imm g1 (.cells #[.map (some r)] 57 (0, 0)) :: MapA r (ents kS vB (setOf L)) :: F) := H4
  refine calls_of_go (n := 23) Try.func43 rfl Try.ntmps43 rfl ?_
  refine g_seq ?_
  refine g_region ?_
  refine r_cons (s_box H5 25 (.agg #[.int .i64 n.kind.v, .string n.var.v, .string n.typ.v, .slice n.tp n.tests.length n.tc, .slice n.kp n.kids.length n.kc]) rfl (cs := #[.int .i64 n.kind.v, .string n.var.v, .string n.typ.v, .slice n.tp n.tests.length n.tc, .slice n.kp n.kids.length n.kc]) rfl rfl ?_); intro bk6 w7 H8
  refine r_nil ?_
  refine g_seq ?_
  refine g_seq ?_
  refine g_region ?_
  refine r_cons (s_fieldAddr 25 1 1 1 9 rfl fi_25_1 rfl rfl ?_)
  refine r_cons (s_load (.string n.var.v) ag_9 rfl (H8.blk_at (i := 0) rfl) rfl rfl ?_)
  by_cases hc9 : n.var.v = ByteArray.empty
  · skip
    refine r_cons (s_sneq false rfl rfl (ntrue hc9) rfl ?_)
    refine r_nil ?_
    refine g_false rfl ?_
    refine g_skip ?_
    refine g_seq ?_
    refine g_region ?_
    refine r_cons (s_fieldAddr 25 4 4 4 23 rfl fi_25_4 rfl rfl ?_)
    refine r_cons (s_load (.slice n.kp n.kids.length n.kc) ag_23 rfl (H8.blk_at (i := 0) rfl) rfl rfl ?_)
    refine r_cons (s_len n.kids.length rfl ⟨_, un_23⟩ rfl ?_)
    refine r_cons (s_move (.int .i64 0) rfl rfl ?_)
    refine r_nil ?_
    refine g_block ?_
    obtain ⟨pA10, cA11, gA12, oA13, kA14, eA15, zA16, he22, hn17, hp18, hx19, hs20, hml, H21⟩ := Im.open_ H8 (i := 1) rfl
    obtain ⟨rfl, rfl⟩ : n.kp = pA10 ∧ n.kc = cA11 := by injection he22 with a_ b_ c_; exact ⟨a_, c_⟩
    have hM23 : L = ((n.kids.take 0).foldl (fun L k => walkN k L) L) := rfl
    have H24 : St W w7 (imi (0 < n.kids.length) gA12 (.cells kA14 eA15 zA16) :: blk bk6 (.cells #[.int .i64 n.kind.v, .string n.var.v, .string n.typ.v, .slice n.tp n.tests.length n.tc, .slice n.kp n.kids.length n.kc] 25 (0, 0)) :: Im 5 (.slice n.kp n.kids.length n.kc) n.kids.length (n.kids.flatMap nodeCell) :: NodesA n.kids :: imm g2 (.cells #[.func (.func 43) #[] #[.pointer (some ⟨g1, 0, none⟩), .pointer (some ⟨g2, 0, none⟩)]] 59 (0, 0)) :: imm g1 (.cells #[.map (some r)] 57 (0, 0)) :: MapA r (ents kS vB (setOf ((n.kids.take 0).foldl (fun L k => walkN k L) L))) :: F) := by rw [← hM23]; exact H21
    have H25 : St W w7 (imi (0 < n.kids.length) gA12 (.cells kA14 eA15 zA16) :: Im 5 (.slice n.kp n.kids.length n.kc) n.kids.length (n.kids.flatMap nodeCell) :: NodesA n.kids :: imm g2 (.cells #[.func (.func 43) #[] #[.pointer (some ⟨g1, 0, none⟩), .pointer (some ⟨g2, 0, none⟩)]] 59 (0, 0)) :: imm g1 (.cells #[.map (some r)] 57 (0, 0)) :: MapA r (ents kS vB (setOf ((n.kids.take 0).foldl (fun L k => walkN k L) L))) :: F) := (((((((H24.move 6 rfl).move 6 rfl).move 6 rfl).move 6 rfl).move 6 rfl).move 5 rfl).drop 6 rfl)
    refine g_loop_inv (fun (x_ : Nat) => match x_ with | j => [(2, .pointer (some ⟨g2, 0, none⟩)), (13, .slice n.kp n.kids.length n.kc), (14, .int .i64 (n.kids.length : Int)), (15, .int .i64 (j : Int))]) (fun (x_ : Nat) w => match x_ with | j => (j ≤ n.kids.length) ∧ St W w (imi (0 < n.kids.length) gA12 (.cells kA14 eA15 zA16) :: Im 5 (.slice n.kp n.kids.length n.kc) n.kids.length (n.kids.flatMap nodeCell) :: NodesA n.kids :: imm g2 (.cells #[.func (.func 43) #[] #[.pointer (some ⟨g1, 0, none⟩), .pointer (some ⟨g2, 0, none⟩)]] 59 (0, 0)) :: imm g1 (.cells #[.map (some r)] 57 (0, 0)) :: MapA r (ents kS vB (setOf ((n.kids.take j).foldl (fun L k => walkN k L) L))) :: F)) (fun (x_ : Nat) => match x_ with | j => n.kids.length - j) (0) ?_ ?_ ?_
    · exact ⟨by first | rfl | exact vint (by omega), by first | rfl | exact vint (by omega), by first | rfl | exact vint (by omega), by first | rfl | exact vint (by omega), trivial⟩
    · exact ⟨(by omega), H25⟩
    · rintro j ρ26 w27 ⟨hjl, H28⟩ nx29
      change Ends _ _ (upds ρ26 [(2, .pointer (some ⟨g2, 0, none⟩)), (13, .slice n.kp n.kids.length n.kc), (14, .int .i64 (n.kids.length : Int)), (15, .int .i64 (j : Int))]) w27
      refine g_seq ?_
      refine g_region ?_
      by_cases hc30 : (j : Int) < (n.kids.length : Int)
      · skip
        refine r_cons (s_lss true rfl rfl (dtrue hc30) rfl ?_)
        refine r_nil ?_
        refine g_seq ?_
        refine g_true rfl ?_
        refine g_skip ?_
        refine g_seq ?_
        refine g_block ?_
        refine g_seq ?_
        refine g_region ?_
        refine r_cons (s_indexAddr gA12 (off := oA13) (j : Int) 5 (oA13 + j * 5) (by exact congrArg (fun z_ => Value.slice z_ n.kids.length n.kc) (hp18 (by omega))) rfl el_23 (by omega) rfl rfl ?_)
        refine r_cons (s_loadAgg [.int .i64 ((n.kids.getD j default).kind.v), .string ((n.kids.getD j default).var.v), .string ((n.kids.getD j default).typ.v), .slice ((n.kids.getD j default).tp) ((n.kids.getD j default).tests.length) ((n.kids.getD j default).tc), .slice ((n.kids.getD j default).kp) ((n.kids.getD j default).kids.length) ((n.kids.getD j default).kc)] 5 ag_25 rfl (H28.imi_at (i := 0) rfl (by omega)) (by have := elem_size (i := j) (s := 5) (hs20 (by omega)) (by omega); omega) (elem_take nodeCell_len (hx19 (by omega)) (by omega) default) rfl ?_)
        refine r_cons (s_alloc H28 25 ze_25 rfl ?_); intro bk31 w32 H33
        refine r_cons (s_storeAgg H33 0 #[.int .i64 ((n.kids.getD j default).kind.v), .string ((n.kids.getD j default).var.v), .string ((n.kids.getD j default).typ.v), .slice ((n.kids.getD j default).tp) ((n.kids.getD j default).tests.length) ((n.kids.getD j default).tc), .slice ((n.kids.getD j default).kp) ((n.kids.getD j default).kids.length) ((n.kids.getD j default).kc)] 5 rfl rfl rfl sz_25 rfl (by simp [Value.oneCell']) (Nat.le_of_ble_eq_true rfl) (fun o h1 h2 => by first | (simp; done) | (simp; omega)) (cs' := #[.int .i64 ((n.kids.getD j default).kind.v), .string ((n.kids.getD j default).var.v), .string ((n.kids.getD j default).typ.v), .slice ((n.kids.getD j default).tp) ((n.kids.getD j default).tests.length) ((n.kids.getD j default).tc), .slice ((n.kids.getD j default).kp) ((n.kids.getD j default).kids.length) ((n.kids.getD j default).kc)]) rfl ?_); intro w34 H35
        refine r_nil ?_
        refine g_region ?_
        refine r_cons (s_load (.func (.func 43) #[] #[.pointer (some ⟨g1, 0, none⟩), .pointer (some ⟨g2, 0, none⟩)]) ag_59 rfl (H35.imm_at (i := 4) rfl) rfl rfl ?_)
        refine r_cons (s_loadAgg [.int .i64 ((n.kids.getD j default).kind.v), .string ((n.kids.getD j default).var.v), .string ((n.kids.getD j default).typ.v), .slice ((n.kids.getD j default).tp) ((n.kids.getD j default).tests.length) ((n.kids.getD j default).tc), .slice ((n.kids.getD j default).kp) ((n.kids.getD j default).kids.length) ((n.kids.getD j default).kc)] 5 ag_25 rfl (H35.blk_at (i := 0) rfl) (Nat.le_of_ble_eq_true rfl) rfl rfl ?_)
        have H36 := NodesA.at H35 (i := 3) rfl (j := j) (by omega)
        have H37 : St W w34 (MapA r (ents kS vB (setOf ((n.kids.take j).foldl (fun L k => walkN k L) L))) :: NodeA (n.kids.getD j default) :: blk bk31 (.cells #[.int .i64 ((n.kids.getD j default).kind.v), .string ((n.kids.getD j default).var.v), .string ((n.kids.getD j default).typ.v), .slice ((n.kids.getD j default).tp) ((n.kids.getD j default).tests.length) ((n.kids.getD j default).tc), .slice ((n.kids.getD j default).kp) ((n.kids.getD j default).kids.length) ((n.kids.getD j default).kc)] 25 (0, 0)) :: imi (0 < n.kids.length) gA12 (.cells kA14 eA15 zA16) :: Im 5 (.slice n.kp n.kids.length n.kc) n.kids.length (n.kids.flatMap nodeCell) :: NodesA n.kids :: imm g2 (.cells #[.func (.func 43) #[] #[.pointer (some ⟨g1, 0, none⟩), .pointer (some ⟨g2, 0, none⟩)]] 59 (0, 0)) :: imm g1 (.cells #[.map (some r)] 57 (0, 0)) :: F) := (H36.move 7 rfl)
        refine r_cons (s_callv [.pointer (some ⟨g1, 0, none⟩), .pointer (some ⟨g2, 0, none⟩)] [.agg #[.int .i64 ((n.kids.getD j default).kind.v), .string ((n.kids.getD j default).var.v), .string ((n.kids.getD j default).typ.v), .slice ((n.kids.getD j default).tp) ((n.kids.getD j default).tests.length) ((n.kids.getD j default).tc), .slice ((n.kids.getD j default).kp) ((n.kids.getD j default).kids.length) ((n.kids.getD j default).kc)], .pointer (some ⟨g1, 0, none⟩), .pointer (some ⟨g2, 0, none⟩)] rfl pl_43 rfl rfl (ih (n.kids.getD j default) (by have h9 := kid_lt (n := n) (j := j) (by omega); omega) r g1 g2 ((n.kids.take j).foldl (fun L k => walkN k L) L) (i := 0) rfl (i1 := 6) rfl (i2 := 5) rfl H37) ?_)
        rintro _ w38 ⟨rfl, H39⟩
        refine r_nil ?_
        refine g_inBlock ?_
        refine g_region ?_
        refine r_cons (s_add ((j : Int) + 1) rfl rfl (wi64 (by omega)) rfl ?_)
        refine r_cons (s_move (.int .i64 ((j : Int) + 1)) rfl rfl ?_)
        refine r_nil ?_
        have hM40 : (walkN (n.kids.getD j default) ((n.kids.take j).foldl (fun L k => walkN k L) L)) = ((n.kids.take (j + 1)).foldl (fun L k => walkN k L) L) := (fold_step (fun L k => walkN k L) _ (by omega)).symm
        have H41 : St W w38 (MapA r (ents kS vB (setOf ((n.kids.take (j + 1)).foldl (fun L k => walkN k L) L))) :: NodeA (n.kids.getD j default) :: blk bk31 (.cells #[.int .i64 ((n.kids.getD j default).kind.v), .string ((n.kids.getD j default).var.v), .string ((n.kids.getD j default).typ.v), .slice ((n.kids.getD j default).tp) ((n.kids.getD j default).tests.length) ((n.kids.getD j default).tc), .slice ((n.kids.getD j default).kp) ((n.kids.getD j default).kids.length) ((n.kids.getD j default).kc)] 25 (0, 0)) :: imi (0 < n.kids.length) gA12 (.cells kA14 eA15 zA16) :: Im 5 (.slice n.kp n.kids.length n.kc) n.kids.length (n.kids.flatMap nodeCell) :: NodesA n.kids :: imm g2 (.cells #[.func (.func 43) #[] #[.pointer (some ⟨g1, 0, none⟩), .pointer (some ⟨g2, 0, none⟩)]] 59 (0, 0)) :: imm g1 (.cells #[.map (some r)] 57 (0, 0)) :: F) := by rw [← hM40]; exact H39
        have H42 : St W w38 (imi (0 < n.kids.length) gA12 (.cells kA14 eA15 zA16) :: Im 5 (.slice n.kp n.kids.length n.kc) n.kids.length (n.kids.flatMap nodeCell) :: NodesA n.kids :: imm g2 (.cells #[.func (.func 43) #[] #[.pointer (some ⟨g1, 0, none⟩), .pointer (some ⟨g2, 0, none⟩)]] 59 (0, 0)) :: imm g1 (.cells #[.map (some r)] 57 (0, 0)) :: MapA r (ents kS vB (setOf ((n.kids.take (j + 1)).foldl (fun L k => walkN k L) L))) :: F) := (((((((H41.move 7 rfl).move 7 rfl).move 7 rfl).move 7 rfl).move 7 rfl).drop 6 rfl).drop 6 rfl)
        exact nx29 (j + 1) _ _ ⟨(by omega), H42⟩ (by first | (dsimp only; omega) | omega) ⟨by first | rfl | exact vint (by omega), by first | rfl | exact vint (by omega), by first | rfl | exact vint (by omega), by first | rfl | exact vint (by omega), trivial⟩
      · skip
        refine r_cons (s_lss false rfl rfl (dfalse hc30) rfl ?_)
        refine r_nil ?_
        refine g_seq ?_
        refine g_false rfl ?_
        refine g_exit (by rfl) ?_
        refine g_end' [] Try.func43 Try.results43 trivial ?_
        have hq9 : ((n.kids.take j).foldl (fun L k => walkN k L) L) = walkN n L := by rw [List.take_of_length_le (by omega), walkN_eq, if_pos hc9]
        have H43 : St W w27 (MapA r (ents kS vB (setOf ((n.kids.take j).foldl (fun L k => walkN k L) L))) :: F) := ((((((H28.move 5 rfl).drop 1 rfl).drop 1 rfl).drop 1 rfl).drop 1 rfl).drop 1 rfl)
        exact ⟨rfl, by rw [← hq9]; exact H43⟩
  · skip
    refine r_cons (s_sneq true rfl rfl (nfalse hc9) rfl ?_)
    refine r_nil ?_
    refine g_true rfl ?_
    refine g_region ?_
    refine r_cons (s_load (.map (some r)) ag_57 rfl (H8.imm_at (i := 4) rfl) rfl rfl ?_)
    refine r_cons (s_fieldAddr 25 1 1 1 9 rfl fi_25_1 rfl rfl ?_)
    refine r_cons (s_load (.string n.var.v) ag_9 rfl (H8.blk_at (i := 0) rfl) rfl rfl ?_)
    refine r_cons (s_mapUpdate (ek := kS) (ev := vB) (L := setOf L) n.var true H8 (i := 5) rfl (KeyLaw.S un_9) un_57 rfl rfl rfl ?_); intro w44 H45
    have H46 : St W w44 (blk bk6 (.cells #[.int .i64 n.kind.v, .string n.var.v, .string n.typ.v, .slice n.tp n.tests.length n.tc, .slice n.kp n.kids.length n.kc] 25 (0, 0)) :: Im 5 (.slice n.kp n.kids.length n.kc) n.kids.length (n.kids.flatMap nodeCell) :: NodesA n.kids :: imm g2 (.cells #[.func (.func 43) #[] #[.pointer (some ⟨g1, 0, none⟩), .pointer (some ⟨g2, 0, none⟩)]] 59 (0, 0)) :: imm g1 (.cells #[.map (some r)] 57 (0, 0)) :: MapA r (ents kS vB (setOf (addS L n.var))) :: F) := by have h9 := H45; rw [setOf_set] at h9; exact h9
    refine r_nil ?_
    refine g_seq ?_
    refine g_region ?_
    refine r_cons (s_fieldAddr 25 4 4 4 23 rfl fi_25_4 rfl rfl ?_)
    refine r_cons (s_load (.slice n.kp n.kids.length n.kc) ag_23 rfl (H46.blk_at (i := 0) rfl) rfl rfl ?_)
    refine r_cons (s_len n.kids.length rfl ⟨_, un_23⟩ rfl ?_)
    refine r_cons (s_move (.int .i64 0) rfl rfl ?_)
    refine r_nil ?_
    refine g_block ?_
    obtain ⟨pA47, cA48, gA49, oA50, kA51, eA52, zA53, he59, hn54, hp55, hx56, hs57, hml, H58⟩ := Im.open_ H46 (i := 1) rfl
    obtain ⟨rfl, rfl⟩ : n.kp = pA47 ∧ n.kc = cA48 := by injection he59 with a_ b_ c_; exact ⟨a_, c_⟩
    have hM60 : (addS L n.var) = ((n.kids.take 0).foldl (fun L k => walkN k L) (addS L n.var)) := rfl
    have H61 : St W w44 (imi (0 < n.kids.length) gA49 (.cells kA51 eA52 zA53) :: blk bk6 (.cells #[.int .i64 n.kind.v, .string n.var.v, .string n.typ.v, .slice n.tp n.tests.length n.tc, .slice n.kp n.kids.length n.kc] 25 (0, 0)) :: Im 5 (.slice n.kp n.kids.length n.kc) n.kids.length (n.kids.flatMap nodeCell) :: NodesA n.kids :: imm g2 (.cells #[.func (.func 43) #[] #[.pointer (some ⟨g1, 0, none⟩), .pointer (some ⟨g2, 0, none⟩)]] 59 (0, 0)) :: imm g1 (.cells #[.map (some r)] 57 (0, 0)) :: MapA r (ents kS vB (setOf ((n.kids.take 0).foldl (fun L k => walkN k L) (addS L n.var)))) :: F) := by rw [← hM60]; exact H58
    have H62 : St W w44 (imi (0 < n.kids.length) gA49 (.cells kA51 eA52 zA53) :: Im 5 (.slice n.kp n.kids.length n.kc) n.kids.length (n.kids.flatMap nodeCell) :: NodesA n.kids :: imm g2 (.cells #[.func (.func 43) #[] #[.pointer (some ⟨g1, 0, none⟩), .pointer (some ⟨g2, 0, none⟩)]] 59 (0, 0)) :: imm g1 (.cells #[.map (some r)] 57 (0, 0)) :: MapA r (ents kS vB (setOf ((n.kids.take 0).foldl (fun L k => walkN k L) (addS L n.var)))) :: F) := (((((((H61.move 6 rfl).move 6 rfl).move 6 rfl).move 6 rfl).move 6 rfl).move 5 rfl).drop 6 rfl)
    refine g_loop_inv (fun (x_ : Nat) => match x_ with | j => [(2, .pointer (some ⟨g2, 0, none⟩)), (13, .slice n.kp n.kids.length n.kc), (14, .int .i64 (n.kids.length : Int)), (15, .int .i64 (j : Int))]) (fun (x_ : Nat) w => match x_ with | j => (j ≤ n.kids.length) ∧ St W w (imi (0 < n.kids.length) gA49 (.cells kA51 eA52 zA53) :: Im 5 (.slice n.kp n.kids.length n.kc) n.kids.length (n.kids.flatMap nodeCell) :: NodesA n.kids :: imm g2 (.cells #[.func (.func 43) #[] #[.pointer (some ⟨g1, 0, none⟩), .pointer (some ⟨g2, 0, none⟩)]] 59 (0, 0)) :: imm g1 (.cells #[.map (some r)] 57 (0, 0)) :: MapA r (ents kS vB (setOf ((n.kids.take j).foldl (fun L k => walkN k L) (addS L n.var)))) :: F)) (fun (x_ : Nat) => match x_ with | j => n.kids.length - j) (0) ?_ ?_ ?_
    · exact ⟨by first | rfl | exact vint (by omega), by first | rfl | exact vint (by omega), by first | rfl | exact vint (by omega), by first | rfl | exact vint (by omega), trivial⟩
    · exact ⟨(by omega), H62⟩
    · rintro j ρ63 w64 ⟨hjl, H65⟩ nx66
      change Ends _ _ (upds ρ63 [(2, .pointer (some ⟨g2, 0, none⟩)), (13, .slice n.kp n.kids.length n.kc), (14, .int .i64 (n.kids.length : Int)), (15, .int .i64 (j : Int))]) w64
      refine g_seq ?_
      refine g_region ?_
      by_cases hc67 : (j : Int) < (n.kids.length : Int)
      · skip
        refine r_cons (s_lss true rfl rfl (dtrue hc67) rfl ?_)
        refine r_nil ?_
        refine g_seq ?_
        refine g_true rfl ?_
        refine g_skip ?_
        refine g_seq ?_
        refine g_block ?_
        refine g_seq ?_
        refine g_region ?_
        refine r_cons (s_indexAddr gA49 (off := oA50) (j : Int) 5 (oA50 + j * 5) (by exact congrArg (fun z_ => Value.slice z_ n.kids.length n.kc) (hp55 (by omega))) rfl el_23 (by omega) rfl rfl ?_)
        refine r_cons (s_loadAgg [.int .i64 ((n.kids.getD j default).kind.v), .string ((n.kids.getD j default).var.v), .string ((n.kids.getD j default).typ.v), .slice ((n.kids.getD j default).tp) ((n.kids.getD j default).tests.length) ((n.kids.getD j default).tc), .slice ((n.kids.getD j default).kp) ((n.kids.getD j default).kids.length) ((n.kids.getD j default).kc)] 5 ag_25 rfl (H65.imi_at (i := 0) rfl (by omega)) (by have := elem_size (i := j) (s := 5) (hs57 (by omega)) (by omega); omega) (elem_take nodeCell_len (hx56 (by omega)) (by omega) default) rfl ?_)
        refine r_cons (s_alloc H65 25 ze_25 rfl ?_); intro bk68 w69 H70
        refine r_cons (s_storeAgg H70 0 #[.int .i64 ((n.kids.getD j default).kind.v), .string ((n.kids.getD j default).var.v), .string ((n.kids.getD j default).typ.v), .slice ((n.kids.getD j default).tp) ((n.kids.getD j default).tests.length) ((n.kids.getD j default).tc), .slice ((n.kids.getD j default).kp) ((n.kids.getD j default).kids.length) ((n.kids.getD j default).kc)] 5 rfl rfl rfl sz_25 rfl (by simp [Value.oneCell']) (Nat.le_of_ble_eq_true rfl) (fun o h1 h2 => by first | (simp; done) | (simp; omega)) (cs' := #[.int .i64 ((n.kids.getD j default).kind.v), .string ((n.kids.getD j default).var.v), .string ((n.kids.getD j default).typ.v), .slice ((n.kids.getD j default).tp) ((n.kids.getD j default).tests.length) ((n.kids.getD j default).tc), .slice ((n.kids.getD j default).kp) ((n.kids.getD j default).kids.length) ((n.kids.getD j default).kc)]) rfl ?_); intro w71 H72
        refine r_nil ?_
        refine g_region ?_
        refine r_cons (s_load (.func (.func 43) #[] #[.pointer (some ⟨g1, 0, none⟩), .pointer (some ⟨g2, 0, none⟩)]) ag_59 rfl (H72.imm_at (i := 4) rfl) rfl rfl ?_)
        refine r_cons (s_loadAgg [.int .i64 ((n.kids.getD j default).kind.v), .string ((n.kids.getD j default).var.v), .string ((n.kids.getD j default).typ.v), .slice ((n.kids.getD j default).tp) ((n.kids.getD j default).tests.length) ((n.kids.getD j default).tc), .slice ((n.kids.getD j default).kp) ((n.kids.getD j default).kids.length) ((n.kids.getD j default).kc)] 5 ag_25 rfl (H72.blk_at (i := 0) rfl) (Nat.le_of_ble_eq_true rfl) rfl rfl ?_)
        have H73 := NodesA.at H72 (i := 3) rfl (j := j) (by omega)
        have H74 : St W w71 (MapA r (ents kS vB (setOf ((n.kids.take j).foldl (fun L k => walkN k L) (addS L n.var)))) :: NodeA (n.kids.getD j default) :: blk bk68 (.cells #[.int .i64 ((n.kids.getD j default).kind.v), .string ((n.kids.getD j default).var.v), .string ((n.kids.getD j default).typ.v), .slice ((n.kids.getD j default).tp) ((n.kids.getD j default).tests.length) ((n.kids.getD j default).tc), .slice ((n.kids.getD j default).kp) ((n.kids.getD j default).kids.length) ((n.kids.getD j default).kc)] 25 (0, 0)) :: imi (0 < n.kids.length) gA49 (.cells kA51 eA52 zA53) :: Im 5 (.slice n.kp n.kids.length n.kc) n.kids.length (n.kids.flatMap nodeCell) :: NodesA n.kids :: imm g2 (.cells #[.func (.func 43) #[] #[.pointer (some ⟨g1, 0, none⟩), .pointer (some ⟨g2, 0, none⟩)]] 59 (0, 0)) :: imm g1 (.cells #[.map (some r)] 57 (0, 0)) :: F) := (H73.move 7 rfl)
        refine r_cons (s_callv [.pointer (some ⟨g1, 0, none⟩), .pointer (some ⟨g2, 0, none⟩)] [.agg #[.int .i64 ((n.kids.getD j default).kind.v), .string ((n.kids.getD j default).var.v), .string ((n.kids.getD j default).typ.v), .slice ((n.kids.getD j default).tp) ((n.kids.getD j default).tests.length) ((n.kids.getD j default).tc), .slice ((n.kids.getD j default).kp) ((n.kids.getD j default).kids.length) ((n.kids.getD j default).kc)], .pointer (some ⟨g1, 0, none⟩), .pointer (some ⟨g2, 0, none⟩)] rfl pl_43 rfl rfl (ih (n.kids.getD j default) (by have h9 := kid_lt (n := n) (j := j) (by omega); omega) r g1 g2 ((n.kids.take j).foldl (fun L k => walkN k L) (addS L n.var)) (i := 0) rfl (i1 := 6) rfl (i2 := 5) rfl H74) ?_)
        rintro _ w75 ⟨rfl, H76⟩
        refine r_nil ?_
        refine g_inBlock ?_
        refine g_region ?_
        refine r_cons (s_add ((j : Int) + 1) rfl rfl (wi64 (by omega)) rfl ?_)
        refine r_cons (s_move (.int .i64 ((j : Int) + 1)) rfl rfl ?_)
        refine r_nil ?_
        have hM77 : (walkN (n.kids.getD j default) ((n.kids.take j).foldl (fun L k => walkN k L) (addS L n.var))) = ((n.kids.take (j + 1)).foldl (fun L k => walkN k L) (addS L n.var)) := (fold_step (fun L k => walkN k L) _ (by omega)).symm
        have H78 : St W w75 (MapA r (ents kS vB (setOf ((n.kids.take (j + 1)).foldl (fun L k => walkN k L) (addS L n.var)))) :: NodeA (n.kids.getD j default) :: blk bk68 (.cells #[.int .i64 ((n.kids.getD j default).kind.v), .string ((n.kids.getD j default).var.v), .string ((n.kids.getD j default).typ.v), .slice ((n.kids.getD j default).tp) ((n.kids.getD j default).tests.length) ((n.kids.getD j default).tc), .slice ((n.kids.getD j default).kp) ((n.kids.getD j default).kids.length) ((n.kids.getD j default).kc)] 25 (0, 0)) :: imi (0 < n.kids.length) gA49 (.cells kA51 eA52 zA53) :: Im 5 (.slice n.kp n.kids.length n.kc) n.kids.length (n.kids.flatMap nodeCell) :: NodesA n.kids :: imm g2 (.cells #[.func (.func 43) #[] #[.pointer (some ⟨g1, 0, none⟩), .pointer (some ⟨g2, 0, none⟩)]] 59 (0, 0)) :: imm g1 (.cells #[.map (some r)] 57 (0, 0)) :: F) := by rw [← hM77]; exact H76
        have H79 : St W w75 (imi (0 < n.kids.length) gA49 (.cells kA51 eA52 zA53) :: Im 5 (.slice n.kp n.kids.length n.kc) n.kids.length (n.kids.flatMap nodeCell) :: NodesA n.kids :: imm g2 (.cells #[.func (.func 43) #[] #[.pointer (some ⟨g1, 0, none⟩), .pointer (some ⟨g2, 0, none⟩)]] 59 (0, 0)) :: imm g1 (.cells #[.map (some r)] 57 (0, 0)) :: MapA r (ents kS vB (setOf ((n.kids.take (j + 1)).foldl (fun L k => walkN k L) (addS L n.var)))) :: F) := (((((((H78.move 7 rfl).move 7 rfl).move 7 rfl).move 7 rfl).move 7 rfl).drop 6 rfl).drop 6 rfl)
        exact nx66 (j + 1) _ _ ⟨(by omega), H79⟩ (by first | (dsimp only; omega) | omega) ⟨by first | rfl | exact vint (by omega), by first | rfl | exact vint (by omega), by first | rfl | exact vint (by omega), by first | rfl | exact vint (by omega), trivial⟩
      · skip
        refine r_cons (s_lss false rfl rfl (dfalse hc67) rfl ?_)
        refine r_nil ?_
        refine g_seq ?_
        refine g_false rfl ?_
        refine g_exit (by rfl) ?_
        refine g_end' [] Try.func43 Try.results43 trivial ?_
        have hq9 : ((n.kids.take j).foldl (fun L k => walkN k L) (addS L n.var)) = walkN n L := by rw [List.take_of_length_le (by omega), walkN_eq, if_neg hc9]
        have H80 : St W w64 (MapA r (ents kS vB (setOf ((n.kids.take j).foldl (fun L k => walkN k L) (addS L n.var)))) :: F) := ((((((H65.move 5 rfl).drop 1 rfl).drop 1 rfl).drop 1 rfl).drop 1 rfl).drop 1 rfl)
        exact ⟨rfl, by rw [← hq9]; exact H80⟩
theorem check_walk {W w : World} {F : List Atom} (n : NodeD) (r g1 g2 : Nat) (L : List Str) {i : Nat} (hi : F[i]? = some (NodeA n)) {i1 : Nat} (h1 : F[i1]? = some (imm g1 (.cells #[.map (some r)] 57 (0, 0)))) {i2 : Nat} (h2 : F[i2]? = some (imm g2 (.cells #[.func (.func 43) #[] #[.pointer (some ⟨g1, 0, none⟩), .pointer (some ⟨g2, 0, none⟩)]] 59 (0, 0)))) (H : St W w (MapA r (ents kS vB (setOf L)) :: F)) : Calls Try.prog 43 #[.agg #[.int .i64 n.kind.v, .string n.var.v, .string n.typ.v, .slice n.tp n.tests.length n.tc, .slice n.kp n.kids.length n.kc], .pointer (some ⟨g1, 0, none⟩), .pointer (some ⟨g2, 0, none⟩)] w (Ret fun v w' => v = .tuple #[] ∧ St W w' (MapA r (ents kS vB (setOf (walkN n L))) :: F)) := check_walk_r (sizeOf n + 1) n (Nat.lt_succ_self _) r g1 g2 L hi h1 h2 H
set_option maxHeartbeats 4000000 in
set_option maxRecDepth 100000 in
theorem check_Vars {W w : World} {F : List Atom} (n : NodeD) {i : Nat} (hi : F[i]? = some (NodeA n)) (hz : sizeN n ≤ 1048576) (H : St W w F) : Calls Try.prog 24 #[.agg #[.int .i64 n.kind.v, .string n.var.v, .string n.typ.v, .slice n.tp n.tests.length n.tc, .slice n.kp n.kids.length n.kc]] w (Ret fun v w' => ∃ p c, v = .slice p (varsS n).length c ∧ St W w' (Im 1 (.slice p (varsS n).length c) (varsS n).length ((varsS n).flatMap strCell) :: F)) := by
  have H1 := H.dup (i := i) (by exact hi) (NodeA_pers _)
  have H2 : St W w (NodeA n :: F) := H1
  refine calls_of_go (n := 12) Try.func24 rfl Try.ntmps24 rfl ?_
  refine g_seq ?_
  refine g_region ?_
  refine r_cons (s_box H2 25 (.agg #[.int .i64 n.kind.v, .string n.var.v, .string n.typ.v, .slice n.tp n.tests.length n.tc, .slice n.kp n.kids.length n.kc]) rfl (cs := #[.int .i64 n.kind.v, .string n.var.v, .string n.typ.v, .slice n.tp n.tests.length n.tc, .slice n.kp n.kids.length n.kc]) rfl rfl ?_); intro bk3 w4 H5
  refine r_cons (s_assign (.slice none 0 0) rfl rfl ?_)
  refine r_nil ?_
  refine g_seq ?_
  refine g_region ?_
  refine r_cons (s_makeMap H5 rfl ?_); intro mp6 w7 H8
  have H9 : St W w7 (MapA mp6 (ents kS vB (setOf ([] : List Str))) :: blk bk3 (.cells #[.int .i64 n.kind.v, .string n.var.v, .string n.typ.v, .slice n.tp n.tests.length n.tc, .slice n.kp n.kids.length n.kc] 25 (0, 0)) :: NodeA n :: F) := H8
  refine r_cons (s_alloc H9 57 ze_57 rfl ?_); intro bk10 w11 H12
  refine r_cons (s_store H12 0 (.map (some mp6)) rfl rfl rfl sz_57 rfl (Nat.le_of_ble_eq_true rfl) rfl (cs' := #[.map (some mp6)]) rfl ?_); intro w13 H14
  refine r_nil ?_
  refine g_seq ?_
  refine g_region ?_
  refine r_cons (s_alloc H14 59 ze_59 rfl ?_); intro bk15 w16 H17
  refine r_nil ?_
  refine g_seq ?_
  refine g_region ?_
  refine r_cons (s_makeFunc (.func (.func 43) #[] #[.pointer (some ⟨bk10, 0, none⟩), .pointer (some ⟨bk15, 0, none⟩)]) rfl rfl ?_)
  refine r_cons (s_store H17 0 (.func (.func 43) #[] #[.pointer (some ⟨bk10, 0, none⟩), .pointer (some ⟨bk15, 0, none⟩)]) rfl rfl rfl sz_59 rfl (Nat.le_of_ble_eq_true rfl) rfl (cs' := #[.func (.func 43) #[] #[.pointer (some ⟨bk10, 0, none⟩), .pointer (some ⟨bk15, 0, none⟩)]]) rfl ?_); intro w18 H19
  refine r_nil ?_
  refine g_seq ?_
  refine g_region ?_
  have H20 : St W w18 (blk bk15 (.cells #[.func (.func 43) #[] #[.pointer (some ⟨bk10, 0, none⟩), .pointer (some ⟨bk15, 0, none⟩)]] 59 (0, 0)) :: imm bk10 (.cells #[.map (some mp6)] 57 (0, 0)) :: MapA mp6 (ents kS vB (setOf ([] : List Str))) :: blk bk3 (.cells #[.int .i64 n.kind.v, .string n.var.v, .string n.typ.v, .slice n.tp n.tests.length n.tc, .slice n.kp n.kids.length n.kc] 25 (0, 0)) :: NodeA n :: F) := blk_imm H19 (i := 1) rfl
  have H21 : St W w18 (imm bk15 (.cells #[.func (.func 43) #[] #[.pointer (some ⟨bk10, 0, none⟩), .pointer (some ⟨bk15, 0, none⟩)]] 59 (0, 0)) :: imm bk10 (.cells #[.map (some mp6)] 57 (0, 0)) :: MapA mp6 (ents kS vB (setOf ([] : List Str))) :: blk bk3 (.cells #[.int .i64 n.kind.v, .string n.var.v, .string n.typ.v, .slice n.tp n.tests.length n.tc, .slice n.kp n.kids.length n.kc] 25 (0, 0)) :: NodeA n :: F) := blk_imm H20 (i := 0) rfl
  refine r_cons (s_load (.func (.func 43) #[] #[.pointer (some ⟨bk10, 0, none⟩), .pointer (some ⟨bk15, 0, none⟩)]) ag_59 rfl (H21.imm_at (i := 0) rfl) rfl rfl ?_)
  refine r_cons (s_loadAgg [.int .i64 n.kind.v, .string n.var.v, .string n.typ.v, .slice n.tp n.tests.length n.tc, .slice n.kp n.kids.length n.kc] 5 ag_25 rfl (H21.blk_at (i := 3) rfl) (Nat.le_of_ble_eq_true rfl) rfl rfl ?_)
  have H22 : St W w18 (MapA mp6 (ents kS vB (setOf ([] : List Str))) :: imm bk15 (.cells #[.func (.func 43) #[] #[.pointer (some ⟨bk10, 0, none⟩), .pointer (some ⟨bk15, 0, none⟩)]] 59 (0, 0)) :: imm bk10 (.cells #[.map (some mp6)] 57 (0, 0)) :: blk bk3 (.cells #[.int .i64 n.kind.v, .string n.var.v, .string n.typ.v, .slice n.tp n.tests.length n.tc, .slice n.kp n.kids.length n.kc] 25 (0, 0)) :: NodeA n :: F) := (H21.move 2 rfl)
  refine r_cons (s_callv [.pointer (some ⟨bk10, 0, none⟩), .pointer (some ⟨bk15, 0, none⟩)] [.agg #[.int .i64 n.kind.v, .string n.var.v, .string n.typ.v, .slice n.tp n.tests.length n.tc, .slice n.kp n.kids.length n.kc], .pointer (some ⟨bk10, 0, none⟩), .pointer (some ⟨bk15, 0, none⟩)] rfl pl_43 rfl rfl (check_walk n mp6 bk10 bk15 ([] : List Str) (i := 3) rfl (i1 := 1) rfl (i2 := 0) rfl H22) ?_)
  rintro _ w23 ⟨rfl, H24⟩
  refine r_nil ?_
  refine g_seq ?_
  refine g_region ?_
  refine r_cons (s_load (.map (some mp6)) ag_57 rfl (H24.imm_at (i := 2) rfl) rfl rfl ?_)
  refine r_cons (s_call [.map (some mp6)] pl_44 rfl rfl (set_list mp6 (walkN n ([] : List Str)) (by have h9 := walkN_len n []; simp only [List.length_nil] at h9; omega) H24) ?_)
  rintro _ w27 ⟨pp25, cc26, rfl, H28⟩
  refine r_cons (s_assign (.slice pp25 ((sortS (walkN n ([] : List Str))).length) cc26) rfl rfl ?_)
  refine r_nil ?_
  refine g_ret' [.slice pp25 ((sortS (walkN n ([] : List Str))).length) cc26] Try.func24 Try.results24 ⟨rfl, trivial⟩ ?_
  have H29 : St W w27 (Im 1 (.slice pp25 ((sortS (walkN n ([] : List Str))).length) cc26) ((sortS (walkN n ([] : List Str))).length) ((sortS (walkN n ([] : List Str))).flatMap strCell) :: F) := ((((H28.drop 1 rfl).drop 1 rfl).drop 1 rfl).drop 1 rfl)
  exact ⟨_, _, rfl, H29⟩
set_option maxHeartbeats 4000000 in
set_option maxRecDepth 100000 in
theorem check_Sure_r (N : Nat) : ∀ (n : NodeD), sizeOf n < N → ∀ {W w : World} {F : List Atom}  {i : Nat} (hi : F[i]? = some (NodeA n)) (hz : sizeN n ≤ 1048576) (H : St W w F), Calls Try.prog 26 #[.agg #[.int .i64 n.kind.v, .string n.var.v, .string n.typ.v, .slice n.tp n.tests.length n.tc, .slice n.kp n.kids.length n.kc]] w (Ret fun v w' => ∃ p c, v = .slice p (sureN n).length c ∧ St W w' (Im 1 (.slice p (sureN n).length c) (sureN n).length ((sureN n).flatMap strCell) :: F)) := by
  induction N with | zero => exact fun n hN => absurd hN (Nat.not_lt_zero _) | succ N ih => ?_
  intro n hN W w F i hi hz H
  have H1 := NodeA.kids H (i := i + 0) (by exact hi)
  have H2 : St W w (Im 5 (.slice n.kp n.kids.length n.kc) n.kids.length (n.kids.flatMap nodeCell) :: NodesA n.kids :: F) := H1
  refine calls_of_go (n := 66) Try.func26 rfl Try.ntmps26 rfl ?_
  refine g_seq ?_
  refine g_region ?_
  refine r_cons (s_box H2 25 (.agg #[.int .i64 n.kind.v, .string n.var.v, .string n.typ.v, .slice n.tp n.tests.length n.tc, .slice n.kp n.kids.length n.kc]) rfl (cs := #[.int .i64 n.kind.v, .string n.var.v, .string n.typ.v, .slice n.tp n.tests.length n.tc, .slice n.kp n.kids.length n.kc]) rfl rfl ?_); intro bk3 w4 H5
  refine r_cons (s_assign (.slice none 0 0) rfl rfl ?_)
  refine r_nil ?_
  refine g_seq ?_
  refine g_region ?_
  refine r_cons (s_makeMap H5 rfl ?_); intro mp6 w7 H8
  have H9 : St W w7 (MapA mp6 (ents kS vB (setOf ([] : List Str))) :: blk bk3 (.cells #[.int .i64 n.kind.v, .string n.var.v, .string n.typ.v, .slice n.tp n.tests.length n.tc, .slice n.kp n.kids.length n.kc] 25 (0, 0)) :: Im 5 (.slice n.kp n.kids.length n.kc) n.kids.length (n.kids.flatMap nodeCell) :: NodesA n.kids :: F) := H8
  refine r_cons (s_assign (.map (some mp6)) rfl rfl ?_)
  refine r_nil ?_
  refine g_seq ?_
  refine g_seq ?_
  refine g_region ?_
  refine r_cons (s_fieldAddr 25 4 4 4 23 rfl fi_25_4 rfl rfl ?_)
  refine r_cons (s_load (.slice n.kp n.kids.length n.kc) ag_23 rfl (H9.blk_at (i := 1) rfl) rfl rfl ?_)
  refine r_cons (s_len n.kids.length rfl ⟨_, un_23⟩ rfl ?_)
  by_cases hc10 : (n.kids.length : Int) = 0
  · skip
    refine r_cons (s_eql true rfl rfl (dtrue hc10) rfl ?_)
    refine r_nil ?_
    refine g_true rfl ?_
    refine g_seq ?_
    refine g_seq ?_
    refine g_region ?_
    refine r_cons (s_fieldAddr 25 1 1 1 9 rfl fi_25_1 rfl rfl ?_)
    refine r_cons (s_load (.string n.var.v) ag_9 rfl (H9.blk_at (i := 1) rfl) rfl rfl ?_)
    by_cases hc11 : n.var.v = ByteArray.empty
    · skip
      refine r_cons (s_sneq false rfl rfl (ntrue hc11) rfl ?_)
      refine r_nil ?_
      refine g_false rfl ?_
      refine g_skip ?_
      refine g_seq ?_
      refine g_region ?_
      refine r_cons (s_move (.map (some mp6)) rfl rfl ?_)
      refine r_cons (s_call [.map (some mp6)] pl_44 rfl rfl (set_list mp6 ([] : List Str) (by decide) H9) ?_)
      rintro _ w14 ⟨pp12, cc13, rfl, H15⟩
      refine r_cons (s_assign (.slice pp12 ((sortS ([] : List Str)).length) cc13) rfl rfl ?_)
      refine r_nil ?_
      refine g_ret' [.slice pp12 ((sortS ([] : List Str)).length) cc13] Try.func26 Try.results26 ⟨rfl, trivial⟩ ?_
      have H16 : St W w14 (Im 1 (.slice pp12 ((sortS ([] : List Str)).length) cc13) ((sortS ([] : List Str)).length) ((sortS ([] : List Str)).flatMap strCell) :: F) := (((H15.drop 1 rfl).drop 1 rfl).drop 1 rfl)
      have hq9 : (sortS ([] : List Str)) = sureN n := by rw [sureN_leaf (by rw [List.isEmpty_iff]; exact List.eq_nil_of_length_eq_zero (by omega)), if_pos hc11]; exact sortS_nil
      exact ⟨pp12, cc13, by rw [← hq9]; rfl, by rw [← hq9]; exact H16⟩
    · skip
      refine r_cons (s_sneq true rfl rfl (nfalse hc11) rfl ?_)
      refine r_nil ?_
      refine g_true rfl ?_
      refine g_region ?_
      refine r_cons (s_move (.map (some mp6)) rfl rfl ?_)
      refine r_cons (s_fieldAddr 25 1 1 1 9 rfl fi_25_1 rfl rfl ?_)
      refine r_cons (s_load (.string n.var.v) ag_9 rfl (H9.blk_at (i := 1) rfl) rfl rfl ?_)
      refine r_cons (s_mapUpdate (ek := kS) (ev := vB) (L := setOf ([] : List Str)) n.var true H9 (i := 0) rfl (KeyLaw.S un_9) un_57 rfl rfl rfl ?_); intro w17 H18
      have H19 : St W w17 (MapA mp6 (ents kS vB (setOf (addS ([] : List Str) n.var))) :: blk bk3 (.cells #[.int .i64 n.kind.v, .string n.var.v, .string n.typ.v, .slice n.tp n.tests.length n.tc, .slice n.kp n.kids.length n.kc] 25 (0, 0)) :: Im 5 (.slice n.kp n.kids.length n.kc) n.kids.length (n.kids.flatMap nodeCell) :: NodesA n.kids :: F) := by have h9 := H18; rw [setOf_set] at h9; exact h9
      refine r_nil ?_
      refine g_seq ?_
      refine g_region ?_
      refine r_cons (s_move (.map (some mp6)) rfl rfl ?_)
      refine r_cons (s_call [.map (some mp6)] pl_44 rfl rfl (set_list mp6 (addS ([] : List Str) n.var) (by simp [addS]) H19) ?_)
      rintro _ w22 ⟨pp20, cc21, rfl, H23⟩
      refine r_cons (s_assign (.slice pp20 ((sortS (addS ([] : List Str) n.var)).length) cc21) rfl rfl ?_)
      refine r_nil ?_
      refine g_ret' [.slice pp20 ((sortS (addS ([] : List Str) n.var)).length) cc21] Try.func26 Try.results26 ⟨rfl, trivial⟩ ?_
      have H24 : St W w22 (Im 1 (.slice pp20 ((sortS (addS ([] : List Str) n.var)).length) cc21) ((sortS (addS ([] : List Str) n.var)).length) ((sortS (addS ([] : List Str) n.var)).flatMap strCell) :: F) := (((H23.drop 1 rfl).drop 1 rfl).drop 1 rfl)
      have hq9 : (sortS (addS ([] : List Str) n.var)) = sureN n := by rw [sureN_leaf (by rw [List.isEmpty_iff]; exact List.eq_nil_of_length_eq_zero (by omega)), if_neg hc11]; exact sortS_one _
      exact ⟨pp20, cc21, by rw [← hq9]; rfl, by rw [← hq9]; exact H24⟩
  · skip
    refine r_cons (s_eql false rfl rfl (dfalse hc10) rfl ?_)
    refine r_nil ?_
    refine g_false rfl ?_
    refine g_skip ?_
    refine g_seq ?_
    refine g_region ?_
    refine r_cons (s_makeMap H9 rfl ?_); intro mp25 w26 H27
    have H28 : St W w26 (MapA mp25 (ents kS vI ([] : List (Str × Int))) :: MapA mp6 (ents kS vB (setOf ([] : List Str))) :: blk bk3 (.cells #[.int .i64 n.kind.v, .string n.var.v, .string n.typ.v, .slice n.tp n.tests.length n.tc, .slice n.kp n.kids.length n.kc] 25 (0, 0)) :: Im 5 (.slice n.kp n.kids.length n.kc) n.kids.length (n.kids.flatMap nodeCell) :: NodesA n.kids :: F) := H27
    refine r_cons (s_assign (.map (some mp25)) rfl rfl ?_)
    refine r_nil ?_
    refine g_seq ?_
    refine g_seq ?_
    refine g_region ?_
    refine r_cons (s_fieldAddr 25 4 4 4 23 rfl fi_25_4 rfl rfl ?_)
    refine r_cons (s_load (.slice n.kp n.kids.length n.kc) ag_23 rfl (H28.blk_at (i := 2) rfl) rfl rfl ?_)
    refine r_cons (s_len n.kids.length rfl ⟨_, un_23⟩ rfl ?_)
    refine r_cons (s_move (.int .i64 0) rfl rfl ?_)
    refine r_nil ?_
    refine g_block ?_
    obtain ⟨pA29, cA30, gA31, oA32, kA33, eA34, zA35, he41, hn36, hp37, hx38, hs39, hml, H40⟩ := Im.open_ H28 (i := 3) rfl
    obtain ⟨rfl, rfl⟩ : n.kp = pA29 ∧ n.kc = cA30 := by injection he41 with a_ b_ c_; exact ⟨a_, c_⟩
    have hM42 : ([] : List (Str × Int)) = (cntN (n.kids.take 0)) := rfl
    have H43 : St W w26 (imi (0 < n.kids.length) gA31 (.cells kA33 eA34 zA35) :: MapA mp25 (ents kS vI (cntN (n.kids.take 0))) :: MapA mp6 (ents kS vB (setOf ([] : List Str))) :: blk bk3 (.cells #[.int .i64 n.kind.v, .string n.var.v, .string n.typ.v, .slice n.tp n.tests.length n.tc, .slice n.kp n.kids.length n.kc] 25 (0, 0)) :: Im 5 (.slice n.kp n.kids.length n.kc) n.kids.length (n.kids.flatMap nodeCell) :: NodesA n.kids :: F) := by rw [← hM42]; exact H40
    have H44 : St W w26 (imi (0 < n.kids.length) gA31 (.cells kA33 eA34 zA35) :: MapA mp25 (ents kS vI (cntN (n.kids.take 0))) :: MapA mp6 (ents kS vB (setOf ([] : List Str))) :: blk bk3 (.cells #[.int .i64 n.kind.v, .string n.var.v, .string n.typ.v, .slice n.tp n.tests.length n.tc, .slice n.kp n.kids.length n.kc] 25 (0, 0)) :: Im 5 (.slice n.kp n.kids.length n.kc) n.kids.length (n.kids.flatMap nodeCell) :: NodesA n.kids :: F) := ((((((H43.move 5 rfl).move 5 rfl).move 5 rfl).move 5 rfl).move 5 rfl).move 5 rfl)
    refine g_loop_inv (fun (x_ : Nat) => match x_ with | j => [(1, .pointer (some ⟨bk3, 0, none⟩)), (2, .slice none 0 0), (3, .map (some mp6)), (4, .map (some mp25)), (26, .slice n.kp n.kids.length n.kc), (27, .int .i64 (n.kids.length : Int)), (28, .int .i64 (j : Int))]) (fun (x_ : Nat) w => match x_ with | j => (j ≤ n.kids.length) ∧ St W w (imi (0 < n.kids.length) gA31 (.cells kA33 eA34 zA35) :: MapA mp25 (ents kS vI (cntN (n.kids.take j))) :: MapA mp6 (ents kS vB (setOf ([] : List Str))) :: blk bk3 (.cells #[.int .i64 n.kind.v, .string n.var.v, .string n.typ.v, .slice n.tp n.tests.length n.tc, .slice n.kp n.kids.length n.kc] 25 (0, 0)) :: Im 5 (.slice n.kp n.kids.length n.kc) n.kids.length (n.kids.flatMap nodeCell) :: NodesA n.kids :: F)) (fun (x_ : Nat) => match x_ with | j => n.kids.length - j) (0) ?_ ?_ ?_
    · exact ⟨by first | rfl | exact vint (by omega), by first | rfl | exact vint (by omega), by first | rfl | exact vint (by omega), by first | rfl | exact vint (by omega), by first | rfl | exact vint (by omega), by first | rfl | exact vint (by omega), by first | rfl | exact vint (by omega), trivial⟩
    · exact ⟨(by omega), H44⟩
    · rintro j ρ45 w46 ⟨hjl, H47⟩ nx48
      change Ends _ _ (upds ρ45 [(1, .pointer (some ⟨bk3, 0, none⟩)), (2, .slice none 0 0), (3, .map (some mp6)), (4, .map (some mp25)), (26, .slice n.kp n.kids.length n.kc), (27, .int .i64 (n.kids.length : Int)), (28, .int .i64 (j : Int))]) w46
      refine g_seq ?_
      refine g_region ?_
      by_cases hc49 : (j : Int) < (n.kids.length : Int)
      · skip
        refine r_cons (s_lss true rfl rfl (dtrue hc49) rfl ?_)
        refine r_nil ?_
        refine g_seq ?_
        refine g_true rfl ?_
        refine g_skip ?_
        refine g_seq ?_
        refine g_block ?_
        refine g_seq ?_
        refine g_region ?_
        refine r_cons (s_indexAddr gA31 (off := oA32) (j : Int) 5 (oA32 + j * 5) (by exact congrArg (fun z_ => Value.slice z_ n.kids.length n.kc) (hp37 (by omega))) rfl el_23 (by omega) rfl rfl ?_)
        refine r_cons (s_loadAgg [.int .i64 ((n.kids.getD j default).kind.v), .string ((n.kids.getD j default).var.v), .string ((n.kids.getD j default).typ.v), .slice ((n.kids.getD j default).tp) ((n.kids.getD j default).tests.length) ((n.kids.getD j default).tc), .slice ((n.kids.getD j default).kp) ((n.kids.getD j default).kids.length) ((n.kids.getD j default).kc)] 5 ag_25 rfl (H47.imi_at (i := 0) rfl (by omega)) (by have := elem_size (i := j) (s := 5) (hs39 (by omega)) (by omega); omega) (elem_take nodeCell_len (hx38 (by omega)) (by omega) default) rfl ?_)
        refine r_cons (s_alloc H47 25 ze_25 rfl ?_); intro bk50 w51 H52
        refine r_cons (s_storeAgg H52 0 #[.int .i64 ((n.kids.getD j default).kind.v), .string ((n.kids.getD j default).var.v), .string ((n.kids.getD j default).typ.v), .slice ((n.kids.getD j default).tp) ((n.kids.getD j default).tests.length) ((n.kids.getD j default).tc), .slice ((n.kids.getD j default).kp) ((n.kids.getD j default).kids.length) ((n.kids.getD j default).kc)] 5 rfl rfl rfl sz_25 rfl (by simp [Value.oneCell']) (Nat.le_of_ble_eq_true rfl) (fun o h1 h2 => by first | (simp; done) | (simp; omega)) (cs' := #[.int .i64 ((n.kids.getD j default).kind.v), .string ((n.kids.getD j default).var.v), .string ((n.kids.getD j default).typ.v), .slice ((n.kids.getD j default).tp) ((n.kids.getD j default).tests.length) ((n.kids.getD j default).tc), .slice ((n.kids.getD j default).kp) ((n.kids.getD j default).kids.length) ((n.kids.getD j default).kc)]) rfl ?_); intro w53 H54
        refine r_nil ?_
        refine g_seq ?_
        refine g_region ?_
        refine r_cons (s_loadAgg [.int .i64 ((n.kids.getD j default).kind.v), .string ((n.kids.getD j default).var.v), .string ((n.kids.getD j default).typ.v), .slice ((n.kids.getD j default).tp) ((n.kids.getD j default).tests.length) ((n.kids.getD j default).tc), .slice ((n.kids.getD j default).kp) ((n.kids.getD j default).kids.length) ((n.kids.getD j default).kc)] 5 ag_25 rfl (H54.blk_at (i := 0) rfl) (Nat.le_of_ble_eq_true rfl) rfl rfl ?_)
        have H55 := NodesA.at H54 (i := 6) rfl (j := j) (by omega)
        refine r_cons (s_call [.agg #[.int .i64 ((n.kids.getD j default).kind.v), .string ((n.kids.getD j default).var.v), .string ((n.kids.getD j default).typ.v), .slice ((n.kids.getD j default).tp) ((n.kids.getD j default).tests.length) ((n.kids.getD j default).tc), .slice ((n.kids.getD j default).kp) ((n.kids.getD j default).kids.length) ((n.kids.getD j default).kc)]] pl_26 rfl rfl (ih (n.kids.getD j default) (by have h9 := kid_lt (n := n) (j := j) (by omega); omega) (i := 0) rfl (by have h9 := sizeN_kid (n := n) (j := j) (by omega); omega) H55) ?_)
        rintro _ w58 ⟨pp56, cc57, rfl, H59⟩
        refine r_cons (s_len ((sureN (n.kids.getD j default)).length) rfl ⟨_, un_36⟩ rfl ?_)
        refine r_cons (s_move (.int .i64 0) rfl rfl ?_)
        refine r_nil ?_
        refine g_block ?_
        obtain ⟨pA60, cA61, gA62, oA63, kA64, eA65, zA66, he72, hn67, hp68, hx69, hs70, hml, H71⟩ := Im.open_ H59 (i := 0) rfl
        obtain ⟨rfl, rfl⟩ : pp56 = pA60 ∧ cc57 = cA61 := by injection he72 with a_ b_ c_; exact ⟨a_, c_⟩
        have hM73 : (cntN (n.kids.take j)) = (((sureN (n.kids.getD j default)).take 0).foldl cnt1 (cntN (n.kids.take j))) := rfl
        have H74 : St W w58 (imi (0 < (sureN (n.kids.getD j default)).length) gA62 (.cells kA64 eA65 zA66) :: Im 1 (.slice pp56 ((sureN (n.kids.getD j default)).length) cc57) ((sureN (n.kids.getD j default)).length) ((sureN (n.kids.getD j default)).flatMap strCell) :: NodeA (n.kids.getD j default) :: blk bk50 (.cells #[.int .i64 ((n.kids.getD j default).kind.v), .string ((n.kids.getD j default).var.v), .string ((n.kids.getD j default).typ.v), .slice ((n.kids.getD j default).tp) ((n.kids.getD j default).tests.length) ((n.kids.getD j default).tc), .slice ((n.kids.getD j default).kp) ((n.kids.getD j default).kids.length) ((n.kids.getD j default).kc)] 25 (0, 0)) :: imi (0 < n.kids.length) gA31 (.cells kA33 eA34 zA35) :: MapA mp25 (ents kS vI (((sureN (n.kids.getD j default)).take 0).foldl cnt1 (cntN (n.kids.take j)))) :: MapA mp6 (ents kS vB (setOf ([] : List Str))) :: blk bk3 (.cells #[.int .i64 n.kind.v, .string n.var.v, .string n.typ.v, .slice n.tp n.tests.length n.tc, .slice n.kp n.kids.length n.kc] 25 (0, 0)) :: Im 5 (.slice n.kp n.kids.length n.kc) n.kids.length (n.kids.flatMap nodeCell) :: NodesA n.kids :: F) := by rw [← hM73]; exact H71
        have H75 : St W w58 (imi (0 < (sureN (n.kids.getD j default)).length) gA62 (.cells kA64 eA65 zA66) :: Im 1 (.slice pp56 ((sureN (n.kids.getD j default)).length) cc57) ((sureN (n.kids.getD j default)).length) ((sureN (n.kids.getD j default)).flatMap strCell) :: NodeA (n.kids.getD j default) :: imi (0 < n.kids.length) gA31 (.cells kA33 eA34 zA35) :: MapA mp25 (ents kS vI (((sureN (n.kids.getD j default)).take 0).foldl cnt1 (cntN (n.kids.take j)))) :: MapA mp6 (ents kS vB (setOf ([] : List Str))) :: blk bk3 (.cells #[.int .i64 n.kind.v, .string n.var.v, .string n.typ.v, .slice n.tp n.tests.length n.tc, .slice n.kp n.kids.length n.kc] 25 (0, 0)) :: Im 5 (.slice n.kp n.kids.length n.kc) n.kids.length (n.kids.flatMap nodeCell) :: NodesA n.kids :: F) := ((((((((((H74.move 9 rfl).move 9 rfl).move 9 rfl).move 9 rfl).move 9 rfl).move 9 rfl).move 8 rfl).move 8 rfl).move 8 rfl).drop 9 rfl)
        refine g_loop_inv (fun (x_ : Nat) => match x_ with | q => [(1, .pointer (some ⟨bk3, 0, none⟩)), (2, .slice none 0 0), (3, .map (some mp6)), (4, .map (some mp25)), (26, .slice n.kp n.kids.length n.kc), (27, .int .i64 (n.kids.length : Int)), (28, .int .i64 (j : Int)), (33, .slice pp56 ((sureN (n.kids.getD j default)).length) cc57), (34, .int .i64 ((sureN (n.kids.getD j default)).length : Int)), (35, .int .i64 (q : Int))]) (fun (x_ : Nat) w => match x_ with | q => (q ≤ (sureN (n.kids.getD j default)).length) ∧ St W w (imi (0 < (sureN (n.kids.getD j default)).length) gA62 (.cells kA64 eA65 zA66) :: Im 1 (.slice pp56 ((sureN (n.kids.getD j default)).length) cc57) ((sureN (n.kids.getD j default)).length) ((sureN (n.kids.getD j default)).flatMap strCell) :: NodeA (n.kids.getD j default) :: imi (0 < n.kids.length) gA31 (.cells kA33 eA34 zA35) :: MapA mp25 (ents kS vI (((sureN (n.kids.getD j default)).take q).foldl cnt1 (cntN (n.kids.take j)))) :: MapA mp6 (ents kS vB (setOf ([] : List Str))) :: blk bk3 (.cells #[.int .i64 n.kind.v, .string n.var.v, .string n.typ.v, .slice n.tp n.tests.length n.tc, .slice n.kp n.kids.length n.kc] 25 (0, 0)) :: Im 5 (.slice n.kp n.kids.length n.kc) n.kids.length (n.kids.flatMap nodeCell) :: NodesA n.kids :: F)) (fun (x_ : Nat) => match x_ with | q => (sureN (n.kids.getD j default)).length - q) (0) ?_ ?_ ?_
        · exact ⟨by first | rfl | exact vint (by omega), by first | rfl | exact vint (by omega), by first | rfl | exact vint (by omega), by first | rfl | exact vint (by omega), by first | rfl | exact vint (by omega), by first | rfl | exact vint (by omega), by first | rfl | exact vint (by omega), by first | rfl | exact vint (by omega), by first | rfl | exact vint (by omega), by first | rfl | exact vint (by omega), trivial⟩
        · exact ⟨(by omega), H75⟩
        · rintro q ρ76 w77 ⟨hql, H78⟩ nx79
          change Ends _ _ (upds ρ76 [(1, .pointer (some ⟨bk3, 0, none⟩)), (2, .slice none 0 0), (3, .map (some mp6)), (4, .map (some mp25)), (26, .slice n.kp n.kids.length n.kc), (27, .int .i64 (n.kids.length : Int)), (28, .int .i64 (j : Int)), (33, .slice pp56 ((sureN (n.kids.getD j default)).length) cc57), (34, .int .i64 ((sureN (n.kids.getD j default)).length : Int)), (35, .int .i64 (q : Int))]) w77
          refine g_seq ?_
          refine g_region ?_
          by_cases hc80 : (q : Int) < ((sureN (n.kids.getD j default)).length : Int)
          · skip
            refine r_cons (s_lss true rfl rfl (dtrue hc80) rfl ?_)
            refine r_nil ?_
            refine g_seq ?_
            refine g_true rfl ?_
            refine g_skip ?_
            refine g_seq ?_
            refine g_block ?_
            refine g_seq ?_
            refine g_region ?_
            refine r_cons (s_indexAddr gA62 (off := oA63) (q : Int) 1 (oA63 + q * 1) (by exact congrArg (fun z_ => Value.slice z_ ((sureN (n.kids.getD j default)).length) cc57) (hp68 (by omega))) rfl el_36 (by omega) rfl rfl ?_)
            refine r_cons (s_load (.string (((sureN (n.kids.getD j default)).getD q default).v)) ag_9 rfl (H78.imi_at (i := 0) rfl (by omega)) (elem_cell (L := (sureN (n.kids.getD j default))) (i := q) strCell_len (hx69 (by omega)) (by omega) default 0 (by decide) _ rfl) rfl ?_)
            refine r_cons (s_assign (.string (((sureN (n.kids.getD j default)).getD q default).v)) rfl rfl ?_)
            refine r_nil ?_
            refine g_region ?_
            refine r_cons (s_move (.map (some mp25)) rfl rfl ?_)
            refine r_cons (s_move (.string (((sureN (n.kids.getD j default)).getD q default).v)) rfl rfl ?_)
            refine r_cons (s_lookup (ek := kS) (ev := vI) (L := (((sureN (n.kids.getD j default)).take q).foldl cnt1 (cntN (n.kids.take j)))) ((sureN (n.kids.getD j default)).getD q default) (.int .i64 (agetI (((sureN (n.kids.getD j default)).take q).foldl cnt1 (cntN (n.kids.take j))) ((sureN (n.kids.getD j default)).getD q default))) (MapA.at H78 (i := 4) rfl) (KeyLaw.S un_9) un_62 zv_3 rfl rfl (lookI _ _) rfl ?_)
            refine r_cons (s_add (wI (agetI (((sureN (n.kids.getD j default)).take q).foldl cnt1 (cntN (n.kids.take j))) ((sureN (n.kids.getD j default)).getD q default) + 1)) rfl rfl rfl rfl ?_)
            refine r_cons (s_mapUpdate (ek := kS) (ev := vI) (L := (((sureN (n.kids.getD j default)).take q).foldl cnt1 (cntN (n.kids.take j)))) ((sureN (n.kids.getD j default)).getD q default) (wI (agetI (((sureN (n.kids.getD j default)).take q).foldl cnt1 (cntN (n.kids.take j))) ((sureN (n.kids.getD j default)).getD q default) + 1)) H78 (i := 4) rfl (KeyLaw.S un_9) un_62 rfl rfl rfl ?_); intro w81 H82
            have H83 : St W w81 (imi (0 < (sureN (n.kids.getD j default)).length) gA62 (.cells kA64 eA65 zA66) :: Im 1 (.slice pp56 ((sureN (n.kids.getD j default)).length) cc57) ((sureN (n.kids.getD j default)).length) ((sureN (n.kids.getD j default)).flatMap strCell) :: NodeA (n.kids.getD j default) :: imi (0 < n.kids.length) gA31 (.cells kA33 eA34 zA35) :: MapA mp25 (ents kS vI (aset (((sureN (n.kids.getD j default)).take q).foldl cnt1 (cntN (n.kids.take j))) ((sureN (n.kids.getD j default)).getD q default) (wI (agetI (((sureN (n.kids.getD j default)).take q).foldl cnt1 (cntN (n.kids.take j))) ((sureN (n.kids.getD j default)).getD q default) + 1)))) :: MapA mp6 (ents kS vB (setOf ([] : List Str))) :: blk bk3 (.cells #[.int .i64 n.kind.v, .string n.var.v, .string n.typ.v, .slice n.tp n.tests.length n.tc, .slice n.kp n.kids.length n.kc] 25 (0, 0)) :: Im 5 (.slice n.kp n.kids.length n.kc) n.kids.length (n.kids.flatMap nodeCell) :: NodesA n.kids :: F) := H82
            refine r_nil ?_
            refine g_inBlock ?_
            refine g_region ?_
            refine r_cons (s_add ((q : Int) + 1) rfl rfl (wi64 (by omega)) rfl ?_)
            refine r_cons (s_move (.int .i64 ((q : Int) + 1)) rfl rfl ?_)
            refine r_nil ?_
            have hM84 : (aset (((sureN (n.kids.getD j default)).take q).foldl cnt1 (cntN (n.kids.take j))) ((sureN (n.kids.getD j default)).getD q default) (wI (agetI (((sureN (n.kids.getD j default)).take q).foldl cnt1 (cntN (n.kids.take j))) ((sureN (n.kids.getD j default)).getD q default) + 1))) = (((sureN (n.kids.getD j default)).take (q + 1)).foldl cnt1 (cntN (n.kids.take j))) := (fold_stepS cnt1 _ (by omega)).symm
            have H85 : St W w81 (imi (0 < (sureN (n.kids.getD j default)).length) gA62 (.cells kA64 eA65 zA66) :: Im 1 (.slice pp56 ((sureN (n.kids.getD j default)).length) cc57) ((sureN (n.kids.getD j default)).length) ((sureN (n.kids.getD j default)).flatMap strCell) :: NodeA (n.kids.getD j default) :: imi (0 < n.kids.length) gA31 (.cells kA33 eA34 zA35) :: MapA mp25 (ents kS vI (((sureN (n.kids.getD j default)).take (q + 1)).foldl cnt1 (cntN (n.kids.take j)))) :: MapA mp6 (ents kS vB (setOf ([] : List Str))) :: blk bk3 (.cells #[.int .i64 n.kind.v, .string n.var.v, .string n.typ.v, .slice n.tp n.tests.length n.tc, .slice n.kp n.kids.length n.kc] 25 (0, 0)) :: Im 5 (.slice n.kp n.kids.length n.kc) n.kids.length (n.kids.flatMap nodeCell) :: NodesA n.kids :: F) := by rw [← hM84]; exact H83
            have H86 : St W w81 (imi (0 < (sureN (n.kids.getD j default)).length) gA62 (.cells kA64 eA65 zA66) :: Im 1 (.slice pp56 ((sureN (n.kids.getD j default)).length) cc57) ((sureN (n.kids.getD j default)).length) ((sureN (n.kids.getD j default)).flatMap strCell) :: NodeA (n.kids.getD j default) :: imi (0 < n.kids.length) gA31 (.cells kA33 eA34 zA35) :: MapA mp25 (ents kS vI (((sureN (n.kids.getD j default)).take (q + 1)).foldl cnt1 (cntN (n.kids.take j)))) :: MapA mp6 (ents kS vB (setOf ([] : List Str))) :: blk bk3 (.cells #[.int .i64 n.kind.v, .string n.var.v, .string n.typ.v, .slice n.tp n.tests.length n.tc, .slice n.kp n.kids.length n.kc] 25 (0, 0)) :: Im 5 (.slice n.kp n.kids.length n.kc) n.kids.length (n.kids.flatMap nodeCell) :: NodesA n.kids :: F) := (((((((((H85.move 8 rfl).move 8 rfl).move 8 rfl).move 8 rfl).move 8 rfl).move 8 rfl).move 8 rfl).move 8 rfl).move 8 rfl)
            exact nx79 (q + 1) _ _ ⟨(by omega), H86⟩ (by first | (dsimp only; omega) | omega) ⟨by first | rfl | exact vint (by omega), by first | rfl | exact vint (by omega), by first | rfl | exact vint (by omega), by first | rfl | exact vint (by omega), by first | rfl | exact vint (by omega), by first | rfl | exact vint (by omega), by first | rfl | exact vint (by omega), by first | rfl | exact vint (by omega), by first | rfl | exact vint (by omega), by first | rfl | exact vint (by omega), trivial⟩
          · skip
            refine r_cons (s_lss false rfl rfl (dfalse hc80) rfl ?_)
            refine r_nil ?_
            refine g_seq ?_
            refine g_false rfl ?_
            refine g_exit (by rfl) ?_
            refine g_inBlock ?_
            refine g_region ?_
            refine r_cons (s_add ((j : Int) + 1) rfl rfl (wi64 (by omega)) rfl ?_)
            refine r_cons (s_move (.int .i64 ((j : Int) + 1)) rfl rfl ?_)
            refine r_nil ?_
            have hM87 : (((sureN (n.kids.getD j default)).take q).foldl cnt1 (cntN (n.kids.take j))) = (cntN (n.kids.take (j + 1))) := by rw [cntN_step (by omega), fold_allS _ _ (by omega)]
            have H88 : St W w77 (imi (0 < (sureN (n.kids.getD j default)).length) gA62 (.cells kA64 eA65 zA66) :: Im 1 (.slice pp56 ((sureN (n.kids.getD j default)).length) cc57) ((sureN (n.kids.getD j default)).length) ((sureN (n.kids.getD j default)).flatMap strCell) :: NodeA (n.kids.getD j default) :: imi (0 < n.kids.length) gA31 (.cells kA33 eA34 zA35) :: MapA mp25 (ents kS vI (cntN (n.kids.take (j + 1)))) :: MapA mp6 (ents kS vB (setOf ([] : List Str))) :: blk bk3 (.cells #[.int .i64 n.kind.v, .string n.var.v, .string n.typ.v, .slice n.tp n.tests.length n.tc, .slice n.kp n.kids.length n.kc] 25 (0, 0)) :: Im 5 (.slice n.kp n.kids.length n.kc) n.kids.length (n.kids.flatMap nodeCell) :: NodesA n.kids :: F) := by rw [← hM87]; exact H78
            have H89 : St W w77 (imi (0 < n.kids.length) gA31 (.cells kA33 eA34 zA35) :: MapA mp25 (ents kS vI (cntN (n.kids.take (j + 1)))) :: MapA mp6 (ents kS vB (setOf ([] : List Str))) :: blk bk3 (.cells #[.int .i64 n.kind.v, .string n.var.v, .string n.typ.v, .slice n.tp n.tests.length n.tc, .slice n.kp n.kids.length n.kc] 25 (0, 0)) :: Im 5 (.slice n.kp n.kids.length n.kc) n.kids.length (n.kids.flatMap nodeCell) :: NodesA n.kids :: F) := (((((((((H88.move 8 rfl).move 8 rfl).move 8 rfl).move 8 rfl).move 8 rfl).move 8 rfl).drop 6 rfl).drop 6 rfl).drop 6 rfl)
            exact nx48 (j + 1) _ _ ⟨(by omega), H89⟩ (by first | (dsimp only; omega) | omega) ⟨by first | rfl | exact vint (by omega), by first | rfl | exact vint (by omega), by first | rfl | exact vint (by omega), by first | rfl | exact vint (by omega), by first | rfl | exact vint (by omega), by first | rfl | exact vint (by omega), by first | rfl | exact vint (by omega), trivial⟩
      · skip
        refine r_cons (s_lss false rfl rfl (dfalse hc49) rfl ?_)
        refine r_nil ?_
        refine g_seq ?_
        refine g_false rfl ?_
        refine g_exit (by rfl) ?_
        refine g_seq ?_
        refine g_seq ?_
        refine g_region ?_
        refine r_cons (s_move (.map (some mp25)) rfl rfl ?_)
        refine r_cons (s_range H47 1 rfl un_62 rfl rfl ?_); intro it90 w91 H92
        have H93 : St W w91 (MapIt it90 mp25 (ents kS vI (cntN (n.kids.take j))) (ents kS vI (cntN (n.kids.take j))) none :: imi (0 < n.kids.length) gA31 (.cells kA33 eA34 zA35) :: MapA mp6 (ents kS vB (setOf ([] : List Str))) :: blk bk3 (.cells #[.int .i64 n.kind.v, .string n.var.v, .string n.typ.v, .slice n.tp n.tests.length n.tc, .slice n.kp n.kids.length n.kc] 25 (0, 0)) :: Im 5 (.slice n.kp n.kids.length n.kc) n.kids.length (n.kids.flatMap nodeCell) :: NodesA n.kids :: F) := H92.drop 2 rfl
        refine r_nil ?_
        refine g_block ?_
        have hL94 : (cntN (n.kids.take j)) = cntN n.kids := by rw [List.take_of_length_le (by omega)]
        have H95 : St W w91 (MapIt it90 mp25 (ents kS vI (cntN n.kids)) (ents kS vI (cntN n.kids)) none :: imi (0 < n.kids.length) gA31 (.cells kA33 eA34 zA35) :: MapA mp6 (ents kS vB (setOf ([] : List Str))) :: blk bk3 (.cells #[.int .i64 n.kind.v, .string n.var.v, .string n.typ.v, .slice n.tp n.tests.length n.tc, .slice n.kp n.kids.length n.kc] 25 (0, 0)) :: Im 5 (.slice n.kp n.kids.length n.kc) n.kids.length (n.kids.flatMap nodeCell) :: NodesA n.kids :: F) := by rw [← hL94]; exact H93
        have H96 : St W w91 (MapIt it90 mp25 (ents kS vI (cntN n.kids)) (ents kS vI (cntN n.kids)) none :: imi (0 < n.kids.length) gA31 (.cells kA33 eA34 zA35) :: MapA mp6 (ents kS vB (setOf (pickF n []))) :: blk bk3 (.cells #[.int .i64 n.kind.v, .string n.var.v, .string n.typ.v, .slice n.tp n.tests.length n.tc, .slice n.kp n.kids.length n.kc] 25 (0, 0)) :: Im 5 (.slice n.kp n.kids.length n.kc) n.kids.length (n.kids.flatMap nodeCell) :: NodesA n.kids :: F) := H95
        have H97 : St W w91 (MapIt it90 mp25 (ents kS vI (cntN n.kids)) (ents kS vI (cntN n.kids)) none :: imi (0 < n.kids.length) gA31 (.cells kA33 eA34 zA35) :: MapA mp6 (ents kS vB (setOf (pickF n []))) :: blk bk3 (.cells #[.int .i64 n.kind.v, .string n.var.v, .string n.typ.v, .slice n.tp n.tests.length n.tc, .slice n.kp n.kids.length n.kc] 25 (0, 0)) :: Im 5 (.slice n.kp n.kids.length n.kc) n.kids.length (n.kids.flatMap nodeCell) :: NodesA n.kids :: F) := ((((((H96.move 5 rfl).move 5 rfl).move 5 rfl).move 5 rfl).move 5 rfl).move 5 rfl)
        refine g_loop_inv (fun (x_ : (List (Str × Int)) × (List (Str × Int)) × (Option (Value × Value))) => match x_ with | (pre, rest, last) => [(1, .pointer (some ⟨bk3, 0, none⟩)), (2, .slice none 0 0), (3, .map (some mp6)), (46, .pointer (some ⟨it90, 0, none⟩))]) (fun (x_ : (List (Str × Int)) × (List (Str × Int)) × (Option (Value × Value))) w => match x_ with | (pre, rest, last) => ((pre ++ rest).Perm (cntN n.kids)) ∧ St W w (MapIt it90 mp25 (ents kS vI (cntN n.kids)) (ents kS vI rest) last :: imi (0 < n.kids.length) gA31 (.cells kA33 eA34 zA35) :: MapA mp6 (ents kS vB (setOf (pickF n pre))) :: blk bk3 (.cells #[.int .i64 n.kind.v, .string n.var.v, .string n.typ.v, .slice n.tp n.tests.length n.tc, .slice n.kp n.kids.length n.kc] 25 (0, 0)) :: Im 5 (.slice n.kp n.kids.length n.kc) n.kids.length (n.kids.flatMap nodeCell) :: NodesA n.kids :: F)) (fun (x_ : (List (Str × Int)) × (List (Str × Int)) × (Option (Value × Value))) => match x_ with | (pre, rest, last) => rest.length) ([], cntN n.kids, none) ?_ ?_ ?_
        · exact ⟨by first | rfl | exact vint (by omega), by first | rfl | exact vint (by omega), by first | rfl | exact vint (by omega), by first | rfl | exact vint (by omega), trivial⟩
        · exact ⟨(List.Perm.refl _), H97⟩
        · rintro ⟨pre, rest, last⟩ ρ98 w99 ⟨hperm, H100⟩ nx101
          change Ends _ _ (upds ρ98 [(1, .pointer (some ⟨bk3, 0, none⟩)), (2, .slice none 0 0), (3, .map (some mp6)), (46, .pointer (some ⟨it90, 0, none⟩))]) w99
          refine g_seq ?_
          refine g_region ?_
          refine r_cons (s_nextT (ek := kS) (ev := vI) (rest := rest) H100 0 rfl rfl rfl ?_ ?_)
          · intro h0102
            refine r_cons (s_extract (.bool false) #[.bool false] rfl rfl rfl ?_)
            refine r_nil ?_
            refine g_seq ?_
            refine g_false rfl ?_
            refine g_exit (by rfl) ?_
            refine g_seq ?_
            refine g_region ?_
            refine r_cons (s_move (.map (some mp6)) rfl rfl ?_)
            have H108 : St W w99 (MapA mp6 (ents kS vB (setOf (pickF n pre))) :: MapIt it90 mp25 (ents kS vI (cntN n.kids)) (ents kS vI rest) last :: imi (0 < n.kids.length) gA31 (.cells kA33 eA34 zA35) :: blk bk3 (.cells #[.int .i64 n.kind.v, .string n.var.v, .string n.typ.v, .slice n.tp n.tests.length n.tc, .slice n.kp n.kids.length n.kc] 25 (0, 0)) :: Im 5 (.slice n.kp n.kids.length n.kc) n.kids.length (n.kids.flatMap nodeCell) :: NodesA n.kids :: F) := (H100.move 2 rfl)
            refine r_cons (s_call [.map (some mp6)] pl_44 rfl rfl (set_list mp6 (pickF n pre) (by have h9 := pickF_len n pre; have h8 := hperm.length_eq; have h7 := cntN_len n; simp only [List.length_append] at h8; omega) H108) ?_)
            rintro _ w111 ⟨pp109, cc110, rfl, H112⟩
            refine r_cons (s_assign (.slice pp109 ((sortS (pickF n pre)).length) cc110) rfl rfl ?_)
            refine r_nil ?_
            refine g_ret' [.slice pp109 ((sortS (pickF n pre)).length) cc110] Try.func26 Try.results26 ⟨rfl, trivial⟩ ?_
            have H113 : St W w111 (Im 1 (.slice pp109 ((sortS (pickF n pre)).length) cc110) ((sortS (pickF n pre)).length) ((sortS (pickF n pre)).flatMap strCell) :: F) := (((((H112.drop 1 rfl).drop 1 rfl).drop 1 rfl).drop 1 rfl).drop 1 rfl)
            have hq9 : (sortS (pickF n pre)) = sureN n := sureN_map (by rw [Bool.eq_false_iff, ne_eq, List.isEmpty_iff]; intro h9; have h8 := congrArg List.length h9; simp only [List.length_nil] at h8; omega) (by have h9 := kids_len n; omega) (perm_endE h0102 hperm)
            exact ⟨pp109, cc110, by rw [← hq9]; rfl, by rw [← hq9]; exact H113⟩
          · intro jn103 en104 w105 hj106 H107
            have H114 : St W w105 (MapIt it90 mp25 (ents kS vI (cntN n.kids)) (ents kS vI (rest.eraseIdx jn103)) (some (kS en104.1, vI en104.2)) :: imi (0 < n.kids.length) gA31 (.cells kA33 eA34 zA35) :: MapA mp6 (ents kS vB (setOf (pickF n pre))) :: blk bk3 (.cells #[.int .i64 n.kind.v, .string n.var.v, .string n.typ.v, .slice n.tp n.tests.length n.tc, .slice n.kp n.kids.length n.kc] 25 (0, 0)) :: Im 5 (.slice n.kp n.kids.length n.kc) n.kids.length (n.kids.flatMap nodeCell) :: NodesA n.kids :: F) := H107
            refine r_cons (s_extract (.bool true) #[.bool true, .string en104.1.v, .int .i64 en104.2] rfl rfl rfl ?_)
            refine r_nil ?_
            refine g_seq ?_
            refine g_true rfl ?_
            refine g_skip ?_
            refine g_block ?_
            refine g_seq ?_
            refine g_region ?_
            refine r_cons (s_entry (.tuple #[.string en104.1.v, .int .i64 en104.2]) H114 0 rfl rfl rfl rfl ?_)
            refine r_cons (s_extract (.string en104.1.v) #[.string en104.1.v, .int .i64 en104.2] rfl rfl rfl ?_)
            refine r_cons (s_extract (.int .i64 en104.2) #[.string en104.1.v, .int .i64 en104.2] rfl rfl rfl ?_)
            refine r_cons (s_assign (.string en104.1.v) rfl rfl ?_)
            refine r_cons (s_assign (.int .i64 en104.2) rfl rfl ?_)
            refine r_nil ?_
            refine g_seq ?_
            refine g_region ?_
            refine r_cons (s_fieldAddr 25 0 0 0 3 rfl fi_25_0 rfl rfl ?_)
            refine r_cons (s_load (.int .i64 n.kind.v) ag_3 rfl (H114.blk_at (i := 3) rfl) rfl rfl ?_)
            by_cases hc115 : n.kind.v = 4
            · skip
              refine r_cons (s_neq false rfl rfl (ntrue hc115) rfl ?_)
              refine r_cons (s_move (.bool false) rfl rfl ?_)
              refine r_cons (r_take rfl rfl ?_)
              refine s_move (.int .i64 en104.2) rfl rfl ?_
              refine r_cons (r_take rfl rfl ?_)
              refine s_fieldAddr 25 4 4 4 23 rfl fi_25_4 rfl rfl ?_
              refine r_cons (r_take rfl rfl ?_)
              refine s_load (.slice n.kp n.kids.length n.kc) ag_23 rfl (H114.blk_at (i := 3) rfl) rfl rfl ?_
              refine r_cons (r_take rfl rfl ?_)
              refine s_len n.kids.length rfl ⟨_, un_23⟩ rfl ?_
              refine r_cons (r_take rfl rfl ?_)
              by_cases hc116 : en104.2 = (n.kids.length : Int)
              · skip
                refine s_eql true rfl rfl (dtrue hc116) rfl ?_
                refine r_cons (s_pick_f (.bool true) rfl rfl rfl ?_)
                refine r_nil ?_
                refine g_true rfl ?_
                refine g_region ?_
                refine r_cons (s_move (.map (some mp6)) rfl rfl ?_)
                refine r_cons (s_move (.string en104.1.v) rfl rfl ?_)
                refine r_cons (s_mapUpdate (ek := kS) (ev := vB) (L := setOf (pickF n pre)) en104.1 true H114 (i := 2) rfl (KeyLaw.S un_9) un_57 rfl rfl rfl ?_); intro w117 H118
                have H119 : St W w117 (MapIt it90 mp25 (ents kS vI (cntN n.kids)) (ents kS vI (rest.eraseIdx jn103)) (some (kS en104.1, vI en104.2)) :: imi (0 < n.kids.length) gA31 (.cells kA33 eA34 zA35) :: MapA mp6 (ents kS vB (setOf (addS (pickF n pre) en104.1))) :: blk bk3 (.cells #[.int .i64 n.kind.v, .string n.var.v, .string n.typ.v, .slice n.tp n.tests.length n.tc, .slice n.kp n.kids.length n.kc] 25 (0, 0)) :: Im 5 (.slice n.kp n.kids.length n.kc) n.kids.length (n.kids.flatMap nodeCell) :: NodesA n.kids :: F) := by have h9 := H118; rw [setOf_set] at h9; exact h9
                refine r_nil ?_
                refine g_inBlock ?_
                have hM120 : (addS (pickF n pre) en104.1) = (pickF n (pre ++ [en104])) := by rw [pickF_snoc, if_pos (by omega)]
                have H121 : St W w117 (MapIt it90 mp25 (ents kS vI (cntN n.kids)) (ents kS vI (rest.eraseIdx jn103)) (some (kS en104.1, vI en104.2)) :: imi (0 < n.kids.length) gA31 (.cells kA33 eA34 zA35) :: MapA mp6 (ents kS vB (setOf (pickF n (pre ++ [en104])))) :: blk bk3 (.cells #[.int .i64 n.kind.v, .string n.var.v, .string n.typ.v, .slice n.tp n.tests.length n.tc, .slice n.kp n.kids.length n.kc] 25 (0, 0)) :: Im 5 (.slice n.kp n.kids.length n.kc) n.kids.length (n.kids.flatMap nodeCell) :: NodesA n.kids :: F) := by rw [← hM120]; exact H119
                have H122 : St W w117 (MapIt it90 mp25 (ents kS vI (cntN n.kids)) (ents kS vI (rest.eraseIdx jn103)) (some (kS en104.1, vI en104.2)) :: imi (0 < n.kids.length) gA31 (.cells kA33 eA34 zA35) :: MapA mp6 (ents kS vB (setOf (pickF n (pre ++ [en104])))) :: blk bk3 (.cells #[.int .i64 n.kind.v, .string n.var.v, .string n.typ.v, .slice n.tp n.tests.length n.tc, .slice n.kp n.kids.length n.kc] 25 (0, 0)) :: Im 5 (.slice n.kp n.kids.length n.kc) n.kids.length (n.kids.flatMap nodeCell) :: NodesA n.kids :: F) := ((((((H121.move 5 rfl).move 5 rfl).move 5 rfl).move 5 rfl).move 5 rfl).move 5 rfl)
                exact nx101 (pre ++ [en104], (rest.eraseIdx jn103), (some (kS en104.1, vI en104.2))) _ _ ⟨(perm_stepE hj106 hperm), H122⟩ (by first | (dsimp only; exact rest_len (by assumption)) | exact rest_len (by assumption)) ⟨by first | rfl | exact vint (by omega), by first | rfl | exact vint (by omega), by first | rfl | exact vint (by omega), by first | rfl | exact vint (by omega), trivial⟩
              · skip
                refine s_eql false rfl rfl (dfalse hc116) rfl ?_
                refine r_cons (s_pick_f (.bool false) rfl rfl rfl ?_)
                refine r_nil ?_
                refine g_false rfl ?_
                refine g_skip ?_
                refine g_inBlock ?_
                have hM123 : (pickF n pre) = (pickF n (pre ++ [en104])) := by rw [pickF_snoc, if_neg (by omega)]
                have H124 : St W w105 (MapIt it90 mp25 (ents kS vI (cntN n.kids)) (ents kS vI (rest.eraseIdx jn103)) (some (kS en104.1, vI en104.2)) :: imi (0 < n.kids.length) gA31 (.cells kA33 eA34 zA35) :: MapA mp6 (ents kS vB (setOf (pickF n (pre ++ [en104])))) :: blk bk3 (.cells #[.int .i64 n.kind.v, .string n.var.v, .string n.typ.v, .slice n.tp n.tests.length n.tc, .slice n.kp n.kids.length n.kc] 25 (0, 0)) :: Im 5 (.slice n.kp n.kids.length n.kc) n.kids.length (n.kids.flatMap nodeCell) :: NodesA n.kids :: F) := by rw [← hM123]; exact H114
                have H125 : St W w105 (MapIt it90 mp25 (ents kS vI (cntN n.kids)) (ents kS vI (rest.eraseIdx jn103)) (some (kS en104.1, vI en104.2)) :: imi (0 < n.kids.length) gA31 (.cells kA33 eA34 zA35) :: MapA mp6 (ents kS vB (setOf (pickF n (pre ++ [en104])))) :: blk bk3 (.cells #[.int .i64 n.kind.v, .string n.var.v, .string n.typ.v, .slice n.tp n.tests.length n.tc, .slice n.kp n.kids.length n.kc] 25 (0, 0)) :: Im 5 (.slice n.kp n.kids.length n.kc) n.kids.length (n.kids.flatMap nodeCell) :: NodesA n.kids :: F) := ((((((H124.move 5 rfl).move 5 rfl).move 5 rfl).move 5 rfl).move 5 rfl).move 5 rfl)
                exact nx101 (pre ++ [en104], (rest.eraseIdx jn103), (some (kS en104.1, vI en104.2))) _ _ ⟨(perm_stepE hj106 hperm), H125⟩ (by first | (dsimp only; exact rest_len (by assumption)) | exact rest_len (by assumption)) ⟨by first | rfl | exact vint (by omega), by first | rfl | exact vint (by omega), by first | rfl | exact vint (by omega), by first | rfl | exact vint (by omega), trivial⟩
            · skip
              refine r_cons (s_neq true rfl rfl (nfalse hc115) rfl ?_)
              refine r_cons (s_move (.bool true) rfl rfl ?_)
              refine r_cons (r_pass rfl rfl rfl rfl rfl ?_)
              refine r_cons (r_pass rfl rfl rfl rfl rfl ?_)
              refine r_cons (r_pass rfl rfl rfl rfl rfl ?_)
              refine r_cons (r_pass rfl rfl rfl rfl rfl ?_)
              refine r_cons (r_pass rfl rfl rfl rfl rfl ?_)
              refine r_cons (s_pick_t (.bool true) rfl rfl rfl ?_)
              refine r_nil ?_
              refine g_true rfl ?_
              refine g_region ?_
              refine r_cons (s_move (.map (some mp6)) rfl rfl ?_)
              refine r_cons (s_move (.string en104.1.v) rfl rfl ?_)
              refine r_cons (s_mapUpdate (ek := kS) (ev := vB) (L := setOf (pickF n pre)) en104.1 true H114 (i := 2) rfl (KeyLaw.S un_9) un_57 rfl rfl rfl ?_); intro w126 H127
              have H128 : St W w126 (MapIt it90 mp25 (ents kS vI (cntN n.kids)) (ents kS vI (rest.eraseIdx jn103)) (some (kS en104.1, vI en104.2)) :: imi (0 < n.kids.length) gA31 (.cells kA33 eA34 zA35) :: MapA mp6 (ents kS vB (setOf (addS (pickF n pre) en104.1))) :: blk bk3 (.cells #[.int .i64 n.kind.v, .string n.var.v, .string n.typ.v, .slice n.tp n.tests.length n.tc, .slice n.kp n.kids.length n.kc] 25 (0, 0)) :: Im 5 (.slice n.kp n.kids.length n.kc) n.kids.length (n.kids.flatMap nodeCell) :: NodesA n.kids :: F) := by have h9 := H127; rw [setOf_set] at h9; exact h9
              refine r_nil ?_
              refine g_inBlock ?_
              have hM129 : (addS (pickF n pre) en104.1) = (pickF n (pre ++ [en104])) := by rw [pickF_snoc, if_pos (by omega)]
              have H130 : St W w126 (MapIt it90 mp25 (ents kS vI (cntN n.kids)) (ents kS vI (rest.eraseIdx jn103)) (some (kS en104.1, vI en104.2)) :: imi (0 < n.kids.length) gA31 (.cells kA33 eA34 zA35) :: MapA mp6 (ents kS vB (setOf (pickF n (pre ++ [en104])))) :: blk bk3 (.cells #[.int .i64 n.kind.v, .string n.var.v, .string n.typ.v, .slice n.tp n.tests.length n.tc, .slice n.kp n.kids.length n.kc] 25 (0, 0)) :: Im 5 (.slice n.kp n.kids.length n.kc) n.kids.length (n.kids.flatMap nodeCell) :: NodesA n.kids :: F) := by rw [← hM129]; exact H128
              have H131 : St W w126 (MapIt it90 mp25 (ents kS vI (cntN n.kids)) (ents kS vI (rest.eraseIdx jn103)) (some (kS en104.1, vI en104.2)) :: imi (0 < n.kids.length) gA31 (.cells kA33 eA34 zA35) :: MapA mp6 (ents kS vB (setOf (pickF n (pre ++ [en104])))) :: blk bk3 (.cells #[.int .i64 n.kind.v, .string n.var.v, .string n.typ.v, .slice n.tp n.tests.length n.tc, .slice n.kp n.kids.length n.kc] 25 (0, 0)) :: Im 5 (.slice n.kp n.kids.length n.kc) n.kids.length (n.kids.flatMap nodeCell) :: NodesA n.kids :: F) := ((((((H130.move 5 rfl).move 5 rfl).move 5 rfl).move 5 rfl).move 5 rfl).move 5 rfl)
              exact nx101 (pre ++ [en104], (rest.eraseIdx jn103), (some (kS en104.1, vI en104.2))) _ _ ⟨(perm_stepE hj106 hperm), H131⟩ (by first | (dsimp only; exact rest_len (by assumption)) | exact rest_len (by assumption)) ⟨by first | rfl | exact vint (by omega), by first | rfl | exact vint (by omega), by first | rfl | exact vint (by omega), by first | rfl | exact vint (by omega), trivial⟩
theorem check_Sure {W w : World} {F : List Atom} (n : NodeD)  {i : Nat} (hi : F[i]? = some (NodeA n)) (hz : sizeN n ≤ 1048576) (H : St W w F) : Calls Try.prog 26 #[.agg #[.int .i64 n.kind.v, .string n.var.v, .string n.typ.v, .slice n.tp n.tests.length n.tc, .slice n.kp n.kids.length n.kc]] w (Ret fun v w' => ∃ p c, v = .slice p (sureN n).length c ∧ St W w' (Im 1 (.slice p (sureN n).length c) (sureN n).length ((sureN n).flatMap strCell) :: F)) := check_Sure_r (sizeOf n + 1) n (Nat.lt_succ_self _) hi hz H
end Sl
