/- Walks of the program's functions. Printed by a program of this claim's author. No condition. -/
import Derived.Test.YtheggchlcpafmaaSlQ
import Derived.Test.YtheggchlcpafmaaSlR
import Derived.Test.YtheggchlcpafmaaSlBB
import Derived.Test.YtheggchlcpafmaaSlDA
import Derived.Test.YtheggchlcpafmaaProg
namespace Sl
open _root_.Go _root_.Go.RowKit _root_.Go.Proofs
set_option linter.all false
theorem us_9 : (Try.prog.underlying 9).isSome = true := by kernel_rfl
theorem un_66 : Try.prog.underlying 66 = some (.slice 5) := by kernel_rfl
theorem un_5 : Try.prog.underlying 5 = some (.int .u8) := by kernel_rfl
theorem el_66 : elemSize Try.prog 66 = some (5, 1) := by kernel_rfl
theorem ag_5 : isAggB Try.prog 5 = false ∧ (Try.prog.underlying 5).isSome = true := ⟨by kernel_rfl, by kernel_rfl⟩
theorem st_9 : isStr Try.prog 9 = true := by kernel_rfl
theorem fi_89_0 : fieldOff Try.prog 89 0 = some (0, 3) := by kernel_rfl
theorem ag_3 : isAggB Try.prog 3 = false ∧ (Try.prog.underlying 3).isSome = true := ⟨by kernel_rfl, by kernel_rfl⟩
theorem fi_89_2 : fieldOff Try.prog 89 2 = some (2, 9) := by kernel_rfl
theorem ag_9 : isAggB Try.prog 9 = false ∧ (Try.prog.underlying 9).isSome = true := ⟨by kernel_rfl, by kernel_rfl⟩
theorem fi_89_1 : fieldOff Try.prog 89 1 = some (1, 2) := by kernel_rfl
theorem ag_2 : isAggB Try.prog 2 = false ∧ (Try.prog.underlying 2).isSome = true := ⟨by kernel_rfl, by kernel_rfl⟩
theorem un_31 : Try.prog.underlying 31 = some (.slice 91) := by kernel_rfl
theorem el_31 : elemSize Try.prog 31 = some (91, 4) := by kernel_rfl
theorem ag_91 : isAggB Try.prog 91 = true ∧ (Try.prog.info? 91).map (·.size) = some 4 := ⟨by kernel_rfl, by kernel_rfl⟩
theorem ze_91 : zeroOf Try.prog 91 = some #[.string ByteArray.empty, .int .i64 0, .int .i64 0, .string ByteArray.empty] := by kernel_rfl
theorem sz_91 : (Try.prog.info? 91).map (·.size) = some 4 := by kernel_rfl
theorem fi_91_0 : fieldOff Try.prog 91 0 = some (0, 9) := by kernel_rfl
theorem pl_60 : plainFn Try.prog 60 = true := by kernel_rfl
theorem fi_91_1 : fieldOff Try.prog 91 1 = some (1, 89) := by kernel_rfl
theorem ag_89 : isAggB Try.prog 89 = true ∧ (Try.prog.info? 89).map (·.size) = some 3 := ⟨by kernel_rfl, by kernel_rfl⟩
theorem pl_86 : plainFn Try.prog 86 = true := by kernel_rfl
theorem mixed : Try.prog.follows .mixedOrders = true := by kernel_rfl
theorem ev_91 {a0 b0 : ByteArray} {a1 b1 : Int} {a2 b2 : Int} {a3 b3 : ByteArray} : EqV Try.prog Op.maxDepth 91 (.agg #[.string a0, .int .i64 a1, .int .i64 a2, .string a3]) (.agg #[.string b0, .int .i64 b1, .int .i64 b2, .string b3]) (decide (a0 = b0) && ((decide (a1 = b1) && (decide (a2 = b2) && (decide (a3 = b3) && true))) && true)) := (EqV.struct (d := 9999) (l := [_, _]) Try.underlying91 rfl (by kernel_rfl) (EqF.cons (a := .string a0) (b := .string b0) rfl (fun w => by kernel_rfl) (fun w => by kernel_rfl) (EqV.str (d := 9998) Try.underlying9) (EqF.cons (a := .agg #[.int .i64 a1, .int .i64 a2, .string a3]) (b := .agg #[.int .i64 b1, .int .i64 b2, .string b3]) rfl (fun w => by kernel_rfl) (fun w => by kernel_rfl) (EqV.struct (d := 9998) (l := [_, _, _]) Try.underlying89 rfl (by kernel_rfl) (EqF.cons (a := .int .i64 a1) (b := .int .i64 b1) rfl (fun w => by kernel_rfl) (fun w => by kernel_rfl) (EqV.int (d := 9997) Try.underlying3) (EqF.cons (a := .int .i64 a2) (b := .int .i64 b2) rfl (fun w => by kernel_rfl) (fun w => by kernel_rfl) (EqV.int (d := 9997) Try.underlying2) (EqF.cons (a := .string a3) (b := .string b3) rfl (fun w => by kernel_rfl) (fun w => by kernel_rfl) (EqV.str (d := 9997) Try.underlying9) EqF.nil)))) EqF.nil)))
theorem gd_91 : Try.prog.eqGuardType Try.prog.depth 91 = false := by kernel_rfl
theorem fi_33_0 : fieldOff Try.prog 33 0 = some (0, 30) := by kernel_rfl
theorem fi_30_0 : fieldOff Try.prog 30 0 = some (0, 3) := by kernel_rfl
theorem fi_30_1 : fieldOff Try.prog 30 1 = some (1, 2) := by kernel_rfl
theorem pl_59 : plainFn Try.prog 59 = true := by kernel_rfl
theorem fi_33_1 : fieldOff Try.prog 33 1 = some (2, 2) := by kernel_rfl
theorem fi_33_2 : fieldOff Try.prog 33 2 = some (3, 9) := by kernel_rfl
theorem fi_33_3 : fieldOff Try.prog 33 3 = some (4, 31) := by kernel_rfl
theorem ag_31 : isAggB Try.prog 31 = false ∧ (Try.prog.underlying 31).isSome = true := ⟨by kernel_rfl, by kernel_rfl⟩
theorem pl_61 : plainFn Try.prog 61 = true := by kernel_rfl
theorem un_23 : Try.prog.underlying 23 = some (.pointer 96) := by kernel_rfl
theorem fi_96_0 : fieldOff Try.prog 96 0 = some (0, 3) := by kernel_rfl
theorem pl_58 : plainFn Try.prog 58 = true := by kernel_rfl
theorem fi_96_1 : fieldOff Try.prog 96 1 = some (1, 94) := by kernel_rfl
theorem ar_94 : arrSize Try.prog 94 = some (16, 93, 3) := by kernel_rfl
theorem pl_57 : plainFn Try.prog 57 = true := by kernel_rfl
theorem un_100 : Try.prog.underlying 100 = some (.pointer 93) := by kernel_rfl
theorem fi_93_2 : fieldOff Try.prog 93 2 = some (2, 4) := by kernel_rfl
theorem ag_4 : isAggB Try.prog 4 = false ∧ (Try.prog.underlying 4).isSome = true := ⟨by kernel_rfl, by kernel_rfl⟩
theorem fi_93_1 : fieldOff Try.prog 93 1 = some (1, 2) := by kernel_rfl
theorem fi_93_0 : fieldOff Try.prog 93 0 = some (0, 2) := by kernel_rfl
theorem fi_96_2 : fieldOff Try.prog 96 2 = some (49, 49) := by kernel_rfl
theorem ag_49 : isAggB Try.prog 49 = false ∧ (Try.prog.underlying 49).isSome = true := ⟨by kernel_rfl, by kernel_rfl⟩
theorem un_49 : Try.prog.underlying 49 = some (.slice 33) := by kernel_rfl
theorem in_91 : (Try.prog.info? 91).map (fun i => (i.zero, i.size, i.bytes)) = some (some (.agg #[.string ByteArray.empty, .int .i64 0, .int .i64 0, .string ByteArray.empty]), 4, 48) := by kernel_rfl
theorem ap_31 : appInfo Try.prog 31 91 4 48 4 := appInfo_mk un_31 in_91 rfl
theorem ze_33 : zeroOf Try.prog 33 = some #[.int .i64 0, .int .i64 0, .int .i64 0, .string ByteArray.empty, .slice none 0 0] := by kernel_rfl
theorem pl_70 : plainFn Try.prog 70 = true := by kernel_rfl
theorem sz_31 : (Try.prog.info? 31).map (·.size) = some 1 := by kernel_rfl
theorem ag_33 : isAggB Try.prog 33 = true ∧ (Try.prog.info? 33).map (·.size) = some 5 := ⟨by kernel_rfl, by kernel_rfl⟩
theorem sz_33 : (Try.prog.info? 33).map (·.size) = some 5 := by kernel_rfl
theorem sz_4 : (Try.prog.info? 4).map (·.size) = some 1 := by kernel_rfl
theorem pl_17 : plainFn Try.prog 17 = true := by kernel_rfl
theorem sz_2 : (Try.prog.info? 2).map (·.size) = some 1 := by kernel_rfl
theorem pl_23 : plainFn Try.prog 23 = true := by kernel_rfl
theorem el_49 : elemSize Try.prog 49 = some (33, 5) := by kernel_rfl
theorem in_33 : (Try.prog.info? 33).map (fun i => (i.zero, i.size, i.bytes)) = some (some (.agg #[.int .i64 0, .int .i64 0, .int .i64 0, .string ByteArray.empty, .slice none 0 0]), 5, 64) := by kernel_rfl
theorem ap_49 : appInfo Try.prog 49 33 5 64 5 := appInfo_mk un_49 in_33 rfl
theorem sz_49 : (Try.prog.info? 49).map (·.size) = some 1 := by kernel_rfl
theorem ag_30 : isAggB Try.prog 30 = true ∧ (Try.prog.info? 30).map (·.size) = some 2 := ⟨by kernel_rfl, by kernel_rfl⟩
theorem ev_30 {a0 b0 : Int} {a1 b1 : Int} : EqV Try.prog Op.maxDepth 30 (.agg #[.int .i64 a0, .int .i64 a1]) (.agg #[.int .i64 b0, .int .i64 b1]) (decide (a0 = b0) && (decide (a1 = b1) && true)) := (EqV.struct (d := 9999) (l := [_, _]) Try.underlying30 rfl (by kernel_rfl) (EqF.cons (a := .int .i64 a0) (b := .int .i64 b0) rfl (fun w => by kernel_rfl) (fun w => by kernel_rfl) (EqV.int (d := 9998) Try.underlying3) (EqF.cons (a := .int .i64 a1) (b := .int .i64 b1) rfl (fun w => by kernel_rfl) (fun w => by kernel_rfl) (EqV.int (d := 9998) Try.underlying2) EqF.nil)))
theorem gd_30 : Try.prog.eqGuardType Try.prog.depth 30 = false := by kernel_rfl
theorem pl_66 : plainFn Try.prog 66 = true := by kernel_rfl
theorem ze_3 : zeroOf Try.prog 3 = some #[.int .i64 0] := by kernel_rfl
theorem pl_11 : plainFn Try.prog 11 = true := by kernel_rfl
theorem pl_56 : plainFn Try.prog 56 = true := by kernel_rfl
theorem pl_16 : plainFn Try.prog 16 = true := by kernel_rfl
theorem pl_13 : plainFn Try.prog 13 = true := by kernel_rfl
theorem pl_32 : plainFn Try.prog 32 = true := by kernel_rfl
theorem pl_12 : plainFn Try.prog 12 = true := by kernel_rfl
theorem pl_14 : plainFn Try.prog 14 = true := by kernel_rfl
theorem pl_15 : plainFn Try.prog 15 = true := by kernel_rfl
theorem pl_20 : plainFn Try.prog 20 = true := by kernel_rfl
theorem pl_55 : plainFn Try.prog 55 = true := by kernel_rfl
theorem un_50 : Try.prog.underlying 50 = some (.slice 4) := by kernel_rfl
theorem ze_49 : zeroOf Try.prog 49 = some #[.slice none 0 0] := by kernel_rfl
theorem ze_4 : zeroOf Try.prog 4 = some #[.bool false] := by kernel_rfl
theorem sz_3 : (Try.prog.info? 3).map (·.size) = some 1 := by kernel_rfl
theorem pl_72 : plainFn Try.prog 72 = true := by kernel_rfl
theorem pl_34 : plainFn Try.prog 34 = true := by kernel_rfl
theorem pl_28 : plainFn Try.prog 28 = true := by kernel_rfl
theorem pl_27 : plainFn Try.prog 27 = true := by kernel_rfl
theorem pl_33 : plainFn Try.prog 33 = true := by kernel_rfl
theorem pl_35 : plainFn Try.prog 35 = true := by kernel_rfl
theorem un_59 : Try.prog.underlying 59 = some (.pointer 111) := by kernel_rfl
theorem pl_73 : plainFn Try.prog 73 = true := by kernel_rfl
theorem un_76 : Try.prog.underlying 76 = some (.pointer 121) := by kernel_rfl
theorem pl_51 : plainFn Try.prog 51 = true := by kernel_rfl
theorem pl_75 : plainFn Try.prog 75 = true := by kernel_rfl
theorem el_97 : elemSize Try.prog 97 = some (23, 1) := by kernel_rfl
theorem ze_23 : zeroOf Try.prog 23 = some #[.pointer none] := by kernel_rfl
theorem un_97 : Try.prog.underlying 97 = some (.slice 23) := by kernel_rfl
theorem ag_23 : isAggB Try.prog 23 = false ∧ (Try.prog.underlying 23).isSome = true := ⟨by kernel_rfl, by kernel_rfl⟩
theorem pl_52 : plainFn Try.prog 52 = true := by kernel_rfl
theorem pl_39 : plainFn Try.prog 39 = true := by kernel_rfl
set_option maxHeartbeats 4000000 in
set_option maxRecDepth 100000 in
theorem value_Name {W w : World} {F : List Atom} (s : ByteArray) (hs : s.size ≤ 140737488355328) (H : St W w F) : Calls Try.prog 60 #[.string s] w (Ret fun v w' => v = .bool (nameB s) ∧ St W w' F) := by
  refine calls_of_go (n := 54) Try.func60 rfl Try.ntmps60 rfl ?_
  refine g_seq ?_
  refine g_region ?_
  refine r_cons (s_assign (.bool false) rfl rfl ?_)
  refine r_nil ?_
  refine g_seq ?_
  refine g_seq ?_
  refine g_region ?_
  refine r_cons (s_move (.string s) rfl rfl ?_)
  refine r_cons (s_str_bytes H s rfl us_9 un_66 un_5 rfl ?_); intro bk1 w2 cap4 N5 tl6 hN5 hcap4 htl6 H3
  refine r_cons (s_len s.size rfl ⟨_, un_66⟩ rfl ?_)
  refine r_cons (s_move (.int .i64 0) rfl rfl ?_)
  refine r_nil ?_
  refine g_block ?_
  have H7 : St W w2 (blk bk1 (.cells ((bytesV s.data.toList ++ tl6).toArray) 5 (N5, N5 + 1)) :: F) := H3
  refine g_loop_inv (fun (x_ : Nat) => match x_ with | i => [(7, .slice (some ⟨bk1, 0, none⟩) s.size cap4), (8, .int .i64 (s.size : Int)), (9, .int .i64 (i : Int)), (0, .string s)]) (fun (x_ : Nat) w => match x_ with | i => (i ≤ s.size) ∧ (∀ j, j < i → charB j (bAt s j) = true) ∧ St W w (blk bk1 (.cells ((bytesV s.data.toList ++ tl6).toArray) 5 (N5, N5 + 1)) :: F)) (fun (x_ : Nat) => match x_ with | i => s.size - i) (0) ?_ ?_ ?_
  · exact ⟨by first | rfl | exact vint (by omega), by first | rfl | exact vint (by omega), by first | rfl | exact vint (by omega), by first | rfl | exact vint (by omega), trivial⟩
  · exact ⟨(by omega), (fun j hj => by omega), H7⟩
  · rintro i ρ8 w9 ⟨hi, hz, H10⟩ nx11
    change Ends _ _ (upds ρ8 [(7, .slice (some ⟨bk1, 0, none⟩) s.size cap4), (8, .int .i64 (s.size : Int)), (9, .int .i64 (i : Int)), (0, .string s)]) w9
    refine g_seq ?_
    refine g_region ?_
    by_cases hc12 : (i : Int) < (s.size : Int)
    · skip
      refine r_cons (s_lss true rfl rfl (dtrue hc12) rfl ?_)
      refine r_nil ?_
      refine g_seq ?_
      refine g_true rfl ?_
      refine g_skip ?_
      refine g_seq ?_
      refine g_block ?_
      refine g_seq ?_
      refine g_region ?_
      refine r_cons (s_move (.int .i64 (i : Int)) rfl rfl ?_)
      refine r_cons (s_indexAddr bk1 (i : Int) 1 (0 + i * 1) rfl rfl el_66 (by omega) rfl rfl ?_)
      refine r_cons (s_load (.int .u8 (bAt s i)) ag_5 rfl (H10.blk_at (i := 0) rfl) (by simpa using bytes_get s tl6 i (by omega)) rfl ?_)
      refine r_cons (s_assign (.int .i64 (i : Int)) rfl rfl ?_)
      refine r_cons (s_assign (.int .u8 (bAt s i)) rfl rfl ?_)
      refine r_nil ?_
      refine g_seq ?_
      refine g_cut (fun _ : Unit => [(7, .slice (some ⟨bk1, 0, none⟩) s.size cap4), (8, .int .i64 (s.size : Int)), (9, .int .i64 (i : Int)), (0, .string s), (10, .bool true), (11, .int .i64 (i : Int)), (12, .pointer (some ⟨bk1, 0 + i * 1, none⟩)), (13, .int .u8 (bAt s i)), (3, .int .i64 (i : Int)), (4, .int .u8 (bAt s i)), (5, .bool (letterB (bAt s i)))]) (fun _ w => St W w (blk bk1 (.cells ((bytesV s.data.toList ++ tl6).toArray) 5 (N5, N5 + 1)) :: F)) ?_ ?_
      · rintro ⟨⟩ ρ16 w14 H15
        change Ends _ _ (upds ρ16 [(7, .slice (some ⟨bk1, 0, none⟩) s.size cap4), (8, .int .i64 (s.size : Int)), (9, .int .i64 (i : Int)), (0, .string s), (10, .bool true), (11, .int .i64 (i : Int)), (12, .pointer (some ⟨bk1, 0 + i * 1, none⟩)), (13, .int .u8 (bAt s i)), (3, .int .i64 (i : Int)), (4, .int .u8 (bAt s i)), (5, .bool (letterB (bAt s i)))]) w14
        refine g_seq ?_
        refine g_cut (fun _ : Unit => [(7, .slice (some ⟨bk1, 0, none⟩) s.size cap4), (8, .int .i64 (s.size : Int)), (9, .int .i64 (i : Int)), (0, .string s), (10, .bool true), (11, .int .i64 (i : Int)), (12, .pointer (some ⟨bk1, 0 + i * 1, none⟩)), (13, .int .u8 (bAt s i)), (3, .int .i64 (i : Int)), (4, .int .u8 (bAt s i)), (5, .bool (letterB (bAt s i))), (45, .bool (!charB i (bAt s i)))]) (fun _ w => St W w (blk bk1 (.cells ((bytesV s.data.toList ++ tl6).toArray) 5 (N5, N5 + 1)) :: F)) ?_ ?_
        · rintro ⟨⟩ ρ20 w18 H19
          change Ends _ _ (upds ρ20 [(7, .slice (some ⟨bk1, 0, none⟩) s.size cap4), (8, .int .i64 (s.size : Int)), (9, .int .i64 (i : Int)), (0, .string s), (10, .bool true), (11, .int .i64 (i : Int)), (12, .pointer (some ⟨bk1, 0 + i * 1, none⟩)), (13, .int .u8 (bAt s i)), (3, .int .i64 (i : Int)), (4, .int .u8 (bAt s i)), (5, .bool (letterB (bAt s i))), (45, .bool (!charB i (bAt s i)))]) w18
          by_cases hb21 : (!charB i (bAt s i)) = true
          · skip
            refine g_true (congrArg Value.bool hb21) ?_
            refine g_seq ?_
            refine g_region ?_
            refine r_cons (s_assign (.bool false) rfl rfl ?_)
            refine r_nil ?_
            refine g_ret' [.bool false] Try.func60 Try.results60 ⟨rfl, trivial⟩ ?_
            have H22 : St W w18 F := (H19.drop 0 rfl)
            exact ⟨congrArg Value.bool (by first | exact (nameB_no s i (by omega) (by simpa using hb21)).symm | (rw [nameB_is s (fun j hj => hz j (by omega))]; first | exact (decide_eq_true ⟨by assumption, by omega⟩).symm | exact (decide_eq_false (by intro h; first | exact absurd h.1 (by simpa using ‹_›) | omega)).symm)), H22⟩
          · have hb21 := eq_false_of_ne_true hb21
            refine g_false (congrArg Value.bool hb21) ?_
            refine g_skip ?_
            refine g_inBlock ?_
            refine g_region ?_
            refine r_cons (s_add ((i : Int) + 1) rfl rfl (wi64 (by omega)) rfl ?_)
            refine r_cons (s_move (.int .i64 ((i : Int) + 1)) rfl rfl ?_)
            refine r_nil ?_
            have H23 : St W w18 (blk bk1 (.cells ((bytesV s.data.toList ++ tl6).toArray) 5 (N5, N5 + 1)) :: F) := H19
            exact nx11 (i + 1) _ _ ⟨(by omega), (fun j hj => (Nat.lt_or_ge j i).elim (hz j) (fun h => by rw [show j = i from by omega]; simpa using hb21)), H23⟩ (by first | (dsimp only; omega) | omega) ⟨by first | rfl | exact vint (by omega), by first | rfl | exact vint (by omega), by first | rfl | exact vint (by omega), by first | rfl | exact vint (by omega), trivial⟩
        · intro join17
          refine g_region ?_
          refine r_cons (s_move (.bool (letterB (bAt s i))) rfl rfl ?_)
          refine r_cons (s_not (letterB (bAt s i)) rfl (!(letterB (bAt s i))) rfl rfl ?_)
          refine r_cons (s_move (.bool (!(letterB (bAt s i)))) rfl rfl ?_)
          by_cases hb24 : (!(letterB (bAt s i))) = true
          · skip
            refine r_cons (r_take rfl (congrArg some hb24) ?_)
            refine s_move (.int .i64 (i : Int)) rfl rfl ?_
            refine r_cons (r_take rfl (congrArg some hb24) ?_)
            by_cases hc25 : (i : Int) = 0
            · skip
              refine s_eql true rfl rfl (dtrue hc25) rfl ?_
              refine r_cons (r_take rfl (congrArg some hb24) ?_)
              refine s_move (.bool true) rfl rfl ?_
              refine r_cons (r_pass rfl rfl rfl rfl rfl ?_)
              refine r_cons (r_pass rfl rfl rfl rfl rfl ?_)
              refine r_cons (r_take rfl (congrArg some hb24) ?_)
              refine s_pick_t (.bool true) rfl rfl rfl ?_
              refine r_cons (r_take rfl (congrArg some hb24) ?_)
              refine s_move (.bool true) rfl rfl ?_
              refine r_cons (r_pass rfl rfl rfl rfl rfl ?_)
              refine r_cons (r_pass rfl rfl rfl rfl rfl ?_)
              refine r_cons (r_take rfl (congrArg some hb24) ?_)
              refine s_pick_t (.bool true) rfl rfl rfl ?_
              refine r_cons (s_pick_t (.bool true) (by exact congrArg Value.bool hb24) rfl rfl ?_)
              refine r_nil ?_
              exact join17 () _ _ H15 ⟨rfl, rfl, rfl, rfl, rfl, rfl, rfl, rfl, rfl, rfl, rfl, congrArg Value.bool (by unfold charB; simp [*]; try omega), trivial⟩
            · skip
              refine s_eql false rfl rfl (dfalse hc25) rfl ?_
              refine r_cons (r_take rfl (congrArg some hb24) ?_)
              refine s_move (.bool false) rfl rfl ?_
              refine r_cons (r_take rfl rfl ?_)
              refine s_move (.int .u8 (bAt s i)) rfl rfl ?_
              refine r_cons (r_take rfl rfl ?_)
              by_cases hc26 : bAt s i < 48
              · skip
                refine s_lss true rfl rfl (dtrue hc26) rfl ?_
                refine r_cons (r_take rfl (congrArg some hb24) ?_)
                refine s_pick_f (.bool true) rfl rfl rfl ?_
                refine r_cons (r_take rfl (congrArg some hb24) ?_)
                refine s_move (.bool true) rfl rfl ?_
                refine r_cons (r_pass rfl rfl rfl rfl rfl ?_)
                refine r_cons (r_pass rfl rfl rfl rfl rfl ?_)
                refine r_cons (r_take rfl (congrArg some hb24) ?_)
                refine s_pick_t (.bool true) rfl rfl rfl ?_
                refine r_cons (s_pick_t (.bool true) (by exact congrArg Value.bool hb24) rfl rfl ?_)
                refine r_nil ?_
                exact join17 () _ _ H15 ⟨rfl, rfl, rfl, rfl, rfl, rfl, rfl, rfl, rfl, rfl, rfl, congrArg Value.bool (by unfold charB; simp [*]; try omega), trivial⟩
              · skip
                refine s_lss false rfl rfl (dfalse hc26) rfl ?_
                refine r_cons (r_take rfl (congrArg some hb24) ?_)
                refine s_pick_f (.bool false) rfl rfl rfl ?_
                refine r_cons (r_take rfl (congrArg some hb24) ?_)
                refine s_move (.bool false) rfl rfl ?_
                refine r_cons (r_take rfl rfl ?_)
                refine s_move (.int .u8 (bAt s i)) rfl rfl ?_
                refine r_cons (r_take rfl rfl ?_)
                by_cases hc27 : (57 : Int) < bAt s i
                · skip
                  refine s_gtr true rfl rfl (dtrue hc27) rfl ?_
                  refine r_cons (r_take rfl (congrArg some hb24) ?_)
                  refine s_pick_f (.bool true) rfl rfl rfl ?_
                  refine r_cons (s_pick_t (.bool true) (by exact congrArg Value.bool hb24) rfl rfl ?_)
                  refine r_nil ?_
                  exact join17 () _ _ H15 ⟨rfl, rfl, rfl, rfl, rfl, rfl, rfl, rfl, rfl, rfl, rfl, congrArg Value.bool (by unfold charB; simp [*]; try omega), trivial⟩
                · skip
                  refine s_gtr false rfl rfl (dfalse hc27) rfl ?_
                  refine r_cons (r_take rfl (congrArg some hb24) ?_)
                  refine s_pick_f (.bool false) rfl rfl rfl ?_
                  refine r_cons (s_pick_t (.bool false) (by exact congrArg Value.bool hb24) rfl rfl ?_)
                  refine r_nil ?_
                  exact join17 () _ _ H15 ⟨rfl, rfl, rfl, rfl, rfl, rfl, rfl, rfl, rfl, rfl, rfl, congrArg Value.bool (by unfold charB; simp [*]; try omega), trivial⟩
          · have hb24 := eq_false_of_ne_true hb24
            refine r_cons (r_pass rfl (congrArg some hb24) rfl rfl rfl ?_)
            refine r_cons (r_pass rfl (congrArg some hb24) rfl rfl rfl ?_)
            refine r_cons (r_pass rfl (congrArg some hb24) rfl rfl rfl ?_)
            refine r_cons (r_passN rfl rfl rfl rfl ?_)
            refine r_cons (r_passN rfl rfl rfl rfl ?_)
            refine r_cons (r_pass rfl (congrArg some hb24) rfl rfl rfl ?_)
            refine r_cons (r_pass rfl (congrArg some hb24) rfl rfl rfl ?_)
            refine r_cons (r_passN rfl rfl rfl rfl ?_)
            refine r_cons (r_passN rfl rfl rfl rfl ?_)
            refine r_cons (r_pass rfl (congrArg some hb24) rfl rfl rfl ?_)
            refine r_cons (s_pick_f (.bool false) (by exact congrArg Value.bool hb24) rfl rfl ?_)
            refine r_nil ?_
            exact join17 () _ _ H15 ⟨rfl, rfl, rfl, rfl, rfl, rfl, rfl, rfl, rfl, rfl, rfl, congrArg Value.bool (by unfold charB; simp [*]; try omega), trivial⟩
      · intro join13
        refine g_region ?_
        refine r_cons (s_move (.int .u8 (bAt s i)) rfl rfl ?_)
        by_cases hc28 : bAt s i = 95
        · skip
          refine r_cons (s_eql true rfl rfl (dtrue hc28) rfl ?_)
          refine r_cons (s_move (.bool true) rfl rfl ?_)
          refine r_cons (r_pass rfl rfl rfl rfl rfl ?_)
          refine r_cons (r_pass rfl rfl rfl rfl rfl ?_)
          refine r_cons (r_pass rfl rfl rfl rfl rfl ?_)
          refine r_cons (r_passN rfl rfl rfl rfl ?_)
          refine r_cons (r_passN rfl rfl rfl rfl ?_)
          refine r_cons (r_pass rfl rfl rfl rfl rfl ?_)
          refine r_cons (s_pick_t (.bool true) rfl rfl rfl ?_)
          refine r_cons (s_move (.bool true) rfl rfl ?_)
          refine r_cons (r_pass rfl rfl rfl rfl rfl ?_)
          refine r_cons (r_pass rfl rfl rfl rfl rfl ?_)
          refine r_cons (r_pass rfl rfl rfl rfl rfl ?_)
          refine r_cons (r_passN rfl rfl rfl rfl ?_)
          refine r_cons (r_passN rfl rfl rfl rfl ?_)
          refine r_cons (r_pass rfl rfl rfl rfl rfl ?_)
          refine r_cons (s_pick_t (.bool true) rfl rfl rfl ?_)
          refine r_cons (s_assign (.bool true) rfl rfl ?_)
          refine r_nil ?_
          exact join13 () _ _ H10 ⟨rfl, rfl, rfl, rfl, rfl, rfl, rfl, rfl, rfl, rfl, congrArg Value.bool (by unfold letterB; first | exact (decide_eq_true (by omega)).symm | exact (decide_eq_false (by omega)).symm), trivial⟩
        · skip
          refine r_cons (s_eql false rfl rfl (dfalse hc28) rfl ?_)
          refine r_cons (s_move (.bool false) rfl rfl ?_)
          refine r_cons (r_take rfl rfl ?_)
          refine s_move (.int .u8 (bAt s i)) rfl rfl ?_
          refine r_cons (r_take rfl rfl ?_)
          by_cases hc29 : (97 : Int) ≤ bAt s i
          · skip
            refine s_geq true rfl rfl (dtrue hc29) rfl ?_
            refine r_cons (r_take rfl rfl ?_)
            refine s_move (.bool true) rfl rfl ?_
            refine r_cons (r_take rfl rfl ?_)
            refine s_move (.int .u8 (bAt s i)) rfl rfl ?_
            refine r_cons (r_take rfl rfl ?_)
            by_cases hc30 : bAt s i ≤ 122
            · skip
              refine s_leq true rfl rfl (dtrue hc30) rfl ?_
              refine r_cons (r_take rfl rfl ?_)
              refine s_pick_t (.bool true) rfl rfl rfl ?_
              refine r_cons (s_pick_f (.bool true) rfl rfl rfl ?_)
              refine r_cons (s_move (.bool true) rfl rfl ?_)
              refine r_cons (r_pass rfl rfl rfl rfl rfl ?_)
              refine r_cons (r_pass rfl rfl rfl rfl rfl ?_)
              refine r_cons (r_pass rfl rfl rfl rfl rfl ?_)
              refine r_cons (r_passN rfl rfl rfl rfl ?_)
              refine r_cons (r_passN rfl rfl rfl rfl ?_)
              refine r_cons (r_pass rfl rfl rfl rfl rfl ?_)
              refine r_cons (s_pick_t (.bool true) rfl rfl rfl ?_)
              refine r_cons (s_assign (.bool true) rfl rfl ?_)
              refine r_nil ?_
              exact join13 () _ _ H10 ⟨rfl, rfl, rfl, rfl, rfl, rfl, rfl, rfl, rfl, rfl, congrArg Value.bool (by unfold letterB; first | exact (decide_eq_true (by omega)).symm | exact (decide_eq_false (by omega)).symm), trivial⟩
            · skip
              refine s_leq false rfl rfl (dfalse hc30) rfl ?_
              refine r_cons (r_take rfl rfl ?_)
              refine s_pick_t (.bool false) rfl rfl rfl ?_
              refine r_cons (s_pick_f (.bool false) rfl rfl rfl ?_)
              refine r_cons (s_move (.bool false) rfl rfl ?_)
              refine r_cons (r_take rfl rfl ?_)
              refine s_move (.int .u8 (bAt s i)) rfl rfl ?_
              refine r_cons (r_take rfl rfl ?_)
              refine s_geq true rfl rfl (dtrue (by omega)) rfl ?_
              refine r_cons (r_take rfl rfl ?_)
              refine s_move (.bool true) rfl rfl ?_
              refine r_cons (r_take rfl rfl ?_)
              refine s_move (.int .u8 (bAt s i)) rfl rfl ?_
              refine r_cons (r_take rfl rfl ?_)
              refine s_leq false rfl rfl (dfalse (by omega)) rfl ?_
              refine r_cons (r_take rfl rfl ?_)
              refine s_pick_t (.bool false) rfl rfl rfl ?_
              refine r_cons (s_pick_f (.bool false) rfl rfl rfl ?_)
              refine r_cons (s_assign (.bool false) rfl rfl ?_)
              refine r_nil ?_
              exact join13 () _ _ H10 ⟨rfl, rfl, rfl, rfl, rfl, rfl, rfl, rfl, rfl, rfl, congrArg Value.bool (by unfold letterB; first | exact (decide_eq_true (by omega)).symm | exact (decide_eq_false (by omega)).symm), trivial⟩
          · skip
            refine s_geq false rfl rfl (dfalse hc29) rfl ?_
            refine r_cons (r_take rfl rfl ?_)
            refine s_move (.bool false) rfl rfl ?_
            refine r_cons (r_pass rfl rfl rfl rfl rfl ?_)
            refine r_cons (r_pass rfl rfl rfl rfl rfl ?_)
            refine r_cons (r_take rfl rfl ?_)
            refine s_pick_f (.bool false) rfl rfl rfl ?_
            refine r_cons (s_pick_f (.bool false) rfl rfl rfl ?_)
            refine r_cons (s_move (.bool false) rfl rfl ?_)
            refine r_cons (r_take rfl rfl ?_)
            refine s_move (.int .u8 (bAt s i)) rfl rfl ?_
            refine r_cons (r_take rfl rfl ?_)
            by_cases hc31 : (65 : Int) ≤ bAt s i
            · skip
              refine s_geq true rfl rfl (dtrue hc31) rfl ?_
              refine r_cons (r_take rfl rfl ?_)
              refine s_move (.bool true) rfl rfl ?_
              refine r_cons (r_take rfl rfl ?_)
              refine s_move (.int .u8 (bAt s i)) rfl rfl ?_
              refine r_cons (r_take rfl rfl ?_)
              by_cases hc32 : bAt s i ≤ 90
              · skip
                refine s_leq true rfl rfl (dtrue hc32) rfl ?_
                refine r_cons (r_take rfl rfl ?_)
                refine s_pick_t (.bool true) rfl rfl rfl ?_
                refine r_cons (s_pick_f (.bool true) rfl rfl rfl ?_)
                refine r_cons (s_assign (.bool true) rfl rfl ?_)
                refine r_nil ?_
                exact join13 () _ _ H10 ⟨rfl, rfl, rfl, rfl, rfl, rfl, rfl, rfl, rfl, rfl, congrArg Value.bool (by unfold letterB; first | exact (decide_eq_true (by omega)).symm | exact (decide_eq_false (by omega)).symm), trivial⟩
              · skip
                refine s_leq false rfl rfl (dfalse hc32) rfl ?_
                refine r_cons (r_take rfl rfl ?_)
                refine s_pick_t (.bool false) rfl rfl rfl ?_
                refine r_cons (s_pick_f (.bool false) rfl rfl rfl ?_)
                refine r_cons (s_assign (.bool false) rfl rfl ?_)
                refine r_nil ?_
                exact join13 () _ _ H10 ⟨rfl, rfl, rfl, rfl, rfl, rfl, rfl, rfl, rfl, rfl, congrArg Value.bool (by unfold letterB; first | exact (decide_eq_true (by omega)).symm | exact (decide_eq_false (by omega)).symm), trivial⟩
            · skip
              refine s_geq false rfl rfl (dfalse hc31) rfl ?_
              refine r_cons (r_take rfl rfl ?_)
              refine s_move (.bool false) rfl rfl ?_
              refine r_cons (r_pass rfl rfl rfl rfl rfl ?_)
              refine r_cons (r_pass rfl rfl rfl rfl rfl ?_)
              refine r_cons (r_take rfl rfl ?_)
              refine s_pick_f (.bool false) rfl rfl rfl ?_
              refine r_cons (s_pick_f (.bool false) rfl rfl rfl ?_)
              refine r_cons (s_assign (.bool false) rfl rfl ?_)
              refine r_nil ?_
              exact join13 () _ _ H10 ⟨rfl, rfl, rfl, rfl, rfl, rfl, rfl, rfl, rfl, rfl, congrArg Value.bool (by unfold letterB; first | exact (decide_eq_true (by omega)).symm | exact (decide_eq_false (by omega)).symm), trivial⟩
    · skip
      refine r_cons (s_lss false rfl rfl (dfalse hc12) rfl ?_)
      refine r_nil ?_
      refine g_seq ?_
      refine g_false rfl ?_
      refine g_exit (by rfl) ?_
      refine g_seq ?_
      refine g_region ?_
      refine r_cons (s_move (.string s) rfl rfl ?_)
      by_cases hc33 : s = ByteArray.empty
      · skip
        refine r_cons (s_sneq false rfl rfl (ntrue hc33) rfl ?_)
        refine r_cons (s_move (.bool false) rfl rfl ?_)
        refine r_cons (r_pass rfl rfl rfl rfl rfl ?_)
        refine r_cons (r_pass rfl rfl rfl rfl rfl ?_)
        refine r_cons (r_pass rfl rfl rfl rfl rfl ?_)
        refine r_cons (s_pick_f (.bool false) rfl rfl rfl ?_)
        refine r_cons (s_assign (.bool false) rfl rfl ?_)
        refine r_nil ?_
        refine g_ret' [.bool false] Try.func60 Try.results60 ⟨rfl, trivial⟩ ?_
        have H34 : St W w9 F := (H10.drop 0 rfl)
        exact ⟨congrArg Value.bool (by first | exact (nameB_no s i (by omega) (by simpa using rfl)).symm | (rw [nameB_is s (fun j hj => hz j (by omega))]; first | exact (decide_eq_true ⟨by assumption, by omega⟩).symm | exact (decide_eq_false (by intro h; first | exact absurd h.1 (by simpa using ‹_›) | omega)).symm)), H34⟩
      · skip
        refine r_cons (s_sneq true rfl rfl (nfalse hc33) rfl ?_)
        refine r_cons (s_move (.bool true) rfl rfl ?_)
        refine r_cons (r_take rfl rfl ?_)
        refine s_move (.string s) rfl rfl ?_
        refine r_cons (r_take rfl rfl ?_)
        refine s_len_str (s).size rfl st_9 rfl rfl ?_
        refine r_cons (r_take rfl rfl ?_)
        by_cases hc35 : (s.size : Int) ≤ 32
        · skip
          refine s_leq true rfl rfl (dtrue hc35) rfl ?_
          refine r_cons (s_pick_t (.bool true) rfl rfl rfl ?_)
          refine r_cons (s_assign (.bool true) rfl rfl ?_)
          refine r_nil ?_
          refine g_ret' [.bool true] Try.func60 Try.results60 ⟨rfl, trivial⟩ ?_
          have H36 : St W w9 F := (H10.drop 0 rfl)
          exact ⟨congrArg Value.bool (by first | exact (nameB_no s i (by omega) (by simpa using rfl)).symm | (rw [nameB_is s (fun j hj => hz j (by omega))]; first | exact (decide_eq_true ⟨by assumption, by omega⟩).symm | exact (decide_eq_false (by intro h; first | exact absurd h.1 (by simpa using ‹_›) | omega)).symm)), H36⟩
        · skip
          refine s_leq false rfl rfl (dfalse hc35) rfl ?_
          refine r_cons (s_pick_t (.bool false) rfl rfl rfl ?_)
          refine r_cons (s_assign (.bool false) rfl rfl ?_)
          refine r_nil ?_
          refine g_ret' [.bool false] Try.func60 Try.results60 ⟨rfl, trivial⟩ ?_
          have H37 : St W w9 F := (H10.drop 0 rfl)
          exact ⟨congrArg Value.bool (by first | exact (nameB_no s i (by omega) (by simpa using rfl)).symm | (rw [nameB_is s (fun j hj => hz j (by omega))]; first | exact (decide_eq_true ⟨by assumption, by omega⟩).symm | exact (decide_eq_false (by intro h; first | exact absurd h.1 (by simpa using ‹_›) | omega)).symm)), H37⟩
set_option maxHeartbeats 4000000 in
set_option maxRecDepth 100000 in
theorem value_Check {W w : World} {F : List Atom} (k n : Int) (s : ByteArray) (H : St W w F) : Calls Try.prog 86 #[.agg #[.int .i64 k, .int .i64 n, .string s]] w (Ret fun v w' => v = .int .i64 (valE k n s) ∧ St W w' F) := by
  refine calls_of_go (n := 27) Try.func86 rfl Try.ntmps86 rfl ?_
  refine g_seq ?_
  refine g_region ?_
  refine r_cons (s_box H 89 (.agg #[.int .i64 k, .int .i64 n, .string s]) rfl (cs := #[.int .i64 k, .int .i64 n, .string s]) rfl rfl ?_); intro bk1 w2 H3
  refine r_cons (s_assign (.int .i64 0) rfl rfl ?_)
  refine r_nil ?_
  refine g_seq ?_
  refine g_seq ?_
  refine g_region ?_
  refine r_cons (s_fieldAddr 89 0 0 0 3 rfl fi_89_0 rfl rfl ?_)
  refine r_cons (s_load (.int .i64 k) ag_3 rfl (H3.blk_at (i := 0) rfl) rfl rfl ?_)
  by_cases hc4 : k = 1
  · skip
    refine r_cons (s_eql true rfl rfl (dtrue hc4) rfl ?_)
    refine r_cons (s_move (.bool true) rfl rfl ?_)
    refine r_cons (r_take rfl rfl ?_)
    refine s_fieldAddr 89 2 2 2 9 rfl fi_89_2 rfl rfl ?_
    refine r_cons (r_take rfl rfl ?_)
    refine s_load (.string s) ag_9 rfl (H3.blk_at (i := 0) rfl) rfl rfl ?_
    refine r_cons (r_take rfl rfl ?_)
    by_cases hc5 : s = ByteArray.empty
    · skip
      refine s_seql true rfl rfl (dtrue hc5) rfl ?_
      refine r_cons (s_pick_t (.bool true) rfl rfl rfl ?_)
      refine r_cons (s_move (.bool true) rfl rfl ?_)
      refine r_cons (r_pass rfl rfl rfl rfl rfl ?_)
      refine r_cons (r_pass rfl rfl rfl rfl rfl ?_)
      refine r_cons (r_pass rfl rfl rfl rfl rfl ?_)
      refine r_cons (r_pass rfl rfl rfl rfl rfl ?_)
      refine r_cons (r_passN rfl rfl rfl rfl ?_)
      refine r_cons (r_passN rfl rfl rfl rfl ?_)
      refine r_cons (r_passN rfl rfl rfl rfl ?_)
      refine r_cons (r_pass rfl rfl rfl rfl rfl ?_)
      refine r_cons (r_pass rfl rfl rfl rfl rfl ?_)
      refine r_cons (r_passN rfl rfl rfl rfl ?_)
      refine r_cons (r_passN rfl rfl rfl rfl ?_)
      refine r_cons (r_passN rfl rfl rfl rfl ?_)
      refine r_cons (r_passN rfl rfl rfl rfl ?_)
      refine r_cons (r_pass rfl rfl rfl rfl rfl ?_)
      refine r_cons (s_pick_t (.bool true) rfl rfl rfl ?_)
      refine r_nil ?_
      refine g_true rfl ?_
      refine g_seq ?_
      refine g_region ?_
      refine r_cons (s_assign (.int .i64 0) rfl rfl ?_)
      refine r_nil ?_
      refine g_ret' [.int .i64 0] Try.func86 Try.results86 ⟨rfl, trivial⟩ ?_
      have H6 : St W w2 F := (H3.drop 0 rfl)
      exact ⟨vint (by first | (exfalso; omega) | exact (valE_0 (.inl ⟨by omega, by assumption⟩)).symm | exact (valE_0 (.inr ⟨by omega, by omega, by omega⟩)).symm | exact (valE_30 (by rintro (⟨_, _⟩ | ⟨_, _, _⟩) <;> first | omega | contradiction)).symm), H6⟩
    · skip
      refine s_seql false rfl rfl (dfalse hc5) rfl ?_
      refine r_cons (s_pick_t (.bool false) rfl rfl rfl ?_)
      refine r_cons (s_move (.bool false) rfl rfl ?_)
      refine r_cons (r_take rfl rfl ?_)
      refine s_fieldAddr 89 0 0 0 3 rfl fi_89_0 rfl rfl ?_
      refine r_cons (r_take rfl rfl ?_)
      refine s_load (.int .i64 k) ag_3 rfl (H3.blk_at (i := 0) rfl) rfl rfl ?_
      refine r_cons (r_take rfl rfl ?_)
      refine s_eql false rfl rfl (dfalse (by omega)) rfl ?_
      refine r_cons (r_take rfl rfl ?_)
      refine s_move (.bool false) rfl rfl ?_
      refine r_cons (r_pass rfl rfl rfl rfl rfl ?_)
      refine r_cons (r_pass rfl rfl rfl rfl rfl ?_)
      refine r_cons (r_pass rfl rfl rfl rfl rfl ?_)
      refine r_cons (r_take rfl rfl ?_)
      refine s_pick_f (.bool false) rfl rfl rfl ?_
      refine r_cons (r_take rfl rfl ?_)
      refine s_move (.bool false) rfl rfl ?_
      refine r_cons (r_pass rfl rfl rfl rfl rfl ?_)
      refine r_cons (r_pass rfl rfl rfl rfl rfl ?_)
      refine r_cons (r_pass rfl rfl rfl rfl rfl ?_)
      refine r_cons (r_pass rfl rfl rfl rfl rfl ?_)
      refine r_cons (r_take rfl rfl ?_)
      refine s_pick_f (.bool false) rfl rfl rfl ?_
      refine r_cons (s_pick_f (.bool false) rfl rfl rfl ?_)
      refine r_nil ?_
      refine g_false rfl ?_
      refine g_skip ?_
      refine g_seq ?_
      refine g_region ?_
      refine r_cons (s_assign (.int .i64 30) rfl rfl ?_)
      refine r_nil ?_
      refine g_ret' [.int .i64 30] Try.func86 Try.results86 ⟨rfl, trivial⟩ ?_
      have H7 : St W w2 F := (H3.drop 0 rfl)
      exact ⟨vint (by first | (exfalso; omega) | exact (valE_0 (.inl ⟨by omega, by assumption⟩)).symm | exact (valE_0 (.inr ⟨by omega, by omega, by omega⟩)).symm | exact (valE_30 (by rintro (⟨_, _⟩ | ⟨_, _, _⟩) <;> first | omega | contradiction)).symm), H7⟩
  · skip
    refine r_cons (s_eql false rfl rfl (dfalse hc4) rfl ?_)
    refine r_cons (s_move (.bool false) rfl rfl ?_)
    refine r_cons (r_pass rfl rfl rfl rfl rfl ?_)
    refine r_cons (r_pass rfl rfl rfl rfl rfl ?_)
    refine r_cons (r_pass rfl rfl rfl rfl rfl ?_)
    refine r_cons (s_pick_f (.bool false) rfl rfl rfl ?_)
    refine r_cons (s_move (.bool false) rfl rfl ?_)
    refine r_cons (r_take rfl rfl ?_)
    refine s_fieldAddr 89 0 0 0 3 rfl fi_89_0 rfl rfl ?_
    refine r_cons (r_take rfl rfl ?_)
    refine s_load (.int .i64 k) ag_3 rfl (H3.blk_at (i := 0) rfl) rfl rfl ?_
    refine r_cons (r_take rfl rfl ?_)
    by_cases hc8 : k = 2
    · skip
      refine s_eql true rfl rfl (dtrue hc8) rfl ?_
      refine r_cons (r_take rfl rfl ?_)
      refine s_move (.bool true) rfl rfl ?_
      refine r_cons (r_take rfl rfl ?_)
      refine s_fieldAddr 89 1 1 1 2 rfl fi_89_1 rfl rfl ?_
      refine r_cons (r_take rfl rfl ?_)
      refine s_load (.int .i64 n) ag_2 rfl (H3.blk_at (i := 0) rfl) rfl rfl ?_
      refine r_cons (r_take rfl rfl ?_)
      by_cases hc9 : n = 0
      · skip
        refine s_eql true rfl rfl (dtrue hc9) rfl ?_
        refine r_cons (r_take rfl rfl ?_)
        refine s_pick_t (.bool true) rfl rfl rfl ?_
        refine r_cons (r_take rfl rfl ?_)
        refine s_move (.bool true) rfl rfl ?_
        refine r_cons (r_take rfl rfl ?_)
        refine s_fieldAddr 89 2 2 2 9 rfl fi_89_2 rfl rfl ?_
        refine r_cons (r_take rfl rfl ?_)
        refine s_load (.string s) ag_9 rfl (H3.blk_at (i := 0) rfl) rfl rfl ?_
        refine r_cons (r_take rfl rfl ?_)
        refine s_len_str (s).size rfl st_9 rfl rfl ?_
        refine r_cons (r_take rfl rfl ?_)
        by_cases hc10 : (s.size : Int) ≤ 64
        · skip
          refine s_leq true rfl rfl (dtrue hc10) rfl ?_
          refine r_cons (r_take rfl rfl ?_)
          refine s_pick_t (.bool true) rfl rfl rfl ?_
          refine r_cons (s_pick_f (.bool true) rfl rfl rfl ?_)
          refine r_nil ?_
          refine g_true rfl ?_
          refine g_seq ?_
          refine g_region ?_
          refine r_cons (s_assign (.int .i64 0) rfl rfl ?_)
          refine r_nil ?_
          refine g_ret' [.int .i64 0] Try.func86 Try.results86 ⟨rfl, trivial⟩ ?_
          have H11 : St W w2 F := (H3.drop 0 rfl)
          exact ⟨vint (by first | (exfalso; omega) | exact (valE_0 (.inl ⟨by omega, by assumption⟩)).symm | exact (valE_0 (.inr ⟨by omega, by omega, by omega⟩)).symm | exact (valE_30 (by rintro (⟨_, _⟩ | ⟨_, _, _⟩) <;> first | omega | contradiction)).symm), H11⟩
        · skip
          refine s_leq false rfl rfl (dfalse hc10) rfl ?_
          refine r_cons (r_take rfl rfl ?_)
          refine s_pick_t (.bool false) rfl rfl rfl ?_
          refine r_cons (s_pick_f (.bool false) rfl rfl rfl ?_)
          refine r_nil ?_
          refine g_false rfl ?_
          refine g_skip ?_
          refine g_seq ?_
          refine g_region ?_
          refine r_cons (s_assign (.int .i64 30) rfl rfl ?_)
          refine r_nil ?_
          refine g_ret' [.int .i64 30] Try.func86 Try.results86 ⟨rfl, trivial⟩ ?_
          have H12 : St W w2 F := (H3.drop 0 rfl)
          exact ⟨vint (by first | (exfalso; omega) | exact (valE_0 (.inl ⟨by omega, by assumption⟩)).symm | exact (valE_0 (.inr ⟨by omega, by omega, by omega⟩)).symm | exact (valE_30 (by rintro (⟨_, _⟩ | ⟨_, _, _⟩) <;> first | omega | contradiction)).symm), H12⟩
      · skip
        refine s_eql false rfl rfl (dfalse hc9) rfl ?_
        refine r_cons (r_take rfl rfl ?_)
        refine s_pick_t (.bool false) rfl rfl rfl ?_
        refine r_cons (r_take rfl rfl ?_)
        refine s_move (.bool false) rfl rfl ?_
        refine r_cons (r_pass rfl rfl rfl rfl rfl ?_)
        refine r_cons (r_pass rfl rfl rfl rfl rfl ?_)
        refine r_cons (r_pass rfl rfl rfl rfl rfl ?_)
        refine r_cons (r_pass rfl rfl rfl rfl rfl ?_)
        refine r_cons (r_take rfl rfl ?_)
        refine s_pick_f (.bool false) rfl rfl rfl ?_
        refine r_cons (s_pick_f (.bool false) rfl rfl rfl ?_)
        refine r_nil ?_
        refine g_false rfl ?_
        refine g_skip ?_
        refine g_seq ?_
        refine g_region ?_
        refine r_cons (s_assign (.int .i64 30) rfl rfl ?_)
        refine r_nil ?_
        refine g_ret' [.int .i64 30] Try.func86 Try.results86 ⟨rfl, trivial⟩ ?_
        have H13 : St W w2 F := (H3.drop 0 rfl)
        exact ⟨vint (by first | (exfalso; omega) | exact (valE_0 (.inl ⟨by omega, by assumption⟩)).symm | exact (valE_0 (.inr ⟨by omega, by omega, by omega⟩)).symm | exact (valE_30 (by rintro (⟨_, _⟩ | ⟨_, _, _⟩) <;> first | omega | contradiction)).symm), H13⟩
    · skip
      refine s_eql false rfl rfl (dfalse hc8) rfl ?_
      refine r_cons (r_take rfl rfl ?_)
      refine s_move (.bool false) rfl rfl ?_
      refine r_cons (r_pass rfl rfl rfl rfl rfl ?_)
      refine r_cons (r_pass rfl rfl rfl rfl rfl ?_)
      refine r_cons (r_pass rfl rfl rfl rfl rfl ?_)
      refine r_cons (r_take rfl rfl ?_)
      refine s_pick_f (.bool false) rfl rfl rfl ?_
      refine r_cons (r_take rfl rfl ?_)
      refine s_move (.bool false) rfl rfl ?_
      refine r_cons (r_pass rfl rfl rfl rfl rfl ?_)
      refine r_cons (r_pass rfl rfl rfl rfl rfl ?_)
      refine r_cons (r_pass rfl rfl rfl rfl rfl ?_)
      refine r_cons (r_pass rfl rfl rfl rfl rfl ?_)
      refine r_cons (r_take rfl rfl ?_)
      refine s_pick_f (.bool false) rfl rfl rfl ?_
      refine r_cons (s_pick_f (.bool false) rfl rfl rfl ?_)
      refine r_nil ?_
      refine g_false rfl ?_
      refine g_skip ?_
      refine g_seq ?_
      refine g_region ?_
      refine r_cons (s_assign (.int .i64 30) rfl rfl ?_)
      refine r_nil ?_
      refine g_ret' [.int .i64 30] Try.func86 Try.results86 ⟨rfl, trivial⟩ ?_
      have H14 : St W w2 F := (H3.drop 0 rfl)
      exact ⟨vint (by first | (exfalso; omega) | exact (valE_0 (.inl ⟨by omega, by assumption⟩)).symm | exact (valE_0 (.inr ⟨by omega, by omega, by omega⟩)).symm | exact (valE_30 (by rintro (⟨_, _⟩ | ⟨_, _, _⟩) <;> first | omega | contradiction)).symm), H14⟩
set_option maxHeartbeats 4000000 in
set_option maxRecDepth 100000 in
theorem value_CheckAttrs {W w : World} {F : List Atom} (ats : List AttrV) (av : Value) {j : Nat} (hj : F[j]? = some (Attrs av ats)) (H : St W w F) : Calls Try.prog 61 #[av] w (Ret fun v w' => v = .int .i64 (attrsE ats) ∧ St W w' F) := by
  obtain ⟨pA1, cA2, gA3, oA4, kA5, eA6, zA7, rfl, hn8, hp9, hx10, hs11, hml, H12⟩ := Im.open_ H hj
  refine calls_of_go (n := 40) Try.func61 rfl Try.ntmps61 rfl ?_
  refine g_seq ?_
  refine g_region ?_
  refine r_cons (s_assign (.int .i64 0) rfl rfl ?_)
  refine r_nil ?_
  refine g_seq ?_
  refine g_seq ?_
  refine g_region ?_
  refine r_cons (s_move (.slice pA1 ats.length cA2) rfl rfl ?_)
  refine r_cons (s_len ats.length rfl ⟨_, un_31⟩ rfl ?_)
  by_cases hc13 : (8 : Int) < (ats.length : Int)
  · skip
    refine r_cons (s_gtr true rfl rfl (dtrue hc13) rfl ?_)
    refine r_nil ?_
    refine g_true rfl ?_
    refine g_seq ?_
    refine g_region ?_
    refine r_cons (s_assign (.int .i64 3) rfl rfl ?_)
    refine r_nil ?_
    refine g_ret' [.int .i64 3] Try.func61 Try.results61 ⟨rfl, trivial⟩ ?_
    have H14 : St W w F := (H12.drop 0 rfl)
    exact ⟨vint (by unfold attrsE; first | rw [if_pos (by omega)] | (rw [if_neg (by omega)]; first | exact (firstNZ_zero (fun j hj => hz j (by omega))).symm | exact (firstNZ_at hz (by first | exact attrE_31 (nottrue ‹_›) | exact attrE_val (notfalse ‹_›) ‹_› | exact attrE_32 (notfalse ‹_›) ‹_› (by omega) ‹_›) (by first | decide | assumption) (by omega)).symm)), H14⟩
  · skip
    refine r_cons (s_gtr false rfl rfl (dfalse hc13) rfl ?_)
    refine r_nil ?_
    refine g_false rfl ?_
    refine g_skip ?_
    refine g_seq ?_
    refine g_seq ?_
    refine g_region ?_
    refine r_cons (s_move (.slice pA1 ats.length cA2) rfl rfl ?_)
    refine r_cons (s_len ats.length rfl ⟨_, un_31⟩ rfl ?_)
    refine r_cons (s_move (.int .i64 0) rfl rfl ?_)
    refine r_nil ?_
    refine g_block ?_
    have H15 : St W w (imi (0 < ats.length) gA3 (.cells kA5 eA6 zA7) :: F) := H12
    refine g_loop_inv (fun (x_ : Nat) => match x_ with | i => [(9, .slice pA1 ats.length cA2), (10, .int .i64 (ats.length : Int)), (11, .int .i64 (i : Int)), (0, .slice pA1 ats.length cA2)]) (fun (x_ : Nat) w => match x_ with | i => (i ≤ ats.length) ∧ (∀ j, j < i → attrE ats j = 0) ∧ St W w (imi (0 < ats.length) gA3 (.cells kA5 eA6 zA7) :: F)) (fun (x_ : Nat) => match x_ with | i => ats.length - i) (0) ?_ ?_ ?_
    · exact ⟨by first | rfl | exact vint (by omega), by first | rfl | exact vint (by omega), by first | rfl | exact vint (by omega), by first | rfl | exact vint (by omega), trivial⟩
    · exact ⟨(by omega), (fun j hj => by omega), H15⟩
    · rintro i ρ16 w17 ⟨hi, hz, H18⟩ nx19
      change Ends _ _ (upds ρ16 [(9, .slice pA1 ats.length cA2), (10, .int .i64 (ats.length : Int)), (11, .int .i64 (i : Int)), (0, .slice pA1 ats.length cA2)]) w17
      refine g_seq ?_
      refine g_region ?_
      by_cases hc20 : (i : Int) < (ats.length : Int)
      · skip
        refine r_cons (s_lss true rfl rfl (dtrue hc20) rfl ?_)
        refine r_nil ?_
        refine g_seq ?_
        refine g_true rfl ?_
        refine g_skip ?_
        refine g_seq ?_
        refine g_block ?_
        refine g_seq ?_
        refine g_region ?_
        refine r_cons (s_move (.int .i64 (i : Int)) rfl rfl ?_)
        refine r_cons (s_indexAddr gA3 (off := oA4) (i : Int) 4 (oA4 + i * 4) (by exact congrArg (fun z_ => Value.slice z_ ats.length cA2) (hp9 (by omega))) rfl el_31 (by omega) rfl rfl ?_)
        refine r_cons (s_loadAgg [.string ((ats.getD i default).name.v), .int .i64 ((ats.getD i default).kind.v), .int .i64 ((ats.getD i default).n.v), .string ((ats.getD i default).s.v)] 4 ag_91 rfl (H18.imi_at (i := 0) rfl (by omega)) (by have := elem_size (i := i) (s := 4) (hs11 (by omega)) (by omega); omega) (elem_take attrCell_len (hx10 (by omega)) (by omega) default) rfl ?_)
        refine r_cons (s_alloc H18 91 ze_91 rfl ?_); intro bk21 w22 H23
        refine r_cons (s_assign (.int .i64 (i : Int)) rfl rfl ?_)
        refine r_cons (s_storeAgg H23 0 #[.string ((ats.getD i default).name.v), .int .i64 ((ats.getD i default).kind.v), .int .i64 ((ats.getD i default).n.v), .string ((ats.getD i default).s.v)] 4 rfl rfl rfl sz_91 rfl (by simp [Value.oneCell']) (Nat.le_of_ble_eq_true rfl) (fun o h1 h2 => by first | (simp; done) | (simp; omega)) (cs' := #[.string ((ats.getD i default).name.v), .int .i64 ((ats.getD i default).kind.v), .int .i64 ((ats.getD i default).n.v), .string ((ats.getD i default).s.v)]) rfl ?_); intro w24 H25
        refine r_nil ?_
        refine g_seq ?_
        refine g_seq ?_
        refine g_region ?_
        refine r_cons (s_fieldAddr 91 0 0 0 9 rfl fi_91_0 rfl rfl ?_)
        refine r_cons (s_load (.string ((ats.getD i default).name.v)) ag_9 rfl (H25.blk_at (i := 0) rfl) rfl rfl ?_)
        refine r_cons (s_call [.string ((ats.getD i default).name.v)] pl_60 rfl rfl (value_Name ((ats.getD i default).name.v) (ats.getD i default).name.ok H25) ?_)
        rintro _ w26 ⟨rfl, H27⟩
        refine r_cons (s_not (nameB ((ats.getD i default).name.v)) rfl (!(nameB ((ats.getD i default).name.v))) rfl rfl ?_)
        refine r_nil ?_
        by_cases hb28 : (!(nameB ((ats.getD i default).name.v))) = true
        · skip
          refine g_true (congrArg Value.bool hb28) ?_
          refine g_seq ?_
          refine g_region ?_
          refine r_cons (s_assign (.int .i64 31) rfl rfl ?_)
          refine r_nil ?_
          refine g_ret' [.int .i64 31] Try.func61 Try.results61 ⟨rfl, trivial⟩ ?_
          have H29 : St W w26 F := ((H27.drop 0 rfl).drop 0 rfl)
          exact ⟨vint (by unfold attrsE; first | rw [if_pos (by omega)] | (rw [if_neg (by omega)]; first | exact (firstNZ_zero (fun j hj => hz j (by omega))).symm | exact (firstNZ_at hz (by first | exact attrE_31 (nottrue ‹_›) | exact attrE_val (notfalse ‹_›) ‹_› | exact attrE_32 (notfalse ‹_›) ‹_› (by omega) ‹_›) (by first | decide | assumption) (by omega)).symm)), H29⟩
        · have hb28 := eq_false_of_ne_true hb28
          refine g_false (congrArg Value.bool hb28) ?_
          refine g_skip ?_
          refine g_seq ?_
          refine g_seq ?_
          refine g_region ?_
          refine r_cons (s_fieldAddr 91 1 1 1 89 rfl fi_91_1 rfl rfl ?_)
          refine r_cons (s_loadAgg [.int .i64 ((ats.getD i default).kind.v), .int .i64 ((ats.getD i default).n.v), .string ((ats.getD i default).s.v)] 3 ag_89 rfl (H27.blk_at (i := 0) rfl) (Nat.le_of_ble_eq_true rfl) rfl rfl ?_)
          refine r_cons (s_call [.agg #[.int .i64 ((ats.getD i default).kind.v), .int .i64 ((ats.getD i default).n.v), .string ((ats.getD i default).s.v)]] pl_86 rfl rfl (value_Check ((ats.getD i default).kind.v) ((ats.getD i default).n.v) ((ats.getD i default).s.v) H27) ?_)
          rintro _ w30 ⟨rfl, H31⟩
          refine r_cons (s_assign (.int .i64 (valE ((ats.getD i default).kind.v) ((ats.getD i default).n.v) ((ats.getD i default).s.v))) rfl rfl ?_)
          refine r_nil ?_
          refine g_seq ?_
          refine g_region ?_
          refine r_cons (s_move (.int .i64 (valE ((ats.getD i default).kind.v) ((ats.getD i default).n.v) ((ats.getD i default).s.v))) rfl rfl ?_)
          by_cases hc32 : valE ((ats.getD i default).kind.v) ((ats.getD i default).n.v) ((ats.getD i default).s.v) = 0
          · skip
            refine r_cons (s_neq false rfl rfl (ntrue hc32) rfl ?_)
            refine r_nil ?_
            refine g_false rfl ?_
            refine g_skip ?_
            refine g_seq ?_
            refine g_quiet (fun w' => St W w' (blk bk21 (.cells #[.string ((ats.getD i default).name.v), .int .i64 ((ats.getD i default).kind.v), .int .i64 ((ats.getD i default).n.v), .string ((ats.getD i default).s.v)] 91 (0, 0)) :: imi (0 < ats.length) gA3 (.cells kA5 eA6 zA7) :: F)) mixed (by kernel_rfl) H31.drew ?_
            refine q_cons (q_val rfl rfl rfl (by intro w hw; exact x_move (.int .i64 (i : Int)) rfl w) ?_)
            by_cases hc33 : (0 : Int) < (i : Int)
            · skip
              refine q_cons (q_val rfl rfl rfl (by intro w hw; exact x_gtr true rfl rfl (dtrue hc33) w) ?_)
              refine q_cons (q_val rfl rfl rfl (by intro w hw; exact x_move (.bool true) rfl w) ?_)
              refine q_cons (q_take rfl rfl ?_)
              refine q_val rfl rfl rfl (by intro w hw; exact x_fieldAddr 91 0 0 0 9 rfl fi_91_0 rfl w) ?_
              refine q_cons (q_take rfl rfl ?_)
              refine q_val rfl rfl rfl (by intro w hw; exact x_load (.string ((ats.getD i default).name.v)) ag_9 rfl (hw.blk_at (i := 0) rfl) rfl) ?_
              refine q_cons (q_take rfl rfl ?_)
              refine q_val rfl rfl rfl (by intro w hw; exact x_move (.slice pA1 ats.length cA2) rfl w) ?_
              refine q_cons (q_take rfl rfl ?_)
              refine q_val rfl rfl rfl (by intro w hw; exact x_move (.int .i64 (i : Int)) rfl w) ?_
              refine q_cons (q_take rfl rfl ?_)
              refine q_val rfl rfl rfl (by intro w hw; exact x_sub ((i : Int) - 1) rfl rfl (wi64 (by omega)) w) ?_
              refine q_cons (q_take rfl rfl ?_)
              refine q_val rfl rfl rfl (by intro w hw; exact x_indexAddr gA3 (off := oA4) ((i : Int) - 1) 4 (oA4 + (i - 1) * 4) (by exact congrArg (fun z_ => Value.slice z_ ats.length cA2) (hp9 (by omega))) rfl el_31 (by omega) (by rw [show ((i : Int) - 1 : Int).toNat = i - 1 from by omega]) w) ?_
              refine q_cons (q_take rfl rfl ?_)
              refine q_val rfl rfl rfl (by intro w hw; exact x_fieldAddr 91 0 0 (oA4 + (i - 1) * 4) 9 rfl fi_91_0 rfl w) ?_
              refine q_cons (q_take rfl rfl ?_)
              refine q_val rfl rfl rfl (by intro w hw; exact x_load (.string ((ats.getD (i - 1) default).name.v)) ag_9 rfl (hw.imi_at (i := 1) rfl (by omega)) (elem_cell (L := ats) (i := i - 1) attrCell_len (hx10 (by omega)) (by omega) default 0 (by decide) _ rfl)) ?_
              refine q_cons (q_take rfl rfl ?_)
              refine q_val rfl rfl rfl (by intro w hw; exact x_sleq ((sLt ((ats.getD i default).name.v) ((ats.getD (i - 1) default).name.v) || decide (((ats.getD i default).name.v) = ((ats.getD (i - 1) default).name.v)))) rfl rfl rfl w) ?_
              refine q_cons (q_val rfl rfl rfl (by intro w hw; exact x_pick_t (.bool (sLt ((ats.getD i default).name.v) ((ats.getD (i - 1) default).name.v) || decide (((ats.getD i default).name.v) = ((ats.getD (i - 1) default).name.v)))) rfl rfl w) ?_)
              refine q_nil ?_
              intro w34 H35
              by_cases hb36 : ((sLt ((ats.getD i default).name.v) ((ats.getD (i - 1) default).name.v) || decide (((ats.getD i default).name.v) = ((ats.getD (i - 1) default).name.v)))) = true
              · skip
                refine g_true (congrArg Value.bool hb36) ?_
                refine g_seq ?_
                refine g_region ?_
                refine r_cons (s_assign (.int .i64 32) rfl rfl ?_)
                refine r_nil ?_
                refine g_ret' [.int .i64 32] Try.func61 Try.results61 ⟨rfl, trivial⟩ ?_
                have H37 : St W w34 F := ((H35.drop 0 rfl).drop 0 rfl)
                exact ⟨vint (by unfold attrsE; first | rw [if_pos (by omega)] | (rw [if_neg (by omega)]; first | exact (firstNZ_zero (fun j hj => hz j (by omega))).symm | exact (firstNZ_at hz (by first | exact attrE_31 (nottrue ‹_›) | exact attrE_val (notfalse ‹_›) ‹_› | exact attrE_32 (notfalse ‹_›) ‹_› (by omega) ‹_›) (by first | decide | assumption) (by omega)).symm)), H37⟩
              · have hb36 := eq_false_of_ne_true hb36
                refine g_false (congrArg Value.bool hb36) ?_
                refine g_skip ?_
                refine g_inBlock ?_
                refine g_region ?_
                refine r_cons (s_add ((i : Int) + 1) rfl rfl (wi64 (by omega)) rfl ?_)
                refine r_cons (s_move (.int .i64 ((i : Int) + 1)) rfl rfl ?_)
                refine r_nil ?_
                have H38 : St W w34 (imi (0 < ats.length) gA3 (.cells kA5 eA6 zA7) :: F) := ((H35.move 1 rfl).drop 1 rfl)
                exact nx19 (i + 1) _ _ ⟨(by omega), (fun j hj => (Nat.lt_or_ge j i).elim (hz j) (fun h => by rw [show j = i from by omega]; exact attrE_0 (notfalse ‹_›) ‹_› (fun h0 => by first | (exfalso; omega) | assumption))), H38⟩ (by first | (dsimp only; omega) | omega) ⟨by first | rfl | exact vint (by omega), by first | rfl | exact vint (by omega), by first | rfl | exact vint (by omega), by first | rfl | exact vint (by omega), trivial⟩
            · skip
              refine q_cons (q_val rfl rfl rfl (by intro w hw; exact x_gtr false rfl rfl (dfalse hc33) w) ?_)
              refine q_cons (q_val rfl rfl rfl (by intro w hw; exact x_move (.bool false) rfl w) ?_)
              refine q_cons (q_pass rfl rfl rfl rfl rfl ?_)
              refine q_cons (q_pass rfl rfl rfl rfl rfl ?_)
              refine q_cons (q_pass rfl rfl rfl rfl rfl ?_)
              refine q_cons (q_pass rfl rfl rfl rfl rfl ?_)
              refine q_cons (q_pass rfl rfl rfl rfl rfl ?_)
              refine q_cons (q_pass rfl rfl rfl rfl rfl ?_)
              refine q_cons (q_pass rfl rfl rfl rfl rfl ?_)
              refine q_cons (q_pass rfl rfl rfl rfl rfl ?_)
              refine q_cons (q_pass rfl rfl rfl rfl rfl ?_)
              refine q_cons (q_val rfl rfl rfl (by intro w hw; exact x_pick_f (.bool false) rfl rfl w) ?_)
              refine q_nil ?_
              intro w39 H40
              refine g_false rfl ?_
              refine g_skip ?_
              refine g_inBlock ?_
              refine g_region ?_
              refine r_cons (s_add ((i : Int) + 1) rfl rfl (wi64 (by omega)) rfl ?_)
              refine r_cons (s_move (.int .i64 ((i : Int) + 1)) rfl rfl ?_)
              refine r_nil ?_
              have H41 : St W w39 (imi (0 < ats.length) gA3 (.cells kA5 eA6 zA7) :: F) := ((H40.move 1 rfl).drop 1 rfl)
              exact nx19 (i + 1) _ _ ⟨(by omega), (fun j hj => (Nat.lt_or_ge j i).elim (hz j) (fun h => by rw [show j = i from by omega]; exact attrE_0 (notfalse ‹_›) ‹_› (fun h0 => by first | (exfalso; omega) | assumption))), H41⟩ (by first | (dsimp only; omega) | omega) ⟨by first | rfl | exact vint (by omega), by first | rfl | exact vint (by omega), by first | rfl | exact vint (by omega), by first | rfl | exact vint (by omega), trivial⟩
          · skip
            refine r_cons (s_neq true rfl rfl (nfalse hc32) rfl ?_)
            refine r_nil ?_
            refine g_true rfl ?_
            refine g_seq ?_
            refine g_region ?_
            refine r_cons (s_move (.int .i64 (valE ((ats.getD i default).kind.v) ((ats.getD i default).n.v) ((ats.getD i default).s.v))) rfl rfl ?_)
            refine r_cons (s_assign (.int .i64 (valE ((ats.getD i default).kind.v) ((ats.getD i default).n.v) ((ats.getD i default).s.v))) rfl rfl ?_)
            refine r_nil ?_
            refine g_ret' [.int .i64 (valE ((ats.getD i default).kind.v) ((ats.getD i default).n.v) ((ats.getD i default).s.v))] Try.func61 Try.results61 ⟨rfl, trivial⟩ ?_
            have H42 : St W w30 F := ((H31.drop 0 rfl).drop 0 rfl)
            exact ⟨vint (by unfold attrsE; first | rw [if_pos (by omega)] | (rw [if_neg (by omega)]; first | exact (firstNZ_zero (fun j hj => hz j (by omega))).symm | exact (firstNZ_at hz (by first | exact attrE_31 (nottrue ‹_›) | exact attrE_val (notfalse ‹_›) ‹_› | exact attrE_32 (notfalse ‹_›) ‹_› (by omega) ‹_›) (by first | decide | assumption) (by omega)).symm)), H42⟩
      · skip
        refine r_cons (s_lss false rfl rfl (dfalse hc20) rfl ?_)
        refine r_nil ?_
        refine g_seq ?_
        refine g_false rfl ?_
        refine g_exit (by rfl) ?_
        refine g_seq ?_
        refine g_region ?_
        refine r_cons (s_assign (.int .i64 0) rfl rfl ?_)
        refine r_nil ?_
        refine g_ret' [.int .i64 0] Try.func61 Try.results61 ⟨rfl, trivial⟩ ?_
        have H43 : St W w17 F := (H18.drop 0 rfl)
        exact ⟨vint (by unfold attrsE; first | rw [if_pos (by omega)] | (rw [if_neg (by omega)]; first | exact (firstNZ_zero (fun j hj => hz j (by omega))).symm | exact (firstNZ_at hz (by first | exact attrE_31 (nottrue ‹_›) | exact attrE_val (notfalse ‹_›) ‹_› | exact attrE_32 (notfalse ‹_›) ‹_› (by omega) ‹_›) (by first | decide | assumption) (by omega)).symm)), H43⟩
set_option maxHeartbeats 4000000 in
set_option maxRecDepth 100000 in
theorem ref03_SameAttrs {W w : World} {F : List Atom} (ats bts : List AttrV) (av bv : Value) {j k : Nat} (hj : F[j]? = some (Attrs av ats)) (hk : F[k]? = some (Attrs bv bts)) (H : St W w F) : Calls Try.prog 66 #[av, bv] w (Ret fun v w' => v = .bool (sameAs ats bts) ∧ St W w' F) := by
  obtain ⟨pA1, cA2, gA3, oA4, kA5, eA6, zA7, rfl, hn8, hp9, hx10, hs11, hml, H12⟩ := Im.open_ H hj
  obtain ⟨pA13, cA14, gA15, oA16, kA17, eA18, zA19, rfl, hn20, hp21, hx22, hs23, hml, H24⟩ := Im.open_ H12 (i := k + 1) (by exact hk)
  refine calls_of_go (n := 26) Try.func66 rfl Try.ntmps66 rfl ?_
  refine g_seq ?_
  refine g_region ?_
  refine r_cons (s_assign (.bool false) rfl rfl ?_)
  refine r_nil ?_
  refine g_seq ?_
  refine g_seq ?_
  refine g_region ?_
  refine r_cons (s_move (.slice pA1 ats.length cA2) rfl rfl ?_)
  refine r_cons (s_len ats.length rfl ⟨_, un_31⟩ rfl ?_)
  refine r_cons (s_move (.slice pA13 bts.length cA14) rfl rfl ?_)
  refine r_cons (s_len bts.length rfl ⟨_, un_31⟩ rfl ?_)
  by_cases hc25 : (ats.length : Int) = (bts.length : Int)
  · skip
    refine r_cons (s_neq false rfl rfl (ntrue hc25) rfl ?_)
    refine r_nil ?_
    refine g_false rfl ?_
    refine g_skip ?_
    refine g_seq ?_
    refine g_seq ?_
    refine g_region ?_
    refine r_cons (s_assign (.int .i64 0) rfl rfl ?_)
    refine r_nil ?_
    refine g_block ?_
    have H26 : St W w (imi (0 < bts.length) gA15 (.cells kA17 eA18 zA19) :: imi (0 < ats.length) gA3 (.cells kA5 eA6 zA7) :: F) := ((H24.move 1 rfl).move 1 rfl)
    refine g_loop_inv (fun (x_ : Nat) => match x_ with | i => [(0, .slice pA1 ats.length cA2), (1, .slice pA13 bts.length cA14), (4, .bool false), (5, .int .i64 (i : Int))]) (fun (x_ : Nat) w => match x_ with | i => (i ≤ ats.length) ∧ (∀ j, j < i → sameAt (ats.getD j default) (bts.getD j default) = true) ∧ St W w (imi (0 < bts.length) gA15 (.cells kA17 eA18 zA19) :: imi (0 < ats.length) gA3 (.cells kA5 eA6 zA7) :: F)) (fun (x_ : Nat) => match x_ with | i => ats.length - i) (0) ?_ ?_ ?_
    · exact ⟨by first | rfl | exact vint (by omega), by first | rfl | exact vint (by omega), by first | rfl | exact vint (by omega), by first | rfl | exact vint (by omega), trivial⟩
    · exact ⟨(by omega), (fun j hj => by omega), H26⟩
    · rintro i ρ27 w28 ⟨hi, hz, H29⟩ nx30
      change Ends _ _ (upds ρ27 [(0, .slice pA1 ats.length cA2), (1, .slice pA13 bts.length cA14), (4, .bool false), (5, .int .i64 (i : Int))]) w28
      refine g_seq ?_
      refine g_seq ?_
      refine g_region ?_
      refine r_cons (s_move (.int .i64 (i : Int)) rfl rfl ?_)
      refine r_cons (s_move (.slice pA1 ats.length cA2) rfl rfl ?_)
      refine r_cons (s_len ats.length rfl ⟨_, un_31⟩ rfl ?_)
      by_cases hc31 : (i : Int) < (ats.length : Int)
      · skip
        refine r_cons (s_lss true rfl rfl (dtrue hc31) rfl ?_)
        refine r_nil ?_
        refine g_true rfl ?_
        refine g_skip ?_
        refine g_seq ?_
        refine g_block ?_
        refine g_seq ?_
        refine g_quiet (fun w' => St W w' (imi (0 < bts.length) gA15 (.cells kA17 eA18 zA19) :: imi (0 < ats.length) gA3 (.cells kA5 eA6 zA7) :: F)) mixed (by kernel_rfl) H29.drew ?_
        refine q_cons (q_val rfl rfl rfl (by intro w hw; exact x_move (.slice pA1 ats.length cA2) rfl w) ?_)
        refine q_cons (q_val rfl rfl rfl (by intro w hw; exact x_move (.int .i64 (i : Int)) rfl w) ?_)
        refine q_cons (q_val rfl rfl rfl (by intro w hw; exact x_indexAddr gA3 (off := oA4) (i : Int) 4 (oA4 + i * 4) (by exact congrArg (fun z_ => Value.slice z_ ats.length cA2) (hp9 (by omega))) rfl el_31 (by omega) rfl w) ?_)
        refine q_cons (q_val rfl rfl rfl (by intro w hw; exact x_loadAgg [.string ((ats.getD i default).name.v), .int .i64 ((ats.getD i default).kind.v), .int .i64 ((ats.getD i default).n.v), .string ((ats.getD i default).s.v)] 4 ag_91 rfl (hw.imi_at (i := 1) rfl (by omega)) (by have := elem_size (i := i) (s := 4) (hs11 (by omega)) (by omega); omega) (elem_take attrCell_len (hx10 (by omega)) (by omega) default)) ?_)
        refine q_cons (q_val rfl rfl rfl (by intro w hw; exact x_move (.slice pA13 bts.length cA14) rfl w) ?_)
        refine q_cons (q_val rfl rfl rfl (by intro w hw; exact x_move (.int .i64 (i : Int)) rfl w) ?_)
        refine q_cons (q_val rfl rfl rfl (by intro w hw; exact x_indexAddr gA15 (off := oA16) (i : Int) 4 (oA16 + i * 4) (by exact congrArg (fun z_ => Value.slice z_ bts.length cA14) (hp21 (by omega))) rfl el_31 (by omega) rfl w) ?_)
        refine q_cons (q_val rfl rfl rfl (by intro w hw; exact x_loadAgg [.string ((bts.getD i default).name.v), .int .i64 ((bts.getD i default).kind.v), .int .i64 ((bts.getD i default).n.v), .string ((bts.getD i default).s.v)] 4 ag_91 rfl (hw.imi_at (i := 0) rfl (by omega)) (by have := elem_size (i := i) (s := 4) (hs23 (by omega)) (by omega); omega) (elem_take attrCell_len (hx22 (by omega)) (by omega) default)) ?_)
        refine q_cons (q_val rfl rfl rfl (by intro w hw; exact x_aneq (!(sameAt (ats.getD i default) (bts.getD i default))) gd_91 ev_91 rfl rfl rfl w) ?_)
        refine q_nil ?_
        intro w32 H33
        by_cases hb34 : (!(sameAt (ats.getD i default) (bts.getD i default))) = true
        · skip
          refine g_true (congrArg Value.bool hb34) ?_
          refine g_seq ?_
          refine g_region ?_
          refine r_cons (s_assign (.bool false) rfl rfl ?_)
          refine r_nil ?_
          refine g_ret' [.bool false] Try.func66 Try.results66 ⟨rfl, trivial⟩ ?_
          have H35 : St W w32 F := ((H33.drop 0 rfl).drop 0 rfl)
          exact ⟨congrArg Value.bool (sameAs_at i (by simpa using hb34)).symm, H35⟩
        · have hb34 := eq_false_of_ne_true hb34
          refine g_false (congrArg Value.bool hb34) ?_
          refine g_skip ?_
          refine g_inBlock ?_
          refine g_region ?_
          refine r_cons (s_move (.int .i64 (i : Int)) rfl rfl ?_)
          refine r_cons (s_add ((i : Int) + 1) rfl rfl (wi64 (by omega)) rfl ?_)
          refine r_cons (s_assign (.int .i64 ((i : Int) + 1)) rfl rfl ?_)
          refine r_nil ?_
          have H36 : St W w32 (imi (0 < bts.length) gA15 (.cells kA17 eA18 zA19) :: imi (0 < ats.length) gA3 (.cells kA5 eA6 zA7) :: F) := ((H33.move 1 rfl).move 1 rfl)
          exact nx30 (i + 1) _ _ ⟨(by omega), (fun j hj => (Nat.lt_or_ge j i).elim (hz j) (fun h => by rw [show j = i from by omega]; simpa using hb34)), H36⟩ (by first | (dsimp only; omega) | omega) ⟨by first | rfl | exact vint (by omega), by first | rfl | exact vint (by omega), by first | rfl | exact vint (by omega), by first | rfl | exact vint (by omega), trivial⟩
      · skip
        refine r_cons (s_lss false rfl rfl (dfalse hc31) rfl ?_)
        refine r_nil ?_
        refine g_false rfl ?_
        refine g_exit (by rfl) ?_
        refine g_seq ?_
        refine g_region ?_
        refine r_cons (s_assign (.bool true) rfl rfl ?_)
        refine r_nil ?_
        refine g_ret' [.bool true] Try.func66 Try.results66 ⟨rfl, trivial⟩ ?_
        have H37 : St W w28 F := ((H29.drop 0 rfl).drop 0 rfl)
        exact ⟨congrArg Value.bool (sameAs_all (by omega) (fun j hj => hz j (by omega))).symm, H37⟩
  · skip
    refine r_cons (s_neq true rfl rfl (nfalse hc25) rfl ?_)
    refine r_nil ?_
    refine g_true rfl ?_
    refine g_seq ?_
    refine g_region ?_
    refine r_cons (s_assign (.bool false) rfl rfl ?_)
    refine r_nil ?_
    refine g_ret' [.bool false] Try.func66 Try.results66 ⟨rfl, trivial⟩ ?_
    have H38 : St W w F := ((H24.drop 0 rfl).drop 0 rfl)
    exact ⟨congrArg Value.bool (sameAs_len (by omega)).symm, H38⟩
set_option maxHeartbeats 4000000 in
set_option maxRecDepth 100000 in
theorem event_time {W w : World} {F : List Atom} (n : Int) (H : St W w F) : Calls Try.prog 59 #[.int .i64 n] w (Ret fun v w' => v = .bool (timeB n) ∧ St W w' F) := by
  refine calls_of_go (n := 9) Try.func59 rfl Try.ntmps59 rfl ?_
  refine g_seq ?_
  refine g_region ?_
  refine r_cons (s_assign (.bool false) rfl rfl ?_)
  refine r_nil ?_
  refine g_seq ?_
  refine g_region ?_
  refine r_cons (s_move (.int .i64 n) rfl rfl ?_)
  by_cases hc1 : (0 : Int) ≤ n
  · skip
    refine r_cons (s_geq true rfl rfl (dtrue hc1) rfl ?_)
    refine r_cons (s_move (.bool true) rfl rfl ?_)
    refine r_cons (r_take rfl rfl ?_)
    refine s_move (.int .i64 n) rfl rfl ?_
    refine r_cons (r_take rfl rfl ?_)
    by_cases hc2 : n ≤ 1099511627776
    · skip
      refine s_leq true rfl rfl (dtrue hc2) rfl ?_
      refine r_cons (s_pick_t (.bool true) rfl rfl rfl ?_)
      refine r_cons (s_assign (.bool true) rfl rfl ?_)
      refine r_nil ?_
      refine g_ret' [.bool true] Try.func59 Try.results59 ⟨rfl, trivial⟩ ?_
      exact ⟨congrArg Value.bool (by simp only [timeB]; first | (exact (decide_eq_true (by omega)).symm) | (exact (decide_eq_false (by omega)).symm)), H⟩
    · skip
      refine s_leq false rfl rfl (dfalse hc2) rfl ?_
      refine r_cons (s_pick_t (.bool false) rfl rfl rfl ?_)
      refine r_cons (s_assign (.bool false) rfl rfl ?_)
      refine r_nil ?_
      refine g_ret' [.bool false] Try.func59 Try.results59 ⟨rfl, trivial⟩ ?_
      exact ⟨congrArg Value.bool (by simp only [timeB]; first | (exact (decide_eq_true (by omega)).symm) | (exact (decide_eq_false (by omega)).symm)), H⟩
  · skip
    refine r_cons (s_geq false rfl rfl (dfalse hc1) rfl ?_)
    refine r_cons (s_move (.bool false) rfl rfl ?_)
    refine r_cons (r_pass rfl rfl rfl rfl rfl ?_)
    refine r_cons (r_pass rfl rfl rfl rfl rfl ?_)
    refine r_cons (s_pick_f (.bool false) rfl rfl rfl ?_)
    refine r_cons (s_assign (.bool false) rfl rfl ?_)
    refine r_nil ?_
    refine g_ret' [.bool false] Try.func59 Try.results59 ⟨rfl, trivial⟩ ?_
    exact ⟨congrArg Value.bool (by simp only [timeB]; first | (exact (decide_eq_true (by omega)).symm) | (exact (decide_eq_false (by omega)).symm)), H⟩
set_option maxHeartbeats 4000000 in
set_option maxRecDepth 100000 in
theorem event_Check {W w : World} {F : List Atom} (e : EvM) (av : Value) {j : Nat} (hj : F[j]? = some (Attrs av e.attrs)) (H : St W w F) : Calls Try.prog 17 #[.agg #[.int .i64 e.src.v, .int .i64 e.seq.v, .int .i64 e.time.v, .string e.typ.v, av]] w (Ret fun v w' => v = .int .i64 (evE e) ∧ St W w' F) := by
  replace H := H.dup hj (Attrs_pers _ _)
  refine calls_of_go (n := 35) Try.func17 rfl Try.ntmps17 rfl ?_
  refine g_seq ?_
  refine g_region ?_
  refine r_cons (s_box H 33 (.agg #[.int .i64 e.src.v, .int .i64 e.seq.v, .int .i64 e.time.v, .string e.typ.v, av]) rfl (cs := #[.int .i64 e.src.v, .int .i64 e.seq.v, .int .i64 e.time.v, .string e.typ.v, av]) rfl rfl ?_); intro bk1 w2 H3
  refine r_cons (s_assign (.int .i64 0) rfl rfl ?_)
  refine r_nil ?_
  refine g_seq ?_
  refine g_seq ?_
  refine g_region ?_
  refine r_cons (s_fieldAddr 33 0 0 0 30 rfl fi_33_0 rfl rfl ?_)
  refine r_cons (s_fieldAddr 30 0 0 0 3 rfl fi_30_0 rfl rfl ?_)
  refine r_cons (s_load (.int .i64 e.src.v) ag_3 rfl (H3.blk_at (i := 0) rfl) rfl rfl ?_)
  by_cases hc4 : e.src.v < 0
  · skip
    refine r_cons (s_lss true rfl rfl (dtrue hc4) rfl ?_)
    refine r_cons (s_move (.bool true) rfl rfl ?_)
    refine r_cons (r_pass rfl rfl rfl rfl rfl ?_)
    refine r_cons (r_pass rfl rfl rfl rfl rfl ?_)
    refine r_cons (r_pass rfl rfl rfl rfl rfl ?_)
    refine r_cons (r_pass rfl rfl rfl rfl rfl ?_)
    refine r_cons (s_pick_t (.bool true) rfl rfl rfl ?_)
    refine r_cons (s_move (.bool true) rfl rfl ?_)
    refine r_cons (r_pass rfl rfl rfl rfl rfl ?_)
    refine r_cons (r_pass rfl rfl rfl rfl rfl ?_)
    refine r_cons (r_pass rfl rfl rfl rfl rfl ?_)
    refine r_cons (r_pass rfl rfl rfl rfl rfl ?_)
    refine r_cons (r_pass rfl rfl rfl rfl rfl ?_)
    refine r_cons (s_pick_t (.bool true) rfl rfl rfl ?_)
    refine r_cons (s_move (.bool true) rfl rfl ?_)
    refine r_cons (r_pass rfl rfl rfl rfl rfl ?_)
    refine r_cons (r_pass rfl rfl rfl rfl rfl ?_)
    refine r_cons (r_pass rfl rfl rfl rfl rfl ?_)
    refine r_cons (r_pass rfl rfl rfl rfl rfl ?_)
    refine r_cons (s_pick_t (.bool true) rfl rfl rfl ?_)
    refine r_cons (s_move (.bool true) rfl rfl ?_)
    refine r_cons (r_pass rfl rfl rfl rfl rfl ?_)
    refine r_cons (r_pass rfl rfl rfl rfl rfl ?_)
    refine r_cons (r_pass rfl rfl rfl rfl rfl ?_)
    refine r_cons (r_pass rfl rfl rfl rfl rfl ?_)
    refine r_cons (s_pick_t (.bool true) rfl rfl rfl ?_)
    refine r_nil ?_
    refine g_true rfl ?_
    refine g_seq ?_
    refine g_region ?_
    refine r_cons (s_assign (.int .i64 40) rfl rfl ?_)
    refine r_nil ?_
    refine g_ret' [.int .i64 40] Try.func17 Try.results17 ⟨rfl, trivial⟩ ?_
    have H5 : St W w2 F := ((H3.drop 0 rfl).drop 0 rfl)
    exact ⟨vint (by first | exact (evE_40 (by first | exact .inl (by omega) | exact .inr (.inl (by omega)) | exact .inr (.inr (.inl (nottrue ‹_›))) | exact .inr (.inr (.inr (.inl (nottrue ‹_›)))) | exact .inr (.inr (.inr (.inr (nottrue ‹_›)))))).symm | exact (evE_in (by omega) (by omega) ).symm), H5⟩
  · skip
    refine r_cons (s_lss false rfl rfl (dfalse hc4) rfl ?_)
    refine r_cons (s_move (.bool false) rfl rfl ?_)
    refine r_cons (r_take rfl rfl ?_)
    refine s_fieldAddr 33 0 0 0 30 rfl fi_33_0 rfl rfl ?_
    refine r_cons (r_take rfl rfl ?_)
    refine s_fieldAddr 30 0 0 0 3 rfl fi_30_0 rfl rfl ?_
    refine r_cons (r_take rfl rfl ?_)
    refine s_load (.int .i64 e.src.v) ag_3 rfl (H3.blk_at (i := 0) rfl) rfl rfl ?_
    refine r_cons (r_take rfl rfl ?_)
    by_cases hc6 : (16 : Int) ≤ e.src.v
    · skip
      refine s_geq true rfl rfl (dtrue hc6) rfl ?_
      refine r_cons (s_pick_f (.bool true) rfl rfl rfl ?_)
      refine r_cons (s_move (.bool true) rfl rfl ?_)
      refine r_cons (r_pass rfl rfl rfl rfl rfl ?_)
      refine r_cons (r_pass rfl rfl rfl rfl rfl ?_)
      refine r_cons (r_pass rfl rfl rfl rfl rfl ?_)
      refine r_cons (r_pass rfl rfl rfl rfl rfl ?_)
      refine r_cons (r_pass rfl rfl rfl rfl rfl ?_)
      refine r_cons (s_pick_t (.bool true) rfl rfl rfl ?_)
      refine r_cons (s_move (.bool true) rfl rfl ?_)
      refine r_cons (r_pass rfl rfl rfl rfl rfl ?_)
      refine r_cons (r_pass rfl rfl rfl rfl rfl ?_)
      refine r_cons (r_pass rfl rfl rfl rfl rfl ?_)
      refine r_cons (r_pass rfl rfl rfl rfl rfl ?_)
      refine r_cons (s_pick_t (.bool true) rfl rfl rfl ?_)
      refine r_cons (s_move (.bool true) rfl rfl ?_)
      refine r_cons (r_pass rfl rfl rfl rfl rfl ?_)
      refine r_cons (r_pass rfl rfl rfl rfl rfl ?_)
      refine r_cons (r_pass rfl rfl rfl rfl rfl ?_)
      refine r_cons (r_pass rfl rfl rfl rfl rfl ?_)
      refine r_cons (s_pick_t (.bool true) rfl rfl rfl ?_)
      refine r_nil ?_
      refine g_true rfl ?_
      refine g_seq ?_
      refine g_region ?_
      refine r_cons (s_assign (.int .i64 40) rfl rfl ?_)
      refine r_nil ?_
      refine g_ret' [.int .i64 40] Try.func17 Try.results17 ⟨rfl, trivial⟩ ?_
      have H7 : St W w2 F := ((H3.drop 0 rfl).drop 0 rfl)
      exact ⟨vint (by first | exact (evE_40 (by first | exact .inl (by omega) | exact .inr (.inl (by omega)) | exact .inr (.inr (.inl (nottrue ‹_›))) | exact .inr (.inr (.inr (.inl (nottrue ‹_›)))) | exact .inr (.inr (.inr (.inr (nottrue ‹_›)))))).symm | exact (evE_in (by omega) (by omega) ).symm), H7⟩
    · skip
      refine s_geq false rfl rfl (dfalse hc6) rfl ?_
      refine r_cons (s_pick_f (.bool false) rfl rfl rfl ?_)
      refine r_cons (s_move (.bool false) rfl rfl ?_)
      refine r_cons (r_take rfl rfl ?_)
      refine s_fieldAddr 33 0 0 0 30 rfl fi_33_0 rfl rfl ?_
      refine r_cons (r_take rfl rfl ?_)
      refine s_fieldAddr 30 1 1 1 2 rfl fi_30_1 rfl rfl ?_
      refine r_cons (r_take rfl rfl ?_)
      refine s_load (.int .i64 e.seq.v) ag_2 rfl (H3.blk_at (i := 0) rfl) rfl rfl ?_
      refine r_cons (r_take rfl rfl ?_)
      refine s_call [.int .i64 e.seq.v] pl_59 rfl rfl (event_time e.seq.v H3) ?_
      rintro _ w8 ⟨rfl, H9⟩
      refine r_cons (r_take rfl rfl ?_)
      refine s_not (timeB e.seq.v) rfl (!(timeB e.seq.v)) rfl rfl ?_
      refine r_cons (s_pick_f (.bool (!(timeB e.seq.v))) rfl rfl rfl ?_)
      refine r_cons (s_move (.bool (!(timeB e.seq.v))) rfl rfl ?_)
      by_cases hb10 : (!(timeB e.seq.v)) = true
      · skip
        refine r_cons (r_pass rfl (congrArg some hb10) rfl rfl rfl ?_)
        refine r_cons (r_pass rfl (congrArg some hb10) rfl rfl rfl ?_)
        refine r_cons (r_pass rfl (congrArg some hb10) rfl rfl rfl ?_)
        refine r_cons (r_pass rfl (congrArg some hb10) rfl rfl rfl ?_)
        refine r_cons (s_pick_t (.bool true) (by exact congrArg Value.bool hb10) rfl rfl ?_)
        refine r_cons (s_move (.bool true) rfl rfl ?_)
        refine r_cons (r_pass rfl rfl rfl rfl rfl ?_)
        refine r_cons (r_pass rfl rfl rfl rfl rfl ?_)
        refine r_cons (r_pass rfl rfl rfl rfl rfl ?_)
        refine r_cons (r_pass rfl rfl rfl rfl rfl ?_)
        refine r_cons (s_pick_t (.bool true) rfl rfl rfl ?_)
        refine r_nil ?_
        refine g_true rfl ?_
        refine g_seq ?_
        refine g_region ?_
        refine r_cons (s_assign (.int .i64 40) rfl rfl ?_)
        refine r_nil ?_
        refine g_ret' [.int .i64 40] Try.func17 Try.results17 ⟨rfl, trivial⟩ ?_
        have H11 : St W w8 F := ((H9.drop 0 rfl).drop 0 rfl)
        exact ⟨vint (by first | exact (evE_40 (by first | exact .inl (by omega) | exact .inr (.inl (by omega)) | exact .inr (.inr (.inl (nottrue ‹_›))) | exact .inr (.inr (.inr (.inl (nottrue ‹_›)))) | exact .inr (.inr (.inr (.inr (nottrue ‹_›)))))).symm | exact (evE_in (by omega) (by omega) (notfalse hb10)).symm), H11⟩
      · have hb10 := eq_false_of_ne_true hb10
        refine r_cons (r_take rfl (congrArg some hb10) ?_)
        refine s_fieldAddr 33 1 2 2 2 rfl fi_33_1 rfl rfl ?_
        refine r_cons (r_take rfl (congrArg some hb10) ?_)
        refine s_load (.int .i64 e.time.v) ag_2 rfl (H9.blk_at (i := 0) rfl) rfl rfl ?_
        refine r_cons (r_take rfl (congrArg some hb10) ?_)
        refine s_call [.int .i64 e.time.v] pl_59 rfl rfl (event_time e.time.v H9) ?_
        rintro _ w12 ⟨rfl, H13⟩
        refine r_cons (r_take rfl (congrArg some hb10) ?_)
        refine s_not (timeB e.time.v) rfl (!(timeB e.time.v)) rfl rfl ?_
        refine r_cons (s_pick_f (.bool (!(timeB e.time.v))) (by exact congrArg Value.bool hb10) rfl rfl ?_)
        refine r_cons (s_move (.bool (!(timeB e.time.v))) rfl rfl ?_)
        by_cases hb14 : (!(timeB e.time.v)) = true
        · skip
          refine r_cons (r_pass rfl (congrArg some hb14) rfl rfl rfl ?_)
          refine r_cons (r_pass rfl (congrArg some hb14) rfl rfl rfl ?_)
          refine r_cons (r_pass rfl (congrArg some hb14) rfl rfl rfl ?_)
          refine r_cons (r_pass rfl (congrArg some hb14) rfl rfl rfl ?_)
          refine r_cons (s_pick_t (.bool true) (by exact congrArg Value.bool hb14) rfl rfl ?_)
          refine r_nil ?_
          refine g_true rfl ?_
          refine g_seq ?_
          refine g_region ?_
          refine r_cons (s_assign (.int .i64 40) rfl rfl ?_)
          refine r_nil ?_
          refine g_ret' [.int .i64 40] Try.func17 Try.results17 ⟨rfl, trivial⟩ ?_
          have H15 : St W w12 F := ((H13.drop 0 rfl).drop 0 rfl)
          exact ⟨vint (by first | exact (evE_40 (by first | exact .inl (by omega) | exact .inr (.inl (by omega)) | exact .inr (.inr (.inl (nottrue ‹_›))) | exact .inr (.inr (.inr (.inl (nottrue ‹_›)))) | exact .inr (.inr (.inr (.inr (nottrue ‹_›)))))).symm | exact (evE_in (by omega) (by omega) (notfalse hb10) (notfalse hb14)).symm), H15⟩
        · have hb14 := eq_false_of_ne_true hb14
          refine r_cons (r_take rfl (congrArg some hb14) ?_)
          refine s_fieldAddr 33 2 3 3 9 rfl fi_33_2 rfl rfl ?_
          refine r_cons (r_take rfl (congrArg some hb14) ?_)
          refine s_load (.string e.typ.v) ag_9 rfl (H13.blk_at (i := 0) rfl) rfl rfl ?_
          refine r_cons (r_take rfl (congrArg some hb14) ?_)
          refine s_call [.string e.typ.v] pl_60 rfl rfl (value_Name e.typ.v e.typ.ok H13) ?_
          rintro _ w16 ⟨rfl, H17⟩
          refine r_cons (r_take rfl (congrArg some hb14) ?_)
          refine s_not (nameB e.typ.v) rfl (!(nameB e.typ.v)) rfl rfl ?_
          refine r_cons (s_pick_f (.bool (!(nameB e.typ.v))) (by exact congrArg Value.bool hb14) rfl rfl ?_)
          refine r_nil ?_
          by_cases hb18 : (!(nameB e.typ.v)) = true
          · skip
            refine g_true (congrArg Value.bool hb18) ?_
            refine g_seq ?_
            refine g_region ?_
            refine r_cons (s_assign (.int .i64 40) rfl rfl ?_)
            refine r_nil ?_
            refine g_ret' [.int .i64 40] Try.func17 Try.results17 ⟨rfl, trivial⟩ ?_
            have H19 : St W w16 F := ((H17.drop 0 rfl).drop 0 rfl)
            exact ⟨vint (by first | exact (evE_40 (by first | exact .inl (by omega) | exact .inr (.inl (by omega)) | exact .inr (.inr (.inl (nottrue ‹_›))) | exact .inr (.inr (.inr (.inl (nottrue ‹_›)))) | exact .inr (.inr (.inr (.inr (nottrue ‹_›)))))).symm | exact (evE_in (by omega) (by omega) (notfalse hb10) (notfalse hb14) (notfalse hb18)).symm), H19⟩
          · have hb18 := eq_false_of_ne_true hb18
            refine g_false (congrArg Value.bool hb18) ?_
            refine g_skip ?_
            refine g_seq ?_
            refine g_region ?_
            refine r_cons (s_fieldAddr 33 3 4 4 31 rfl fi_33_3 rfl rfl ?_)
            refine r_cons (s_load (av) ag_31 rfl (H17.blk_at (i := 0) rfl) rfl rfl ?_)
            refine r_cons (s_call [av] pl_61 rfl rfl (value_CheckAttrs e.attrs av (j := 1) rfl H17) ?_)
            rintro _ w20 ⟨rfl, H21⟩
            refine r_cons (s_assign (.int .i64 (attrsE e.attrs)) rfl rfl ?_)
            refine r_nil ?_
            refine g_ret' [.int .i64 (attrsE e.attrs)] Try.func17 Try.results17 ⟨rfl, trivial⟩ ?_
            have H22 : St W w20 F := ((H21.drop 0 rfl).drop 0 rfl)
            exact ⟨vint (by first | exact (evE_40 (by first | exact .inl (by omega) | exact .inr (.inl (by omega)) | exact .inr (.inr (.inl (nottrue ‹_›))) | exact .inr (.inr (.inr (.inl (nottrue ‹_›)))) | exact .inr (.inr (.inr (.inr (nottrue ‹_›)))))).symm | exact (evE_in (by omega) (by omega) (notfalse hb10) (notfalse hb14) (notfalse hb18)).symm), H22⟩
/-- What all sources have said. -/
def Streams (b : Nat) (many : Int) (st : List S3) (evs : List EvM) : Atom := ex fun p : Value × List Value => star [pure' (st.length = 16 ∧ 1 ≤ many ∧ many ≤ 16 ∧ p.2.length = evs.length), blk b (.cells (stCells many st p.1) 96 (0, 0)), Row 33 5 p.1 evs.length (evRow evs p.2), star (evIms evs p.2)]
set_option maxHeartbeats 4000000 in
set_option maxRecDepth 100000 in
theorem Streams_none {W w : World} {F : List Atom} (b : Nat) (many : Int) (st : List S3) (evs : List EvM)  {i : Nat} (hi : F[i]? = some (Streams b many st evs)) (H : St W w F) : Calls Try.prog 58 #[.pointer (some ⟨b, 0, none⟩)] w (Ret fun v w' => v = .bool false ∧ St W w' F) := by
  have H0 := H.front hi
  refine calls_of_go (n := 12) Try.func58 rfl Try.ntmps58 rfl ?_
  refine g_seq ?_
  refine g_region ?_
  refine r_cons (s_assign (.bool false) rfl rfl ?_)
  refine r_nil ?_
  refine g_seq ?_
  refine g_region ?_
  refine r_cons (s_move (.pointer (some ⟨b, 0, none⟩)) rfl rfl ?_)
  refine r_cons (s_peql false un_23 rfl rfl rfl rfl ?_)
  refine r_cons (s_move (.bool false) rfl rfl ?_)
  refine r_cons (r_take rfl rfl ?_)
  refine s_move (.pointer (some ⟨b, 0, none⟩)) rfl rfl ?_
  refine r_cons (r_take rfl rfl ?_)
  refine s_nilCheck (.pointer (some ⟨b, 0, none⟩)) rfl ⟨_, rfl⟩ rfl ?_
  refine r_cons (r_take rfl rfl ?_)
  refine s_fieldAddr 96 0 0 0 3 rfl fi_96_0 rfl rfl ?_
  refine r_cons (r_take rfl rfl ?_)
  have H1 := H0.move 0 rfl
  obtain ⟨⟨vv2, avs3⟩, H8⟩ := St.open_ex H1
  obtain ⟨⟨h4, hm5, hm6, hav7⟩, H9⟩ := St.open_pure (St.open_star H8)
  dsimp only at hav7 H9
  obtain ⟨pp11, cc12, rfl⟩ := Row.slice (i := 1) H9 rfl
  have H13 : St W w (blk b (.cells (stCells many st (.slice pp11 evs.length cc12)) 96 (0, 0)) :: Row 33 5 (.slice pp11 evs.length cc12) evs.length (evRow evs avs3) :: star (evIms evs avs3) :: (F.set i emp)) := H9
  refine s_load (.int .i64 many) ag_3 rfl (H13.blk_at (i := 0) rfl) (st_many _ _ _) rfl ?_
  refine r_cons (r_take rfl rfl ?_)
  refine s_eql false rfl rfl (dfalse (by omega)) rfl ?_
  refine r_cons (s_pick_f (.bool false) rfl rfl rfl ?_)
  refine r_cons (s_assign (.bool false) rfl rfl ?_)
  refine r_nil ?_
  refine g_ret' [.bool false] Try.func58 Try.results58 ⟨rfl, trivial⟩ ?_
  have H14 : St W w (Streams b many st evs :: (F.set i emp)) := St.shut_ex (.slice pp11 evs.length cc12, avs3) (St.shut_star (ls := [pure' (st.length = 16 ∧ 1 ≤ many ∧ many ≤ 16 ∧ (avs3).length = (evs).length), blk b (.cells (stCells many st (.slice pp11 evs.length cc12)) 96 (0, 0)), Row 33 5 (.slice pp11 evs.length cc12) evs.length (evRow evs avs3), star (evIms evs avs3)]) (St.shut_pure ⟨h4, hm5, hm6, hav7⟩ H13))
  have H15 : St W w (Streams b many st evs :: (F.set i emp)) := H14
  exact ⟨rfl, St.back_same hi H15⟩
set_option maxHeartbeats 4000000 in
set_option maxRecDepth 100000 in
theorem Streams_of_in {W w : World} {F : List Atom} (b : Nat) (many : Int) (st : List S3) (evs : List EvM) (n : Int) (hn : (0 ≤ n ∧ n < many)) {i : Nat} (hi : F[i]? = some (Streams b many st evs)) (H : St W w F) : Calls Try.prog 57 #[.pointer (some ⟨b, 0, none⟩), .int .i64 n] w (Ret fun v w' => v = .pointer (some ⟨b, 1 + n.toNat * 3, none⟩) ∧ St W w' F) := by
  have H0 := H.front hi
  refine calls_of_go (n := 24) Try.func57 rfl Try.ntmps57 rfl ?_
  refine g_seq ?_
  refine g_region ?_
  refine r_cons (s_assign (.pointer none) rfl rfl ?_)
  refine r_nil ?_
  refine g_seq ?_
  refine g_seq ?_
  refine g_region ?_
  refine r_cons (s_move (.pointer (some ⟨b, 0, none⟩)) rfl rfl ?_)
  refine r_cons (s_call [.pointer (some ⟨b, 0, none⟩)] pl_58 rfl rfl (Streams_none b many st evs  (i := 0) rfl H0) ?_)
  rintro _ w1 ⟨rfl, H2⟩
  refine r_cons (s_move (.bool false) rfl rfl ?_)
  refine r_cons (r_take rfl rfl ?_)
  refine s_move (.int .i64 n) rfl rfl ?_
  refine r_cons (r_take rfl rfl ?_)
  refine s_lss false rfl rfl (dfalse (by omega)) rfl ?_
  refine r_cons (s_pick_f (.bool false) rfl rfl rfl ?_)
  refine r_cons (s_move (.bool false) rfl rfl ?_)
  refine r_cons (r_take rfl rfl ?_)
  refine s_move (.int .i64 n) rfl rfl ?_
  refine r_cons (r_take rfl rfl ?_)
  refine s_move (.pointer (some ⟨b, 0, none⟩)) rfl rfl ?_
  refine r_cons (r_take rfl rfl ?_)
  refine s_nilCheck (.pointer (some ⟨b, 0, none⟩)) rfl ⟨_, rfl⟩ rfl ?_
  refine r_cons (r_take rfl rfl ?_)
  refine s_fieldAddr 96 0 0 0 3 rfl fi_96_0 rfl rfl ?_
  refine r_cons (r_take rfl rfl ?_)
  have H3 := H2.move 0 rfl
  obtain ⟨⟨vv4, avs5⟩, H10⟩ := St.open_ex H3
  obtain ⟨⟨h6, hm7, hm8, hav9⟩, H11⟩ := St.open_pure (St.open_star H10)
  dsimp only at hav9 H11
  obtain ⟨pp13, cc14, rfl⟩ := Row.slice (i := 1) H11 rfl
  have H15 : St W w1 (blk b (.cells (stCells many st (.slice pp13 evs.length cc14)) 96 (0, 0)) :: Row 33 5 (.slice pp13 evs.length cc14) evs.length (evRow evs avs5) :: star (evIms evs avs5) :: (F.set i emp)) := H11
  refine s_load (.int .i64 many) ag_3 rfl (H15.blk_at (i := 0) rfl) (st_many _ _ _) rfl ?_
  refine r_cons (r_take rfl rfl ?_)
  refine s_geq false rfl rfl (dfalse (by omega)) rfl ?_
  refine r_cons (s_pick_f (.bool false) rfl rfl rfl ?_)
  refine r_nil ?_
  refine g_false rfl ?_
  refine g_skip ?_
  refine g_seq ?_
  refine g_region ?_
  refine r_cons (s_move (.pointer (some ⟨b, 0, none⟩)) rfl rfl ?_)
  refine r_cons (s_move (.int .i64 n) rfl rfl ?_)
  refine r_cons (s_nilCheck (.pointer (some ⟨b, 0, none⟩)) rfl ⟨_, rfl⟩ rfl ?_)
  refine r_cons (s_fieldAddr 96 1 1 1 94 rfl fi_96_1 rfl rfl ?_)
  refine r_cons (s_indexAddr_arr n 3 (1 + n.toNat * 3) rfl rfl ar_94 (by omega) rfl rfl ?_)
  refine r_cons (s_assign (.pointer (some ⟨b, 1 + n.toNat * 3, none⟩)) rfl rfl ?_)
  refine r_nil ?_
  refine g_ret' [.pointer (some ⟨b, 1 + n.toNat * 3, none⟩)] Try.func57 Try.results57 ⟨rfl, trivial⟩ ?_
  have H16 : St W w1 (Streams b many st evs :: (F.set i emp)) := St.shut_ex (.slice pp13 evs.length cc14, avs5) (St.shut_star (ls := [pure' (st.length = 16 ∧ 1 ≤ many ∧ many ≤ 16 ∧ (avs5).length = (evs).length), blk b (.cells (stCells many st (.slice pp13 evs.length cc14)) 96 (0, 0)), Row 33 5 (.slice pp13 evs.length cc14) evs.length (evRow evs avs5), star (evIms evs avs5)]) (St.shut_pure ⟨h6, hm7, hm8, hav9⟩ H15))
  have H17 : St W w1 (Streams b many st evs :: (F.set i emp)) := H16
  exact ⟨rfl, St.back_same hi H17⟩
set_option maxHeartbeats 4000000 in
set_option maxRecDepth 100000 in
theorem Streams_of_out {W w : World} {F : List Atom} (b : Nat) (many : Int) (st : List S3) (evs : List EvM) (n : Int) (hn : ¬ (0 ≤ n ∧ n < many)) {i : Nat} (hi : F[i]? = some (Streams b many st evs)) (H : St W w F) : Calls Try.prog 57 #[.pointer (some ⟨b, 0, none⟩), .int .i64 n] w (Ret fun v w' => v = .pointer none ∧ St W w' F) := by
  have H0 := H.front hi
  refine calls_of_go (n := 24) Try.func57 rfl Try.ntmps57 rfl ?_
  refine g_seq ?_
  refine g_region ?_
  refine r_cons (s_assign (.pointer none) rfl rfl ?_)
  refine r_nil ?_
  refine g_seq ?_
  refine g_seq ?_
  refine g_region ?_
  refine r_cons (s_move (.pointer (some ⟨b, 0, none⟩)) rfl rfl ?_)
  refine r_cons (s_call [.pointer (some ⟨b, 0, none⟩)] pl_58 rfl rfl (Streams_none b many st evs  (i := 0) rfl H0) ?_)
  rintro _ w1 ⟨rfl, H2⟩
  refine r_cons (s_move (.bool false) rfl rfl ?_)
  refine r_cons (r_take rfl rfl ?_)
  refine s_move (.int .i64 n) rfl rfl ?_
  refine r_cons (r_take rfl rfl ?_)
  by_cases hc3 : n < 0
  · skip
    refine s_lss true rfl rfl (dtrue hc3) rfl ?_
    refine r_cons (s_pick_f (.bool true) rfl rfl rfl ?_)
    refine r_cons (s_move (.bool true) rfl rfl ?_)
    refine r_cons (r_pass rfl rfl rfl rfl rfl ?_)
    refine r_cons (r_pass rfl rfl rfl rfl rfl ?_)
    refine r_cons (r_pass rfl rfl rfl rfl rfl ?_)
    refine r_cons (r_pass rfl rfl rfl rfl rfl ?_)
    refine r_cons (r_pass rfl rfl rfl rfl rfl ?_)
    refine r_cons (r_pass rfl rfl rfl rfl rfl ?_)
    refine r_cons (s_pick_t (.bool true) rfl rfl rfl ?_)
    refine r_nil ?_
    refine g_true rfl ?_
    refine g_seq ?_
    refine g_region ?_
    refine r_cons (s_assign (.pointer none) rfl rfl ?_)
    refine r_nil ?_
    refine g_ret' [.pointer none] Try.func57 Try.results57 ⟨rfl, trivial⟩ ?_
    have H4 : St W w1 (Streams b many st evs :: (F.set i emp)) := H2
    exact ⟨rfl, St.back_same hi H4⟩
  · skip
    refine s_lss false rfl rfl (dfalse hc3) rfl ?_
    refine r_cons (s_pick_f (.bool false) rfl rfl rfl ?_)
    refine r_cons (s_move (.bool false) rfl rfl ?_)
    refine r_cons (r_take rfl rfl ?_)
    refine s_move (.int .i64 n) rfl rfl ?_
    refine r_cons (r_take rfl rfl ?_)
    refine s_move (.pointer (some ⟨b, 0, none⟩)) rfl rfl ?_
    refine r_cons (r_take rfl rfl ?_)
    refine s_nilCheck (.pointer (some ⟨b, 0, none⟩)) rfl ⟨_, rfl⟩ rfl ?_
    refine r_cons (r_take rfl rfl ?_)
    refine s_fieldAddr 96 0 0 0 3 rfl fi_96_0 rfl rfl ?_
    refine r_cons (r_take rfl rfl ?_)
    have H5 := H2.move 0 rfl
    obtain ⟨⟨vv6, avs7⟩, H12⟩ := St.open_ex H5
    obtain ⟨⟨h8, hm9, hm10, hav11⟩, H13⟩ := St.open_pure (St.open_star H12)
    dsimp only at hav11 H13
    obtain ⟨pp15, cc16, rfl⟩ := Row.slice (i := 1) H13 rfl
    have H17 : St W w1 (blk b (.cells (stCells many st (.slice pp15 evs.length cc16)) 96 (0, 0)) :: Row 33 5 (.slice pp15 evs.length cc16) evs.length (evRow evs avs7) :: star (evIms evs avs7) :: (F.set i emp)) := H13
    refine s_load (.int .i64 many) ag_3 rfl (H17.blk_at (i := 0) rfl) (st_many _ _ _) rfl ?_
    refine r_cons (r_take rfl rfl ?_)
    refine s_geq true rfl rfl (dtrue (by omega)) rfl ?_
    refine r_cons (s_pick_f (.bool true) rfl rfl rfl ?_)
    refine r_nil ?_
    refine g_true rfl ?_
    refine g_seq ?_
    refine g_region ?_
    refine r_cons (s_assign (.pointer none) rfl rfl ?_)
    refine r_nil ?_
    refine g_ret' [.pointer none] Try.func57 Try.results57 ⟨rfl, trivial⟩ ?_
    have H18 : St W w1 (Streams b many st evs :: (F.set i emp)) := St.shut_ex (.slice pp15 evs.length cc16, avs7) (St.shut_star (ls := [pure' (st.length = 16 ∧ 1 ≤ many ∧ many ≤ 16 ∧ (avs7).length = (evs).length), blk b (.cells (stCells many st (.slice pp15 evs.length cc16)) 96 (0, 0)), Row 33 5 (.slice pp15 evs.length cc16) evs.length (evRow evs avs7), star (evIms evs avs7)]) (St.shut_pure ⟨h8, hm9, hm10, hav11⟩ H17))
    have H19 : St W w1 (Streams b many st evs :: (F.set i emp)) := H18
    exact ⟨rfl, St.back_same hi H19⟩
set_option maxHeartbeats 4000000 in
set_option maxRecDepth 100000 in
theorem Streams_Mark {W w : World} {F : List Atom} (b : Nat) (many : Int) (st : List S3) (evs : List EvM) (n : Int) {i : Nat} (hi : F[i]? = some (Streams b many st evs)) (H : St W w F) : Calls Try.prog 13 #[.pointer (some ⟨b, 0, none⟩), .int .i64 n] w (Ret fun v w' => v = .int .i64 (markOf many st n) ∧ St W w' F) := by
  have H0 := H.front hi
  refine calls_of_go (n := 21) Try.func13 rfl Try.ntmps13 rfl ?_
  refine g_seq ?_
  refine g_region ?_
  refine r_cons (s_assign (.int .i64 0) rfl rfl ?_)
  refine r_nil ?_
  refine g_seq ?_
  refine g_region ?_
  refine r_cons (s_move (.pointer (some ⟨b, 0, none⟩)) rfl rfl ?_)
  refine r_cons (s_move (.int .i64 n) rfl rfl ?_)
  by_cases hc1 : 0 ≤ n ∧ n < many
  · skip
    refine r_cons (s_call [.pointer (some ⟨b, 0, none⟩), .int .i64 n] pl_57 rfl rfl (Streams_of_in b many st evs n hc1 (i := 0) rfl H0) ?_)
    rintro _ w2 ⟨rfl, H3⟩
    refine r_cons (s_assign (.pointer (some ⟨b, 1 + n.toNat * 3, none⟩)) rfl rfl ?_)
    refine r_nil ?_
    refine g_seq ?_
    refine g_block ?_
    refine g_seq ?_
    refine g_region ?_
    refine r_cons (s_move (.pointer (some ⟨b, 1 + n.toNat * 3, none⟩)) rfl rfl ?_)
    refine r_cons (s_peql false un_100 rfl rfl rfl rfl ?_)
    refine r_cons (s_assign (.bool false) rfl rfl ?_)
    refine r_nil ?_
    refine g_false rfl ?_
    refine g_seq ?_
    refine g_region ?_
    refine r_cons (s_move (.pointer (some ⟨b, 1 + n.toNat * 3, none⟩)) rfl rfl ?_)
    refine r_cons (s_nilCheck (.pointer (some ⟨b, 1 + n.toNat * 3, none⟩)) rfl ⟨_, rfl⟩ rfl ?_)
    refine r_cons (s_fieldAddr 93 2 2 (1 + n.toNat * 3 + 2) 4 rfl fi_93_2 rfl rfl ?_)
    have H4 := H3.move 0 rfl
    obtain ⟨⟨vv5, avs6⟩, H11⟩ := St.open_ex H4
    obtain ⟨⟨h7, hm8, hm9, hav10⟩, H12⟩ := St.open_pure (St.open_star H11)
    dsimp only at hav10 H12
    obtain ⟨pp14, cc15, rfl⟩ := Row.slice (i := 1) H12 rfl
    have H16 : St W w2 (blk b (.cells (stCells many st (.slice pp14 evs.length cc15)) 96 (0, 0)) :: Row 33 5 (.slice pp14 evs.length cc15) evs.length (evRow evs avs6) :: star (evIms evs avs6) :: (F.set i emp)) := H12
    refine r_cons (s_load (.bool ((st.getD n.toNat default).closed)) ag_4 rfl (H16.blk_at (i := 0) rfl) (elem_cell (L := st) (i := n.toNat) s3Cell_len (st_hx _ _ _) (by omega) default 2 (by decide) _ rfl) rfl ?_)
    refine r_cons (s_assign (.bool ((st.getD n.toNat default).closed)) rfl rfl ?_)
    refine r_nil ?_
    by_cases hb17 : ((st.getD n.toNat default).closed) = true
    · skip
      refine g_true (congrArg Value.bool hb17) ?_
      refine g_seq ?_
      refine g_region ?_
      refine r_cons (s_assign (.int .i64 1099511627777) rfl rfl ?_)
      refine r_nil ?_
      refine g_ret' [.int .i64 1099511627777] Try.func13 Try.results13 ⟨rfl, trivial⟩ ?_
      have H18 : St W w2 (Streams b many st evs :: (F.set i emp)) := St.shut_ex (.slice pp14 evs.length cc15, avs6) (St.shut_star (ls := [pure' (st.length = 16 ∧ 1 ≤ many ∧ many ≤ 16 ∧ (avs6).length = (evs).length), blk b (.cells (stCells many st (.slice pp14 evs.length cc15)) 96 (0, 0)), Row 33 5 (.slice pp14 evs.length cc15) evs.length (evRow evs avs6), star (evIms evs avs6)]) (St.shut_pure ⟨h7, hm8, hm9, hav10⟩ H16))
      have H19 : St W w2 (Streams b many st evs :: (F.set i emp)) := H18
      exact ⟨vint (by unfold markOf; first | rw [if_neg ‹_›] | (rw [if_pos ‹_ ∧ _›]; split <;> first | rfl | simp_all)), St.back_same hi H19⟩
    · have hb17 := eq_false_of_ne_true hb17
      refine g_false (congrArg Value.bool hb17) ?_
      refine g_skip ?_
      refine g_inBlock ?_
      refine g_seq ?_
      refine g_region ?_
      refine r_cons (s_move (.pointer (some ⟨b, 1 + n.toNat * 3, none⟩)) rfl rfl ?_)
      refine r_cons (s_nilCheck (.pointer (some ⟨b, 1 + n.toNat * 3, none⟩)) rfl ⟨_, rfl⟩ rfl ?_)
      refine r_cons (s_fieldAddr 93 1 1 (1 + n.toNat * 3 + 1) 2 rfl fi_93_1 rfl rfl ?_)
      refine r_cons (s_load (.int .i64 ((st.getD n.toNat default).last)) ag_2 rfl (H16.blk_at (i := 0) rfl) (elem_cell (L := st) (i := n.toNat) s3Cell_len (st_hx _ _ _) (by omega) default 1 (by decide) _ rfl) rfl ?_)
      refine r_cons (s_assign (.int .i64 ((st.getD n.toNat default).last)) rfl rfl ?_)
      refine r_nil ?_
      refine g_ret' [.int .i64 ((st.getD n.toNat default).last)] Try.func13 Try.results13 ⟨rfl, trivial⟩ ?_
      have H20 : St W w2 (Streams b many st evs :: (F.set i emp)) := St.shut_ex (.slice pp14 evs.length cc15, avs6) (St.shut_star (ls := [pure' (st.length = 16 ∧ 1 ≤ many ∧ many ≤ 16 ∧ (avs6).length = (evs).length), blk b (.cells (stCells many st (.slice pp14 evs.length cc15)) 96 (0, 0)), Row 33 5 (.slice pp14 evs.length cc15) evs.length (evRow evs avs6), star (evIms evs avs6)]) (St.shut_pure ⟨h7, hm8, hm9, hav10⟩ H16))
      have H21 : St W w2 (Streams b many st evs :: (F.set i emp)) := H20
      exact ⟨vint (by unfold markOf; first | rw [if_neg ‹_›] | (rw [if_pos ‹_ ∧ _›]; split <;> first | rfl | simp_all)), St.back_same hi H21⟩
  · skip
    refine r_cons (s_call [.pointer (some ⟨b, 0, none⟩), .int .i64 n] pl_57 rfl rfl (Streams_of_out b many st evs n hc1 (i := 0) rfl H0) ?_)
    rintro _ w22 ⟨rfl, H23⟩
    refine r_cons (s_assign (.pointer none) rfl rfl ?_)
    refine r_nil ?_
    refine g_seq ?_
    refine g_block ?_
    refine g_seq ?_
    refine g_region ?_
    refine r_cons (s_move (.pointer none) rfl rfl ?_)
    refine r_cons (s_peql true un_100 rfl rfl rfl rfl ?_)
    refine r_cons (s_assign (.bool true) rfl rfl ?_)
    refine r_nil ?_
    refine g_true rfl ?_
    refine g_seq ?_
    refine g_region ?_
    refine r_cons (s_assign (.int .i64 0) rfl rfl ?_)
    refine r_nil ?_
    refine g_ret' [.int .i64 0] Try.func13 Try.results13 ⟨rfl, trivial⟩ ?_
    have H24 : St W w22 (Streams b many st evs :: (F.set i emp)) := H23
    exact ⟨vint (by unfold markOf; first | rw [if_neg ‹_›] | (rw [if_pos ‹_ ∧ _›]; split <;> first | rfl | simp_all)), St.back_same hi H24⟩
set_option maxHeartbeats 4000000 in
set_option maxRecDepth 100000 in
theorem Streams_Len {W w : World} {F : List Atom} (b : Nat) (many : Int) (st : List S3) (evs : List EvM)  {i : Nat} (hi : F[i]? = some (Streams b many st evs)) (H : St W w F) : Calls Try.prog 32 #[.pointer (some ⟨b, 0, none⟩)] w (Ret fun v w' => v = .int .i64 (evs.length : Int) ∧ St W w' F) := by
  have H0 := H.front hi
  refine calls_of_go (n := 10) Try.func32 rfl Try.ntmps32 rfl ?_
  refine g_seq ?_
  refine g_region ?_
  refine r_cons (s_assign (.int .i64 0) rfl rfl ?_)
  refine r_nil ?_
  refine g_seq ?_
  refine g_seq ?_
  refine g_region ?_
  refine r_cons (s_move (.pointer (some ⟨b, 0, none⟩)) rfl rfl ?_)
  refine r_cons (s_call [.pointer (some ⟨b, 0, none⟩)] pl_58 rfl rfl (Streams_none b many st evs  (i := 0) rfl H0) ?_)
  rintro _ w1 ⟨rfl, H2⟩
  refine r_nil ?_
  refine g_false rfl ?_
  refine g_skip ?_
  refine g_seq ?_
  refine g_region ?_
  refine r_cons (s_move (.pointer (some ⟨b, 0, none⟩)) rfl rfl ?_)
  refine r_cons (s_nilCheck (.pointer (some ⟨b, 0, none⟩)) rfl ⟨_, rfl⟩ rfl ?_)
  refine r_cons (s_fieldAddr 96 2 49 49 49 rfl fi_96_2 rfl rfl ?_)
  have H3 := H2.move 0 rfl
  obtain ⟨⟨vv4, avs5⟩, H10⟩ := St.open_ex H3
  obtain ⟨⟨h6, hm7, hm8, hav9⟩, H11⟩ := St.open_pure (St.open_star H10)
  dsimp only at hav9 H11
  obtain ⟨pp13, cc14, rfl⟩ := Row.slice (i := 1) H11 rfl
  have H15 : St W w1 (blk b (.cells (stCells many st (.slice pp13 evs.length cc14)) 96 (0, 0)) :: Row 33 5 (.slice pp13 evs.length cc14) evs.length (evRow evs avs5) :: star (evIms evs avs5) :: (F.set i emp)) := H11
  refine r_cons (s_load (.slice pp13 evs.length cc14) ag_49 rfl (H15.blk_at (i := 0) rfl) (st_all h6 _ _) rfl ?_)
  refine r_cons (s_len evs.length rfl ⟨_, un_49⟩ rfl ?_)
  refine r_cons (s_assign (.int .i64 (evs.length : Int)) rfl rfl ?_)
  refine r_nil ?_
  refine g_ret' [.int .i64 (evs.length : Int)] Try.func32 Try.results32 ⟨rfl, trivial⟩ ?_
  have H16 : St W w1 (Streams b many st evs :: (F.set i emp)) := St.shut_ex (.slice pp13 evs.length cc14, avs5) (St.shut_star (ls := [pure' (st.length = 16 ∧ 1 ≤ many ∧ many ≤ 16 ∧ (avs5).length = (evs).length), blk b (.cells (stCells many st (.slice pp13 evs.length cc14)) 96 (0, 0)), Row 33 5 (.slice pp13 evs.length cc14) evs.length (evRow evs avs5), star (evIms evs avs5)]) (St.shut_pure ⟨h6, hm7, hm8, hav9⟩ H15))
  have H17 : St W w1 (Streams b many st evs :: (F.set i emp)) := H16
  exact ⟨rfl, St.back_same hi H17⟩
set_option maxHeartbeats 4000000 in
set_option maxRecDepth 100000 in
theorem clone_attrs {W w : World} {F : List Atom} (ats : List AttrV) (av : Value) (hb : ats.length * 48 ≤ 140737488355328) {j : Nat} (hj : F[j]? = some (Attrs av ats)) (H : St W w F) : Calls Try.prog 70 #[av] w (Ret fun v w' => ∃ p c, v = .slice p ats.length c ∧ St W w' (Attrs (.slice p ats.length c) ats :: F)) := by
  obtain ⟨pA1, cA2, gA3, oA4, kA5, eA6, zA7, rfl, hn8, hp9, hx10, hs11, hml, H12⟩ := Im.open_ H hj
  have H13 := H.dup hj (Attrs_pers _ _)
  refine calls_of_go (n := 8) Try.func70 rfl Try.ntmps70 rfl ?_
  refine g_seq ?_
  refine g_region ?_
  refine r_cons (s_assign (.slice none 0 0) rfl rfl ?_)
  refine r_nil ?_
  refine g_seq ?_
  refine g_seq ?_
  refine g_region ?_
  refine r_cons (s_move (.slice pA1 ats.length cA2) rfl rfl ?_)
  by_cases hc14 : pA1 = none
  · skip
    refine r_cons (s_sleql true un_31 rfl rfl (isNone_t hc14) rfl ?_)
    refine r_nil ?_
    refine g_true rfl ?_
    refine g_seq ?_
    refine g_region ?_
    refine r_cons (s_assign (.slice none 0 0) rfl rfl ?_)
    refine r_nil ?_
    refine g_ret' [.slice none 0 0] Try.func70 Try.results70 ⟨rfl, trivial⟩ ?_
    have H15 : St W w F := (H13.drop 0 rfl)
    have H16 := Row.im (Row.nil_intro H15 91 4) (i := 0) rfl
    obtain rfl : ats = [] := List.eq_nil_of_length_eq_zero (by have := hn8 ‹_›; omega)
    exact ⟨none, 0, rfl, H16⟩
  · skip
    refine r_cons (s_sleql false un_31 rfl rfl (isNone_f hc14) rfl ?_)
    refine r_nil ?_
    refine g_false rfl ?_
    refine g_skip ?_
    refine g_seq ?_
    refine g_region ?_
    refine r_cons (s_buildSlice0 H13 4 el_31 rfl ?_); intro bk17 w18 H19
    have H20 := Row.of_blk (n := 0) (size := 4) H19 (i := 0) rfl (by unfold maxLen; omega) (by simp) (by simp)
    refine r_cons (s_move (.slice pA1 ats.length cA2) rfl rfl ?_)
    refine r_cons (s_append H20 0 rfl rfl rfl (Im.rd H20 (i := 1) rfl) ap_31 (by decide) (by unfold maxLen; omega) (by omega) (n' := ats.length) (xs' := ats.flatMap attrCell) (by omega) (by first | rfl | simp) rfl ?_); intro vv21 w22 H23 hn24
    obtain ⟨pp25, cc26, rfl⟩ := Row.slice H23 (i := 0) rfl
    refine r_cons (s_assign (.slice pp25 ats.length cc26) rfl rfl ?_)
    refine r_nil ?_
    refine g_ret' [.slice pp25 ats.length cc26] Try.func70 Try.results70 ⟨rfl, trivial⟩ ?_
    have H27 : St W w22 (Row 91 4 (.slice pp25 ats.length cc26) ats.length (ats.flatMap attrCell) :: F) := (H23.drop 1 rfl)
    have H28 := Row.im H27 (i := 0) rfl
    exact ⟨_, _, rfl, H28⟩
set_option maxHeartbeats 4000000 in
set_option maxRecDepth 100000 in
theorem event_Clone {W w : World} {F : List Atom} (e : EvM) (av : Value) (hb : e.attrs.length * 48 ≤ 140737488355328) {j : Nat} (hj : F[j]? = some (Attrs av e.attrs)) (H : St W w F) : Calls Try.prog 23 #[.agg #[.int .i64 e.src.v, .int .i64 e.seq.v, .int .i64 e.time.v, .string e.typ.v, av]] w (Ret fun v w' => ∃ p c, v = .agg #[.int .i64 e.src.v, .int .i64 e.seq.v, .int .i64 e.time.v, .string e.typ.v, .slice p e.attrs.length c] ∧ St W w' (Attrs (.slice p e.attrs.length c) e.attrs :: F)) := by
  replace H := H.dup hj (Attrs_pers _ _)
  refine calls_of_go (n := 8) Try.func23 rfl Try.ntmps23 rfl ?_
  refine g_seq ?_
  refine g_region ?_
  refine r_cons (s_box H 33 (.agg #[.int .i64 e.src.v, .int .i64 e.seq.v, .int .i64 e.time.v, .string e.typ.v, av]) rfl (cs := #[.int .i64 e.src.v, .int .i64 e.seq.v, .int .i64 e.time.v, .string e.typ.v, av]) rfl rfl ?_); intro bk1 w2 H3
  refine r_cons (s_alloc H3 33 ze_33 rfl ?_); intro bk4 w5 H6
  refine r_nil ?_
  refine g_seq ?_
  refine g_region ?_
  refine r_cons (s_fieldAddr 33 3 4 4 31 rfl fi_33_3 rfl rfl ?_)
  refine r_cons (s_load (av) ag_31 rfl (H6.blk_at (i := 1) rfl) rfl rfl ?_)
  refine r_cons (s_call [av] pl_70 rfl rfl (clone_attrs e.attrs av (by omega) (j := 2) rfl H6) ?_)
  rintro _ w9 ⟨pp7, cc8, rfl, H10⟩
  refine r_cons (s_fieldAddr 33 3 4 4 31 rfl fi_33_3 rfl rfl ?_)
  refine r_cons (s_store H10 2 (.slice pp7 e.attrs.length cc8) rfl rfl rfl sz_31 rfl (Nat.le_of_ble_eq_true rfl) rfl (cs' := #[.int .i64 e.src.v, .int .i64 e.seq.v, .int .i64 e.time.v, .string e.typ.v, .slice pp7 e.attrs.length cc8]) rfl ?_); intro w11 H12
  refine r_nil ?_
  refine g_seq ?_
  refine g_region ?_
  refine r_cons (s_loadAgg [.int .i64 e.src.v, .int .i64 e.seq.v, .int .i64 e.time.v, .string e.typ.v, .slice pp7 e.attrs.length cc8] 5 ag_33 rfl (H12.blk_at (i := 2) rfl) (Nat.le_of_ble_eq_true rfl) rfl rfl ?_)
  refine r_cons (s_storeAgg H12 1 #[.int .i64 e.src.v, .int .i64 e.seq.v, .int .i64 e.time.v, .string e.typ.v, .slice pp7 e.attrs.length cc8] 5 rfl rfl rfl sz_33 rfl (by simp [Value.oneCell']) (Nat.le_of_ble_eq_true rfl) (fun o h1 h2 => by first | (simp; done) | (simp; omega)) (cs' := #[.int .i64 e.src.v, .int .i64 e.seq.v, .int .i64 e.time.v, .string e.typ.v, .slice pp7 e.attrs.length cc8]) rfl ?_); intro w13 H14
  refine r_nil ?_
  refine g_ret' [.agg #[.int .i64 e.src.v, .int .i64 e.seq.v, .int .i64 e.time.v, .string e.typ.v, .slice pp7 e.attrs.length cc8]] Try.func23 Try.results23 ⟨(res_cellN rfl ag_33 (H14.blk_at (i := 1) rfl) (Nat.le_of_ble_eq_true rfl) rfl), trivial⟩ ?_
  have H15 : St W w13 (Attrs (.slice pp7 e.attrs.length cc8) e.attrs :: F) := (((H14.drop 1 rfl).drop 1 rfl).drop 1 rfl)
  exact ⟨_, _, rfl, H15⟩
set_option maxHeartbeats 4000000 in
set_option maxRecDepth 100000 in
theorem event_New {W w : World} {F : List Atom} (n : Int) (hn : 1 ≤ n ∧ n ≤ 16) (H : St W w F) : Calls Try.prog 11 #[.int .i64 n] w (Ret fun v w' => ∃ b, v = .tuple #[.pointer (some ⟨b, 0, none⟩), .int .i64 0] ∧ St W w' (Streams b n zeroSt [] :: F)) := by
  refine calls_of_go (n := 13) Try.func11 rfl Try.ntmps11 rfl ?_
  refine g_seq ?_
  refine g_region ?_
  refine r_cons (s_assign (.pointer none) rfl rfl ?_)
  refine r_cons (s_assign (.int .i64 0) rfl rfl ?_)
  refine r_nil ?_
  refine g_seq ?_
  refine g_seq ?_
  refine g_region ?_
  refine r_cons (s_move (.int .i64 n) rfl rfl ?_)
  refine r_cons (s_lss false rfl rfl (dfalse (by omega)) rfl ?_)
  refine r_cons (s_move (.bool false) rfl rfl ?_)
  refine r_cons (r_take rfl rfl ?_)
  refine s_move (.int .i64 n) rfl rfl ?_
  refine r_cons (r_take rfl rfl ?_)
  refine s_gtr false rfl rfl (dfalse (by omega)) rfl ?_
  refine r_cons (s_pick_f (.bool false) rfl rfl rfl ?_)
  refine r_nil ?_
  refine g_false rfl ?_
  refine g_skip ?_
  refine g_seq ?_
  refine g_region ?_
  refine r_cons (s_move (.int .i64 n) rfl rfl ?_)
  refine r_cons (s_build (cs := #[.int .i64 n, .int .i64 0, .int .i64 0, .bool false, .int .i64 0, .int .i64 0, .bool false, .int .i64 0, .int .i64 0, .bool false, .int .i64 0, .int .i64 0, .bool false, .int .i64 0, .int .i64 0, .bool false, .int .i64 0, .int .i64 0, .bool false, .int .i64 0, .int .i64 0, .bool false, .int .i64 0, .int .i64 0, .bool false, .int .i64 0, .int .i64 0, .bool false, .int .i64 0, .int .i64 0, .bool false, .int .i64 0, .int .i64 0, .bool false, .int .i64 0, .int .i64 0, .bool false, .int .i64 0, .int .i64 0, .bool false, .int .i64 0, .int .i64 0, .bool false, .int .i64 0, .int .i64 0, .bool false, .int .i64 0, .int .i64 0, .bool false, .slice none 0 0]) (by kernel_rfl) rfl ?_)
  refine r_cons (s_box H 96 (.agg #[.int .i64 n, .int .i64 0, .int .i64 0, .bool false, .int .i64 0, .int .i64 0, .bool false, .int .i64 0, .int .i64 0, .bool false, .int .i64 0, .int .i64 0, .bool false, .int .i64 0, .int .i64 0, .bool false, .int .i64 0, .int .i64 0, .bool false, .int .i64 0, .int .i64 0, .bool false, .int .i64 0, .int .i64 0, .bool false, .int .i64 0, .int .i64 0, .bool false, .int .i64 0, .int .i64 0, .bool false, .int .i64 0, .int .i64 0, .bool false, .int .i64 0, .int .i64 0, .bool false, .int .i64 0, .int .i64 0, .bool false, .int .i64 0, .int .i64 0, .bool false, .int .i64 0, .int .i64 0, .bool false, .int .i64 0, .int .i64 0, .bool false, .slice none 0 0]) rfl (cs := #[.int .i64 n, .int .i64 0, .int .i64 0, .bool false, .int .i64 0, .int .i64 0, .bool false, .int .i64 0, .int .i64 0, .bool false, .int .i64 0, .int .i64 0, .bool false, .int .i64 0, .int .i64 0, .bool false, .int .i64 0, .int .i64 0, .bool false, .int .i64 0, .int .i64 0, .bool false, .int .i64 0, .int .i64 0, .bool false, .int .i64 0, .int .i64 0, .bool false, .int .i64 0, .int .i64 0, .bool false, .int .i64 0, .int .i64 0, .bool false, .int .i64 0, .int .i64 0, .bool false, .int .i64 0, .int .i64 0, .bool false, .int .i64 0, .int .i64 0, .bool false, .int .i64 0, .int .i64 0, .bool false, .int .i64 0, .int .i64 0, .bool false, .slice none 0 0]) rfl rfl ?_); intro bk1 w2 H3
  refine r_cons (s_assign (.pointer (some ⟨bk1, 0, none⟩)) rfl rfl ?_)
  refine r_cons (s_assign (.int .i64 0) rfl rfl ?_)
  refine r_nil ?_
  refine g_ret' [.pointer (some ⟨bk1, 0, none⟩), .int .i64 0] Try.func11 Try.results11 ⟨rfl, rfl, trivial⟩ ?_
  have H4 : St W w2 (blk bk1 (.cells (stCells n zeroSt (.slice none 0 0)) 96 (0, 0)) :: F) := H3
  have H5 := St.shut_star (ls := []) (((Row.nil_intro H4 33 5).move 1 rfl))
  have H6 := ((H5.move 2 rfl).move 2 rfl)
  exact ⟨bk1, rfl, St.shut_ex (.slice none 0 0, []) (St.shut_star (ls := [pure' (zeroSt.length = 16 ∧ 1 ≤ n ∧ n ≤ 16 ∧ ([] : List Value).length = ([] : List EvM).length), blk bk1 (.cells (stCells n zeroSt (.slice none 0 0)) 96 (0, 0)), Row 33 5 (.slice none 0 0) 0 [], star []]) (St.shut_pure ⟨rfl, hn.1, hn.2, rfl⟩ H6))⟩
set_option maxHeartbeats 4000000 in
set_option maxRecDepth 100000 in
theorem Streams_Accept {W w : World} {F : List Atom} (b : Nat) (many : Int) (st : List S3) (evs : List EvM) (e : EvM) (av : Value) {j : Nat} (hj : F[j]? = some (Attrs av e.attrs)) {i : Nat} (hi : F[i]? = some (Streams b many st evs)) (H : St W w F) : Calls Try.prog 16 #[.pointer (some ⟨b, 0, none⟩), .agg #[.int .i64 e.src.v, .int .i64 e.seq.v, .int .i64 e.time.v, .string e.typ.v, av]] w (Ret fun v w' => v = .int .i64 (acceptE many st evs.length e) ∧ St W w' (F.set i (Streams b many (accSt many st evs e) (accEvs many st evs e)))) := by
  have H0 := (H.dup hj (Attrs_pers _ _)).front (i := i + 1) (by simpa using hi)
  refine calls_of_go (n := 75) Try.func16 rfl Try.ntmps16 rfl ?_
  refine g_seq ?_
  refine g_region ?_
  refine r_cons (s_box H0 33 (.agg #[.int .i64 e.src.v, .int .i64 e.seq.v, .int .i64 e.time.v, .string e.typ.v, av]) rfl (cs := #[.int .i64 e.src.v, .int .i64 e.seq.v, .int .i64 e.time.v, .string e.typ.v, av]) rfl rfl ?_); intro bk1 w2 H3
  refine r_cons (s_assign (.int .i64 0) rfl rfl ?_)
  refine r_nil ?_
  refine g_seq ?_
  refine g_seq ?_
  refine g_region ?_
  refine r_cons (s_move (.pointer (some ⟨b, 0, none⟩)) rfl rfl ?_)
  refine r_cons (s_call [.pointer (some ⟨b, 0, none⟩)] pl_58 rfl rfl (Streams_none b many st evs  (i := 1) rfl H3) ?_)
  rintro _ w4 ⟨rfl, H5⟩
  refine r_nil ?_
  refine g_false rfl ?_
  refine g_skip ?_
  refine g_seq ?_
  refine g_seq ?_
  refine g_region ?_
  refine r_cons (s_loadAgg [.int .i64 e.src.v, .int .i64 e.seq.v, .int .i64 e.time.v, .string e.typ.v, av] 5 ag_33 rfl (H5.blk_at (i := 0) rfl) (Nat.le_of_ble_eq_true rfl) rfl rfl ?_)
  refine r_cons (s_call [.agg #[.int .i64 e.src.v, .int .i64 e.seq.v, .int .i64 e.time.v, .string e.typ.v, av]] pl_17 rfl rfl (event_Check e av (j := 2) rfl H5) ?_)
  rintro _ w6 ⟨rfl, H7⟩
  refine r_cons (s_assign (.int .i64 (evE e)) rfl rfl ?_)
  refine r_nil ?_
  refine g_seq ?_
  refine g_region ?_
  refine r_cons (s_move (.int .i64 (evE e)) rfl rfl ?_)
  by_cases hc8 : evE e = 0
  · skip
    refine r_cons (s_neq false rfl rfl (ntrue hc8) rfl ?_)
    refine r_nil ?_
    refine g_false rfl ?_
    refine g_skip ?_
    refine g_seq ?_
    refine g_region ?_
    have hr := evE_range ‹evE e = 0›
    have hl := attrsE_len hr.2.2.2.2.2
    have hq := timeB_range hr.2.2.1
    have hr1 := hr.1
    have hr2 := hr.2.1
    clear hr
    refine r_cons (s_move (.pointer (some ⟨b, 0, none⟩)) rfl rfl ?_)
    refine r_cons (s_fieldAddr 33 0 0 0 30 rfl fi_33_0 rfl rfl ?_)
    refine r_cons (s_fieldAddr 30 0 0 0 3 rfl fi_30_0 rfl rfl ?_)
    refine r_cons (s_load (.int .i64 e.src.v) ag_3 rfl (H7.blk_at (i := 0) rfl) rfl rfl ?_)
    by_cases hc9 : 0 ≤ e.src.v ∧ e.src.v < many
    · skip
      refine r_cons (s_call [.pointer (some ⟨b, 0, none⟩), .int .i64 e.src.v] pl_57 rfl rfl (Streams_of_in b many st evs e.src.v hc9 (i := 1) rfl H7) ?_)
      rintro _ w10 ⟨rfl, H11⟩
      refine r_cons (s_assign (.pointer (some ⟨b, 1 + e.src.v.toNat * 3, none⟩)) rfl rfl ?_)
      refine r_nil ?_
      refine g_seq ?_
      refine g_block ?_
      refine g_seq ?_
      refine g_region ?_
      refine r_cons (s_move (.pointer (some ⟨b, 1 + e.src.v.toNat * 3, none⟩)) rfl rfl ?_)
      refine r_cons (s_peql false un_100 rfl rfl rfl rfl ?_)
      refine r_cons (s_assign (.bool false) rfl rfl ?_)
      refine r_nil ?_
      refine g_false rfl ?_
      refine g_seq ?_
      refine g_region ?_
      refine r_cons (s_move (.pointer (some ⟨b, 1 + e.src.v.toNat * 3, none⟩)) rfl rfl ?_)
      refine r_cons (s_nilCheck (.pointer (some ⟨b, 1 + e.src.v.toNat * 3, none⟩)) rfl ⟨_, rfl⟩ rfl ?_)
      refine r_cons (s_fieldAddr 93 2 2 (1 + e.src.v.toNat * 3 + 2) 4 rfl fi_93_2 rfl rfl ?_)
      have H12 := H11.move 1 rfl
      obtain ⟨⟨vv13, avs14⟩, H19⟩ := St.open_ex H12
      obtain ⟨⟨h15, hm16, hm17, hav18⟩, H20⟩ := St.open_pure (St.open_star H19)
      dsimp only at hav18 H20
      obtain ⟨pp22, cc23, rfl⟩ := Row.slice (i := 1) H20 rfl
      have H24 : St W w10 (blk b (.cells (stCells many st (.slice pp22 evs.length cc23)) 96 (0, 0)) :: Row 33 5 (.slice pp22 evs.length cc23) evs.length (evRow evs avs14) :: star (evIms evs avs14) :: blk bk1 (.cells #[.int .i64 e.src.v, .int .i64 e.seq.v, .int .i64 e.time.v, .string e.typ.v, av] 33 (0, 0)) :: Attrs av e.attrs :: (F.set i emp)) := H20
      refine r_cons (s_load (.bool ((st.getD e.src.v.toNat default).closed)) ag_4 rfl (H24.blk_at (i := 0) rfl) (elem_cell (L := st) (i := e.src.v.toNat) s3Cell_len (st_hx _ _ _) (by omega) default 2 (by decide) _ rfl) rfl ?_)
      refine r_cons (s_assign (.bool ((st.getD e.src.v.toNat default).closed)) rfl rfl ?_)
      refine r_nil ?_
      by_cases hb25 : ((st.getD e.src.v.toNat default).closed) = true
      · skip
        refine g_true (congrArg Value.bool hb25) ?_
        refine g_seq ?_
        refine g_region ?_
        refine r_cons (s_assign (.int .i64 43) rfl rfl ?_)
        refine r_nil ?_
        refine g_ret' [.int .i64 43] Try.func16 Try.results16 ⟨rfl, trivial⟩ ?_
        have H26 : St W w10 (Streams b many st evs :: blk bk1 (.cells #[.int .i64 e.src.v, .int .i64 e.seq.v, .int .i64 e.time.v, .string e.typ.v, av] 33 (0, 0)) :: Attrs av e.attrs :: (F.set i emp)) := St.shut_ex (.slice pp22 evs.length cc23, avs14) (St.shut_star (ls := [pure' (st.length = 16 ∧ 1 ≤ many ∧ many ≤ 16 ∧ (avs14).length = (evs).length), blk b (.cells (stCells many st (.slice pp22 evs.length cc23)) 96 (0, 0)), Row 33 5 (.slice pp22 evs.length cc23) evs.length (evRow evs avs14), star (evIms evs avs14)]) (St.shut_pure ⟨h15, hm16, hm17, hav18⟩ H24))
        have H27 : St W w10 (Streams b many st evs :: (F.set i emp)) := ((H26.drop 1 rfl).drop 1 rfl)
        have hA : acceptE many st evs.length e = 43 := by first | exact acceptE_1 ‹_› | exact acceptE_2 ‹_› ‹_› | exact acceptE_3 ‹_› ‹_› ‹_› | exact acceptE_4 ‹_› ‹_› ‹_› ‹_› | exact acceptE_5 ‹_› ‹_› ‹_› ‹_› ‹_› | exact acceptE_6 ‹_› ‹_› ‹_› ‹_› ‹_› ‹_›
        have hB : ¬ acceptE many st evs.length e = 0 := by rw [hA]; first | assumption | decide
        exact ⟨vint hA.symm, by rw [(accSt_no hB).1, (accSt_no hB).2]; exact St.back hi H27⟩
      · have hb25 := eq_false_of_ne_true hb25
        refine g_false (congrArg Value.bool hb25) ?_
        refine g_seq ?_
        refine g_quiet (fun w' => St W w' (blk b (.cells (stCells many st (.slice pp22 evs.length cc23)) 96 (0, 0)) :: Row 33 5 (.slice pp22 evs.length cc23) evs.length (evRow evs avs14) :: star (evIms evs avs14) :: blk bk1 (.cells #[.int .i64 e.src.v, .int .i64 e.seq.v, .int .i64 e.time.v, .string e.typ.v, av] 33 (0, 0)) :: Attrs av e.attrs :: (F.set i emp))) mixed (by kernel_rfl) H24.drew ?_
        refine q_cons (q_val rfl rfl rfl (by intro w hw; exact x_fieldAddr 33 0 0 0 30 rfl fi_33_0 rfl w) ?_)
        refine q_cons (q_val rfl rfl rfl (by intro w hw; exact x_fieldAddr 30 1 1 1 2 rfl fi_30_1 rfl w) ?_)
        refine q_cons (q_val rfl rfl rfl (by intro w hw; exact x_load (.int .i64 e.seq.v) ag_2 rfl (hw.blk_at (i := 3) rfl) rfl) ?_)
        refine q_cons (q_val rfl rfl rfl (by intro w hw; exact x_move (.pointer (some ⟨b, 1 + e.src.v.toNat * 3, none⟩)) rfl w) ?_)
        refine q_cons (q_val rfl rfl rfl (by intro w hw; exact x_nilCheck (.pointer (some ⟨b, 1 + e.src.v.toNat * 3, none⟩)) rfl ⟨_, rfl⟩ w) ?_)
        refine q_cons (q_val rfl rfl rfl (by intro w hw; exact x_fieldAddr 93 0 0 (1 + e.src.v.toNat * 3) 2 rfl fi_93_0 rfl w) ?_)
        refine q_cons (q_val rfl rfl rfl (by intro w hw; exact x_load (.int .i64 ((st.getD e.src.v.toNat default).next)) ag_2 rfl (hw.blk_at (i := 0) rfl) (elem_cell (L := st) (i := e.src.v.toNat) s3Cell_len (st_hx _ _ _) (by omega) default 0 (by decide) _ rfl)) ?_)
        by_cases hc28 : e.seq.v = (st.getD e.src.v.toNat default).next
        · skip
          refine q_cons (q_val rfl rfl rfl (by intro w hw; exact x_neq false rfl rfl (ntrue hc28) w) ?_)
          refine q_cons (q_val rfl rfl rfl (by intro w hw; exact x_assign (.bool false) rfl w) ?_)
          refine q_nil ?_
          intro w29 H30
          refine g_false rfl ?_
          refine g_seq ?_
          refine g_quiet (fun w' => St W w' (blk b (.cells (stCells many st (.slice pp22 evs.length cc23)) 96 (0, 0)) :: Row 33 5 (.slice pp22 evs.length cc23) evs.length (evRow evs avs14) :: star (evIms evs avs14) :: blk bk1 (.cells #[.int .i64 e.src.v, .int .i64 e.seq.v, .int .i64 e.time.v, .string e.typ.v, av] 33 (0, 0)) :: Attrs av e.attrs :: (F.set i emp))) mixed (by kernel_rfl) H30.drew ?_
          refine q_cons (q_val rfl rfl rfl (by intro w hw; exact x_fieldAddr 33 1 2 2 2 rfl fi_33_1 rfl w) ?_)
          refine q_cons (q_val rfl rfl rfl (by intro w hw; exact x_load (.int .i64 e.time.v) ag_2 rfl (hw.blk_at (i := 3) rfl) rfl) ?_)
          refine q_cons (q_val rfl rfl rfl (by intro w hw; exact x_move (.pointer (some ⟨b, 1 + e.src.v.toNat * 3, none⟩)) rfl w) ?_)
          refine q_cons (q_val rfl rfl rfl (by intro w hw; exact x_nilCheck (.pointer (some ⟨b, 1 + e.src.v.toNat * 3, none⟩)) rfl ⟨_, rfl⟩ w) ?_)
          refine q_cons (q_val rfl rfl rfl (by intro w hw; exact x_fieldAddr 93 1 1 (1 + e.src.v.toNat * 3 + 1) 2 rfl fi_93_1 rfl w) ?_)
          refine q_cons (q_val rfl rfl rfl (by intro w hw; exact x_load (.int .i64 ((st.getD e.src.v.toNat default).last)) ag_2 rfl (hw.blk_at (i := 0) rfl) (elem_cell (L := st) (i := e.src.v.toNat) s3Cell_len (st_hx _ _ _) (by omega) default 1 (by decide) _ rfl)) ?_)
          by_cases hc31 : e.time.v < (st.getD e.src.v.toNat default).last
          · skip
            refine q_cons (q_val rfl rfl rfl (by intro w hw; exact x_lss true rfl rfl (dtrue hc31) w) ?_)
            refine q_cons (q_val rfl rfl rfl (by intro w hw; exact x_assign (.bool true) rfl w) ?_)
            refine q_nil ?_
            intro w32 H33
            refine g_true rfl ?_
            refine g_seq ?_
            refine g_region ?_
            refine r_cons (s_assign (.int .i64 41) rfl rfl ?_)
            refine r_nil ?_
            refine g_ret' [.int .i64 41] Try.func16 Try.results16 ⟨rfl, trivial⟩ ?_
            have H34 : St W w32 (Streams b many st evs :: blk bk1 (.cells #[.int .i64 e.src.v, .int .i64 e.seq.v, .int .i64 e.time.v, .string e.typ.v, av] 33 (0, 0)) :: Attrs av e.attrs :: (F.set i emp)) := St.shut_ex (.slice pp22 evs.length cc23, avs14) (St.shut_star (ls := [pure' (st.length = 16 ∧ 1 ≤ many ∧ many ≤ 16 ∧ (avs14).length = (evs).length), blk b (.cells (stCells many st (.slice pp22 evs.length cc23)) 96 (0, 0)), Row 33 5 (.slice pp22 evs.length cc23) evs.length (evRow evs avs14), star (evIms evs avs14)]) (St.shut_pure ⟨h15, hm16, hm17, hav18⟩ H33))
            have H35 : St W w32 (Streams b many st evs :: (F.set i emp)) := ((H34.drop 1 rfl).drop 1 rfl)
            have hA : acceptE many st evs.length e = 41 := by first | exact acceptE_1 ‹_› | exact acceptE_2 ‹_› ‹_› | exact acceptE_3 ‹_› ‹_› ‹_› | exact acceptE_4 ‹_› ‹_› ‹_› ‹_› | exact acceptE_5 ‹_› ‹_› ‹_› ‹_› ‹_› | exact acceptE_6 ‹_› ‹_› ‹_› ‹_› ‹_› ‹_›
            have hB : ¬ acceptE many st evs.length e = 0 := by rw [hA]; first | assumption | decide
            exact ⟨vint hA.symm, by rw [(accSt_no hB).1, (accSt_no hB).2]; exact St.back hi H35⟩
          · skip
            refine q_cons (q_val rfl rfl rfl (by intro w hw; exact x_lss false rfl rfl (dfalse hc31) w) ?_)
            refine q_cons (q_val rfl rfl rfl (by intro w hw; exact x_assign (.bool false) rfl w) ?_)
            refine q_nil ?_
            intro w36 H37
            refine g_false rfl ?_
            refine g_seq ?_
            refine g_region ?_
            refine r_cons (s_move (.pointer (some ⟨b, 0, none⟩)) rfl rfl ?_)
            refine r_cons (s_nilCheck (.pointer (some ⟨b, 0, none⟩)) rfl ⟨_, rfl⟩ rfl ?_)
            refine r_cons (s_fieldAddr 96 2 49 49 49 rfl fi_96_2 rfl rfl ?_)
            refine r_cons (s_load (.slice pp22 evs.length cc23) ag_49 rfl (H37.blk_at (i := 0) rfl) (st_all h15 _ _) rfl ?_)
            refine r_cons (s_len evs.length rfl ⟨_, un_49⟩ rfl ?_)
            by_cases hc38 : (65536 : Int) ≤ (evs.length : Int)
            · skip
              refine r_cons (s_geq true rfl rfl (dtrue hc38) rfl ?_)
              refine r_cons (s_assign (.bool true) rfl rfl ?_)
              refine r_nil ?_
              refine g_true rfl ?_
              refine g_seq ?_
              refine g_region ?_
              refine r_cons (s_assign (.int .i64 3) rfl rfl ?_)
              refine r_nil ?_
              refine g_ret' [.int .i64 3] Try.func16 Try.results16 ⟨rfl, trivial⟩ ?_
              have H39 : St W w36 (Streams b many st evs :: blk bk1 (.cells #[.int .i64 e.src.v, .int .i64 e.seq.v, .int .i64 e.time.v, .string e.typ.v, av] 33 (0, 0)) :: Attrs av e.attrs :: (F.set i emp)) := St.shut_ex (.slice pp22 evs.length cc23, avs14) (St.shut_star (ls := [pure' (st.length = 16 ∧ 1 ≤ many ∧ many ≤ 16 ∧ (avs14).length = (evs).length), blk b (.cells (stCells many st (.slice pp22 evs.length cc23)) 96 (0, 0)), Row 33 5 (.slice pp22 evs.length cc23) evs.length (evRow evs avs14), star (evIms evs avs14)]) (St.shut_pure ⟨h15, hm16, hm17, hav18⟩ H37))
              have H40 : St W w36 (Streams b many st evs :: (F.set i emp)) := ((H39.drop 1 rfl).drop 1 rfl)
              have hA : acceptE many st evs.length e = 3 := by first | exact acceptE_1 ‹_› | exact acceptE_2 ‹_› ‹_› | exact acceptE_3 ‹_› ‹_› ‹_› | exact acceptE_4 ‹_› ‹_› ‹_› ‹_› | exact acceptE_5 ‹_› ‹_› ‹_› ‹_› ‹_› | exact acceptE_6 ‹_› ‹_› ‹_› ‹_› ‹_› ‹_›
              have hB : ¬ acceptE many st evs.length e = 0 := by rw [hA]; first | assumption | decide
              exact ⟨vint hA.symm, by rw [(accSt_no hB).1, (accSt_no hB).2]; exact St.back hi H40⟩
            · skip
              refine r_cons (s_geq false rfl rfl (dfalse hc38) rfl ?_)
              refine r_cons (s_assign (.bool false) rfl rfl ?_)
              refine r_nil ?_
              refine g_false rfl ?_
              refine g_skip ?_
              refine g_inBlock ?_
              refine g_seq ?_
              have H41 : St W w36 (Row 33 5 (.slice pp22 evs.length cc23) evs.length (evRow evs avs14) :: star (evIms evs avs14) :: blk bk1 (.cells #[.int .i64 e.src.v, .int .i64 e.seq.v, .int .i64 e.time.v, .string e.typ.v, av] 33 (0, 0)) :: Attrs av e.attrs :: blk b (.cells (stCells many st (.slice pp22 evs.length cc23)) 96 (0, 0)) :: (F.set i emp)) := ((((H37.move 4 rfl).move 4 rfl).move 4 rfl).move 4 rfl)
              refine g_mix (fun t_ w => St W w (Row 33 5 (.slice pp22 evs.length cc23) evs.length (evRow evs avs14) :: star (evIms evs avs14) :: blk bk1 (.cells #[.int .i64 e.src.v, .int .i64 e.seq.v, .int .i64 e.time.v, .string e.typ.v, av] 33 (0, 0)) :: Attrs av e.attrs :: t_)) (blk b (.cells (stCells many st (.slice pp22 evs.length cc23)) 96 (0, 0)) :: (F.set i emp)) mixed 15 rfl H41.drew ?_
              refine f_first 0 (listed' := #[true, false, false, false, false, false, false, false, false, false, false, false, false, false, false]) rfl (by kernel_rfl) (by kernel_rfl) (by kernel_rfl) rfl ?_
              refine f_val rfl rfl rfl (by intro t_ w hw; exact x_move (.pointer (some ⟨b, 1 + e.src.v.toNat * 3, none⟩)) rfl w) ?_
              refine f_first 1 (listed' := #[true, true, false, false, false, false, false, false, false, false, false, false, false, false, false]) rfl (by kernel_rfl) (by kernel_rfl) (by kernel_rfl) rfl ?_
              refine f_val rfl rfl rfl (by intro t_ w hw; exact x_move (.pointer (some ⟨b, 1 + e.src.v.toNat * 3, none⟩)) rfl w) ?_
              refine f_first 2 (listed' := #[true, true, true, false, false, false, false, false, false, false, false, false, false, false, false]) rfl (by kernel_rfl) (by kernel_rfl) (by kernel_rfl) rfl ?_
              refine f_val rfl rfl rfl (by intro t_ w hw; exact x_move (.pointer (some ⟨b, 1 + e.src.v.toNat * 3, none⟩)) rfl w) ?_
              refine f_first 3 (listed' := #[true, true, true, true, false, false, false, false, false, false, false, false, false, false, false]) rfl (by kernel_rfl) (by kernel_rfl) (by kernel_rfl) rfl ?_
              refine f_val rfl rfl rfl (by intro t_ w hw; exact x_nilCheck (.pointer (some ⟨b, 1 + e.src.v.toNat * 3, none⟩)) rfl ⟨_, rfl⟩ w) ?_
              refine f_first 4 (listed' := #[true, true, true, true, true, false, false, false, false, false, false, false, false, false, false]) rfl (by kernel_rfl) (by kernel_rfl) (by kernel_rfl) rfl ?_
              refine f_val rfl rfl rfl (by intro t_ w hw; exact x_fieldAddr 93 0 0 (1 + e.src.v.toNat * 3) 2 rfl fi_93_0 rfl w) ?_
              refine f_first 7 (listed' := #[true, true, true, true, true, false, false, true, false, false, false, false, false, false, false]) rfl (by kernel_rfl) (by kernel_rfl) (by kernel_rfl) rfl ?_
              refine f_val rfl rfl rfl (by intro t_ w hw; exact x_fieldAddr 33 1 2 2 2 rfl fi_33_1 rfl w) ?_
              refine f_first 8 (listed' := #[true, true, true, true, true, false, false, true, true, false, false, false, false, false, false]) rfl (by kernel_rfl) (by kernel_rfl) (by kernel_rfl) rfl ?_
              refine f_val rfl rfl rfl (by intro t_ w hw; exact x_load (.int .i64 e.time.v) ag_2 rfl (hw.blk_at (i := 2) rfl) rfl) ?_
              refine f_all (rs := [5]) (by kernel_rfl) (by simp) ?_
              refine a_cons ⟨_, rfl, ?_⟩ (fun x hx => absurd hx (by simp))
              intro w42 H43
              try dsimp only at H43
              refine s_load (.int .i64 ((st.getD e.src.v.toNat default).next)) ag_2 rfl (H43.blk_at (i := 4) rfl) (elem_cell (L := st) (i := e.src.v.toNat) s3Cell_len (st_hx _ _ _) (by omega) default 0 (by decide) _ rfl) rfl ?_
              refine ⟨blk b (.cells (stCells many st (.slice pp22 evs.length cc23)) 96 (0, 0)) :: (F.set i emp), ?_, H43⟩
              change FReg _ _ _ _ _ #[true, true, true, true, true, true, false, true, true, false, false, false, false, false, false] _ _
              refine f_first 6 (listed' := #[true, true, true, true, true, true, true, true, true, false, false, false, false, false, false]) rfl (by kernel_rfl) (by kernel_rfl) (by kernel_rfl) rfl ?_
              refine f_val rfl rfl rfl (by intro t_ w hw; exact x_add ((st.getD e.src.v.toNat default).next + 1) rfl rfl (wi64 (by omega)) w) ?_
              refine f_first 9 (listed' := #[true, true, true, true, true, true, true, true, true, true, false, false, false, false, false]) rfl (by kernel_rfl) (by kernel_rfl) (by kernel_rfl) rfl ?_
              refine f_val rfl rfl rfl (by intro t_ w hw; exact x_nilCheck (.pointer (some ⟨b, 1 + e.src.v.toNat * 3, none⟩)) rfl ⟨_, rfl⟩ w) ?_
              refine f_first 10 (listed' := #[true, true, true, true, true, true, true, true, true, true, true, false, false, false, false]) rfl (by kernel_rfl) (by kernel_rfl) (by kernel_rfl) rfl ?_
              refine f_val rfl rfl rfl (by intro t_ w hw; exact x_fieldAddr 93 0 0 (1 + e.src.v.toNat * 3) 2 rfl fi_93_0 rfl w) ?_
              refine f_all (rs := [11]) (by kernel_rfl) (by simp) ?_
              refine a_cons ⟨_, rfl, ?_⟩ (fun x hx => absurd hx (by simp))
              intro w44 H45
              try dsimp only at H45
              refine s_store H45 4 (.int .i64 ((st.getD e.src.v.toNat default).next + 1)) rfl rfl rfl sz_2 rfl (by rw [st_size, h15]; omega) rfl (st_set (by rw [h15]; omega) 0 (by decide) _ _ _ ⟨(st.getD e.src.v.toNat default).next + 1, (st.getD e.src.v.toNat default).last, (st.getD e.src.v.toNat default).closed⟩ rfl) ?_; intro w46 H47
              refine ⟨blk b (.cells (stCells many (st.set e.src.v.toNat ⟨(st.getD e.src.v.toNat default).next + 1, (st.getD e.src.v.toNat default).last, (st.getD e.src.v.toNat default).closed⟩) (.slice pp22 evs.length cc23)) 96 (0, 0)) :: (F.set i emp), ?_, H47⟩
              change FReg _ _ _ _ _ #[true, true, true, true, true, true, true, true, true, true, true, true, false, false, false] _ _
              refine f_first 12 (listed' := #[true, true, true, true, true, true, true, true, true, true, true, true, true, false, false]) rfl (by kernel_rfl) (by kernel_rfl) (by kernel_rfl) rfl ?_
              refine f_val rfl rfl rfl (by intro t_ w hw; exact x_nilCheck (.pointer (some ⟨b, 1 + e.src.v.toNat * 3, none⟩)) rfl ⟨_, rfl⟩ w) ?_
              refine f_first 13 (listed' := #[true, true, true, true, true, true, true, true, true, true, true, true, true, true, false]) rfl (by kernel_rfl) (by kernel_rfl) (by kernel_rfl) rfl ?_
              refine f_val rfl rfl rfl (by intro t_ w hw; exact x_fieldAddr 93 1 1 (1 + e.src.v.toNat * 3 + 1) 2 rfl fi_93_1 rfl w) ?_
              refine f_all (rs := [14]) (by kernel_rfl) (by simp) ?_
              refine a_cons ⟨_, rfl, ?_⟩ (fun x hx => absurd hx (by simp))
              intro w48 H49
              try dsimp only at H49
              refine s_store H49 4 (.int .i64 e.time.v) rfl rfl rfl sz_2 rfl (by rw [st_size, (st_len_set h15)]; omega) rfl (st_set (by rw [(st_len_set h15)]; omega) 1 (by decide) _ _ _ ⟨((st.set e.src.v.toNat ⟨(st.getD e.src.v.toNat default).next + 1, (st.getD e.src.v.toNat default).last, (st.getD e.src.v.toNat default).closed⟩).getD e.src.v.toNat default).next, e.time.v, ((st.set e.src.v.toNat ⟨(st.getD e.src.v.toNat default).next + 1, (st.getD e.src.v.toNat default).last, (st.getD e.src.v.toNat default).closed⟩).getD e.src.v.toNat default).closed⟩ rfl) ?_; intro w50 H51
              refine ⟨blk b (.cells (stCells many ((st.set e.src.v.toNat ⟨(st.getD e.src.v.toNat default).next + 1, (st.getD e.src.v.toNat default).last, (st.getD e.src.v.toNat default).closed⟩).set e.src.v.toNat ⟨((st.set e.src.v.toNat ⟨(st.getD e.src.v.toNat default).next + 1, (st.getD e.src.v.toNat default).last, (st.getD e.src.v.toNat default).closed⟩).getD e.src.v.toNat default).next, e.time.v, ((st.set e.src.v.toNat ⟨(st.getD e.src.v.toNat default).next + 1, (st.getD e.src.v.toNat default).last, (st.getD e.src.v.toNat default).closed⟩).getD e.src.v.toNat default).closed⟩) (.slice pp22 evs.length cc23)) 96 (0, 0)) :: (F.set i emp), ?_, H51⟩
              change FReg _ _ _ _ _ #[true, true, true, true, true, true, true, true, true, true, true, true, true, true, true] _ _
              refine f_done (by kernel_rfl) ?_
              intro w52 H53
              refine g_seq ?_
              refine g_cut (fun (x : Nat × Option Addr × Nat × Option Addr × Nat) => match x with | (bk58, pp54, cc55, pp65, cc66) => [(4, .int .i64 0)]) (fun (x : Nat × Option Addr × Nat × Option Addr × Nat) w => match x with | (bk58, pp54, cc55, pp65, cc66) => St W w (blk bk58 (.cells #[.int .i64 e.src.v, .int .i64 e.seq.v, .int .i64 e.time.v, .string e.typ.v, .slice pp54 e.attrs.length cc55] 33 (0, 0)) :: Attrs (.slice pp54 e.attrs.length cc55) e.attrs :: Row 33 5 (.slice pp65 (evs.length + 1) cc66) (evs.length + 1) (evRow evs avs14 ++ ([.int .i64 e.src.v, .int .i64 e.seq.v, .int .i64 e.time.v, .string e.typ.v, .slice pp54 e.attrs.length cc55] : List Value)) :: star (evIms evs avs14) :: blk bk1 (.cells #[.int .i64 e.src.v, .int .i64 e.seq.v, .int .i64 e.time.v, .string e.typ.v, av] 33 (0, 0)) :: Attrs av e.attrs :: blk b (.cells (stCells many ((st.set e.src.v.toNat ⟨(st.getD e.src.v.toNat default).next + 1, (st.getD e.src.v.toNat default).last, (st.getD e.src.v.toNat default).closed⟩).set e.src.v.toNat ⟨((st.set e.src.v.toNat ⟨(st.getD e.src.v.toNat default).next + 1, (st.getD e.src.v.toNat default).last, (st.getD e.src.v.toNat default).closed⟩).getD e.src.v.toNat default).next, e.time.v, ((st.set e.src.v.toNat ⟨(st.getD e.src.v.toNat default).next + 1, (st.getD e.src.v.toNat default).last, (st.getD e.src.v.toNat default).closed⟩).getD e.src.v.toNat default).closed⟩) (.slice pp65 (evs.length + 1) cc66)) 96 (0, 0)) :: (F.set i emp))) ?_ ?_
              · rintro ⟨bk58, pp54, cc55, pp65, cc66⟩ ρ57 w55 H56
                change Ends _ _ (upds ρ57 [(4, .int .i64 0)]) w55
                refine g_seq ?_
                refine g_region ?_
                refine r_cons (s_assign (.int .i64 0) rfl rfl ?_)
                refine r_nil ?_
                refine g_ret' [.int .i64 0] Try.func16 Try.results16 ⟨rfl, trivial⟩ ?_
                have hA : acceptE many st evs.length e = 0 := acceptE_0 ‹_› ‹_› ‹_› ‹_› ‹_› ‹_›
                have H58 : St W w55 (blk b (.cells (stCells many ((st.set e.src.v.toNat ⟨(st.getD e.src.v.toNat default).next + 1, (st.getD e.src.v.toNat default).last, (st.getD e.src.v.toNat default).closed⟩).set e.src.v.toNat ⟨((st.set e.src.v.toNat ⟨(st.getD e.src.v.toNat default).next + 1, (st.getD e.src.v.toNat default).last, (st.getD e.src.v.toNat default).closed⟩).getD e.src.v.toNat default).next, e.time.v, ((st.set e.src.v.toNat ⟨(st.getD e.src.v.toNat default).next + 1, (st.getD e.src.v.toNat default).last, (st.getD e.src.v.toNat default).closed⟩).getD e.src.v.toNat default).closed⟩) (.slice pp65 (evs.length + 1) cc66)) 96 (0, 0)) :: Row 33 5 (.slice pp65 (evs.length + 1) cc66) (evs.length + 1) (evRow evs avs14 ++ ([.int .i64 e.src.v, .int .i64 e.seq.v, .int .i64 e.time.v, .string e.typ.v, .slice pp54 e.attrs.length cc55] : List Value)) :: star (evIms evs avs14) :: Attrs (.slice pp54 e.attrs.length cc55) e.attrs :: (F.set i emp)) := (((((((H56.move 1 rfl).move 3 rfl).move 3 rfl).move 6 rfl).drop 4 rfl).drop 4 rfl).drop 4 rfl)
                have H59 := (St.star_snoc ((H58.move 3 rfl).move 3 rfl))
                have hst : (st.set e.src.v.toNat ⟨(st.getD e.src.v.toNat default).next + 1, (st.getD e.src.v.toNat default).last, (st.getD e.src.v.toNat default).closed⟩).set e.src.v.toNat ⟨((st.set e.src.v.toNat ⟨(st.getD e.src.v.toNat default).next + 1, (st.getD e.src.v.toNat default).last, (st.getD e.src.v.toNat default).closed⟩).getD e.src.v.toNat default).next, e.time.v, ((st.set e.src.v.toNat ⟨(st.getD e.src.v.toNat default).next + 1, (st.getD e.src.v.toNat default).last, (st.getD e.src.v.toNat default).closed⟩).getD e.src.v.toNat default).closed⟩ = st.set e.src.v.toNat ⟨(st.getD e.src.v.toNat default).next + 1, e.time.v, (st.getD e.src.v.toNat default).closed⟩ := by rw [getD_set_S3 (by omega), set_set_S3]
                have H60 : St W w55 (blk b (.cells (stCells many (st.set e.src.v.toNat ⟨(st.getD e.src.v.toNat default).next + 1, e.time.v, (st.getD e.src.v.toNat default).closed⟩) (.slice pp65 (evs.length + 1) cc66)) 96 (0, 0)) :: Row 33 5 (.slice pp65 (evs.length + 1) cc66) (evs ++ [e]).length (evRow (evs ++ [e]) (avs14 ++ ([.slice pp54 e.attrs.length cc55] : List Value))) :: star (evIms (evs ++ [e]) (avs14 ++ ([.slice pp54 e.attrs.length cc55] : List Value))) :: F.set i emp) := by rw [List.length_append, evRow_snoc _ _ _ _ hav18, evIms_snoc _ _ _ _ hav18, ← hst]; exact ((H59.move 2 rfl).move 2 rfl)
                exact ⟨vint hA.symm, by rw [(accSt_yes hA).1, (accSt_yes hA).2]; exact St.back hi (St.shut_ex (.slice pp65 (evs.length + 1) cc66, avs14 ++ ([.slice pp54 e.attrs.length cc55] : List Value)) (St.shut_star (ls := [pure' ((st.set e.src.v.toNat ⟨(st.getD e.src.v.toNat default).next + 1, e.time.v, (st.getD e.src.v.toNat default).closed⟩).length = 16 ∧ 1 ≤ many ∧ many ≤ 16 ∧ (avs14 ++ ([.slice pp54 e.attrs.length cc55] : List Value)).length = (evs ++ [e]).length), blk b (.cells (stCells many (st.set e.src.v.toNat ⟨(st.getD e.src.v.toNat default).next + 1, e.time.v, (st.getD e.src.v.toNat default).closed⟩) (.slice pp65 (evs.length + 1) cc66)) 96 (0, 0)), Row 33 5 (.slice pp65 (evs.length + 1) cc66) (evs ++ [e]).length (evRow (evs ++ [e]) (avs14 ++ ([.slice pp54 e.attrs.length cc55] : List Value))), star (evIms (evs ++ [e]) (avs14 ++ ([.slice pp54 e.attrs.length cc55] : List Value)))]) (St.shut_pure ⟨st_len_set ‹st.length = 16›, hm16, hm17, by simp [hav18]⟩ H60)))⟩
              · intro join54
                refine g_any mixed 12 rfl ?_
                intro w61 hw62
                have H63 := H53.drew
                rw [← hw62] at H63
                clear hw62
                refine a_take 0 (listed' := #[true, false, false, false, false, false, false, false, false, false, false, false]) rfl (by kernel_rfl) (by kernel_rfl) (by kernel_rfl) rfl rfl rfl rfl (fun w => x_move (.pointer (some ⟨b, 0, none⟩)) rfl w) ?_
                refine a_take 1 (listed' := #[true, true, false, false, false, false, false, false, false, false, false, false]) rfl (by kernel_rfl) (by kernel_rfl) (by kernel_rfl) rfl rfl rfl rfl (fun w => x_move (.pointer (some ⟨b, 0, none⟩)) rfl w) ?_
                refine a_take 2 (listed' := #[true, true, true, false, false, false, false, false, false, false, false, false]) rfl (by kernel_rfl) (by kernel_rfl) (by kernel_rfl) rfl rfl rfl rfl (fun w => x_nilCheck (.pointer (some ⟨b, 0, none⟩)) rfl ⟨_, rfl⟩ w) ?_
                refine a_take 3 (listed' := #[true, true, true, true, false, false, false, false, false, false, false, false]) rfl (by kernel_rfl) (by kernel_rfl) (by kernel_rfl) rfl rfl rfl rfl (fun w => x_fieldAddr 96 2 49 49 49 rfl fi_96_2 rfl w) ?_
                refine a_all (rs := [4, 5]) (by kernel_rfl) (by simp) ?_
                refine a_cons ⟨_, rfl, ?_⟩ (a_cons ⟨_, rfl, ?_⟩ (fun x hx => absurd hx (by simp)))
                · skip
                  refine s_load (.slice pp22 evs.length cc23) ag_49 rfl (H63.blk_at (i := 4) rfl) (st_all (st_len_set (st_len_set h15)) _ _) rfl ?_
                  change AnyG _ _ _ _ #[true, true, true, true, true, false, false, false, false, false, false, false] _ _
                  refine a_all (rs := [5]) (by kernel_rfl) (by simp) ?_
                  refine a_cons ⟨_, rfl, ?_⟩ (fun x hx => absurd hx (by simp))
                  refine s_loadAgg [.int .i64 e.src.v, .int .i64 e.seq.v, .int .i64 e.time.v, .string e.typ.v, av] 5 ag_33 rfl (H63.blk_at (i := 2) rfl) (Nat.le_of_ble_eq_true rfl) rfl rfl ?_
                  change AnyG _ _ _ _ #[true, true, true, true, true, true, false, false, false, false, false, false] _ _
                  refine a_all (rs := [6]) (by kernel_rfl) (by simp) ?_
                  refine a_cons ⟨_, rfl, ?_⟩ (fun x hx => absurd hx (by simp))
                  refine s_call [.agg #[.int .i64 e.src.v, .int .i64 e.seq.v, .int .i64 e.time.v, .string e.typ.v, av]] pl_23 rfl rfl (event_Clone e av (by omega) (j := 3) rfl H63) ?_
                  rintro _ w66 ⟨pp64, cc65, rfl, H67⟩
                  change AnyG _ _ _ _ #[true, true, true, true, true, true, true, false, false, false, false, false] _ _
                  refine a_all (rs := [7]) (by kernel_rfl) (by simp) ?_
                  refine a_cons ⟨_, rfl, ?_⟩ (fun x hx => absurd hx (by simp))
                  refine s_buildSlice H67 5 1 (cs := #[.int .i64 e.src.v, .int .i64 e.seq.v, .int .i64 e.time.v, .string e.typ.v, .slice pp64 e.attrs.length cc65]) #[.int .i64 0, .int .i64 0, .int .i64 0, .string ByteArray.empty, .slice none 0 0] el_49 ze_33 (by decide) (by decide) (by kernel_rfl) rfl ?_; intro bk68 w69 H70
                  change AnyG _ _ _ _ #[true, true, true, true, true, true, true, true, false, false, false, false] _ _
                  refine a_all (rs := [8]) (by kernel_rfl) (by simp) ?_
                  refine a_cons ⟨_, rfl, ?_⟩ (fun x hx => absurd hx (by simp))
                  refine s_append H70 2 rfl rfl rfl (rd_blk (H70.blk_at (i := 0) rfl) rfl (Nat.le_of_ble_eq_true rfl) (by simp [Value.oneCell'])) ap_49 (by decide) (by unfold maxLen; omega) (by omega) (n' := evs.length + 1) (xs' := evRow evs avs14 ++ ([.int .i64 e.src.v, .int .i64 e.seq.v, .int .i64 e.time.v, .string e.typ.v, .slice pp64 e.attrs.length cc65] : List Value)) (by omega) (by first | rfl | simp) rfl ?_; intro vv71 w72 H73 hn74
                  obtain ⟨pp75, cc76, rfl⟩ := Row.slice H73 (i := 2) rfl
                  change AnyG _ _ _ _ #[true, true, true, true, true, true, true, true, true, false, false, false] _ _
                  refine a_take 9 (listed' := #[true, true, true, true, true, true, true, true, true, true, false, false]) rfl (by kernel_rfl) (by kernel_rfl) (by kernel_rfl) rfl rfl rfl rfl (fun w => x_nilCheck (.pointer (some ⟨b, 0, none⟩)) rfl ⟨_, rfl⟩ w) ?_
                  refine a_take 10 (listed' := #[true, true, true, true, true, true, true, true, true, true, true, false]) rfl (by kernel_rfl) (by kernel_rfl) (by kernel_rfl) rfl rfl rfl rfl (fun w => x_fieldAddr 96 2 49 49 49 rfl fi_96_2 rfl w) ?_
                  refine a_all (rs := [11]) (by kernel_rfl) (by simp) ?_
                  refine a_cons ⟨_, rfl, ?_⟩ (fun x hx => absurd hx (by simp))
                  refine s_store H73 6 (.slice pp75 (evs.length + 1) cc76) rfl rfl rfl sz_49 rfl (by rw [st_size, (st_len_set (st_len_set h15))]; decide) rfl (st_setAll (st_len_set (st_len_set h15)) _ _ _) ?_; intro w77 H78
                  change AnyG _ _ _ _ #[true, true, true, true, true, true, true, true, true, true, true, true] _ _
                  refine a_done (by kernel_rfl) ?_
                  exact join54 (bk68, pp64, cc65, pp75, cc76) _ _ H78 ⟨rfl, trivial⟩
                · skip
                  refine s_loadAgg [.int .i64 e.src.v, .int .i64 e.seq.v, .int .i64 e.time.v, .string e.typ.v, av] 5 ag_33 rfl (H63.blk_at (i := 2) rfl) (Nat.le_of_ble_eq_true rfl) rfl rfl ?_
                  change AnyG _ _ _ _ #[true, true, true, true, false, true, false, false, false, false, false, false] _ _
                  refine a_all (rs := [4, 6]) (by kernel_rfl) (by simp) ?_
                  refine a_cons ⟨_, rfl, ?_⟩ (a_cons ⟨_, rfl, ?_⟩ (fun x hx => absurd hx (by simp)))
                  · skip
                    refine s_load (.slice pp22 evs.length cc23) ag_49 rfl (H63.blk_at (i := 4) rfl) (st_all (st_len_set (st_len_set h15)) _ _) rfl ?_
                    change AnyG _ _ _ _ #[true, true, true, true, true, true, false, false, false, false, false, false] _ _
                    refine a_all (rs := [6]) (by kernel_rfl) (by simp) ?_
                    refine a_cons ⟨_, rfl, ?_⟩ (fun x hx => absurd hx (by simp))
                    refine s_call [.agg #[.int .i64 e.src.v, .int .i64 e.seq.v, .int .i64 e.time.v, .string e.typ.v, av]] pl_23 rfl rfl (event_Clone e av (by omega) (j := 3) rfl H63) ?_
                    rintro _ w81 ⟨pp79, cc80, rfl, H82⟩
                    change AnyG _ _ _ _ #[true, true, true, true, true, true, true, false, false, false, false, false] _ _
                    refine a_all (rs := [7]) (by kernel_rfl) (by simp) ?_
                    refine a_cons ⟨_, rfl, ?_⟩ (fun x hx => absurd hx (by simp))
                    refine s_buildSlice H82 5 1 (cs := #[.int .i64 e.src.v, .int .i64 e.seq.v, .int .i64 e.time.v, .string e.typ.v, .slice pp79 e.attrs.length cc80]) #[.int .i64 0, .int .i64 0, .int .i64 0, .string ByteArray.empty, .slice none 0 0] el_49 ze_33 (by decide) (by decide) (by kernel_rfl) rfl ?_; intro bk83 w84 H85
                    change AnyG _ _ _ _ #[true, true, true, true, true, true, true, true, false, false, false, false] _ _
                    refine a_all (rs := [8]) (by kernel_rfl) (by simp) ?_
                    refine a_cons ⟨_, rfl, ?_⟩ (fun x hx => absurd hx (by simp))
                    refine s_append H85 2 rfl rfl rfl (rd_blk (H85.blk_at (i := 0) rfl) rfl (Nat.le_of_ble_eq_true rfl) (by simp [Value.oneCell'])) ap_49 (by decide) (by unfold maxLen; omega) (by omega) (n' := evs.length + 1) (xs' := evRow evs avs14 ++ ([.int .i64 e.src.v, .int .i64 e.seq.v, .int .i64 e.time.v, .string e.typ.v, .slice pp79 e.attrs.length cc80] : List Value)) (by omega) (by first | rfl | simp) rfl ?_; intro vv86 w87 H88 hn89
                    obtain ⟨pp90, cc91, rfl⟩ := Row.slice H88 (i := 2) rfl
                    change AnyG _ _ _ _ #[true, true, true, true, true, true, true, true, true, false, false, false] _ _
                    refine a_take 9 (listed' := #[true, true, true, true, true, true, true, true, true, true, false, false]) rfl (by kernel_rfl) (by kernel_rfl) (by kernel_rfl) rfl rfl rfl rfl (fun w => x_nilCheck (.pointer (some ⟨b, 0, none⟩)) rfl ⟨_, rfl⟩ w) ?_
                    refine a_take 10 (listed' := #[true, true, true, true, true, true, true, true, true, true, true, false]) rfl (by kernel_rfl) (by kernel_rfl) (by kernel_rfl) rfl rfl rfl rfl (fun w => x_fieldAddr 96 2 49 49 49 rfl fi_96_2 rfl w) ?_
                    refine a_all (rs := [11]) (by kernel_rfl) (by simp) ?_
                    refine a_cons ⟨_, rfl, ?_⟩ (fun x hx => absurd hx (by simp))
                    refine s_store H88 6 (.slice pp90 (evs.length + 1) cc91) rfl rfl rfl sz_49 rfl (by rw [st_size, (st_len_set (st_len_set h15))]; decide) rfl (st_setAll (st_len_set (st_len_set h15)) _ _ _) ?_; intro w92 H93
                    change AnyG _ _ _ _ #[true, true, true, true, true, true, true, true, true, true, true, true] _ _
                    refine a_done (by kernel_rfl) ?_
                    exact join54 (bk83, pp79, cc80, pp90, cc91) _ _ H93 ⟨rfl, trivial⟩
                  · skip
                    refine s_call [.agg #[.int .i64 e.src.v, .int .i64 e.seq.v, .int .i64 e.time.v, .string e.typ.v, av]] pl_23 rfl rfl (event_Clone e av (by omega) (j := 3) rfl H63) ?_
                    rintro _ w96 ⟨pp94, cc95, rfl, H97⟩
                    change AnyG _ _ _ _ #[true, true, true, true, false, true, true, false, false, false, false, false] _ _
                    refine a_all (rs := [4, 7]) (by kernel_rfl) (by simp) ?_
                    refine a_cons ⟨_, rfl, ?_⟩ (a_cons ⟨_, rfl, ?_⟩ (fun x hx => absurd hx (by simp)))
                    · skip
                      refine s_load (.slice pp22 evs.length cc23) ag_49 rfl (H97.blk_at (i := 5) rfl) (st_all (st_len_set (st_len_set h15)) _ _) rfl ?_
                      change AnyG _ _ _ _ #[true, true, true, true, true, true, true, false, false, false, false, false] _ _
                      refine a_all (rs := [7]) (by kernel_rfl) (by simp) ?_
                      refine a_cons ⟨_, rfl, ?_⟩ (fun x hx => absurd hx (by simp))
                      refine s_buildSlice H97 5 1 (cs := #[.int .i64 e.src.v, .int .i64 e.seq.v, .int .i64 e.time.v, .string e.typ.v, .slice pp94 e.attrs.length cc95]) #[.int .i64 0, .int .i64 0, .int .i64 0, .string ByteArray.empty, .slice none 0 0] el_49 ze_33 (by decide) (by decide) (by kernel_rfl) rfl ?_; intro bk98 w99 H100
                      change AnyG _ _ _ _ #[true, true, true, true, true, true, true, true, false, false, false, false] _ _
                      refine a_all (rs := [8]) (by kernel_rfl) (by simp) ?_
                      refine a_cons ⟨_, rfl, ?_⟩ (fun x hx => absurd hx (by simp))
                      refine s_append H100 2 rfl rfl rfl (rd_blk (H100.blk_at (i := 0) rfl) rfl (Nat.le_of_ble_eq_true rfl) (by simp [Value.oneCell'])) ap_49 (by decide) (by unfold maxLen; omega) (by omega) (n' := evs.length + 1) (xs' := evRow evs avs14 ++ ([.int .i64 e.src.v, .int .i64 e.seq.v, .int .i64 e.time.v, .string e.typ.v, .slice pp94 e.attrs.length cc95] : List Value)) (by omega) (by first | rfl | simp) rfl ?_; intro vv101 w102 H103 hn104
                      obtain ⟨pp105, cc106, rfl⟩ := Row.slice H103 (i := 2) rfl
                      change AnyG _ _ _ _ #[true, true, true, true, true, true, true, true, true, false, false, false] _ _
                      refine a_take 9 (listed' := #[true, true, true, true, true, true, true, true, true, true, false, false]) rfl (by kernel_rfl) (by kernel_rfl) (by kernel_rfl) rfl rfl rfl rfl (fun w => x_nilCheck (.pointer (some ⟨b, 0, none⟩)) rfl ⟨_, rfl⟩ w) ?_
                      refine a_take 10 (listed' := #[true, true, true, true, true, true, true, true, true, true, true, false]) rfl (by kernel_rfl) (by kernel_rfl) (by kernel_rfl) rfl rfl rfl rfl (fun w => x_fieldAddr 96 2 49 49 49 rfl fi_96_2 rfl w) ?_
                      refine a_all (rs := [11]) (by kernel_rfl) (by simp) ?_
                      refine a_cons ⟨_, rfl, ?_⟩ (fun x hx => absurd hx (by simp))
                      refine s_store H103 6 (.slice pp105 (evs.length + 1) cc106) rfl rfl rfl sz_49 rfl (by rw [st_size, (st_len_set (st_len_set h15))]; decide) rfl (st_setAll (st_len_set (st_len_set h15)) _ _ _) ?_; intro w107 H108
                      change AnyG _ _ _ _ #[true, true, true, true, true, true, true, true, true, true, true, true] _ _
                      refine a_done (by kernel_rfl) ?_
                      exact join54 (bk98, pp94, cc95, pp105, cc106) _ _ H108 ⟨rfl, trivial⟩
                    · skip
                      refine s_buildSlice H97 5 1 (cs := #[.int .i64 e.src.v, .int .i64 e.seq.v, .int .i64 e.time.v, .string e.typ.v, .slice pp94 e.attrs.length cc95]) #[.int .i64 0, .int .i64 0, .int .i64 0, .string ByteArray.empty, .slice none 0 0] el_49 ze_33 (by decide) (by decide) (by kernel_rfl) rfl ?_; intro bk109 w110 H111
                      change AnyG _ _ _ _ #[true, true, true, true, false, true, true, true, false, false, false, false] _ _
                      refine a_all (rs := [4]) (by kernel_rfl) (by simp) ?_
                      refine a_cons ⟨_, rfl, ?_⟩ (fun x hx => absurd hx (by simp))
                      refine s_load (.slice pp22 evs.length cc23) ag_49 rfl (H111.blk_at (i := 6) rfl) (st_all (st_len_set (st_len_set h15)) _ _) rfl ?_
                      change AnyG _ _ _ _ #[true, true, true, true, true, true, true, true, false, false, false, false] _ _
                      refine a_all (rs := [8]) (by kernel_rfl) (by simp) ?_
                      refine a_cons ⟨_, rfl, ?_⟩ (fun x hx => absurd hx (by simp))
                      refine s_append H111 2 rfl rfl rfl (rd_blk (H111.blk_at (i := 0) rfl) rfl (Nat.le_of_ble_eq_true rfl) (by simp [Value.oneCell'])) ap_49 (by decide) (by unfold maxLen; omega) (by omega) (n' := evs.length + 1) (xs' := evRow evs avs14 ++ ([.int .i64 e.src.v, .int .i64 e.seq.v, .int .i64 e.time.v, .string e.typ.v, .slice pp94 e.attrs.length cc95] : List Value)) (by omega) (by first | rfl | simp) rfl ?_; intro vv112 w113 H114 hn115
                      obtain ⟨pp116, cc117, rfl⟩ := Row.slice H114 (i := 2) rfl
                      change AnyG _ _ _ _ #[true, true, true, true, true, true, true, true, true, false, false, false] _ _
                      refine a_take 9 (listed' := #[true, true, true, true, true, true, true, true, true, true, false, false]) rfl (by kernel_rfl) (by kernel_rfl) (by kernel_rfl) rfl rfl rfl rfl (fun w => x_nilCheck (.pointer (some ⟨b, 0, none⟩)) rfl ⟨_, rfl⟩ w) ?_
                      refine a_take 10 (listed' := #[true, true, true, true, true, true, true, true, true, true, true, false]) rfl (by kernel_rfl) (by kernel_rfl) (by kernel_rfl) rfl rfl rfl rfl (fun w => x_fieldAddr 96 2 49 49 49 rfl fi_96_2 rfl w) ?_
                      refine a_all (rs := [11]) (by kernel_rfl) (by simp) ?_
                      refine a_cons ⟨_, rfl, ?_⟩ (fun x hx => absurd hx (by simp))
                      refine s_store H114 6 (.slice pp116 (evs.length + 1) cc117) rfl rfl rfl sz_49 rfl (by rw [st_size, (st_len_set (st_len_set h15))]; decide) rfl (st_setAll (st_len_set (st_len_set h15)) _ _ _) ?_; intro w118 H119
                      change AnyG _ _ _ _ #[true, true, true, true, true, true, true, true, true, true, true, true] _ _
                      refine a_done (by kernel_rfl) ?_
                      exact join54 (bk109, pp94, cc95, pp116, cc117) _ _ H119 ⟨rfl, trivial⟩
        · skip
          refine q_cons (q_val rfl rfl rfl (by intro w hw; exact x_neq true rfl rfl (nfalse hc28) w) ?_)
          refine q_cons (q_val rfl rfl rfl (by intro w hw; exact x_assign (.bool true) rfl w) ?_)
          refine q_nil ?_
          intro w120 H121
          refine g_true rfl ?_
          refine g_seq ?_
          refine g_region ?_
          refine r_cons (s_assign (.int .i64 42) rfl rfl ?_)
          refine r_nil ?_
          refine g_ret' [.int .i64 42] Try.func16 Try.results16 ⟨rfl, trivial⟩ ?_
          have H122 : St W w120 (Streams b many st evs :: blk bk1 (.cells #[.int .i64 e.src.v, .int .i64 e.seq.v, .int .i64 e.time.v, .string e.typ.v, av] 33 (0, 0)) :: Attrs av e.attrs :: (F.set i emp)) := St.shut_ex (.slice pp22 evs.length cc23, avs14) (St.shut_star (ls := [pure' (st.length = 16 ∧ 1 ≤ many ∧ many ≤ 16 ∧ (avs14).length = (evs).length), blk b (.cells (stCells many st (.slice pp22 evs.length cc23)) 96 (0, 0)), Row 33 5 (.slice pp22 evs.length cc23) evs.length (evRow evs avs14), star (evIms evs avs14)]) (St.shut_pure ⟨h15, hm16, hm17, hav18⟩ H121))
          have H123 : St W w120 (Streams b many st evs :: (F.set i emp)) := ((H122.drop 1 rfl).drop 1 rfl)
          have hA : acceptE many st evs.length e = 42 := by first | exact acceptE_1 ‹_› | exact acceptE_2 ‹_› ‹_› | exact acceptE_3 ‹_› ‹_› ‹_› | exact acceptE_4 ‹_› ‹_› ‹_› ‹_› | exact acceptE_5 ‹_› ‹_› ‹_› ‹_› ‹_› | exact acceptE_6 ‹_› ‹_› ‹_› ‹_› ‹_› ‹_›
          have hB : ¬ acceptE many st evs.length e = 0 := by rw [hA]; first | assumption | decide
          exact ⟨vint hA.symm, by rw [(accSt_no hB).1, (accSt_no hB).2]; exact St.back hi H123⟩
    · skip
      refine r_cons (s_call [.pointer (some ⟨b, 0, none⟩), .int .i64 e.src.v] pl_57 rfl rfl (Streams_of_out b many st evs e.src.v hc9 (i := 1) rfl H7) ?_)
      rintro _ w124 ⟨rfl, H125⟩
      refine r_cons (s_assign (.pointer none) rfl rfl ?_)
      refine r_nil ?_
      refine g_seq ?_
      refine g_block ?_
      refine g_seq ?_
      refine g_region ?_
      refine r_cons (s_move (.pointer none) rfl rfl ?_)
      refine r_cons (s_peql true un_100 rfl rfl rfl rfl ?_)
      refine r_cons (s_assign (.bool true) rfl rfl ?_)
      refine r_nil ?_
      refine g_true rfl ?_
      refine g_seq ?_
      refine g_region ?_
      refine r_cons (s_assign (.int .i64 40) rfl rfl ?_)
      refine r_nil ?_
      refine g_ret' [.int .i64 40] Try.func16 Try.results16 ⟨rfl, trivial⟩ ?_
      have H126 : St W w124 (Streams b many st evs :: (F.set i emp)) := (((H125.move 1 rfl).drop 1 rfl).drop 1 rfl)
      have hA : acceptE many st evs.length e = 40 := by first | exact acceptE_1 ‹_› | exact acceptE_2 ‹_› ‹_› | exact acceptE_3 ‹_› ‹_› ‹_› | exact acceptE_4 ‹_› ‹_› ‹_› ‹_› | exact acceptE_5 ‹_› ‹_› ‹_› ‹_› ‹_› | exact acceptE_6 ‹_› ‹_› ‹_› ‹_› ‹_› ‹_›
      have hB : ¬ acceptE many st evs.length e = 0 := by rw [hA]; first | assumption | decide
      exact ⟨vint hA.symm, by rw [(accSt_no hB).1, (accSt_no hB).2]; exact St.back hi H126⟩
  · skip
    refine r_cons (s_neq true rfl rfl (nfalse hc8) rfl ?_)
    refine r_nil ?_
    refine g_true rfl ?_
    refine g_seq ?_
    refine g_region ?_
    refine r_cons (s_move (.int .i64 (evE e)) rfl rfl ?_)
    refine r_cons (s_assign (.int .i64 (evE e)) rfl rfl ?_)
    refine r_nil ?_
    refine g_ret' [.int .i64 (evE e)] Try.func16 Try.results16 ⟨rfl, trivial⟩ ?_
    have H127 : St W w6 (Streams b many st evs :: (F.set i emp)) := (((H7.move 1 rfl).drop 1 rfl).drop 1 rfl)
    have hA : acceptE many st evs.length e = evE e := by first | exact acceptE_1 ‹_› | exact acceptE_2 ‹_› ‹_› | exact acceptE_3 ‹_› ‹_› ‹_› | exact acceptE_4 ‹_› ‹_› ‹_› ‹_› | exact acceptE_5 ‹_› ‹_› ‹_› ‹_› ‹_› | exact acceptE_6 ‹_› ‹_› ‹_› ‹_› ‹_› ‹_›
    have hB : ¬ acceptE many st evs.length e = 0 := by rw [hA]; first | assumption | decide
    exact ⟨vint hA.symm, by rw [(accSt_no hB).1, (accSt_no hB).2]; exact St.back hi H127⟩
set_option maxHeartbeats 4000000 in
set_option maxRecDepth 100000 in
theorem ref04_Same {W w : World} {F : List Atom} (a b : EvM) (av bv : Value) {j k : Nat} (hj : F[j]? = some (Attrs av a.attrs)) (hk : F[k]? = some (Attrs bv b.attrs)) (H : St W w F) : Calls Try.prog 20 #[.agg #[.int .i64 a.src.v, .int .i64 a.seq.v, .int .i64 a.time.v, .string a.typ.v, av], .agg #[.int .i64 b.src.v, .int .i64 b.seq.v, .int .i64 b.time.v, .string b.typ.v, bv]] w (Ret fun v w' => v = .bool (sameEv a b) ∧ St W w' F) := by
  have H0 := (H.dup hj (Attrs_pers _ _)).dup (i := k + 1) (by exact hk) (Attrs_pers _ _)
  refine calls_of_go (n := 31) Try.func20 rfl Try.ntmps20 rfl ?_
  refine g_seq ?_
  refine g_region ?_
  refine r_cons (s_box H0 33 (.agg #[.int .i64 a.src.v, .int .i64 a.seq.v, .int .i64 a.time.v, .string a.typ.v, av]) rfl (cs := #[.int .i64 a.src.v, .int .i64 a.seq.v, .int .i64 a.time.v, .string a.typ.v, av]) rfl rfl ?_); intro bk1 w2 H3
  refine r_cons (s_box H3 33 (.agg #[.int .i64 b.src.v, .int .i64 b.seq.v, .int .i64 b.time.v, .string b.typ.v, bv]) rfl (cs := #[.int .i64 b.src.v, .int .i64 b.seq.v, .int .i64 b.time.v, .string b.typ.v, bv]) rfl rfl ?_); intro bk4 w5 H6
  refine r_cons (s_assign (.bool false) rfl rfl ?_)
  refine r_nil ?_
  refine g_seq ?_
  refine g_region ?_
  refine r_cons (s_fieldAddr 33 0 0 0 30 rfl fi_33_0 rfl rfl ?_)
  refine r_cons (s_loadAgg [.int .i64 a.src.v, .int .i64 a.seq.v] 2 ag_30 rfl (H6.blk_at (i := 1) rfl) (Nat.le_of_ble_eq_true rfl) rfl rfl ?_)
  refine r_cons (s_fieldAddr 33 0 0 0 30 rfl fi_33_0 rfl rfl ?_)
  refine r_cons (s_loadAgg [.int .i64 b.src.v, .int .i64 b.seq.v] 2 ag_30 rfl (H6.blk_at (i := 0) rfl) (Nat.le_of_ble_eq_true rfl) rfl rfl ?_)
  refine r_cons (s_aeql ((decide (a.src.v = b.src.v) && (decide (a.seq.v = b.seq.v) && true))) gd_30 ev_30 rfl rfl rfl rfl ?_)
  refine r_cons (s_move (.bool (decide (a.src.v = b.src.v) && (decide (a.seq.v = b.seq.v) && true))) rfl rfl ?_)
  by_cases hb7 : ((decide (a.src.v = b.src.v) && (decide (a.seq.v = b.seq.v) && true))) = true
  · skip
    refine r_cons (r_take rfl (congrArg some hb7) ?_)
    refine s_fieldAddr 33 1 2 2 2 rfl fi_33_1 rfl rfl ?_
    refine r_cons (r_take rfl (congrArg some hb7) ?_)
    refine s_load (.int .i64 a.time.v) ag_2 rfl (H6.blk_at (i := 1) rfl) rfl rfl ?_
    refine r_cons (r_take rfl (congrArg some hb7) ?_)
    refine s_fieldAddr 33 1 2 2 2 rfl fi_33_1 rfl rfl ?_
    refine r_cons (r_take rfl (congrArg some hb7) ?_)
    refine s_load (.int .i64 b.time.v) ag_2 rfl (H6.blk_at (i := 0) rfl) rfl rfl ?_
    refine r_cons (r_take rfl (congrArg some hb7) ?_)
    by_cases hc8 : a.time.v = b.time.v
    · skip
      refine s_eql true rfl rfl (dtrue hc8) rfl ?_
      refine r_cons (s_pick_t (.bool true) (by exact congrArg Value.bool hb7) rfl rfl ?_)
      refine r_cons (s_move (.bool true) rfl rfl ?_)
      refine r_cons (r_take rfl rfl ?_)
      refine s_fieldAddr 33 2 3 3 9 rfl fi_33_2 rfl rfl ?_
      refine r_cons (r_take rfl rfl ?_)
      refine s_load (.string a.typ.v) ag_9 rfl (H6.blk_at (i := 1) rfl) rfl rfl ?_
      refine r_cons (r_take rfl rfl ?_)
      refine s_fieldAddr 33 2 3 3 9 rfl fi_33_2 rfl rfl ?_
      refine r_cons (r_take rfl rfl ?_)
      refine s_load (.string b.typ.v) ag_9 rfl (H6.blk_at (i := 0) rfl) rfl rfl ?_
      refine r_cons (r_take rfl rfl ?_)
      by_cases hc9 : a.typ.v = b.typ.v
      · skip
        refine s_seql true rfl rfl (dtrue hc9) rfl ?_
        refine r_cons (s_pick_t (.bool true) rfl rfl rfl ?_)
        refine r_cons (s_move (.bool true) rfl rfl ?_)
        refine r_cons (r_take rfl rfl ?_)
        refine s_fieldAddr 33 3 4 4 31 rfl fi_33_3 rfl rfl ?_
        refine r_cons (r_take rfl rfl ?_)
        refine s_load (av) ag_31 rfl (H6.blk_at (i := 1) rfl) rfl rfl ?_
        refine r_cons (r_take rfl rfl ?_)
        refine s_fieldAddr 33 3 4 4 31 rfl fi_33_3 rfl rfl ?_
        refine r_cons (r_take rfl rfl ?_)
        refine s_load (bv) ag_31 rfl (H6.blk_at (i := 0) rfl) rfl rfl ?_
        refine r_cons (r_take rfl rfl ?_)
        refine s_call [av, bv] pl_66 rfl rfl (ref03_SameAttrs a.attrs b.attrs av bv (j := 3) (k := 2) rfl rfl H6) ?_
        rintro _ w10 ⟨rfl, H11⟩
        refine r_cons (s_pick_t (.bool (sameAs a.attrs b.attrs)) rfl rfl rfl ?_)
        refine r_cons (s_assign (.bool (sameAs a.attrs b.attrs)) rfl rfl ?_)
        refine r_nil ?_
        refine g_ret' [.bool (sameAs a.attrs b.attrs)] Try.func20 Try.results20 ⟨rfl, trivial⟩ ?_
        have H12 : St W w10 F := ((((H11.drop 0 rfl).drop 0 rfl).drop 0 rfl).drop 0 rfl)
        exact ⟨congrArg Value.bool (by unfold sameEv; (try simp only [Bool.and_true, Bool.and_eq_true, Bool.and_eq_false_iff, decide_eq_true_eq, decide_eq_false_iff_not] at *); first | (simp_all; done) | (simp_all; omega)), H12⟩
      · skip
        refine s_seql false rfl rfl (dfalse hc9) rfl ?_
        refine r_cons (s_pick_t (.bool false) rfl rfl rfl ?_)
        refine r_cons (s_move (.bool false) rfl rfl ?_)
        refine r_cons (r_pass rfl rfl rfl rfl rfl ?_)
        refine r_cons (r_pass rfl rfl rfl rfl rfl ?_)
        refine r_cons (r_pass rfl rfl rfl rfl rfl ?_)
        refine r_cons (r_pass rfl rfl rfl rfl rfl ?_)
        refine r_cons (r_pass rfl rfl rfl rfl rfl ?_)
        refine r_cons (s_pick_f (.bool false) rfl rfl rfl ?_)
        refine r_cons (s_assign (.bool false) rfl rfl ?_)
        refine r_nil ?_
        refine g_ret' [.bool false] Try.func20 Try.results20 ⟨rfl, trivial⟩ ?_
        have H13 : St W w5 F := ((((H6.drop 0 rfl).drop 0 rfl).drop 0 rfl).drop 0 rfl)
        exact ⟨congrArg Value.bool (by unfold sameEv; (try simp only [Bool.and_true, Bool.and_eq_true, Bool.and_eq_false_iff, decide_eq_true_eq, decide_eq_false_iff_not] at *); first | (simp_all; done) | (simp_all; omega)), H13⟩
    · skip
      refine s_eql false rfl rfl (dfalse hc8) rfl ?_
      refine r_cons (s_pick_t (.bool false) (by exact congrArg Value.bool hb7) rfl rfl ?_)
      refine r_cons (s_move (.bool false) rfl rfl ?_)
      refine r_cons (r_pass rfl rfl rfl rfl rfl ?_)
      refine r_cons (r_pass rfl rfl rfl rfl rfl ?_)
      refine r_cons (r_pass rfl rfl rfl rfl rfl ?_)
      refine r_cons (r_pass rfl rfl rfl rfl rfl ?_)
      refine r_cons (r_pass rfl rfl rfl rfl rfl ?_)
      refine r_cons (s_pick_f (.bool false) rfl rfl rfl ?_)
      refine r_cons (s_move (.bool false) rfl rfl ?_)
      refine r_cons (r_pass rfl rfl rfl rfl rfl ?_)
      refine r_cons (r_pass rfl rfl rfl rfl rfl ?_)
      refine r_cons (r_pass rfl rfl rfl rfl rfl ?_)
      refine r_cons (r_pass rfl rfl rfl rfl rfl ?_)
      refine r_cons (r_pass rfl rfl rfl rfl rfl ?_)
      refine r_cons (s_pick_f (.bool false) rfl rfl rfl ?_)
      refine r_cons (s_assign (.bool false) rfl rfl ?_)
      refine r_nil ?_
      refine g_ret' [.bool false] Try.func20 Try.results20 ⟨rfl, trivial⟩ ?_
      have H14 : St W w5 F := ((((H6.drop 0 rfl).drop 0 rfl).drop 0 rfl).drop 0 rfl)
      exact ⟨congrArg Value.bool (by unfold sameEv; (try simp only [Bool.and_true, Bool.and_eq_true, Bool.and_eq_false_iff, decide_eq_true_eq, decide_eq_false_iff_not] at *); first | (simp_all; done) | (simp_all; omega)), H14⟩
  · have hb7 := eq_false_of_ne_true hb7
    refine r_cons (r_pass rfl (congrArg some hb7) rfl rfl rfl ?_)
    refine r_cons (r_pass rfl (congrArg some hb7) rfl rfl rfl ?_)
    refine r_cons (r_pass rfl (congrArg some hb7) rfl rfl rfl ?_)
    refine r_cons (r_pass rfl (congrArg some hb7) rfl rfl rfl ?_)
    refine r_cons (r_pass rfl (congrArg some hb7) rfl rfl rfl ?_)
    refine r_cons (s_pick_f (.bool false) (by exact congrArg Value.bool hb7) rfl rfl ?_)
    refine r_cons (s_move (.bool false) rfl rfl ?_)
    refine r_cons (r_pass rfl rfl rfl rfl rfl ?_)
    refine r_cons (r_pass rfl rfl rfl rfl rfl ?_)
    refine r_cons (r_pass rfl rfl rfl rfl rfl ?_)
    refine r_cons (r_pass rfl rfl rfl rfl rfl ?_)
    refine r_cons (r_pass rfl rfl rfl rfl rfl ?_)
    refine r_cons (s_pick_f (.bool false) rfl rfl rfl ?_)
    refine r_cons (s_move (.bool false) rfl rfl ?_)
    refine r_cons (r_pass rfl rfl rfl rfl rfl ?_)
    refine r_cons (r_pass rfl rfl rfl rfl rfl ?_)
    refine r_cons (r_pass rfl rfl rfl rfl rfl ?_)
    refine r_cons (r_pass rfl rfl rfl rfl rfl ?_)
    refine r_cons (r_pass rfl rfl rfl rfl rfl ?_)
    refine r_cons (s_pick_f (.bool false) rfl rfl rfl ?_)
    refine r_cons (s_assign (.bool false) rfl rfl ?_)
    refine r_nil ?_
    refine g_ret' [.bool false] Try.func20 Try.results20 ⟨rfl, trivial⟩ ?_
    have H15 : St W w5 F := ((((H6.drop 0 rfl).drop 0 rfl).drop 0 rfl).drop 0 rfl)
    exact ⟨congrArg Value.bool (by unfold sameEv; (try simp only [Bool.and_true, Bool.and_eq_true, Bool.and_eq_false_iff, decide_eq_true_eq, decide_eq_false_iff_not] at *); first | (simp_all; done) | (simp_all; omega)), H15⟩
set_option maxHeartbeats 4000000 in
set_option maxRecDepth 100000 in
theorem ref04_Clone {W w : World} {F : List Atom} (e : EvM) (av : Value) (hb : e.attrs.length * 48 ≤ 140737488355328) {j : Nat} (hj : F[j]? = some (Attrs av e.attrs)) (H : St W w F) : Calls Try.prog 55 #[.agg #[.int .i64 e.src.v, .int .i64 e.seq.v, .int .i64 e.time.v, .string e.typ.v, av]] w (Ret fun v w' => ∃ p c, v = .agg #[.int .i64 e.src.v, .int .i64 e.seq.v, .int .i64 e.time.v, .string e.typ.v, .slice p e.attrs.length c] ∧ St W w' (Attrs (.slice p e.attrs.length c) e.attrs :: F)) := by
  replace H := H.dup hj (Attrs_pers _ _)
  refine calls_of_go (n := 8) Try.func55 rfl Try.ntmps55 rfl ?_
  refine g_seq ?_
  refine g_region ?_
  refine r_cons (s_box H 33 (.agg #[.int .i64 e.src.v, .int .i64 e.seq.v, .int .i64 e.time.v, .string e.typ.v, av]) rfl (cs := #[.int .i64 e.src.v, .int .i64 e.seq.v, .int .i64 e.time.v, .string e.typ.v, av]) rfl rfl ?_); intro bk1 w2 H3
  refine r_cons (s_alloc H3 33 ze_33 rfl ?_); intro bk4 w5 H6
  refine r_nil ?_
  refine g_seq ?_
  refine g_region ?_
  refine r_cons (s_fieldAddr 33 3 4 4 31 rfl fi_33_3 rfl rfl ?_)
  refine r_cons (s_load (av) ag_31 rfl (H6.blk_at (i := 1) rfl) rfl rfl ?_)
  have H7 := Row.nil_intro H6 91 4
  refine r_cons (s_append H7 0 rfl rfl rfl (Im.rd H7 (i := 3) rfl) ap_31 (by decide) (by unfold maxLen; omega) (by omega) (n' := e.attrs.length) (xs' := e.attrs.flatMap attrCell) (by omega) (by first | rfl | simp) rfl ?_); intro vv8 w9 H10 hn11
  obtain ⟨pp12, cc13, rfl⟩ := Row.slice H10 (i := 0) rfl
  refine r_cons (s_fieldAddr 33 3 4 4 31 rfl fi_33_3 rfl rfl ?_)
  refine r_cons (s_store H10 2 (.slice pp12 e.attrs.length cc13) rfl rfl rfl sz_31 rfl (Nat.le_of_ble_eq_true rfl) rfl (cs' := #[.int .i64 e.src.v, .int .i64 e.seq.v, .int .i64 e.time.v, .string e.typ.v, .slice pp12 e.attrs.length cc13]) rfl ?_); intro w14 H15
  refine r_nil ?_
  refine g_seq ?_
  refine g_region ?_
  refine r_cons (s_loadAgg [.int .i64 e.src.v, .int .i64 e.seq.v, .int .i64 e.time.v, .string e.typ.v, .slice pp12 e.attrs.length cc13] 5 ag_33 rfl (H15.blk_at (i := 2) rfl) (Nat.le_of_ble_eq_true rfl) rfl rfl ?_)
  refine r_cons (s_storeAgg H15 1 #[.int .i64 e.src.v, .int .i64 e.seq.v, .int .i64 e.time.v, .string e.typ.v, .slice pp12 e.attrs.length cc13] 5 rfl rfl rfl sz_33 rfl (by simp [Value.oneCell']) (Nat.le_of_ble_eq_true rfl) (fun o h1 h2 => by first | (simp; done) | (simp; omega)) (cs' := #[.int .i64 e.src.v, .int .i64 e.seq.v, .int .i64 e.time.v, .string e.typ.v, .slice pp12 e.attrs.length cc13]) rfl ?_); intro w16 H17
  refine r_nil ?_
  refine g_ret' [.agg #[.int .i64 e.src.v, .int .i64 e.seq.v, .int .i64 e.time.v, .string e.typ.v, .slice pp12 e.attrs.length cc13]] Try.func55 Try.results55 ⟨(res_cellN rfl ag_33 (H17.blk_at (i := 1) rfl) (Nat.le_of_ble_eq_true rfl) rfl), trivial⟩ ?_
  have H18 : St W w16 (Row 91 4 (.slice pp12 e.attrs.length cc13) e.attrs.length (e.attrs.flatMap attrCell) :: F) := (((H17.drop 1 rfl).drop 1 rfl).drop 1 rfl)
  have H19 := Row.im H18 (i := 0) rfl
  exact ⟨_, _, rfl, H19⟩
set_option maxHeartbeats 4000000 in
set_option maxRecDepth 100000 in
theorem begun_one {W w : World} {F : List Atom} (s t : I64) (H : St W w F) : Calls Try.prog 56 #[.int .i64 s.v, .int .i64 t.v] w (Ret fun v w' => v = .agg #[.int .i64 ((bev s t).src.v), .int .i64 ((bev s t).seq.v), .int .i64 ((bev s t).time.v), .string ((bev s t).typ.v), .slice none 0 0] ∧ St W w' F) := by
  refine calls_of_go (n := 9) Try.func56 rfl Try.ntmps56 rfl ?_
  refine g_seq ?_
  refine g_region ?_
  refine r_cons (s_alloc H 33 ze_33 rfl ?_); intro bk1 w2 H3
  refine r_nil ?_
  refine g_seq ?_
  refine g_region ?_
  refine r_cons (s_move (.int .i64 s.v) rfl rfl ?_)
  refine r_cons (s_build (cs := #[.int .i64 0, .int .i64 s.v]) (by kernel_rfl) rfl ?_)
  refine r_cons (s_move (.int .i64 t.v) rfl rfl ?_)
  refine r_cons (s_build (cs := #[.int .i64 0, .int .i64 s.v, .int .i64 t.v, .string (⟨#[116]⟩), .slice none 0 0]) (by kernel_rfl) rfl ?_)
  refine r_cons (s_storeAgg H3 0 #[.int .i64 0, .int .i64 s.v, .int .i64 t.v, .string (⟨#[116]⟩), .slice none 0 0] 5 rfl rfl rfl sz_33 rfl (by simp [Value.oneCell']) (Nat.le_of_ble_eq_true rfl) (fun o h1 h2 => by first | (simp; done) | (simp; omega)) (cs' := #[.int .i64 0, .int .i64 s.v, .int .i64 t.v, .string (⟨#[116]⟩), .slice none 0 0]) rfl ?_); intro w4 H5
  refine r_nil ?_
  refine g_ret' [.agg #[.int .i64 0, .int .i64 s.v, .int .i64 t.v, .string (⟨#[116]⟩), .slice none 0 0]] Try.func56 Try.results56 ⟨(res_cellN rfl ag_33 (H5.blk_at (i := 0) rfl) (Nat.le_of_ble_eq_true rfl) rfl), trivial⟩ ?_
  have H6 : St W w4 F := (H5.drop 0 rfl)
  exact ⟨rfl, H6⟩
set_option maxHeartbeats 4000000 in
set_option maxRecDepth 100000 in
theorem begun_ {W w : World} {F : List Atom}  (H : St W w F) : Calls Try.prog 12 #[] w (Ret fun v w' => v = .bool true ∧ St W w' F) := by
  have H0 := Row.im (Row.nil_intro H 91 4) (i := 0) rfl
  refine calls_of_go (n := 50) Try.func12 rfl Try.ntmps12 rfl ?_
  refine g_seq ?_
  refine g_region ?_
  refine r_cons (s_assign (.bool false) rfl rfl ?_)
  refine r_nil ?_
  refine g_seq ?_
  refine g_region ?_
  refine r_cons (s_call [.int .i64 2] pl_11 rfl rfl (event_New 2 (by decide) H0) ?_)
  rintro _ w2 ⟨bk1, rfl, H3⟩
  refine r_cons (s_move (.tuple #[.pointer (some ⟨bk1, 0, none⟩), .int .i64 0]) rfl rfl ?_)
  refine r_cons (s_extract (.pointer (some ⟨bk1, 0, none⟩)) #[.pointer (some ⟨bk1, 0, none⟩), .int .i64 0] rfl rfl rfl ?_)
  refine r_cons (s_extract (.int .i64 0) #[.pointer (some ⟨bk1, 0, none⟩), .int .i64 0] rfl rfl rfl ?_)
  refine r_cons (s_assign (.pointer (some ⟨bk1, 0, none⟩)) rfl rfl ?_)
  refine r_cons (s_assign (.int .i64 0) rfl rfl ?_)
  refine r_nil ?_
  refine g_seq ?_
  refine g_seq ?_
  refine g_region ?_
  refine r_cons (s_move (.pointer (some ⟨bk1, 0, none⟩)) rfl rfl ?_)
  refine r_cons (s_peql false un_23 rfl rfl rfl rfl ?_)
  refine r_cons (s_move (.bool false) rfl rfl ?_)
  refine r_cons (r_take rfl rfl ?_)
  refine s_move (.int .i64 0) rfl rfl ?_
  refine r_cons (r_take rfl rfl ?_)
  refine s_neq false rfl rfl (ntrue (by decide)) rfl ?_
  refine r_cons (s_pick_f (.bool false) rfl rfl rfl ?_)
  refine r_nil ?_
  refine g_false rfl ?_
  refine g_skip ?_
  refine g_seq ?_
  refine g_region ?_
  refine r_cons (s_assign (.func (.func 56) #[] #[]) rfl rfl ?_)
  refine r_nil ?_
  refine g_seq ?_
  refine g_region ?_
  refine r_cons (s_move (.pointer (some ⟨bk1, 0, none⟩)) rfl rfl ?_)
  refine r_cons (s_move (.func (.func 56) #[] #[]) rfl rfl ?_)
  refine r_cons (s_callv [] [.int .i64 0, .int .i64 5] rfl pl_56 rfl rfl (begun_one (i64' 0) (i64' 5) H3) ?_)
  rintro _ w4 ⟨rfl, H5⟩
  refine r_cons (s_call [.pointer (some ⟨bk1, 0, none⟩), .agg #[.int .i64 ((bev (i64' 0) (i64' 5)).src.v), .int .i64 ((bev (i64' 0) (i64' 5)).seq.v), .int .i64 ((bev (i64' 0) (i64' 5)).time.v), .string ((bev (i64' 0) (i64' 5)).typ.v), .slice none 0 0]] pl_16 rfl rfl (Streams_Accept bk1 2 zeroSt [] (bev (i64' 0) (i64' 5)) (.slice none 0 0) (j := 1) rfl (i := 0) rfl H5) ?_)
  rintro _ w6 ⟨rfl, H7⟩
  refine r_cons (s_eql true rfl rfl (dtrue (by decide +kernel)) rfl ?_)
  refine r_cons (s_move (.bool true) rfl rfl ?_)
  refine r_cons (r_take rfl rfl ?_)
  refine s_move (.pointer (some ⟨bk1, 0, none⟩)) rfl rfl ?_
  refine r_cons (r_take rfl rfl ?_)
  refine s_move (.func (.func 56) #[] #[]) rfl rfl ?_
  refine r_cons (r_take rfl rfl ?_)
  refine s_callv [] [.int .i64 1, .int .i64 4] rfl pl_56 rfl rfl (begun_one (i64' 1) (i64' 4) H7) ?_
  rintro _ w8 ⟨rfl, H9⟩
  refine r_cons (r_take rfl rfl ?_)
  refine s_call [.pointer (some ⟨bk1, 0, none⟩), .agg #[.int .i64 ((bev (i64' 1) (i64' 4)).src.v), .int .i64 ((bev (i64' 1) (i64' 4)).seq.v), .int .i64 ((bev (i64' 1) (i64' 4)).time.v), .string ((bev (i64' 1) (i64' 4)).typ.v), .slice none 0 0]] pl_16 rfl rfl (Streams_Accept bk1 2 (accSt 2 zeroSt [] (bev (i64' 0) (i64' 5))) (accEvs 2 zeroSt [] (bev (i64' 0) (i64' 5))) (bev (i64' 1) (i64' 4)) (.slice none 0 0) (j := 1) rfl (i := 0) rfl H9) ?_
  rintro _ w10 ⟨rfl, H11⟩
  refine r_cons (r_take rfl rfl ?_)
  refine s_eql true rfl rfl (dtrue (by decide +kernel)) rfl ?_
  refine r_cons (s_pick_t (.bool true) rfl rfl rfl ?_)
  refine r_cons (s_move (.bool true) rfl rfl ?_)
  refine r_cons (r_take rfl rfl ?_)
  refine s_move (.pointer (some ⟨bk1, 0, none⟩)) rfl rfl ?_
  refine r_cons (r_take rfl rfl ?_)
  refine s_move (.func (.func 56) #[] #[]) rfl rfl ?_
  refine r_cons (r_take rfl rfl ?_)
  refine s_callv [] [.int .i64 2, .int .i64 6] rfl pl_56 rfl rfl (begun_one (i64' 2) (i64' 6) H11) ?_
  rintro _ w12 ⟨rfl, H13⟩
  refine r_cons (r_take rfl rfl ?_)
  refine s_call [.pointer (some ⟨bk1, 0, none⟩), .agg #[.int .i64 ((bev (i64' 2) (i64' 6)).src.v), .int .i64 ((bev (i64' 2) (i64' 6)).seq.v), .int .i64 ((bev (i64' 2) (i64' 6)).time.v), .string ((bev (i64' 2) (i64' 6)).typ.v), .slice none 0 0]] pl_16 rfl rfl (Streams_Accept bk1 2 (accSt 2 (accSt 2 zeroSt [] (bev (i64' 0) (i64' 5))) (accEvs 2 zeroSt [] (bev (i64' 0) (i64' 5))) (bev (i64' 1) (i64' 4))) (accEvs 2 (accSt 2 zeroSt [] (bev (i64' 0) (i64' 5))) (accEvs 2 zeroSt [] (bev (i64' 0) (i64' 5))) (bev (i64' 1) (i64' 4))) (bev (i64' 2) (i64' 6)) (.slice none 0 0) (j := 1) rfl (i := 0) rfl H13) ?_
  rintro _ w14 ⟨rfl, H15⟩
  refine r_cons (r_take rfl rfl ?_)
  refine s_eql true rfl rfl (dtrue (by decide +kernel)) rfl ?_
  refine r_cons (s_pick_t (.bool true) rfl rfl rfl ?_)
  refine r_cons (s_move (.bool true) rfl rfl ?_)
  refine r_cons (r_take rfl rfl ?_)
  refine s_move (.pointer (some ⟨bk1, 0, none⟩)) rfl rfl ?_
  refine r_cons (r_take rfl rfl ?_)
  refine s_move (.func (.func 56) #[] #[]) rfl rfl ?_
  refine r_cons (r_take rfl rfl ?_)
  refine s_callv [] [.int .i64 1, .int .i64 5] rfl pl_56 rfl rfl (begun_one (i64' 1) (i64' 5) H15) ?_
  rintro _ w16 ⟨rfl, H17⟩
  refine r_cons (r_take rfl rfl ?_)
  refine s_call [.pointer (some ⟨bk1, 0, none⟩), .agg #[.int .i64 ((bev (i64' 1) (i64' 5)).src.v), .int .i64 ((bev (i64' 1) (i64' 5)).seq.v), .int .i64 ((bev (i64' 1) (i64' 5)).time.v), .string ((bev (i64' 1) (i64' 5)).typ.v), .slice none 0 0]] pl_16 rfl rfl (Streams_Accept bk1 2 (accSt 2 (accSt 2 (accSt 2 zeroSt [] (bev (i64' 0) (i64' 5))) (accEvs 2 zeroSt [] (bev (i64' 0) (i64' 5))) (bev (i64' 1) (i64' 4))) (accEvs 2 (accSt 2 zeroSt [] (bev (i64' 0) (i64' 5))) (accEvs 2 zeroSt [] (bev (i64' 0) (i64' 5))) (bev (i64' 1) (i64' 4))) (bev (i64' 2) (i64' 6))) (accEvs 2 (accSt 2 (accSt 2 zeroSt [] (bev (i64' 0) (i64' 5))) (accEvs 2 zeroSt [] (bev (i64' 0) (i64' 5))) (bev (i64' 1) (i64' 4))) (accEvs 2 (accSt 2 zeroSt [] (bev (i64' 0) (i64' 5))) (accEvs 2 zeroSt [] (bev (i64' 0) (i64' 5))) (bev (i64' 1) (i64' 4))) (bev (i64' 2) (i64' 6))) (bev (i64' 1) (i64' 5)) (.slice none 0 0) (j := 1) rfl (i := 0) rfl H17) ?_
  rintro _ w18 ⟨rfl, H19⟩
  refine r_cons (r_take rfl rfl ?_)
  refine s_eql true rfl rfl (dtrue (by decide +kernel)) rfl ?_
  refine r_cons (s_pick_t (.bool true) rfl rfl rfl ?_)
  refine r_cons (s_move (.bool true) rfl rfl ?_)
  refine r_cons (r_take rfl rfl ?_)
  refine s_move (.pointer (some ⟨bk1, 0, none⟩)) rfl rfl ?_
  refine r_cons (r_take rfl rfl ?_)
  refine s_call [.pointer (some ⟨bk1, 0, none⟩), .int .i64 0] pl_13 rfl rfl (Streams_Mark bk1 2 (accSt 2 (accSt 2 (accSt 2 (accSt 2 zeroSt [] (bev (i64' 0) (i64' 5))) (accEvs 2 zeroSt [] (bev (i64' 0) (i64' 5))) (bev (i64' 1) (i64' 4))) (accEvs 2 (accSt 2 zeroSt [] (bev (i64' 0) (i64' 5))) (accEvs 2 zeroSt [] (bev (i64' 0) (i64' 5))) (bev (i64' 1) (i64' 4))) (bev (i64' 2) (i64' 6))) (accEvs 2 (accSt 2 (accSt 2 zeroSt [] (bev (i64' 0) (i64' 5))) (accEvs 2 zeroSt [] (bev (i64' 0) (i64' 5))) (bev (i64' 1) (i64' 4))) (accEvs 2 (accSt 2 zeroSt [] (bev (i64' 0) (i64' 5))) (accEvs 2 zeroSt [] (bev (i64' 0) (i64' 5))) (bev (i64' 1) (i64' 4))) (bev (i64' 2) (i64' 6))) (bev (i64' 1) (i64' 5))) (accEvs 2 (accSt 2 (accSt 2 (accSt 2 zeroSt [] (bev (i64' 0) (i64' 5))) (accEvs 2 zeroSt [] (bev (i64' 0) (i64' 5))) (bev (i64' 1) (i64' 4))) (accEvs 2 (accSt 2 zeroSt [] (bev (i64' 0) (i64' 5))) (accEvs 2 zeroSt [] (bev (i64' 0) (i64' 5))) (bev (i64' 1) (i64' 4))) (bev (i64' 2) (i64' 6))) (accEvs 2 (accSt 2 (accSt 2 zeroSt [] (bev (i64' 0) (i64' 5))) (accEvs 2 zeroSt [] (bev (i64' 0) (i64' 5))) (bev (i64' 1) (i64' 4))) (accEvs 2 (accSt 2 zeroSt [] (bev (i64' 0) (i64' 5))) (accEvs 2 zeroSt [] (bev (i64' 0) (i64' 5))) (bev (i64' 1) (i64' 4))) (bev (i64' 2) (i64' 6))) (bev (i64' 1) (i64' 5))) (0 : Int) (i := 0) rfl H19) ?_
  rintro _ w20 ⟨rfl, H21⟩
  refine r_cons (r_take rfl rfl ?_)
  refine s_eql true rfl rfl (dtrue (by decide +kernel)) rfl ?_
  refine r_cons (s_pick_t (.bool true) rfl rfl rfl ?_)
  refine r_cons (s_move (.bool true) rfl rfl ?_)
  refine r_cons (r_take rfl rfl ?_)
  refine s_move (.pointer (some ⟨bk1, 0, none⟩)) rfl rfl ?_
  refine r_cons (r_take rfl rfl ?_)
  refine s_call [.pointer (some ⟨bk1, 0, none⟩)] pl_32 rfl rfl (Streams_Len bk1 2 (accSt 2 (accSt 2 (accSt 2 (accSt 2 zeroSt [] (bev (i64' 0) (i64' 5))) (accEvs 2 zeroSt [] (bev (i64' 0) (i64' 5))) (bev (i64' 1) (i64' 4))) (accEvs 2 (accSt 2 zeroSt [] (bev (i64' 0) (i64' 5))) (accEvs 2 zeroSt [] (bev (i64' 0) (i64' 5))) (bev (i64' 1) (i64' 4))) (bev (i64' 2) (i64' 6))) (accEvs 2 (accSt 2 (accSt 2 zeroSt [] (bev (i64' 0) (i64' 5))) (accEvs 2 zeroSt [] (bev (i64' 0) (i64' 5))) (bev (i64' 1) (i64' 4))) (accEvs 2 (accSt 2 zeroSt [] (bev (i64' 0) (i64' 5))) (accEvs 2 zeroSt [] (bev (i64' 0) (i64' 5))) (bev (i64' 1) (i64' 4))) (bev (i64' 2) (i64' 6))) (bev (i64' 1) (i64' 5))) (accEvs 2 (accSt 2 (accSt 2 (accSt 2 zeroSt [] (bev (i64' 0) (i64' 5))) (accEvs 2 zeroSt [] (bev (i64' 0) (i64' 5))) (bev (i64' 1) (i64' 4))) (accEvs 2 (accSt 2 zeroSt [] (bev (i64' 0) (i64' 5))) (accEvs 2 zeroSt [] (bev (i64' 0) (i64' 5))) (bev (i64' 1) (i64' 4))) (bev (i64' 2) (i64' 6))) (accEvs 2 (accSt 2 (accSt 2 zeroSt [] (bev (i64' 0) (i64' 5))) (accEvs 2 zeroSt [] (bev (i64' 0) (i64' 5))) (bev (i64' 1) (i64' 4))) (accEvs 2 (accSt 2 zeroSt [] (bev (i64' 0) (i64' 5))) (accEvs 2 zeroSt [] (bev (i64' 0) (i64' 5))) (bev (i64' 1) (i64' 4))) (bev (i64' 2) (i64' 6))) (bev (i64' 1) (i64' 5)))  (i := 0) rfl H21) ?_
  rintro _ w22 ⟨rfl, H23⟩
  refine r_cons (r_take rfl rfl ?_)
  refine s_eql true rfl rfl (dtrue (by decide +kernel)) rfl ?_
  refine r_cons (s_pick_t (.bool true) rfl rfl rfl ?_)
  refine r_cons (s_assign (.bool true) rfl rfl ?_)
  refine r_nil ?_
  refine g_ret' [.bool true] Try.func12 Try.results12 ⟨rfl, trivial⟩ ?_
  have H24 : St W w22 F := ((H23.drop 0 rfl).drop 0 rfl)
  exact ⟨rfl, H24⟩
/-- What a closure over events has captured. -/
def AllA (g : Nat) (evs : List EvM) : Atom := ex fun q : (Option Addr × Nat) × List EvD => star [pure' (q.2.map EvD.ev = evs), blk g (.cells #[.slice q.1.1 evs.length q.1.2] 49 (0, 0)), Row 33 5 (.slice q.1.1 evs.length q.1.2) evs.length (q.2.flatMap evdCell), evA q.2]
set_option maxHeartbeats 4000000 in
set_option maxRecDepth 100000 in
theorem Streams_All {W w : World} {F : List Atom} (b : Nat) (many : Int) (st : List S3) (evs : List EvM) (hne : ∀ e ∈ evs, evE e = 0) (hnl : evs.length ≤ 65536) {i : Nat} (hi : F[i]? = some (Streams b many st evs)) (H : St W w F) : Calls Try.prog 34 #[.pointer (some ⟨b, 0, none⟩)] w (Ret fun v w' => ∃ g, v = .func (.func 72) #[] #[.pointer (some ⟨g, 0, none⟩)] ∧ St W w' (AllA g evs :: F)) := by
  have H0 := H.front hi
  refine calls_of_go (n := 25) Try.func34 rfl Try.ntmps34 rfl ?_
  refine g_seq ?_
  refine g_region ?_
  refine r_cons (s_assign (.nilFunc) rfl rfl ?_)
  refine r_nil ?_
  refine g_seq ?_
  refine g_region ?_
  refine r_cons (s_alloc H0 49 ze_49 rfl ?_); intro bk1 w2 H3
  refine r_nil ?_
  refine g_seq ?_
  refine g_seq ?_
  refine g_region ?_
  refine r_cons (s_move (.pointer (some ⟨b, 0, none⟩)) rfl rfl ?_)
  refine r_cons (s_call [.pointer (some ⟨b, 0, none⟩)] pl_58 rfl rfl (Streams_none b many st evs  (i := 1) rfl H3) ?_)
  rintro _ w4 ⟨rfl, H5⟩
  refine r_cons (s_not false rfl true rfl rfl ?_)
  refine r_nil ?_
  refine g_true rfl ?_
  refine g_seq ?_
  refine g_region ?_
  refine r_cons (s_move (.pointer (some ⟨b, 0, none⟩)) rfl rfl ?_)
  refine r_cons (s_nilCheck (.pointer (some ⟨b, 0, none⟩)) rfl ⟨_, rfl⟩ rfl ?_)
  refine r_cons (s_fieldAddr 96 2 49 49 49 rfl fi_96_2 rfl rfl ?_)
  have H6 := H5.move 1 rfl
  obtain ⟨⟨vv7, avs8⟩, H13⟩ := St.open_ex H6
  obtain ⟨⟨h9, hm10, hm11, hav12⟩, H14⟩ := St.open_pure (St.open_star H13)
  dsimp only at hav12 H14
  obtain ⟨pp16, cc17, rfl⟩ := Row.slice (i := 1) H14 rfl
  have H18 : St W w4 (blk b (.cells (stCells many st (.slice pp16 evs.length cc17)) 96 (0, 0)) :: Row 33 5 (.slice pp16 evs.length cc17) evs.length (evRow evs avs8) :: star (evIms evs avs8) :: blk bk1 (.cells #[.slice none 0 0] 49 (0, 0)) :: (F.set i emp)) := H14
  refine r_cons (s_load (.slice pp16 evs.length cc17) ag_49 rfl (H18.blk_at (i := 0) rfl) (st_all h9 _ _) rfl ?_)
  refine r_cons (s_len evs.length rfl ⟨_, un_49⟩ rfl ?_)
  refine r_cons (s_move (.int .i64 0) rfl rfl ?_)
  refine r_nil ?_
  refine g_block ?_
  obtain ⟨L19, ⟨hL20, hR21⟩, H22⟩ := evd_of hav12 H18 (i := 2) rfl
  have H23 : St W w4 (evA L19 :: blk b (.cells (stCells many st (.slice pp16 evs.length cc17)) 96 (0, 0)) :: Row 33 5 (.slice pp16 evs.length cc17) evs.length (L19.flatMap evdCell) :: star (evIms evs avs8) :: blk bk1 (.cells #[.slice none 0 0] 49 (0, 0)) :: (F.set i emp)) := by rw [← hR21]; exact H22
  have hl0 : L19.length = evs.length := by rw [← hL20, List.length_map]
  have H24 := Row.nil_intro H23 33 5
  have H25 := evA_nil H24
  have H26 : St W w4 (blk bk1 (.cells #[.slice none 0 0] 49 (0, 0)) :: Row 33 5 (.slice none 0 0) 0 [] :: evA [] :: blk b (.cells (stCells many st (.slice pp16 evs.length cc17)) 96 (0, 0)) :: Row 33 5 (.slice pp16 evs.length cc17) evs.length (L19.flatMap evdCell) :: star (evIms evs avs8) :: evA L19 :: (F.set i emp)) := (((((((H25.move 2 rfl).move 5 rfl).move 5 rfl).move 5 rfl).move 4 rfl).move 5 rfl).move 6 rfl)
  refine g_loop_inv (fun (x_ : Nat × (List EvD) × (Option Addr) × Nat) => match x_ with | (j, pre, q, c) => [(2, .nilFunc), (3, .pointer (some ⟨bk1, 0, none⟩)), (12, .slice pp16 evs.length cc17), (13, .int .i64 (evs.length : Int)), (14, .int .i64 (j : Int))]) (fun (x_ : Nat × (List EvD) × (Option Addr) × Nat) w => match x_ with | (j, pre, q, c) => (j ≤ evs.length) ∧ (pre.map EvD.ev = evs.take j) ∧ St W w (blk bk1 (.cells #[.slice q j c] 49 (0, 0)) :: Row 33 5 (.slice q j c) j (pre.flatMap evdCell) :: evA pre :: blk b (.cells (stCells many st (.slice pp16 evs.length cc17)) 96 (0, 0)) :: Row 33 5 (.slice pp16 evs.length cc17) evs.length (L19.flatMap evdCell) :: star (evIms evs avs8) :: evA L19 :: (F.set i emp))) (fun (x_ : Nat × (List EvD) × (Option Addr) × Nat) => match x_ with | (j, pre, q, c) => evs.length - j) (0, [], none, 0) ?_ ?_ ?_
  · exact ⟨by first | rfl | exact vint (by omega), by first | rfl | exact vint (by omega), by first | rfl | exact vint (by omega), by first | rfl | exact vint (by omega), by first | rfl | exact vint (by omega), trivial⟩
  · exact ⟨(by omega), (by simp), H26⟩
  · rintro ⟨j, pre, q, c⟩ ρ27 w28 ⟨hjn, hpj, H29⟩ nx30
    change Ends _ _ (upds ρ27 [(2, .nilFunc), (3, .pointer (some ⟨bk1, 0, none⟩)), (12, .slice pp16 evs.length cc17), (13, .int .i64 (evs.length : Int)), (14, .int .i64 (j : Int))]) w28
    refine g_seq ?_
    refine g_region ?_
    by_cases hc31 : (j : Int) < (evs.length : Int)
    · skip
      refine r_cons (s_lss true rfl rfl (dtrue hc31) rfl ?_)
      refine r_nil ?_
      refine g_seq ?_
      refine g_true rfl ?_
      refine g_skip ?_
      refine g_seq ?_
      refine g_block ?_
      refine g_seq ?_
      refine g_region ?_
      have hab := ev_bound hne hL20 (j := j) (by omega)
      have H32 := evA_at H29 (i := 6) rfl (j := j) (by omega)
      obtain ⟨bk33, cur34, hp35, hl36, hx37, hs38, H39, hcl40⟩ := Row.openL (f := evdCell) evdCell_len (by decide) (L := L19) H32 (i := 5) rfl (by omega)
      refine r_cons (s_indexAddr bk33 (off := 0) (j : Int) 5 (0 + j * 5) (by exact congrArg (fun z_ => Value.slice z_ evs.length cc17) ((fun (_ : 0 < 1) => hp35) (by omega))) rfl el_49 (by omega) rfl rfl ?_)
      refine r_cons (s_loadAgg [.int .i64 ((L19.getD j default).ev.src.v), .int .i64 ((L19.getD j default).ev.seq.v), .int .i64 ((L19.getD j default).ev.time.v), .string ((L19.getD j default).ev.typ.v), .slice ((L19.getD j default).p) ((L19.getD j default).ev.attrs.length) ((L19.getD j default).c)] 5 ag_33 rfl (H39.blk_at (i := 5) rfl) (by have := elem_size (i := j) (s := 5) hs38 (by have hh : L19.length = evs.length := hl36; omega); omega) (elem_take evdCell_len hx37 (by have hh : L19.length = evs.length := hl36; omega) default) rfl ?_)
      refine r_cons (s_alloc H39 33 ze_33 rfl ?_); intro bk41 w42 H43
      refine r_cons (s_storeAgg H43 0 #[.int .i64 ((L19.getD j default).ev.src.v), .int .i64 ((L19.getD j default).ev.seq.v), .int .i64 ((L19.getD j default).ev.time.v), .string ((L19.getD j default).ev.typ.v), .slice ((L19.getD j default).p) ((L19.getD j default).ev.attrs.length) ((L19.getD j default).c)] 5 rfl rfl rfl sz_33 rfl (by simp [Value.oneCell']) (Nat.le_of_ble_eq_true rfl) (fun o h1 h2 => by first | (simp; done) | (simp; omega)) (cs' := #[.int .i64 ((L19.getD j default).ev.src.v), .int .i64 ((L19.getD j default).ev.seq.v), .int .i64 ((L19.getD j default).ev.time.v), .string ((L19.getD j default).ev.typ.v), .slice ((L19.getD j default).p) ((L19.getD j default).ev.attrs.length) ((L19.getD j default).c)]) rfl ?_); intro w44 H45
      refine r_nil ?_
      refine g_cut (fun (x : Option Addr × Nat × Nat × Option Addr × Nat) => match x with | (pp46, cc47, bk50, pp57, cc58) => [(2, .nilFunc), (3, .pointer (some ⟨bk1, 0, none⟩)), (12, .slice pp16 evs.length cc17), (13, .int .i64 (evs.length : Int)), (14, .int .i64 (j : Int)), (15, .bool true), (16, .pointer (some ⟨bk33, 0 + j * 5, none⟩)), (17, .agg #[.int .i64 ((L19.getD j default).ev.src.v), .int .i64 ((L19.getD j default).ev.seq.v), .int .i64 ((L19.getD j default).ev.time.v), .string ((L19.getD j default).ev.typ.v), .slice ((L19.getD j default).p) ((L19.getD j default).ev.attrs.length) ((L19.getD j default).c)]), (5, .pointer (some ⟨bk41, 0, none⟩)), (18, .slice q j c), (19, .agg #[.int .i64 ((L19.getD j default).ev.src.v), .int .i64 ((L19.getD j default).ev.seq.v), .int .i64 ((L19.getD j default).ev.time.v), .string ((L19.getD j default).ev.typ.v), .slice ((L19.getD j default).p) ((L19.getD j default).ev.attrs.length) ((L19.getD j default).c)]), (20, .agg #[.int .i64 ((L19.getD j default).ev.src.v), .int .i64 ((L19.getD j default).ev.seq.v), .int .i64 ((L19.getD j default).ev.time.v), .string ((L19.getD j default).ev.typ.v), .slice pp46 ((L19.getD j default).ev.attrs.length) cc47]), (21, .slice (some ⟨bk50, 0, none⟩) 1 1), (22, .slice pp57 (j + 1) cc58)]) (fun (x : Option Addr × Nat × Nat × Option Addr × Nat) w => match x with | (pp46, cc47, bk50, pp57, cc58) => St W w (blk bk50 (.cells #[.int .i64 ((L19.getD j default).ev.src.v), .int .i64 ((L19.getD j default).ev.seq.v), .int .i64 ((L19.getD j default).ev.time.v), .string ((L19.getD j default).ev.typ.v), .slice pp46 ((L19.getD j default).ev.attrs.length) cc47] 33 (0, 0)) :: Attrs (.slice pp46 ((L19.getD j default).ev.attrs.length) cc47) ((L19.getD j default).ev.attrs) :: blk bk41 (.cells #[.int .i64 ((L19.getD j default).ev.src.v), .int .i64 ((L19.getD j default).ev.seq.v), .int .i64 ((L19.getD j default).ev.time.v), .string ((L19.getD j default).ev.typ.v), .slice ((L19.getD j default).p) ((L19.getD j default).ev.attrs.length) ((L19.getD j default).c)] 33 (0, 0)) :: Attrs (.slice ((L19.getD j default).p) ((L19.getD j default).ev.attrs.length) ((L19.getD j default).c)) ((L19.getD j default).ev.attrs) :: blk bk1 (.cells #[.slice pp57 (j + 1) cc58] 49 (0, 0)) :: Row 33 5 (.slice pp57 (j + 1) cc58) (j + 1) (pre.flatMap evdCell ++ ([.int .i64 ((L19.getD j default).ev.src.v), .int .i64 ((L19.getD j default).ev.seq.v), .int .i64 ((L19.getD j default).ev.time.v), .string ((L19.getD j default).ev.typ.v), .slice pp46 ((L19.getD j default).ev.attrs.length) cc47] : List Value)) :: evA pre :: blk b (.cells (stCells many st (.slice pp16 evs.length cc17)) 96 (0, 0)) :: blk bk33 (.cells cur34 33 (0, 0)) :: star (evIms evs avs8) :: evA L19 :: (F.set i emp))) ?_ ?_
      · rintro ⟨pp46, cc47, bk50, pp57, cc58⟩ ρ49 w47 H48
        change Ends _ _ (upds ρ49 [(2, .nilFunc), (3, .pointer (some ⟨bk1, 0, none⟩)), (12, .slice pp16 evs.length cc17), (13, .int .i64 (evs.length : Int)), (14, .int .i64 (j : Int)), (15, .bool true), (16, .pointer (some ⟨bk33, 0 + j * 5, none⟩)), (17, .agg #[.int .i64 ((L19.getD j default).ev.src.v), .int .i64 ((L19.getD j default).ev.seq.v), .int .i64 ((L19.getD j default).ev.time.v), .string ((L19.getD j default).ev.typ.v), .slice ((L19.getD j default).p) ((L19.getD j default).ev.attrs.length) ((L19.getD j default).c)]), (5, .pointer (some ⟨bk41, 0, none⟩)), (18, .slice q j c), (19, .agg #[.int .i64 ((L19.getD j default).ev.src.v), .int .i64 ((L19.getD j default).ev.seq.v), .int .i64 ((L19.getD j default).ev.time.v), .string ((L19.getD j default).ev.typ.v), .slice ((L19.getD j default).p) ((L19.getD j default).ev.attrs.length) ((L19.getD j default).c)]), (20, .agg #[.int .i64 ((L19.getD j default).ev.src.v), .int .i64 ((L19.getD j default).ev.seq.v), .int .i64 ((L19.getD j default).ev.time.v), .string ((L19.getD j default).ev.typ.v), .slice pp46 ((L19.getD j default).ev.attrs.length) cc47]), (21, .slice (some ⟨bk50, 0, none⟩) 1 1), (22, .slice pp57 (j + 1) cc58)]) w47
        refine g_inBlock ?_
        refine g_region ?_
        refine r_cons (s_add ((j : Int) + 1) rfl rfl (wi64 (by omega)) rfl ?_)
        refine r_cons (s_move (.int .i64 ((j : Int) + 1)) rfl rfl ?_)
        refine r_nil ?_
        have H50 : St W w47 (blk bk50 (.cells #[.int .i64 ((L19.getD j default).ev.src.v), .int .i64 ((L19.getD j default).ev.seq.v), .int .i64 ((L19.getD j default).ev.time.v), .string ((L19.getD j default).ev.typ.v), .slice pp46 ((L19.getD j default).ev.attrs.length) cc47] 33 (0, 0)) :: Attrs (.slice pp46 ((L19.getD j default).ev.attrs.length) cc47) ((L19.getD j default).ev.attrs) :: blk bk41 (.cells #[.int .i64 ((L19.getD j default).ev.src.v), .int .i64 ((L19.getD j default).ev.seq.v), .int .i64 ((L19.getD j default).ev.time.v), .string ((L19.getD j default).ev.typ.v), .slice ((L19.getD j default).p) ((L19.getD j default).ev.attrs.length) ((L19.getD j default).c)] 33 (0, 0)) :: Attrs (.slice ((L19.getD j default).p) ((L19.getD j default).ev.attrs.length) ((L19.getD j default).c)) ((L19.getD j default).ev.attrs) :: blk bk1 (.cells #[.slice pp57 (j + 1) cc58] 49 (0, 0)) :: Row 33 5 (.slice pp57 (j + 1) cc58) (j + 1) (pre.flatMap evdCell ++ ([.int .i64 ((L19.getD j default).ev.src.v), .int .i64 ((L19.getD j default).ev.seq.v), .int .i64 ((L19.getD j default).ev.time.v), .string ((L19.getD j default).ev.typ.v), .slice pp46 ((L19.getD j default).ev.attrs.length) cc47] : List Value)) :: evA pre :: blk b (.cells (stCells many st (.slice pp16 evs.length cc17)) 96 (0, 0)) :: Row 33 5 (.slice pp16 evs.length cc17) evs.length (L19.flatMap evdCell) :: star (evIms evs avs8) :: evA L19 :: (F.set i emp)) := hcl40 8 H48 rfl
        have H51 : St W w47 (Attrs (.slice pp46 ((L19.getD j default).ev.attrs.length) cc47) ((L19.getD j default).ev.attrs) :: evA pre :: blk bk50 (.cells #[.int .i64 ((L19.getD j default).ev.src.v), .int .i64 ((L19.getD j default).ev.seq.v), .int .i64 ((L19.getD j default).ev.time.v), .string ((L19.getD j default).ev.typ.v), .slice pp46 ((L19.getD j default).ev.attrs.length) cc47] 33 (0, 0)) :: blk bk41 (.cells #[.int .i64 ((L19.getD j default).ev.src.v), .int .i64 ((L19.getD j default).ev.seq.v), .int .i64 ((L19.getD j default).ev.time.v), .string ((L19.getD j default).ev.typ.v), .slice ((L19.getD j default).p) ((L19.getD j default).ev.attrs.length) ((L19.getD j default).c)] 33 (0, 0)) :: Attrs (.slice ((L19.getD j default).p) ((L19.getD j default).ev.attrs.length) ((L19.getD j default).c)) ((L19.getD j default).ev.attrs) :: blk bk1 (.cells #[.slice pp57 (j + 1) cc58] 49 (0, 0)) :: Row 33 5 (.slice pp57 (j + 1) cc58) (j + 1) (pre.flatMap evdCell ++ ([.int .i64 ((L19.getD j default).ev.src.v), .int .i64 ((L19.getD j default).ev.seq.v), .int .i64 ((L19.getD j default).ev.time.v), .string ((L19.getD j default).ev.typ.v), .slice pp46 ((L19.getD j default).ev.attrs.length) cc47] : List Value)) :: blk b (.cells (stCells many st (.slice pp16 evs.length cc17)) 96 (0, 0)) :: Row 33 5 (.slice pp16 evs.length cc17) evs.length (L19.flatMap evdCell) :: star (evIms evs avs8) :: evA L19 :: (F.set i emp)) := ((H50.move 6 rfl).move 2 rfl)
        have H52 : St W w47 (evA (pre ++ [(⟨(L19.getD j default).ev, pp46, cc47⟩ : EvD)]) :: blk bk50 (.cells #[.int .i64 ((L19.getD j default).ev.src.v), .int .i64 ((L19.getD j default).ev.seq.v), .int .i64 ((L19.getD j default).ev.time.v), .string ((L19.getD j default).ev.typ.v), .slice pp46 ((L19.getD j default).ev.attrs.length) cc47] 33 (0, 0)) :: blk bk41 (.cells #[.int .i64 ((L19.getD j default).ev.src.v), .int .i64 ((L19.getD j default).ev.seq.v), .int .i64 ((L19.getD j default).ev.time.v), .string ((L19.getD j default).ev.typ.v), .slice ((L19.getD j default).p) ((L19.getD j default).ev.attrs.length) ((L19.getD j default).c)] 33 (0, 0)) :: Attrs (.slice ((L19.getD j default).p) ((L19.getD j default).ev.attrs.length) ((L19.getD j default).c)) ((L19.getD j default).ev.attrs) :: blk bk1 (.cells #[.slice pp57 (j + 1) cc58] 49 (0, 0)) :: Row 33 5 (.slice pp57 (j + 1) cc58) (j + 1) (pre.flatMap evdCell ++ ([.int .i64 ((L19.getD j default).ev.src.v), .int .i64 ((L19.getD j default).ev.seq.v), .int .i64 ((L19.getD j default).ev.time.v), .string ((L19.getD j default).ev.typ.v), .slice pp46 ((L19.getD j default).ev.attrs.length) cc47] : List Value)) :: blk b (.cells (stCells many st (.slice pp16 evs.length cc17)) 96 (0, 0)) :: Row 33 5 (.slice pp16 evs.length cc17) evs.length (L19.flatMap evdCell) :: star (evIms evs avs8) :: evA L19 :: (F.set i emp)) := evA_snoc (e := (⟨(L19.getD j default).ev, pp46, cc47⟩ : EvD)) H51
        have H53 : St W w47 (evA (pre ++ [(⟨(L19.getD j default).ev, pp46, cc47⟩ : EvD)]) :: blk bk50 (.cells #[.int .i64 ((L19.getD j default).ev.src.v), .int .i64 ((L19.getD j default).ev.seq.v), .int .i64 ((L19.getD j default).ev.time.v), .string ((L19.getD j default).ev.typ.v), .slice pp46 ((L19.getD j default).ev.attrs.length) cc47] 33 (0, 0)) :: blk bk41 (.cells #[.int .i64 ((L19.getD j default).ev.src.v), .int .i64 ((L19.getD j default).ev.seq.v), .int .i64 ((L19.getD j default).ev.time.v), .string ((L19.getD j default).ev.typ.v), .slice ((L19.getD j default).p) ((L19.getD j default).ev.attrs.length) ((L19.getD j default).c)] 33 (0, 0)) :: Attrs (.slice ((L19.getD j default).p) ((L19.getD j default).ev.attrs.length) ((L19.getD j default).c)) ((L19.getD j default).ev.attrs) :: blk bk1 (.cells #[.slice pp57 (j + 1) cc58] 49 (0, 0)) :: Row 33 5 (.slice pp57 (j + 1) cc58) (j + 1) ((pre ++ [(⟨(L19.getD j default).ev, pp46, cc47⟩ : EvD)]).flatMap evdCell) :: blk b (.cells (stCells many st (.slice pp16 evs.length cc17)) 96 (0, 0)) :: Row 33 5 (.slice pp16 evs.length cc17) evs.length (L19.flatMap evdCell) :: star (evIms evs avs8) :: evA L19 :: (F.set i emp)) := by rw [flat_snocE]; exact H52
        have H54 : St W w47 (blk bk1 (.cells #[.slice pp57 (j + 1) cc58] 49 (0, 0)) :: Row 33 5 (.slice pp57 (j + 1) cc58) (j + 1) ((pre ++ [(⟨(L19.getD j default).ev, pp46, cc47⟩ : EvD)]).flatMap evdCell) :: evA (pre ++ [(⟨(L19.getD j default).ev, pp46, cc47⟩ : EvD)]) :: blk b (.cells (stCells many st (.slice pp16 evs.length cc17)) 96 (0, 0)) :: Row 33 5 (.slice pp16 evs.length cc17) evs.length (L19.flatMap evdCell) :: star (evIms evs avs8) :: evA L19 :: (F.set i emp)) := ((((((((((H53.move 9 rfl).move 9 rfl).move 9 rfl).move 9 rfl).move 4 rfl).move 9 rfl).move 9 rfl).drop 7 rfl).drop 7 rfl).drop 7 rfl)
        exact nx30 (j + 1, (pre ++ [(⟨(L19.getD j default).ev, pp46, cc47⟩ : EvD)]), pp57, cc58) _ _ ⟨(by omega), (ok_step (x := (⟨(L19.getD j default).ev, pp46, cc47⟩ : EvD)) hpj hL20 (by omega) rfl).1, H54⟩ (by first | (dsimp only; omega) | omega) ⟨by first | rfl | exact vint (by omega), by first | rfl | exact vint (by omega), by first | rfl | exact vint (by omega), by first | rfl | exact vint (by omega), by first | rfl | exact vint (by omega), trivial⟩
      · intro join46
        refine g_any mixed 6 rfl ?_
        intro w55 hw56
        have H57 := H45.drew
        rw [← hw56] at H57
        clear hw56
        refine a_all (rs := [0, 1]) (by kernel_rfl) (by simp) ?_
        refine a_cons ⟨_, rfl, ?_⟩ (a_cons ⟨_, rfl, ?_⟩ (fun x hx => absurd hx (by simp)))
        · skip
          refine s_load (.slice q j c) ag_49 rfl (H57.blk_at (i := 2) rfl) rfl rfl ?_
          change AnyG _ _ _ _ #[true, false, false, false, false, false] _ _
          refine a_all (rs := [1]) (by kernel_rfl) (by simp) ?_
          refine a_cons ⟨_, rfl, ?_⟩ (fun x hx => absurd hx (by simp))
          refine s_loadAgg [.int .i64 ((L19.getD j default).ev.src.v), .int .i64 ((L19.getD j default).ev.seq.v), .int .i64 ((L19.getD j default).ev.time.v), .string ((L19.getD j default).ev.typ.v), .slice ((L19.getD j default).p) ((L19.getD j default).ev.attrs.length) ((L19.getD j default).c)] 5 ag_33 rfl (H57.blk_at (i := 0) rfl) (Nat.le_of_ble_eq_true rfl) rfl rfl ?_
          change AnyG _ _ _ _ #[true, true, false, false, false, false] _ _
          refine a_all (rs := [2]) (by kernel_rfl) (by simp) ?_
          refine a_cons ⟨_, rfl, ?_⟩ (fun x hx => absurd hx (by simp))
          refine s_call [.agg #[.int .i64 ((L19.getD j default).ev.src.v), .int .i64 ((L19.getD j default).ev.seq.v), .int .i64 ((L19.getD j default).ev.time.v), .string ((L19.getD j default).ev.typ.v), .slice ((L19.getD j default).p) ((L19.getD j default).ev.attrs.length) ((L19.getD j default).c)]] pl_23 rfl rfl (event_Clone ((L19.getD j default).ev) (.slice ((L19.getD j default).p) ((L19.getD j default).ev.attrs.length) ((L19.getD j default).c)) (by omega) (j := 1) rfl H57) ?_
          rintro _ w60 ⟨pp58, cc59, rfl, H61⟩
          change AnyG _ _ _ _ #[true, true, true, false, false, false] _ _
          refine a_all (rs := [3]) (by kernel_rfl) (by simp) ?_
          refine a_cons ⟨_, rfl, ?_⟩ (fun x hx => absurd hx (by simp))
          refine s_buildSlice H61 5 1 (cs := #[.int .i64 ((L19.getD j default).ev.src.v), .int .i64 ((L19.getD j default).ev.seq.v), .int .i64 ((L19.getD j default).ev.time.v), .string ((L19.getD j default).ev.typ.v), .slice pp58 ((L19.getD j default).ev.attrs.length) cc59]) #[.int .i64 0, .int .i64 0, .int .i64 0, .string ByteArray.empty, .slice none 0 0] el_49 ze_33 (by decide) (by decide) (by kernel_rfl) rfl ?_; intro bk62 w63 H64
          change AnyG _ _ _ _ #[true, true, true, true, false, false] _ _
          refine a_all (rs := [4]) (by kernel_rfl) (by simp) ?_
          refine a_cons ⟨_, rfl, ?_⟩ (fun x hx => absurd hx (by simp))
          refine s_append H64 5 rfl rfl rfl (rd_blk (H64.blk_at (i := 0) rfl) rfl (Nat.le_of_ble_eq_true rfl) (by simp [Value.oneCell'])) ap_49 (by decide) (by unfold maxLen; omega) (by omega) (n' := j + 1) (xs' := pre.flatMap evdCell ++ ([.int .i64 ((L19.getD j default).ev.src.v), .int .i64 ((L19.getD j default).ev.seq.v), .int .i64 ((L19.getD j default).ev.time.v), .string ((L19.getD j default).ev.typ.v), .slice pp58 ((L19.getD j default).ev.attrs.length) cc59] : List Value)) (by omega) (by first | rfl | simp) rfl ?_; intro vv65 w66 H67 hn68
          obtain ⟨pp69, cc70, rfl⟩ := Row.slice H67 (i := 5) rfl
          change AnyG _ _ _ _ #[true, true, true, true, true, false] _ _
          refine a_all (rs := [5]) (by kernel_rfl) (by simp) ?_
          refine a_cons ⟨_, rfl, ?_⟩ (fun x hx => absurd hx (by simp))
          refine s_store H67 4 (.slice pp69 (j + 1) cc70) rfl rfl rfl sz_49 rfl (Nat.le_of_ble_eq_true rfl) rfl (cs' := #[.slice pp69 (j + 1) cc70]) rfl ?_; intro w71 H72
          change AnyG _ _ _ _ #[true, true, true, true, true, true] _ _
          refine a_done (by kernel_rfl) ?_
          exact join46 (pp58, cc59, bk62, pp69, cc70) _ _ H72 ⟨rfl, rfl, rfl, rfl, rfl, rfl, rfl, rfl, rfl, rfl, rfl, rfl, rfl, rfl, trivial⟩
        · skip
          refine s_loadAgg [.int .i64 ((L19.getD j default).ev.src.v), .int .i64 ((L19.getD j default).ev.seq.v), .int .i64 ((L19.getD j default).ev.time.v), .string ((L19.getD j default).ev.typ.v), .slice ((L19.getD j default).p) ((L19.getD j default).ev.attrs.length) ((L19.getD j default).c)] 5 ag_33 rfl (H57.blk_at (i := 0) rfl) (Nat.le_of_ble_eq_true rfl) rfl rfl ?_
          change AnyG _ _ _ _ #[false, true, false, false, false, false] _ _
          refine a_all (rs := [0, 2]) (by kernel_rfl) (by simp) ?_
          refine a_cons ⟨_, rfl, ?_⟩ (a_cons ⟨_, rfl, ?_⟩ (fun x hx => absurd hx (by simp)))
          · skip
            refine s_load (.slice q j c) ag_49 rfl (H57.blk_at (i := 2) rfl) rfl rfl ?_
            change AnyG _ _ _ _ #[true, true, false, false, false, false] _ _
            refine a_all (rs := [2]) (by kernel_rfl) (by simp) ?_
            refine a_cons ⟨_, rfl, ?_⟩ (fun x hx => absurd hx (by simp))
            refine s_call [.agg #[.int .i64 ((L19.getD j default).ev.src.v), .int .i64 ((L19.getD j default).ev.seq.v), .int .i64 ((L19.getD j default).ev.time.v), .string ((L19.getD j default).ev.typ.v), .slice ((L19.getD j default).p) ((L19.getD j default).ev.attrs.length) ((L19.getD j default).c)]] pl_23 rfl rfl (event_Clone ((L19.getD j default).ev) (.slice ((L19.getD j default).p) ((L19.getD j default).ev.attrs.length) ((L19.getD j default).c)) (by omega) (j := 1) rfl H57) ?_
            rintro _ w75 ⟨pp73, cc74, rfl, H76⟩
            change AnyG _ _ _ _ #[true, true, true, false, false, false] _ _
            refine a_all (rs := [3]) (by kernel_rfl) (by simp) ?_
            refine a_cons ⟨_, rfl, ?_⟩ (fun x hx => absurd hx (by simp))
            refine s_buildSlice H76 5 1 (cs := #[.int .i64 ((L19.getD j default).ev.src.v), .int .i64 ((L19.getD j default).ev.seq.v), .int .i64 ((L19.getD j default).ev.time.v), .string ((L19.getD j default).ev.typ.v), .slice pp73 ((L19.getD j default).ev.attrs.length) cc74]) #[.int .i64 0, .int .i64 0, .int .i64 0, .string ByteArray.empty, .slice none 0 0] el_49 ze_33 (by decide) (by decide) (by kernel_rfl) rfl ?_; intro bk77 w78 H79
            change AnyG _ _ _ _ #[true, true, true, true, false, false] _ _
            refine a_all (rs := [4]) (by kernel_rfl) (by simp) ?_
            refine a_cons ⟨_, rfl, ?_⟩ (fun x hx => absurd hx (by simp))
            refine s_append H79 5 rfl rfl rfl (rd_blk (H79.blk_at (i := 0) rfl) rfl (Nat.le_of_ble_eq_true rfl) (by simp [Value.oneCell'])) ap_49 (by decide) (by unfold maxLen; omega) (by omega) (n' := j + 1) (xs' := pre.flatMap evdCell ++ ([.int .i64 ((L19.getD j default).ev.src.v), .int .i64 ((L19.getD j default).ev.seq.v), .int .i64 ((L19.getD j default).ev.time.v), .string ((L19.getD j default).ev.typ.v), .slice pp73 ((L19.getD j default).ev.attrs.length) cc74] : List Value)) (by omega) (by first | rfl | simp) rfl ?_; intro vv80 w81 H82 hn83
            obtain ⟨pp84, cc85, rfl⟩ := Row.slice H82 (i := 5) rfl
            change AnyG _ _ _ _ #[true, true, true, true, true, false] _ _
            refine a_all (rs := [5]) (by kernel_rfl) (by simp) ?_
            refine a_cons ⟨_, rfl, ?_⟩ (fun x hx => absurd hx (by simp))
            refine s_store H82 4 (.slice pp84 (j + 1) cc85) rfl rfl rfl sz_49 rfl (Nat.le_of_ble_eq_true rfl) rfl (cs' := #[.slice pp84 (j + 1) cc85]) rfl ?_; intro w86 H87
            change AnyG _ _ _ _ #[true, true, true, true, true, true] _ _
            refine a_done (by kernel_rfl) ?_
            exact join46 (pp73, cc74, bk77, pp84, cc85) _ _ H87 ⟨rfl, rfl, rfl, rfl, rfl, rfl, rfl, rfl, rfl, rfl, rfl, rfl, rfl, rfl, trivial⟩
          · skip
            refine s_call [.agg #[.int .i64 ((L19.getD j default).ev.src.v), .int .i64 ((L19.getD j default).ev.seq.v), .int .i64 ((L19.getD j default).ev.time.v), .string ((L19.getD j default).ev.typ.v), .slice ((L19.getD j default).p) ((L19.getD j default).ev.attrs.length) ((L19.getD j default).c)]] pl_23 rfl rfl (event_Clone ((L19.getD j default).ev) (.slice ((L19.getD j default).p) ((L19.getD j default).ev.attrs.length) ((L19.getD j default).c)) (by omega) (j := 1) rfl H57) ?_
            rintro _ w90 ⟨pp88, cc89, rfl, H91⟩
            change AnyG _ _ _ _ #[false, true, true, false, false, false] _ _
            refine a_all (rs := [0, 3]) (by kernel_rfl) (by simp) ?_
            refine a_cons ⟨_, rfl, ?_⟩ (a_cons ⟨_, rfl, ?_⟩ (fun x hx => absurd hx (by simp)))
            · skip
              refine s_load (.slice q j c) ag_49 rfl (H91.blk_at (i := 3) rfl) rfl rfl ?_
              change AnyG _ _ _ _ #[true, true, true, false, false, false] _ _
              refine a_all (rs := [3]) (by kernel_rfl) (by simp) ?_
              refine a_cons ⟨_, rfl, ?_⟩ (fun x hx => absurd hx (by simp))
              refine s_buildSlice H91 5 1 (cs := #[.int .i64 ((L19.getD j default).ev.src.v), .int .i64 ((L19.getD j default).ev.seq.v), .int .i64 ((L19.getD j default).ev.time.v), .string ((L19.getD j default).ev.typ.v), .slice pp88 ((L19.getD j default).ev.attrs.length) cc89]) #[.int .i64 0, .int .i64 0, .int .i64 0, .string ByteArray.empty, .slice none 0 0] el_49 ze_33 (by decide) (by decide) (by kernel_rfl) rfl ?_; intro bk92 w93 H94
              change AnyG _ _ _ _ #[true, true, true, true, false, false] _ _
              refine a_all (rs := [4]) (by kernel_rfl) (by simp) ?_
              refine a_cons ⟨_, rfl, ?_⟩ (fun x hx => absurd hx (by simp))
              refine s_append H94 5 rfl rfl rfl (rd_blk (H94.blk_at (i := 0) rfl) rfl (Nat.le_of_ble_eq_true rfl) (by simp [Value.oneCell'])) ap_49 (by decide) (by unfold maxLen; omega) (by omega) (n' := j + 1) (xs' := pre.flatMap evdCell ++ ([.int .i64 ((L19.getD j default).ev.src.v), .int .i64 ((L19.getD j default).ev.seq.v), .int .i64 ((L19.getD j default).ev.time.v), .string ((L19.getD j default).ev.typ.v), .slice pp88 ((L19.getD j default).ev.attrs.length) cc89] : List Value)) (by omega) (by first | rfl | simp) rfl ?_; intro vv95 w96 H97 hn98
              obtain ⟨pp99, cc100, rfl⟩ := Row.slice H97 (i := 5) rfl
              change AnyG _ _ _ _ #[true, true, true, true, true, false] _ _
              refine a_all (rs := [5]) (by kernel_rfl) (by simp) ?_
              refine a_cons ⟨_, rfl, ?_⟩ (fun x hx => absurd hx (by simp))
              refine s_store H97 4 (.slice pp99 (j + 1) cc100) rfl rfl rfl sz_49 rfl (Nat.le_of_ble_eq_true rfl) rfl (cs' := #[.slice pp99 (j + 1) cc100]) rfl ?_; intro w101 H102
              change AnyG _ _ _ _ #[true, true, true, true, true, true] _ _
              refine a_done (by kernel_rfl) ?_
              exact join46 (pp88, cc89, bk92, pp99, cc100) _ _ H102 ⟨rfl, rfl, rfl, rfl, rfl, rfl, rfl, rfl, rfl, rfl, rfl, rfl, rfl, rfl, trivial⟩
            · skip
              refine s_buildSlice H91 5 1 (cs := #[.int .i64 ((L19.getD j default).ev.src.v), .int .i64 ((L19.getD j default).ev.seq.v), .int .i64 ((L19.getD j default).ev.time.v), .string ((L19.getD j default).ev.typ.v), .slice pp88 ((L19.getD j default).ev.attrs.length) cc89]) #[.int .i64 0, .int .i64 0, .int .i64 0, .string ByteArray.empty, .slice none 0 0] el_49 ze_33 (by decide) (by decide) (by kernel_rfl) rfl ?_; intro bk103 w104 H105
              change AnyG _ _ _ _ #[false, true, true, true, false, false] _ _
              refine a_all (rs := [0]) (by kernel_rfl) (by simp) ?_
              refine a_cons ⟨_, rfl, ?_⟩ (fun x hx => absurd hx (by simp))
              refine s_load (.slice q j c) ag_49 rfl (H105.blk_at (i := 4) rfl) rfl rfl ?_
              change AnyG _ _ _ _ #[true, true, true, true, false, false] _ _
              refine a_all (rs := [4]) (by kernel_rfl) (by simp) ?_
              refine a_cons ⟨_, rfl, ?_⟩ (fun x hx => absurd hx (by simp))
              refine s_append H105 5 rfl rfl rfl (rd_blk (H105.blk_at (i := 0) rfl) rfl (Nat.le_of_ble_eq_true rfl) (by simp [Value.oneCell'])) ap_49 (by decide) (by unfold maxLen; omega) (by omega) (n' := j + 1) (xs' := pre.flatMap evdCell ++ ([.int .i64 ((L19.getD j default).ev.src.v), .int .i64 ((L19.getD j default).ev.seq.v), .int .i64 ((L19.getD j default).ev.time.v), .string ((L19.getD j default).ev.typ.v), .slice pp88 ((L19.getD j default).ev.attrs.length) cc89] : List Value)) (by omega) (by first | rfl | simp) rfl ?_; intro vv106 w107 H108 hn109
              obtain ⟨pp110, cc111, rfl⟩ := Row.slice H108 (i := 5) rfl
              change AnyG _ _ _ _ #[true, true, true, true, true, false] _ _
              refine a_all (rs := [5]) (by kernel_rfl) (by simp) ?_
              refine a_cons ⟨_, rfl, ?_⟩ (fun x hx => absurd hx (by simp))
              refine s_store H108 4 (.slice pp110 (j + 1) cc111) rfl rfl rfl sz_49 rfl (Nat.le_of_ble_eq_true rfl) rfl (cs' := #[.slice pp110 (j + 1) cc111]) rfl ?_; intro w112 H113
              change AnyG _ _ _ _ #[true, true, true, true, true, true] _ _
              refine a_done (by kernel_rfl) ?_
              exact join46 (pp88, cc89, bk103, pp110, cc111) _ _ H113 ⟨rfl, rfl, rfl, rfl, rfl, rfl, rfl, rfl, rfl, rfl, rfl, rfl, rfl, rfl, trivial⟩
    · skip
      refine r_cons (s_lss false rfl rfl (dfalse hc31) rfl ?_)
      refine r_nil ?_
      refine g_seq ?_
      refine g_false rfl ?_
      refine g_exit (by rfl) ?_
      refine g_seq ?_
      refine g_region ?_
      refine r_cons (s_makeFunc (.func (.func 72) #[] #[.pointer (some ⟨bk1, 0, none⟩)]) rfl rfl ?_)
      refine r_cons (s_assign (.func (.func 72) #[] #[.pointer (some ⟨bk1, 0, none⟩)]) rfl rfl ?_)
      refine r_nil ?_
      refine g_ret' [.func (.func 72) #[] #[.pointer (some ⟨bk1, 0, none⟩)]] Try.func34 Try.results34 ⟨rfl, trivial⟩ ?_
      have hje : j = evs.length := by omega
      subst hje
      have hpe : pre.map EvD.ev = evs := by rw [hpj, List.take_length]
      have H114 : St W w28 (blk bk1 (.cells #[.slice q evs.length c] 49 (0, 0)) :: Row 33 5 (.slice q evs.length c) evs.length (pre.flatMap evdCell) :: evA pre :: blk b (.cells (stCells many st (.slice pp16 evs.length cc17)) 96 (0, 0)) :: Row 33 5 (.slice pp16 evs.length cc17) evs.length (L19.flatMap evdCell) :: star (evIms evs avs8) :: evA L19 :: (F.set i emp)) := H29
      have H115 : St W w28 (AllA bk1 evs :: blk b (.cells (stCells many st (.slice pp16 evs.length cc17)) 96 (0, 0)) :: Row 33 5 (.slice pp16 evs.length cc17) evs.length (L19.flatMap evdCell) :: star (evIms evs avs8) :: evA L19 :: (F.set i emp)) := St.shut_ex ((q, c), pre) (St.shut_star (ls := [pure' (pre.map EvD.ev = evs), blk bk1 (.cells #[.slice q evs.length c] 49 (0, 0)), Row 33 5 (.slice q evs.length c) evs.length (pre.flatMap evdCell), evA pre]) (St.shut_pure hpe H114))
      have H116 : St W w28 (AllA bk1 evs :: blk b (.cells (stCells many st (.slice pp16 evs.length cc17)) 96 (0, 0)) :: Row 33 5 (.slice pp16 evs.length cc17) evs.length (evRow evs avs8) :: star (evIms evs avs8) :: evA L19 :: (F.set i emp)) := by rw [hR21]; exact H115
      have H117 : St W w28 (blk b (.cells (stCells many st (.slice pp16 evs.length cc17)) 96 (0, 0)) :: Row 33 5 (.slice pp16 evs.length cc17) evs.length (evRow evs avs8) :: star (evIms evs avs8) :: AllA bk1 evs :: evA L19 :: (F.set i emp)) := (((((H116.move 4 rfl).move 1 rfl).move 4 rfl).move 4 rfl).move 4 rfl)
      have H118 : St W w28 (Streams b many st evs :: AllA bk1 evs :: evA L19 :: (F.set i emp)) := St.shut_ex (.slice pp16 evs.length cc17, avs8) (St.shut_star (ls := [pure' (st.length = 16 ∧ 1 ≤ many ∧ many ≤ 16 ∧ (avs8).length = (evs).length), blk b (.cells (stCells many st (.slice pp16 evs.length cc17)) 96 (0, 0)), Row 33 5 (.slice pp16 evs.length cc17) evs.length (evRow evs avs8), star (evIms evs avs8)]) (St.shut_pure ⟨h9, hm10, hm11, hav12⟩ H117))
      have H119 : St W w28 (Streams b many st evs :: AllA bk1 evs :: (F.set i emp)) := (((H118.move 1 rfl).move 1 rfl).drop 2 rfl)
      have H120 : St W w28 (Streams b many st evs :: (AllA bk1 evs :: F).set (i + 1) emp) := H119
      exact ⟨bk1, rfl, St.back_same (i := i + 1) (by exact hi) H120⟩
set_option maxHeartbeats 4000000 in
set_option maxRecDepth 100000 in
theorem Streams_All1 {W w : World} {F : List Atom} (g l : Nat) (evs : List EvM) (J Jx : List EvD → Atom) (hne : ∀ e ∈ evs, evE e = 0) (hnl : evs.length ≤ 65536) {i : Nat} (hi : F[i]? = some (AllA g evs)) (hY : ∀ w G pre (x : EvD), (pre ++ [x]).map EvD.ev <+: evs → St W w (J pre :: Attrs x.av x.ev.attrs :: G) → YieldAt Try.prog l [.agg #[.int .i64 x.ev.src.v, .int .i64 x.ev.seq.v, .int .i64 x.ev.time.v, .string x.ev.typ.v, .slice x.p x.ev.attrs.length x.c]] w (fun v w' => (v = .bool true ∧ St W w' (J (pre ++ [x]) :: G)) ∨ (v = .bool false ∧ St W w' (Jx (pre ++ [x]) :: G)))) (H : St W w (J [] :: F)) : Calls Try.prog 72 #[.func (.yield l) #[] #[], .pointer (some ⟨g, 0, none⟩)] w (Ret fun v w' => ∃ L : List EvD, (L.map EvD.ev = evs ∧ St W w' (J L :: F)) ∨ (L.map EvD.ev <+: evs ∧ St W w' (Jx L :: F))) := by
  have H0 := H.front (i := i + 1) (by exact hi)
  refine calls_of_go (n := 17) Try.func72 rfl Try.ntmps72 rfl ?_
  refine g_seq ?_
  refine g_region ?_
  have H1 := H0.move 0 rfl
  obtain ⟨⟨⟨pp2, cc3⟩, L4⟩, H5⟩ := St.open_ex H1
  obtain ⟨hL7, H6⟩ := St.open_pure (St.open_star H5)
  dsimp only at hL7 H6
  have H8 : St W w (blk g (.cells #[.slice pp2 evs.length cc3] 49 (0, 0)) :: Row 33 5 (.slice pp2 evs.length cc3) evs.length (L4.flatMap evdCell) :: evA L4 :: J [] :: (F.set i emp)) := H6
  refine r_cons (s_load (.slice pp2 evs.length cc3) ag_49 rfl (H8.blk_at (i := 0) rfl) rfl rfl ?_)
  refine r_cons (s_len evs.length rfl ⟨_, un_49⟩ rfl ?_)
  refine r_cons (s_move (.int .i64 0) rfl rfl ?_)
  refine r_nil ?_
  refine g_block ?_
  have hl0 : L4.length = evs.length := by rw [← hL7, List.length_map]
  have H9 : St W w (J [] :: blk g (.cells #[.slice pp2 evs.length cc3] 49 (0, 0)) :: Row 33 5 (.slice pp2 evs.length cc3) evs.length (L4.flatMap evdCell) :: evA L4 :: (F.set i emp)) := ((((H8.move 2 rfl).move 2 rfl).move 2 rfl).move 3 rfl)
  refine g_loop_inv (fun (x_ : Nat × (List EvD)) => match x_ with | (j, pre) => [(0, .func (.yield l) #[] #[]), (5, .slice pp2 evs.length cc3), (6, .int .i64 (evs.length : Int)), (7, .int .i64 (j : Int))]) (fun (x_ : Nat × (List EvD)) w => match x_ with | (j, pre) => (j ≤ evs.length) ∧ (pre.map EvD.ev = evs.take j) ∧ St W w (J pre :: blk g (.cells #[.slice pp2 evs.length cc3] 49 (0, 0)) :: Row 33 5 (.slice pp2 evs.length cc3) evs.length (L4.flatMap evdCell) :: evA L4 :: (F.set i emp))) (fun (x_ : Nat × (List EvD)) => match x_ with | (j, pre) => evs.length - j) (0, []) ?_ ?_ ?_
  · exact ⟨by first | rfl | exact vint (by omega), by first | rfl | exact vint (by omega), by first | rfl | exact vint (by omega), by first | rfl | exact vint (by omega), trivial⟩
  · exact ⟨(by omega), (by simp), H9⟩
  · rintro ⟨j, pre⟩ ρ10 w11 ⟨hjn, hpj, H12⟩ nx13
    change Ends _ _ (upds ρ10 [(0, .func (.yield l) #[] #[]), (5, .slice pp2 evs.length cc3), (6, .int .i64 (evs.length : Int)), (7, .int .i64 (j : Int))]) w11
    refine g_seq ?_
    refine g_region ?_
    by_cases hc14 : (j : Int) < (evs.length : Int)
    · skip
      refine r_cons (s_lss true rfl rfl (dtrue hc14) rfl ?_)
      refine r_nil ?_
      refine g_seq ?_
      refine g_true rfl ?_
      refine g_skip ?_
      refine g_seq ?_
      refine g_block ?_
      refine g_seq ?_
      refine g_region ?_
      have hab := ev_bound hne hL7 (j := j) (by omega)
      have H15 := evA_at H12 (i := 3) rfl (j := j) (by omega)
      obtain ⟨bk16, cur17, hp18, hl19, hx20, hs21, H22, hcl23⟩ := Row.openL (f := evdCell) evdCell_len (by decide) (L := L4) H15 (i := 3) rfl (by omega)
      refine r_cons (s_indexAddr bk16 (off := 0) (j : Int) 5 (0 + j * 5) (by exact congrArg (fun z_ => Value.slice z_ evs.length cc3) ((fun (_ : 0 < 1) => hp18) (by omega))) rfl el_49 (by omega) rfl rfl ?_)
      refine r_cons (s_loadAgg [.int .i64 ((L4.getD j default).ev.src.v), .int .i64 ((L4.getD j default).ev.seq.v), .int .i64 ((L4.getD j default).ev.time.v), .string ((L4.getD j default).ev.typ.v), .slice ((L4.getD j default).p) ((L4.getD j default).ev.attrs.length) ((L4.getD j default).c)] 5 ag_33 rfl (H22.blk_at (i := 3) rfl) (by have := elem_size (i := j) (s := 5) hs21 (by have hh : L4.length = evs.length := hl19; omega); omega) (elem_take evdCell_len hx20 (by have hh : L4.length = evs.length := hl19; omega) default) rfl ?_)
      refine r_cons (s_alloc H22 33 ze_33 rfl ?_); intro bk24 w25 H26
      refine r_cons (s_storeAgg H26 0 #[.int .i64 ((L4.getD j default).ev.src.v), .int .i64 ((L4.getD j default).ev.seq.v), .int .i64 ((L4.getD j default).ev.time.v), .string ((L4.getD j default).ev.typ.v), .slice ((L4.getD j default).p) ((L4.getD j default).ev.attrs.length) ((L4.getD j default).c)] 5 rfl rfl rfl sz_33 rfl (by simp [Value.oneCell']) (Nat.le_of_ble_eq_true rfl) (fun o h1 h2 => by first | (simp; done) | (simp; omega)) (cs' := #[.int .i64 ((L4.getD j default).ev.src.v), .int .i64 ((L4.getD j default).ev.seq.v), .int .i64 ((L4.getD j default).ev.time.v), .string ((L4.getD j default).ev.typ.v), .slice ((L4.getD j default).p) ((L4.getD j default).ev.attrs.length) ((L4.getD j default).c)]) rfl ?_); intro w27 H28
      refine r_nil ?_
      refine g_seq ?_
      refine g_region ?_
      refine r_cons (s_move (.func (.yield l) #[] #[]) rfl rfl ?_)
      refine r_cons (s_loadAgg [.int .i64 ((L4.getD j default).ev.src.v), .int .i64 ((L4.getD j default).ev.seq.v), .int .i64 ((L4.getD j default).ev.time.v), .string ((L4.getD j default).ev.typ.v), .slice ((L4.getD j default).p) ((L4.getD j default).ev.attrs.length) ((L4.getD j default).c)] 5 ag_33 rfl (H28.blk_at (i := 0) rfl) (Nat.le_of_ble_eq_true rfl) rfl rfl ?_)
      refine r_cons (s_call [.agg #[.int .i64 ((L4.getD j default).ev.src.v), .int .i64 ((L4.getD j default).ev.seq.v), .int .i64 ((L4.getD j default).ev.time.v), .string ((L4.getD j default).ev.typ.v), .slice ((L4.getD j default).p) ((L4.getD j default).ev.attrs.length) ((L4.getD j default).c)]] pl_23 rfl rfl (event_Clone ((L4.getD j default).ev) (.slice ((L4.getD j default).p) ((L4.getD j default).ev.attrs.length) ((L4.getD j default).c)) (by omega) (j := 1) rfl H28) ?_)
      rintro _ w31 ⟨pp29, cc30, rfl, H32⟩
      have H33 : St W w31 (J pre :: Attrs (.slice pp29 ((L4.getD j default).ev.attrs.length) cc30) ((L4.getD j default).ev.attrs) :: blk bk24 (.cells #[.int .i64 ((L4.getD j default).ev.src.v), .int .i64 ((L4.getD j default).ev.seq.v), .int .i64 ((L4.getD j default).ev.time.v), .string ((L4.getD j default).ev.typ.v), .slice ((L4.getD j default).p) ((L4.getD j default).ev.attrs.length) ((L4.getD j default).c)] 33 (0, 0)) :: Attrs (.slice ((L4.getD j default).p) ((L4.getD j default).ev.attrs.length) ((L4.getD j default).c)) ((L4.getD j default).ev.attrs) :: blk g (.cells #[.slice pp2 evs.length cc3] 49 (0, 0)) :: blk bk16 (.cells cur17 33 (0, 0)) :: evA L4 :: (F.set i emp)) := (H32.move 3 rfl)
      refine r_cons (s_yield l [.agg #[.int .i64 ((L4.getD j default).ev.src.v), .int .i64 ((L4.getD j default).ev.seq.v), .int .i64 ((L4.getD j default).ev.time.v), .string ((L4.getD j default).ev.typ.v), .slice pp29 ((L4.getD j default).ev.attrs.length) cc30]] rfl rfl rfl (hY _ _ pre (⟨(L4.getD j default).ev, pp29, cc30⟩ : EvD) (ok_step (x := (⟨(L4.getD j default).ev, pp29, cc30⟩ : EvD)) hpj hL7 (by omega) rfl).2 H33) ?_)
      rintro _ w34 (⟨rfl, H35⟩ | ⟨rfl, H35⟩)
      · skip
        have H36 : St W w34 (J (pre ++ [(⟨(L4.getD j default).ev, pp29, cc30⟩ : EvD)]) :: blk bk24 (.cells #[.int .i64 ((L4.getD j default).ev.src.v), .int .i64 ((L4.getD j default).ev.seq.v), .int .i64 ((L4.getD j default).ev.time.v), .string ((L4.getD j default).ev.typ.v), .slice ((L4.getD j default).p) ((L4.getD j default).ev.attrs.length) ((L4.getD j default).c)] 33 (0, 0)) :: Attrs (.slice ((L4.getD j default).p) ((L4.getD j default).ev.attrs.length) ((L4.getD j default).c)) ((L4.getD j default).ev.attrs) :: blk g (.cells #[.slice pp2 evs.length cc3] 49 (0, 0)) :: blk bk16 (.cells cur17 33 (0, 0)) :: evA L4 :: (F.set i emp)) := H35
        refine r_cons (s_not true rfl false rfl rfl ?_)
        refine r_nil ?_
        refine g_false rfl ?_
        refine g_skip ?_
        refine g_inBlock ?_
        refine g_region ?_
        refine r_cons (s_add ((j : Int) + 1) rfl rfl (wi64 (by omega)) rfl ?_)
        refine r_cons (s_move (.int .i64 ((j : Int) + 1)) rfl rfl ?_)
        refine r_nil ?_
        have H37 : St W w34 (J (pre ++ [(⟨(L4.getD j default).ev, pp29, cc30⟩ : EvD)]) :: blk bk24 (.cells #[.int .i64 ((L4.getD j default).ev.src.v), .int .i64 ((L4.getD j default).ev.seq.v), .int .i64 ((L4.getD j default).ev.time.v), .string ((L4.getD j default).ev.typ.v), .slice ((L4.getD j default).p) ((L4.getD j default).ev.attrs.length) ((L4.getD j default).c)] 33 (0, 0)) :: Attrs (.slice ((L4.getD j default).p) ((L4.getD j default).ev.attrs.length) ((L4.getD j default).c)) ((L4.getD j default).ev.attrs) :: blk g (.cells #[.slice pp2 evs.length cc3] 49 (0, 0)) :: Row 33 5 (.slice pp2 evs.length cc3) evs.length (L4.flatMap evdCell) :: evA L4 :: (F.set i emp)) := hcl23 4 H36 rfl
        have H38 : St W w34 (J (pre ++ [(⟨(L4.getD j default).ev, pp29, cc30⟩ : EvD)]) :: blk g (.cells #[.slice pp2 evs.length cc3] 49 (0, 0)) :: Row 33 5 (.slice pp2 evs.length cc3) evs.length (L4.flatMap evdCell) :: evA L4 :: (F.set i emp)) := ((((((H37.move 5 rfl).move 5 rfl).move 5 rfl).move 3 rfl).drop 4 rfl).drop 4 rfl)
        exact nx13 (j + 1, (pre ++ [(⟨(L4.getD j default).ev, pp29, cc30⟩ : EvD)])) _ _ ⟨(by omega), (ok_step (x := (⟨(L4.getD j default).ev, pp29, cc30⟩ : EvD)) hpj hL7 (by omega) rfl).1, H38⟩ (by first | (dsimp only; omega) | omega) ⟨by first | rfl | exact vint (by omega), by first | rfl | exact vint (by omega), by first | rfl | exact vint (by omega), by first | rfl | exact vint (by omega), trivial⟩
      · skip
        have H39 : St W w34 (Jx (pre ++ [(⟨(L4.getD j default).ev, pp29, cc30⟩ : EvD)]) :: blk bk24 (.cells #[.int .i64 ((L4.getD j default).ev.src.v), .int .i64 ((L4.getD j default).ev.seq.v), .int .i64 ((L4.getD j default).ev.time.v), .string ((L4.getD j default).ev.typ.v), .slice ((L4.getD j default).p) ((L4.getD j default).ev.attrs.length) ((L4.getD j default).c)] 33 (0, 0)) :: Attrs (.slice ((L4.getD j default).p) ((L4.getD j default).ev.attrs.length) ((L4.getD j default).c)) ((L4.getD j default).ev.attrs) :: blk g (.cells #[.slice pp2 evs.length cc3] 49 (0, 0)) :: blk bk16 (.cells cur17 33 (0, 0)) :: evA L4 :: (F.set i emp)) := H35
        refine r_cons (s_not false rfl true rfl rfl ?_)
        refine r_nil ?_
        refine g_true rfl ?_
        refine g_ret' [] Try.func72 Try.results72 trivial ?_
        have H40 : St W w34 (Jx (pre ++ [(⟨(L4.getD j default).ev, pp29, cc30⟩ : EvD)]) :: blk bk24 (.cells #[.int .i64 ((L4.getD j default).ev.src.v), .int .i64 ((L4.getD j default).ev.seq.v), .int .i64 ((L4.getD j default).ev.time.v), .string ((L4.getD j default).ev.typ.v), .slice ((L4.getD j default).p) ((L4.getD j default).ev.attrs.length) ((L4.getD j default).c)] 33 (0, 0)) :: Attrs (.slice ((L4.getD j default).p) ((L4.getD j default).ev.attrs.length) ((L4.getD j default).c)) ((L4.getD j default).ev.attrs) :: blk g (.cells #[.slice pp2 evs.length cc3] 49 (0, 0)) :: Row 33 5 (.slice pp2 evs.length cc3) evs.length (L4.flatMap evdCell) :: evA L4 :: (F.set i emp)) := hcl23 4 H39 rfl
        have H41 : St W w34 (blk g (.cells #[.slice pp2 evs.length cc3] 49 (0, 0)) :: Row 33 5 (.slice pp2 evs.length cc3) evs.length (L4.flatMap evdCell) :: evA L4 :: Jx (pre ++ [(⟨(L4.getD j default).ev, pp29, cc30⟩ : EvD)]) :: blk bk24 (.cells #[.int .i64 ((L4.getD j default).ev.src.v), .int .i64 ((L4.getD j default).ev.seq.v), .int .i64 ((L4.getD j default).ev.time.v), .string ((L4.getD j default).ev.typ.v), .slice ((L4.getD j default).p) ((L4.getD j default).ev.attrs.length) ((L4.getD j default).c)] 33 (0, 0)) :: Attrs (.slice ((L4.getD j default).p) ((L4.getD j default).ev.attrs.length) ((L4.getD j default).c)) ((L4.getD j default).ev.attrs) :: (F.set i emp)) := (((H40.move 5 rfl).move 5 rfl).move 5 rfl)
        have H42 : St W w34 (AllA g evs :: Jx (pre ++ [(⟨(L4.getD j default).ev, pp29, cc30⟩ : EvD)]) :: blk bk24 (.cells #[.int .i64 ((L4.getD j default).ev.src.v), .int .i64 ((L4.getD j default).ev.seq.v), .int .i64 ((L4.getD j default).ev.time.v), .string ((L4.getD j default).ev.typ.v), .slice ((L4.getD j default).p) ((L4.getD j default).ev.attrs.length) ((L4.getD j default).c)] 33 (0, 0)) :: Attrs (.slice ((L4.getD j default).p) ((L4.getD j default).ev.attrs.length) ((L4.getD j default).c)) ((L4.getD j default).ev.attrs) :: (F.set i emp)) := St.shut_ex ((pp2, cc3), L4) (St.shut_star (ls := [pure' (L4.map EvD.ev = evs), blk g (.cells #[.slice pp2 evs.length cc3] 49 (0, 0)), Row 33 5 (.slice pp2 evs.length cc3) evs.length (L4.flatMap evdCell), evA L4]) (St.shut_pure hL7 H41))
        have H43 : St W w34 (AllA g evs :: Jx (pre ++ [(⟨(L4.getD j default).ev, pp29, cc30⟩ : EvD)]) :: (F.set i emp)) := ((((H42.move 1 rfl).move 1 rfl).drop 2 rfl).drop 2 rfl)
        have H44 : St W w34 (AllA g evs :: (Jx (pre ++ [(⟨(L4.getD j default).ev, pp29, cc30⟩ : EvD)]) :: F).set (i + 1) emp) := H43
        exact ⟨_, .inr ⟨(ok_step (x := (⟨(L4.getD j default).ev, pp29, cc30⟩ : EvD)) hpj hL7 (by omega) rfl).2, St.back_same (i := i + 1) (by exact hi) H44⟩⟩
    · skip
      refine r_cons (s_lss false rfl rfl (dfalse hc14) rfl ?_)
      refine r_nil ?_
      refine g_seq ?_
      refine g_false rfl ?_
      refine g_exit (by rfl) ?_
      refine g_end' [] Try.func72 Try.results72 trivial ?_
      have H45 : St W w11 (blk g (.cells #[.slice pp2 evs.length cc3] 49 (0, 0)) :: Row 33 5 (.slice pp2 evs.length cc3) evs.length (L4.flatMap evdCell) :: evA L4 :: J pre :: (F.set i emp)) := (((H12.move 3 rfl).move 3 rfl).move 3 rfl)
      have H46 : St W w11 (AllA g evs :: J pre :: (F.set i emp)) := St.shut_ex ((pp2, cc3), L4) (St.shut_star (ls := [pure' (L4.map EvD.ev = evs), blk g (.cells #[.slice pp2 evs.length cc3] 49 (0, 0)), Row 33 5 (.slice pp2 evs.length cc3) evs.length (L4.flatMap evdCell), evA L4]) (St.shut_pure hL7 H45))
      have H47 : St W w11 (AllA g evs :: J pre :: (F.set i emp)) := ((H46.move 1 rfl).move 1 rfl)
      have H48 : St W w11 (AllA g evs :: (J pre :: F).set (i + 1) emp) := H47
      have hje : j = evs.length := by omega
      exact ⟨_, .inl ⟨by rw [hpj, hje, List.take_length], St.back_same (i := i + 1) (by exact hi) H48⟩⟩
end Sl
