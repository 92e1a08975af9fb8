/- Walks of the program's functions. Printed by a program of this claim's author. No condition. -/
import Derived.Test.YtcomkhcpifcgmaaSlQ
import Derived.Test.YtcomkhcpifcgmaaSlH
import Derived.Test.YtcomkhcpifcgmaaSlP
import Derived.Test.YtcomkhcpifcgmaaSlAE
import Derived.Test.YtcomkhcpifcgmaaProg
namespace Sl
open _root_.Go _root_.Go.RowKit _root_.Go.Proofs
set_option linter.all false
theorem un_22 : Try.prog.underlying 22 = some (.slice 5) := by kernel_rfl
theorem el_22 : elemSize Try.prog 22 = some (5, 1) := by kernel_rfl
theorem in_5 : (Try.prog.info? 5).map (fun i => (i.zero, i.size, i.bytes)) = some (some (.int .u8 0), 1, 1) := by kernel_rfl
theorem ap_22 : appInfo Try.prog 22 5 1 1 1 := appInfo_mk un_22 in_5 rfl
theorem fi_87_2 : fieldOff Try.prog 87 2 = some (2, 3) := by kernel_rfl
theorem ag_3 : isAggB Try.prog 3 = false ∧ (Try.prog.underlying 3).isSome = true := ⟨by kernel_rfl, by kernel_rfl⟩
theorem fi_87_1 : fieldOff Try.prog 87 1 = some (1, 22) := by kernel_rfl
theorem ag_22 : isAggB Try.prog 22 = false ∧ (Try.prog.underlying 22).isSome = true := ⟨by kernel_rfl, by kernel_rfl⟩
theorem ze_5 : zeroOf Try.prog 5 = some #[.int .u8 0] := by kernel_rfl
theorem sz_22 : (Try.prog.info? 22).map (·.size) = some 1 := by kernel_rfl
theorem mixed : Try.prog.follows .mixedOrders = true := by kernel_rfl
theorem ag_5 : isAggB Try.prog 5 = false ∧ (Try.prog.underlying 5).isSome = true := ⟨by kernel_rfl, by kernel_rfl⟩
theorem sz_5 : (Try.prog.info? 5).map (·.size) = some 1 := by kernel_rfl
theorem sz_3 : (Try.prog.info? 3).map (·.size) = some 1 := by kernel_rfl
theorem us_54 : (Try.prog.underlying 54).isSome = true := by kernel_rfl
theorem ik_5 : intKind Try.prog 5 = some .u8 := by kernel_rfl
theorem st_9 : isStr Try.prog 9 = true := by kernel_rfl
theorem us_5 : (Try.prog.underlying 5).isSome = true := by kernel_rfl
theorem ik_3 : intKind Try.prog 3 = some .i64 := by kernel_rfl
theorem pl_66 : plainFn Try.prog 66 = true := by kernel_rfl
theorem un_76 : Try.prog.underlying 76 = some (.pointer 87) := by kernel_rfl
theorem fi_87_0 : fieldOff Try.prog 87 0 = some (0, 4) := by kernel_rfl
theorem ag_4 : isAggB Try.prog 4 = false ∧ (Try.prog.underlying 4).isSome = true := ⟨by kernel_rfl, by kernel_rfl⟩
theorem pl_65 : plainFn Try.prog 65 = true := by kernel_rfl
theorem pl_62 : plainFn Try.prog 62 = true := by kernel_rfl
theorem pl_61 : plainFn Try.prog 61 = true := by kernel_rfl
theorem pl_60 : plainFn Try.prog 60 = true := by kernel_rfl
theorem pl_63 : plainFn Try.prog 63 = true := by kernel_rfl
theorem us_3 : (Try.prog.underlying 3).isSome = true := by kernel_rfl
theorem ik_54 : intKind Try.prog 54 = some .u64 := by kernel_rfl
theorem us_9 : (Try.prog.underlying 9).isSome = true := by kernel_rfl
theorem un_5 : Try.prog.underlying 5 = some (.int .u8) := by kernel_rfl
theorem pl_42 : plainFn Try.prog 42 = true := by kernel_rfl
theorem un_47 : Try.prog.underlying 47 = some (.pointer 66) := by kernel_rfl
theorem fi_66_1 : fieldOff Try.prog 66 1 = some (1, 22) := by kernel_rfl
theorem fi_66_2 : fieldOff Try.prog 66 2 = some (2, 3) := by kernel_rfl
theorem fi_66_0 : fieldOff Try.prog 66 0 = some (0, 4) := by kernel_rfl
theorem pl_45 : plainFn Try.prog 45 = true := by kernel_rfl
theorem pl_46 : plainFn Try.prog 46 = true := by kernel_rfl
theorem pl_43 : plainFn Try.prog 43 = true := by kernel_rfl
theorem pl_58 : plainFn Try.prog 58 = true := by kernel_rfl
theorem un_9 : Try.prog.underlying 9 = some (.string) := by kernel_rfl
theorem fi_24_0 : fieldOff Try.prog 24 0 = some (0, 3) := by kernel_rfl
theorem pl_37 : plainFn Try.prog 37 = true := by kernel_rfl
theorem fi_24_1 : fieldOff Try.prog 24 1 = some (1, 3) := by kernel_rfl
theorem fi_24_2 : fieldOff Try.prog 24 2 = some (2, 3) := by kernel_rfl
theorem fi_24_3 : fieldOff Try.prog 24 3 = some (3, 2) := by kernel_rfl
theorem ag_2 : isAggB Try.prog 2 = false ∧ (Try.prog.underlying 2).isSome = true := ⟨by kernel_rfl, by kernel_rfl⟩
theorem pl_38 : plainFn Try.prog 38 = true := by kernel_rfl
theorem fi_24_4 : fieldOff Try.prog 24 4 = some (4, 2) := by kernel_rfl
theorem fi_24_5 : fieldOff Try.prog 24 5 = some (5, 22) := by kernel_rfl
theorem pl_18 : plainFn Try.prog 18 = true := by kernel_rfl
theorem ze_24 : zeroOf Try.prog 24 = some #[.int .i64 0, .int .i64 0, .int .i64 0, .int .i64 0, .int .i64 0, .slice none 0 0] := by kernel_rfl
theorem pl_22 : plainFn Try.prog 22 = true := by kernel_rfl
theorem ag_24 : isAggB Try.prog 24 = true ∧ (Try.prog.info? 24).map (·.size) = some 6 := ⟨by kernel_rfl, by kernel_rfl⟩
theorem sz_24 : (Try.prog.info? 24).map (·.size) = some 6 := by kernel_rfl
theorem ik_37 : intKind Try.prog 37 = some .u32 := by kernel_rfl
theorem un_64 : Try.prog.underlying 64 = some (.slice 22) := by kernel_rfl
theorem el_64 : elemSize Try.prog 64 = some (22, 1) := by kernel_rfl
theorem pl_50 : plainFn Try.prog 50 = true := by kernel_rfl
theorem pl_51 : plainFn Try.prog 51 = true := by kernel_rfl
theorem us_2 : (Try.prog.underlying 2).isSome = true := by kernel_rfl
theorem pl_52 : plainFn Try.prog 52 = true := by kernel_rfl
theorem pl_53 : plainFn Try.prog 53 = true := by kernel_rfl
theorem pl_54 : plainFn Try.prog 54 = true := by kernel_rfl
theorem pl_15 : plainFn Try.prog 15 = true := by kernel_rfl
theorem pl_36 : plainFn Try.prog 36 = true := by kernel_rfl
theorem ze_22 : zeroOf Try.prog 22 = some #[.slice none 0 0] := by kernel_rfl
theorem pl_20 : plainFn Try.prog 20 = true := by kernel_rfl
theorem us_37 : (Try.prog.underlying 37).isSome = true := by kernel_rfl
theorem pl_14 : plainFn Try.prog 14 = true := by kernel_rfl
theorem fi_50_1 : fieldOff Try.prog 50 1 = some (1, 25) := by kernel_rfl
theorem ag_25 : isAggB Try.prog 25 = false ∧ (Try.prog.underlying 25).isSome = true := ⟨by kernel_rfl, by kernel_rfl⟩
theorem fi_50_0 : fieldOff Try.prog 50 0 = some (0, 47) := by kernel_rfl
theorem ag_47 : isAggB Try.prog 47 = false ∧ (Try.prog.underlying 47).isSome = true := ⟨by kernel_rfl, by kernel_rfl⟩
theorem sz_25 : (Try.prog.info? 25).map (·.size) = some 1 := by kernel_rfl
theorem pl_44 : plainFn Try.prog 44 = true := by kernel_rfl
theorem ik_2 : intKind Try.prog 2 = some .i64 := by kernel_rfl
theorem pl_30 : plainFn Try.prog 30 = true := by kernel_rfl
theorem pl_28 : plainFn Try.prog 28 = true := by kernel_rfl
theorem pl_27 : plainFn Try.prog 27 = true := by kernel_rfl
theorem pl_26 : plainFn Try.prog 26 = true := by kernel_rfl
theorem pl_29 : plainFn Try.prog 29 = true := by kernel_rfl
theorem sz_2 : (Try.prog.info? 2).map (·.size) = some 1 := by kernel_rfl
theorem pl_31 : plainFn Try.prog 31 = true := by kernel_rfl
theorem pl_32 : plainFn Try.prog 32 = true := by kernel_rfl
theorem pl_10 : plainFn Try.prog 10 = true := by kernel_rfl
theorem pl_12 : plainFn Try.prog 12 = true := by kernel_rfl
theorem un_4 : Try.prog.underlying 4 = some (.bool) := by kernel_rfl
theorem us_43 : (Try.prog.underlying 43).isSome = true := by kernel_rfl
set_option maxHeartbeats 4000000 in
set_option maxRecDepth 100000 in
theorem clone_bytes {W w : World} {F : List Atom} (A : Atom) (v0 : Value) (n : Nat) (xs : List Value) (hA : RdA A 1 v0 n xs) (hn : n ≤ 140737488355328) {j : Nat} (hj : F[j]? = some A) (H : St W w F) : Calls Try.prog 42 #[v0] w (Ret fun v w' => ∃ p c, v = .slice p n c ∧ St W w' (Row 5 1 (.slice p n c) n xs :: F)) := by
  have hml := (hA _ _ _ j H hj).2
  obtain ⟨pp1, cc2, rfl, hn3⟩ := Rd.shape (hA _ _ _ j H hj).1
  refine calls_of_go (n := 8) Try.func42 rfl Try.ntmps42 rfl ?_
  refine g_seq ?_
  refine g_region ?_
  refine r_cons (s_assign (.slice none 0 0) rfl rfl ?_)
  refine r_nil ?_
  refine g_seq ?_
  refine g_seq ?_
  refine g_region ?_
  refine r_cons (s_move (.slice pp1 n cc2) rfl rfl ?_)
  by_cases hc4 : pp1 = none
  · skip
    refine r_cons (s_sleql true un_22 rfl rfl (isNone_t hc4) rfl ?_)
    refine r_nil ?_
    refine g_true rfl ?_
    refine g_seq ?_
    refine g_region ?_
    refine r_cons (s_assign (.slice none 0 0) rfl rfl ?_)
    refine r_nil ?_
    refine g_ret' [.slice none 0 0] Try.func42 Try.results42 ⟨rfl, trivial⟩ ?_
    have H5 : St W w F := H
    obtain ⟨h1, h2, h3⟩ := hn3 ‹_›
    subst h1 h3
    exact ⟨none, 0, rfl, Row.nil_intro H5 5 1⟩
  · skip
    refine r_cons (s_sleql false un_22 rfl rfl (isNone_f hc4) rfl ?_)
    refine r_nil ?_
    refine g_false rfl ?_
    refine g_skip ?_
    refine g_seq ?_
    refine g_region ?_
    refine r_cons (s_buildSlice0 H 1 el_22 rfl ?_); intro bk7 w8 H9
    have H10 := Row.of_blk (n := 0) (size := 1) H9 (i := 0) rfl (by unfold maxLen; omega) (by simp) (by simp)
    refine r_cons (s_move (.slice pp1 n cc2) rfl rfl ?_)
    refine r_cons (s_append H10 0 rfl rfl rfl (hA _ _ _ (j + 1) H10 (by exact hj)).1 ap_22 (by decide) (by unfold maxLen; omega) (by omega) (n' := n) (xs' := xs) (by omega) (by first | rfl | simp) rfl ?_); intro vv11 w12 H13 hn14
    obtain ⟨pp15, cc16, rfl⟩ := Row.slice H13 (i := 0) rfl
    refine r_cons (s_assign (.slice pp15 n cc16) rfl rfl ?_)
    refine r_nil ?_
    refine g_ret' [.slice pp15 n cc16] Try.func42 Try.results42 ⟨rfl, trivial⟩ ?_
    have H17 : St W w12 (Row 5 1 (.slice pp15 n cc16) n xs :: F) := H13
    exact ⟨_, _, rfl, H17⟩
set_option maxHeartbeats 4000000 in
set_option maxRecDepth 100000 in
theorem bytes_Clone {W w : World} {F : List Atom} (A : Atom) (v0 : Value) (n : Nat) (xs : List Value) (hA : RdA A 1 v0 n xs) (hn : n ≤ 140737488355328) {j : Nat} (hj : F[j]? = some A) (H : St W w F) : Calls Try.prog 22 #[v0] w (Ret fun v w' => ∃ p c, v = .slice p n c ∧ St W w' (Row 5 1 (.slice p n c) n xs :: F)) := by
  have hml := (hA _ _ _ j H hj).2
  obtain ⟨pp1, cc2, rfl, hn3⟩ := Rd.shape (hA _ _ _ j H hj).1
  refine calls_of_go (n := 8) Try.func22 rfl Try.ntmps22 rfl ?_
  refine g_seq ?_
  refine g_region ?_
  refine r_cons (s_assign (.slice none 0 0) rfl rfl ?_)
  refine r_nil ?_
  refine g_seq ?_
  refine g_seq ?_
  refine g_region ?_
  refine r_cons (s_move (.slice pp1 n cc2) rfl rfl ?_)
  by_cases hc4 : pp1 = none
  · skip
    refine r_cons (s_sleql true un_22 rfl rfl (isNone_t hc4) rfl ?_)
    refine r_nil ?_
    refine g_true rfl ?_
    refine g_seq ?_
    refine g_region ?_
    refine r_cons (s_assign (.slice none 0 0) rfl rfl ?_)
    refine r_nil ?_
    refine g_ret' [.slice none 0 0] Try.func22 Try.results22 ⟨rfl, trivial⟩ ?_
    have H5 : St W w F := H
    obtain ⟨h1, h2, h3⟩ := hn3 ‹_›
    subst h1 h3
    exact ⟨none, 0, rfl, Row.nil_intro H5 5 1⟩
  · skip
    refine r_cons (s_sleql false un_22 rfl rfl (isNone_f hc4) rfl ?_)
    refine r_nil ?_
    refine g_false rfl ?_
    refine g_skip ?_
    refine g_seq ?_
    refine g_region ?_
    refine r_cons (s_buildSlice0 H 1 el_22 rfl ?_); intro bk7 w8 H9
    have H10 := Row.of_blk (n := 0) (size := 1) H9 (i := 0) rfl (by unfold maxLen; omega) (by simp) (by simp)
    refine r_cons (s_move (.slice pp1 n cc2) rfl rfl ?_)
    refine r_cons (s_append H10 0 rfl rfl rfl (hA _ _ _ (j + 1) H10 (by exact hj)).1 ap_22 (by decide) (by unfold maxLen; omega) (by omega) (n' := n) (xs' := xs) (by omega) (by first | rfl | simp) rfl ?_); intro vv11 w12 H13 hn14
    obtain ⟨pp15, cc16, rfl⟩ := Row.slice H13 (i := 0) rfl
    refine r_cons (s_assign (.slice pp15 n cc16) rfl rfl ?_)
    refine r_nil ?_
    refine g_ret' [.slice pp15 n cc16] Try.func22 Try.results22 ⟨rfl, trivial⟩ ?_
    have H17 : St W w12 (Row 5 1 (.slice pp15 n cc16) n xs :: F) := H13
    exact ⟨_, _, rfl, H17⟩
/-- Bits that were put. -/
def SinkA (b : Nat) (L : List Bool) : Atom := ex fun v : Value => star [blk b (.cells #[.bool true, v, .int .i64 (L.length : Int)] 87 (0, 0)), Row 5 1 v ((L.length + 7) / 8) ((pk L).flatMap u8c)]
set_option maxHeartbeats 4000000 in
set_option maxRecDepth 100000 in
theorem Sink_put {W w : World} {F : List Atom} (b : Nat) (L : List Bool) (x : Bool) (hb : L.length ≤ 1099511627776) {i : Nat} (hi : F[i]? = some (SinkA b L)) (H : St W w F) : Calls Try.prog 65 #[.pointer (some ⟨b, 0, none⟩), .bool x] w (Ret fun v w' => v = .tuple #[] ∧ St W w' (F.set i (SinkA b (L ++ [x])))) := by
  have H0 := H.front hi
  refine calls_of_go (n := 46) Try.func65 rfl Try.ntmps65 rfl ?_
  refine g_seq ?_
  refine g_seq ?_
  refine g_region ?_
  refine r_cons (s_move (.pointer (some ⟨b, 0, none⟩)) rfl rfl ?_)
  refine r_cons (s_nilCheck (.pointer (some ⟨b, 0, none⟩)) rfl ⟨_, rfl⟩ rfl ?_)
  refine r_cons (s_fieldAddr 87 2 2 2 3 rfl fi_87_2 rfl rfl ?_)
  have H1 := H0.move 0 rfl
  obtain ⟨vv2, H3⟩ := St.open_ex H1
  have H4 := St.open_star H3
  obtain ⟨pp5, cc6, rfl⟩ := Row.slice (i := 1) H4 rfl
  have H7 : St W w (blk b (.cells #[.bool true, .slice pp5 ((L.length + 7) / 8) cc6, .int .i64 (L.length : Int)] 87 (0, 0)) :: Row 5 1 (.slice pp5 ((L.length + 7) / 8) cc6) ((L.length + 7) / 8) ((pk L).flatMap u8c) :: (F.set i emp)) := H4
  refine r_cons (s_load (.int .i64 (L.length : Int)) ag_3 rfl (H7.blk_at (i := 0) rfl) rfl rfl ?_)
  refine r_cons (s_rem ((L.length : Int) % 8) rfl rfl (by omega) (tmod_pos (by omega)) rfl ?_)
  by_cases hc8 : (L.length : Int) % 8 = 0
  · skip
    refine r_cons (s_eql true rfl rfl (dtrue hc8) rfl ?_)
    refine r_nil ?_
    refine g_true rfl ?_
    refine g_region ?_
    refine r_cons (s_move (.pointer (some ⟨b, 0, none⟩)) rfl rfl ?_)
    refine r_cons (s_move (.pointer (some ⟨b, 0, none⟩)) rfl rfl ?_)
    refine r_cons (s_nilCheck (.pointer (some ⟨b, 0, none⟩)) rfl ⟨_, rfl⟩ rfl ?_)
    refine r_cons (s_fieldAddr 87 1 1 1 22 rfl fi_87_1 rfl rfl ?_)
    refine r_cons (s_load (.slice pp5 ((L.length + 7) / 8) cc6) ag_22 rfl (H7.blk_at (i := 0) rfl) rfl rfl ?_)
    refine r_cons (s_buildSlice H7 1 1 (cs := #[.int .u8 0]) #[.int .u8 0] el_22 ze_5 (by decide) (by decide) (by kernel_rfl) rfl ?_); intro bk9 w10 H11
    refine r_cons (s_append H11 2 rfl rfl rfl (rd_blk (H11.blk_at (i := 0) rfl) rfl (Nat.le_of_ble_eq_true rfl) (by simp [Value.oneCell'])) ap_22 (by decide) (by unfold maxLen; omega) (by omega) (n' := L.length / 8 + 1) (xs' := (pkp L).flatMap u8c) (by omega) (by rw [pkp_new L (by omega), flat_snoc]; rfl) rfl ?_); intro vv12 w13 H14 hn15
    obtain ⟨pp16, cc17, rfl⟩ := Row.slice H14 (i := 2) rfl
    refine r_cons (s_nilCheck (.pointer (some ⟨b, 0, none⟩)) rfl ⟨_, rfl⟩ rfl ?_)
    refine r_cons (s_fieldAddr 87 1 1 1 22 rfl fi_87_1 rfl rfl ?_)
    refine r_cons (s_store H14 1 (.slice pp16 (L.length / 8 + 1) cc17) rfl rfl rfl sz_22 rfl (Nat.le_of_ble_eq_true rfl) rfl (cs' := #[.bool true, .slice pp16 (L.length / 8 + 1) cc17, .int .i64 (L.length : Int)]) rfl ?_); intro w18 H19
    refine r_nil ?_
    refine g_seq ?_
    refine g_seq ?_
    refine g_region ?_
    obtain ⟨bk20, cur21, hp22, h23, h24, h25, h26, h27, H28⟩ := Row.open2 H19 (i := 2) rfl (by omega)
    refine r_cons (s_move (.bool x) rfl rfl ?_)
    refine r_nil ?_
    by_cases hb29 : (x) = true
    · skip
      refine g_true (congrArg Value.bool hb29) ?_
      refine g_mix (fun t_ w => St W w (blk bk9 (.cells #[.int .u8 0] 5 (0, 0)) :: blk b (.cells #[.bool true, .slice pp16 (L.length / 8 + 1) cc17, .int .i64 (L.length : Int)] 87 (0, 0)) :: t_)) (blk bk20 (.cells cur21 5 (0, 0)) :: (F.set i emp)) mixed 20 rfl H28.drew ?_
      refine f_first 0 (listed' := #[true, false, false, false, false, false, false, false, false, false, false, false, false, false, false, false, false, false, false, false]) rfl (by kernel_rfl) (by kernel_rfl) (by kernel_rfl) rfl ?_
      refine f_val rfl rfl rfl (by intro t_ w hw; exact x_move (.pointer (some ⟨b, 0, none⟩)) rfl w) ?_
      refine f_first 1 (listed' := #[true, true, false, false, false, false, false, false, false, false, false, false, false, false, false, false, false, false, false, false]) rfl (by kernel_rfl) (by kernel_rfl) (by kernel_rfl) rfl ?_
      refine f_val rfl rfl rfl (by intro t_ w hw; exact x_nilCheck (.pointer (some ⟨b, 0, none⟩)) rfl ⟨_, rfl⟩ w) ?_
      refine f_first 2 (listed' := #[true, true, true, false, false, false, false, false, false, false, false, false, false, false, false, false, false, false, false, false]) rfl (by kernel_rfl) (by kernel_rfl) (by kernel_rfl) rfl ?_
      refine f_val rfl rfl rfl (by intro t_ w hw; exact x_fieldAddr 87 1 1 1 22 rfl fi_87_1 rfl w) ?_
      refine f_first 3 (listed' := #[true, true, true, true, false, false, false, false, false, false, false, false, false, false, false, false, false, false, false, false]) rfl (by kernel_rfl) (by kernel_rfl) (by kernel_rfl) rfl ?_
      refine f_val rfl rfl rfl (by intro t_ w hw; exact x_load (.slice pp16 (L.length / 8 + 1) cc17) ag_22 rfl (hw.blk_at (i := 1) rfl) rfl) ?_
      refine f_first 4 (listed' := #[true, true, true, true, true, false, false, false, false, false, false, false, false, false, false, false, false, false, false, false]) rfl (by kernel_rfl) (by kernel_rfl) (by kernel_rfl) rfl ?_
      refine f_val rfl rfl rfl (by intro t_ w hw; exact x_move (.pointer (some ⟨b, 0, none⟩)) rfl w) ?_
      refine f_first 5 (listed' := #[true, true, true, true, true, true, false, false, false, false, false, false, false, false, false, false, false, false, false, false]) rfl (by kernel_rfl) (by kernel_rfl) (by kernel_rfl) rfl ?_
      refine f_val rfl rfl rfl (by intro t_ w hw; exact x_nilCheck (.pointer (some ⟨b, 0, none⟩)) rfl ⟨_, rfl⟩ w) ?_
      refine f_first 6 (listed' := #[true, true, true, true, true, true, true, false, false, false, false, false, false, false, false, false, false, false, false, false]) rfl (by kernel_rfl) (by kernel_rfl) (by kernel_rfl) rfl ?_
      refine f_val rfl rfl rfl (by intro t_ w hw; exact x_fieldAddr 87 2 2 2 3 rfl fi_87_2 rfl w) ?_
      refine f_first 7 (listed' := #[true, true, true, true, true, true, true, true, false, false, false, false, false, false, false, false, false, false, false, false]) rfl (by kernel_rfl) (by kernel_rfl) (by kernel_rfl) rfl ?_
      refine f_val rfl rfl rfl (by intro t_ w hw; exact x_load (.int .i64 (L.length : Int)) ag_3 rfl (hw.blk_at (i := 1) rfl) rfl) ?_
      refine f_first 8 (listed' := #[true, true, true, true, true, true, true, true, true, false, false, false, false, false, false, false, false, false, false, false]) rfl (by kernel_rfl) (by kernel_rfl) (by kernel_rfl) rfl ?_
      refine f_val rfl rfl rfl (by intro t_ w hw; exact x_quo ((L.length : Int) / 8) rfl rfl (by omega) (by rw [tdiv_pos (by omega)]; exact wi64 (by omega)) w) ?_
      refine f_first 9 (listed' := #[true, true, true, true, true, true, true, true, true, true, false, false, false, false, false, false, false, false, false, false]) rfl (by kernel_rfl) (by kernel_rfl) (by kernel_rfl) rfl ?_
      refine f_val rfl rfl rfl (by intro t_ w hw; exact x_indexAddr bk20 (off := 0) ((L.length : Int) / 8) 1 (0 + (L.length / 8) * 1) (by exact congrArg (fun z_ => Value.slice z_ (L.length / 8 + 1) cc17) ((fun (_ : 0 < 1) => hp22) (by omega))) rfl el_22 (by omega) (by rw [show ((L.length : Int) / 8 : Int).toNat = L.length / 8 from by omega]) w) ?_
      refine f_first 11 (listed' := #[true, true, true, true, true, true, true, true, true, true, false, true, false, false, false, false, false, false, false, false]) rfl (by kernel_rfl) (by kernel_rfl) (by kernel_rfl) rfl ?_
      refine f_val rfl rfl rfl (by intro t_ w hw; exact x_move (.pointer (some ⟨b, 0, none⟩)) rfl w) ?_
      refine f_first 12 (listed' := #[true, true, true, true, true, true, true, true, true, true, false, true, true, false, false, false, false, false, false, false]) rfl (by kernel_rfl) (by kernel_rfl) (by kernel_rfl) rfl ?_
      refine f_val rfl rfl rfl (by intro t_ w hw; exact x_nilCheck (.pointer (some ⟨b, 0, none⟩)) rfl ⟨_, rfl⟩ w) ?_
      refine f_first 13 (listed' := #[true, true, true, true, true, true, true, true, true, true, false, true, true, true, false, false, false, false, false, false]) rfl (by kernel_rfl) (by kernel_rfl) (by kernel_rfl) rfl ?_
      refine f_val rfl rfl rfl (by intro t_ w hw; exact x_fieldAddr 87 2 2 2 3 rfl fi_87_2 rfl w) ?_
      refine f_first 14 (listed' := #[true, true, true, true, true, true, true, true, true, true, false, true, true, true, true, false, false, false, false, false]) rfl (by kernel_rfl) (by kernel_rfl) (by kernel_rfl) rfl ?_
      refine f_val rfl rfl rfl (by intro t_ w hw; exact x_load (.int .i64 (L.length : Int)) ag_3 rfl (hw.blk_at (i := 1) rfl) rfl) ?_
      refine f_first 15 (listed' := #[true, true, true, true, true, true, true, true, true, true, false, true, true, true, true, true, false, false, false, false]) rfl (by kernel_rfl) (by kernel_rfl) (by kernel_rfl) rfl ?_
      refine f_val rfl rfl rfl (by intro t_ w hw; exact x_rem ((L.length : Int) % 8) rfl rfl (by omega) (tmod_pos (by omega)) w) ?_
      refine f_first 16 (listed' := #[true, true, true, true, true, true, true, true, true, true, false, true, true, true, true, true, true, false, false, false]) rfl (by kernel_rfl) (by kernel_rfl) (by kernel_rfl) rfl ?_
      refine f_val rfl rfl rfl (by intro t_ w hw; exact x_shr ((2 ^ (7 - L.length % 8) : Nat) : Int) rfl rfl (by omega) (shr128 L.length (by omega)) w) ?_
      refine f_all (rs := [10]) (by kernel_rfl) (by simp) ?_
      refine a_cons ⟨_, rfl, ?_⟩ (fun x hx => absurd hx (by simp))
      intro w30 H31
      try dsimp only at H31
      refine s_load (.int .u8 (((pkp L).getD (L.length / 8) 0).toNat : Int)) ag_5 rfl (H31.blk_at (i := 2) rfl) (elem_cell (L := pkp L) (i := L.length / 8) u8c_len (by rw [pkp_len L]; exact h26) (by have hh : (pkp L).length = L.length / 8 + 1 := pkp_len L; omega) 0 0 (by decide) _ rfl) rfl ?_
      refine ⟨blk bk20 (.cells cur21 5 (0, 0)) :: (F.set i emp), ?_, H31⟩
      change FReg _ _ _ _ _ #[true, true, true, true, true, true, true, true, true, true, true, true, true, true, true, true, true, false, false, false] _ _
      refine f_first 17 (listed' := #[true, true, true, true, true, true, true, true, true, true, true, true, true, true, true, true, true, true, false, false]) rfl (by kernel_rfl) (by kernel_rfl) (by kernel_rfl) rfl ?_
      refine f_val rfl rfl rfl (by intro t_ w hw; exact x_or ((byteN L (L.length / 8) + 2 ^ (7 - L.length % 8) : Nat) : Int) rfl rfl (or_put L) w) ?_
      refine f_first 18 (listed' := #[true, true, true, true, true, true, true, true, true, true, true, true, true, true, true, true, true, true, true, false]) rfl (by kernel_rfl) (by kernel_rfl) (by kernel_rfl) rfl ?_
      refine f_val rfl rfl rfl (by intro t_ w hw; exact x_indexAddr bk20 (off := 0) ((L.length : Int) / 8) 1 (0 + (L.length / 8) * 1) (by exact congrArg (fun z_ => Value.slice z_ (L.length / 8 + 1) cc17) ((fun (_ : 0 < 1) => hp22) (by omega))) rfl el_22 (by omega) (by rw [show ((L.length : Int) / 8 : Int).toNat = L.length / 8 from by omega]) w) ?_
      refine f_all (rs := [19]) (by kernel_rfl) (by simp) ?_
      refine a_cons ⟨_, rfl, ?_⟩ (fun x hx => absurd hx (by simp))
      intro w32 H33
      try dsimp only at H33
      have hx36 := row_set1 (f := u8c) (L := pkp L) (cur := cur21) u8c_len (by rw [pkp_len L]; exact h26) (show (pkp L).length * 1 ≤ cur21.size by rw [pkp_len L, h25]; exact Nat.mul_le_mul_right 1 h23) (j := L.length / 8) (by have hh := pkp_len L; omega) 0 (.int .u8 ((byteN L (L.length / 8) + 2 ^ (7 - L.length % 8) : Nat) : Int)) (UInt8.ofNat (byteN L (L.length / 8) + 2 ^ (7 - L.length % 8))) (u8_set (byte_or_lt L))
      refine s_store H33 2 (.int .u8 ((byteN L (L.length / 8) + 2 ^ (7 - L.length % 8) : Nat) : Int)) rfl rfl rfl sz_5 rfl (by have hh := pkp_len L; have hk := (show (pkp L).length * 1 ≤ cur21.size by rw [pkp_len L, h25]; exact Nat.mul_le_mul_right 1 h23); omega) rfl (cs' := (cur21.setIfInBounds (0 + (L.length / 8) * 1) (.int .u8 ((byteN L (L.length / 8) + 2 ^ (7 - L.length % 8) : Nat) : Int)))) rfl ?_; intro w34 H35
      refine ⟨blk bk20 (.cells (cur21.setIfInBounds (0 + (L.length / 8) * 1) (.int .u8 ((byteN L (L.length / 8) + 2 ^ (7 - L.length % 8) : Nat) : Int))) 5 (0, 0)) :: (F.set i emp), ?_, H35⟩
      change FReg _ _ _ _ _ #[true, true, true, true, true, true, true, true, true, true, true, true, true, true, true, true, true, true, true, true] _ _
      refine f_done (by kernel_rfl) ?_
      intro w37 H38
      refine g_region ?_
      refine r_cons (s_move (.pointer (some ⟨b, 0, none⟩)) rfl rfl ?_)
      refine r_cons (s_nilCheck (.pointer (some ⟨b, 0, none⟩)) rfl ⟨_, rfl⟩ rfl ?_)
      refine r_cons (s_fieldAddr 87 2 2 2 3 rfl fi_87_2 rfl rfl ?_)
      refine r_cons (s_load (.int .i64 (L.length : Int)) ag_3 rfl (H38.blk_at (i := 1) rfl) rfl rfl ?_)
      refine r_cons (s_add ((L.length : Int) + 1) rfl rfl (wi64 (by omega)) rfl ?_)
      refine r_cons (s_nilCheck (.pointer (some ⟨b, 0, none⟩)) rfl ⟨_, rfl⟩ rfl ?_)
      refine r_cons (s_fieldAddr 87 2 2 2 3 rfl fi_87_2 rfl rfl ?_)
      refine r_cons (s_store H38 1 (.int .i64 ((L.length : Int) + 1)) rfl rfl rfl sz_3 rfl (Nat.le_of_ble_eq_true rfl) rfl (cs' := #[.bool true, .slice pp16 (L.length / 8 + 1) cc17, .int .i64 ((L.length : Int) + 1)]) rfl ?_); intro w39 H40
      refine r_nil ?_
      refine g_end' [] Try.func65 Try.results65 trivial ?_
      have H41 := Row.shut2 (p := pp16) (n := L.length / 8 + 1) (c := cc17) (size := 1) (xs := ((pkp L).set (L.length / 8) (UInt8.ofNat (byteN L (L.length / 8) + 2 ^ (7 - L.length % 8)))).flatMap u8c) H40 (i := 2) rfl hp22 h23 h24 (by rw [Array.size_setIfInBounds]; exact h25) (by have hh : ((cur21.setIfInBounds (0 + (L.length / 8) * 1) (.int .u8 ((byteN L (L.length / 8) + 2 ^ (7 - L.length % 8) : Nat) : Int))).toList.drop 0).take (((pkp L).set (L.length / 8) (UInt8.ofNat (byteN L (L.length / 8) + 2 ^ (7 - L.length % 8)))).length * 1) = ((pkp L).set (L.length / 8) (UInt8.ofNat (byteN L (L.length / 8) + 2 ^ (7 - L.length % 8)))).flatMap u8c := hx36; have hk : ((pkp L).set (L.length / 8) (UInt8.ofNat (byteN L (L.length / 8) + 2 ^ (7 - L.length % 8)))).length = L.length / 8 + 1 := (by rw [List.length_set]; exact pkp_len L); rw [hk] at hh; exact hh) (one_u8 _)
      have H42 : St W w39 (blk b (.cells #[.bool true, .slice pp16 (L.length / 8 + 1) cc17, .int .i64 ((L.length : Int) + 1)] 87 (0, 0)) :: Row 5 1 (.slice pp16 (L.length / 8 + 1) cc17) (L.length / 8 + 1) (((pkp L).set (L.length / 8) (UInt8.ofNat (byteN L (L.length / 8) + 2 ^ (7 - L.length % 8)))).flatMap u8c) :: (F.set i emp)) := (((H41.move 2 rfl).move 2 rfl).drop 2 rfl)
      have H43 : St W w39 (blk b (.cells #[.bool true, .slice pp16 (L.length / 8 + 1) cc17, .int .i64 ((L ++ [true]).length : Int)] 87 (0, 0)) :: Row 5 1 (.slice pp16 (L.length / 8 + 1) cc17) (((L ++ [true]).length + 7) / 8) ((pk (L ++ [true])).flatMap u8c) :: F.set i emp) := by rw [snoc_len, snoc_bytes, pk_snoc_true]; exact H42
      have hx : x = true := hb29
      rw [hx]
      exact ⟨rfl, St.back hi (St.shut_ex (.slice pp16 (L.length / 8 + 1) cc17) (St.shut_star (ls := [blk b (.cells #[.bool true, .slice pp16 (L.length / 8 + 1) cc17, .int .i64 ((L ++ [true]).length : Int)] 87 (0, 0)), Row 5 1 (.slice pp16 (L.length / 8 + 1) cc17) (((L ++ [true]).length + 7) / 8) ((pk (L ++ [true])).flatMap u8c)]) H43))⟩
    · have hb29 := eq_false_of_ne_true hb29
      refine g_false (congrArg Value.bool hb29) ?_
      refine g_skip ?_
      refine g_region ?_
      refine r_cons (s_move (.pointer (some ⟨b, 0, none⟩)) rfl rfl ?_)
      refine r_cons (s_nilCheck (.pointer (some ⟨b, 0, none⟩)) rfl ⟨_, rfl⟩ rfl ?_)
      refine r_cons (s_fieldAddr 87 2 2 2 3 rfl fi_87_2 rfl rfl ?_)
      refine r_cons (s_load (.int .i64 (L.length : Int)) ag_3 rfl (H28.blk_at (i := 1) rfl) rfl rfl ?_)
      refine r_cons (s_add ((L.length : Int) + 1) rfl rfl (wi64 (by omega)) rfl ?_)
      refine r_cons (s_nilCheck (.pointer (some ⟨b, 0, none⟩)) rfl ⟨_, rfl⟩ rfl ?_)
      refine r_cons (s_fieldAddr 87 2 2 2 3 rfl fi_87_2 rfl rfl ?_)
      refine r_cons (s_store H28 1 (.int .i64 ((L.length : Int) + 1)) rfl rfl rfl sz_3 rfl (Nat.le_of_ble_eq_true rfl) rfl (cs' := #[.bool true, .slice pp16 (L.length / 8 + 1) cc17, .int .i64 ((L.length : Int) + 1)]) rfl ?_); intro w44 H45
      refine r_nil ?_
      refine g_end' [] Try.func65 Try.results65 trivial ?_
      have H46 := Row.shut2 (p := pp16) (n := L.length / 8 + 1) (c := cc17) (size := 1) (xs := (pkp L).flatMap u8c) H45 (i := 2) rfl hp22 h23 h24 h25 (by have hh : (cur21.toList.drop 0).take ((pkp L).length * 1) = (pkp L).flatMap u8c := (by rw [pkp_len L]; exact h26); have hk : (pkp L).length = L.length / 8 + 1 := pkp_len L; rw [hk] at hh; exact hh) (one_u8 _)
      have H47 : St W w44 (blk b (.cells #[.bool true, .slice pp16 (L.length / 8 + 1) cc17, .int .i64 ((L.length : Int) + 1)] 87 (0, 0)) :: Row 5 1 (.slice pp16 (L.length / 8 + 1) cc17) (L.length / 8 + 1) ((pkp L).flatMap u8c) :: (F.set i emp)) := (((H46.move 2 rfl).move 2 rfl).drop 2 rfl)
      have H48 : St W w44 (blk b (.cells #[.bool true, .slice pp16 (L.length / 8 + 1) cc17, .int .i64 ((L ++ [false]).length : Int)] 87 (0, 0)) :: Row 5 1 (.slice pp16 (L.length / 8 + 1) cc17) (((L ++ [false]).length + 7) / 8) ((pk (L ++ [false])).flatMap u8c) :: F.set i emp) := by rw [snoc_len, snoc_bytes, pk_snoc_false]; exact H47
      have hx : x = false := hb29
      rw [hx]
      exact ⟨rfl, St.back hi (St.shut_ex (.slice pp16 (L.length / 8 + 1) cc17) (St.shut_star (ls := [blk b (.cells #[.bool true, .slice pp16 (L.length / 8 + 1) cc17, .int .i64 ((L ++ [false]).length : Int)] 87 (0, 0)), Row 5 1 (.slice pp16 (L.length / 8 + 1) cc17) (((L ++ [false]).length + 7) / 8) ((pk (L ++ [false])).flatMap u8c)]) H48))⟩
  · skip
    refine r_cons (s_eql false rfl rfl (dfalse hc8) rfl ?_)
    refine r_nil ?_
    refine g_false rfl ?_
    refine g_skip ?_
    refine g_seq ?_
    refine g_seq ?_
    refine g_region ?_
    have H49 : St W w (blk b (.cells #[.bool true, .slice pp5 (L.length / 8 + 1) cc6, .int .i64 (L.length : Int)] 87 (0, 0)) :: Row 5 1 (.slice pp5 (L.length / 8 + 1) cc6) (L.length / 8 + 1) ((pkp L).flatMap u8c) :: (F.set i emp)) := by rw [pkp_of L (by omega), show L.length / 8 + 1 = (L.length + 7) / 8 from by omega]; exact H7
    obtain ⟨bk50, cur51, hp52, h53, h54, h55, h56, h57, H58⟩ := Row.open2 H49 (i := 1) rfl (by omega)
    refine r_cons (s_move (.bool x) rfl rfl ?_)
    refine r_nil ?_
    by_cases hb59 : (x) = true
    · skip
      refine g_true (congrArg Value.bool hb59) ?_
      refine g_mix (fun t_ w => St W w (blk b (.cells #[.bool true, .slice pp5 (L.length / 8 + 1) cc6, .int .i64 (L.length : Int)] 87 (0, 0)) :: t_)) (blk bk50 (.cells cur51 5 (0, 0)) :: (F.set i emp)) mixed 20 rfl H58.drew ?_
      refine f_first 0 (listed' := #[true, false, false, false, false, false, false, false, false, false, false, false, false, false, false, false, false, false, false, false]) rfl (by kernel_rfl) (by kernel_rfl) (by kernel_rfl) rfl ?_
      refine f_val rfl rfl rfl (by intro t_ w hw; exact x_move (.pointer (some ⟨b, 0, none⟩)) rfl w) ?_
      refine f_first 1 (listed' := #[true, true, false, false, false, false, false, false, false, false, false, false, false, false, false, false, false, false, false, false]) rfl (by kernel_rfl) (by kernel_rfl) (by kernel_rfl) rfl ?_
      refine f_val rfl rfl rfl (by intro t_ w hw; exact x_nilCheck (.pointer (some ⟨b, 0, none⟩)) rfl ⟨_, rfl⟩ w) ?_
      refine f_first 2 (listed' := #[true, true, true, false, false, false, false, false, false, false, false, false, false, false, false, false, false, false, false, false]) rfl (by kernel_rfl) (by kernel_rfl) (by kernel_rfl) rfl ?_
      refine f_val rfl rfl rfl (by intro t_ w hw; exact x_fieldAddr 87 1 1 1 22 rfl fi_87_1 rfl w) ?_
      refine f_first 3 (listed' := #[true, true, true, true, false, false, false, false, false, false, false, false, false, false, false, false, false, false, false, false]) rfl (by kernel_rfl) (by kernel_rfl) (by kernel_rfl) rfl ?_
      refine f_val rfl rfl rfl (by intro t_ w hw; exact x_load (.slice pp5 (L.length / 8 + 1) cc6) ag_22 rfl (hw.blk_at (i := 0) rfl) rfl) ?_
      refine f_first 4 (listed' := #[true, true, true, true, true, false, false, false, false, false, false, false, false, false, false, false, false, false, false, false]) rfl (by kernel_rfl) (by kernel_rfl) (by kernel_rfl) rfl ?_
      refine f_val rfl rfl rfl (by intro t_ w hw; exact x_move (.pointer (some ⟨b, 0, none⟩)) rfl w) ?_
      refine f_first 5 (listed' := #[true, true, true, true, true, true, false, false, false, false, false, false, false, false, false, false, false, false, false, false]) rfl (by kernel_rfl) (by kernel_rfl) (by kernel_rfl) rfl ?_
      refine f_val rfl rfl rfl (by intro t_ w hw; exact x_nilCheck (.pointer (some ⟨b, 0, none⟩)) rfl ⟨_, rfl⟩ w) ?_
      refine f_first 6 (listed' := #[true, true, true, true, true, true, true, false, false, false, false, false, false, false, false, false, false, false, false, false]) rfl (by kernel_rfl) (by kernel_rfl) (by kernel_rfl) rfl ?_
      refine f_val rfl rfl rfl (by intro t_ w hw; exact x_fieldAddr 87 2 2 2 3 rfl fi_87_2 rfl w) ?_
      refine f_first 7 (listed' := #[true, true, true, true, true, true, true, true, false, false, false, false, false, false, false, false, false, false, false, false]) rfl (by kernel_rfl) (by kernel_rfl) (by kernel_rfl) rfl ?_
      refine f_val rfl rfl rfl (by intro t_ w hw; exact x_load (.int .i64 (L.length : Int)) ag_3 rfl (hw.blk_at (i := 0) rfl) rfl) ?_
      refine f_first 8 (listed' := #[true, true, true, true, true, true, true, true, true, false, false, false, false, false, false, false, false, false, false, false]) rfl (by kernel_rfl) (by kernel_rfl) (by kernel_rfl) rfl ?_
      refine f_val rfl rfl rfl (by intro t_ w hw; exact x_quo ((L.length : Int) / 8) rfl rfl (by omega) (by rw [tdiv_pos (by omega)]; exact wi64 (by omega)) w) ?_
      refine f_first 9 (listed' := #[true, true, true, true, true, true, true, true, true, true, false, false, false, false, false, false, false, false, false, false]) rfl (by kernel_rfl) (by kernel_rfl) (by kernel_rfl) rfl ?_
      refine f_val rfl rfl rfl (by intro t_ w hw; exact x_indexAddr bk50 (off := 0) ((L.length : Int) / 8) 1 (0 + (L.length / 8) * 1) (by exact congrArg (fun z_ => Value.slice z_ (L.length / 8 + 1) cc6) ((fun (_ : 0 < 1) => hp52) (by omega))) rfl el_22 (by omega) (by rw [show ((L.length : Int) / 8 : Int).toNat = L.length / 8 from by omega]) w) ?_
      refine f_first 11 (listed' := #[true, true, true, true, true, true, true, true, true, true, false, true, false, false, false, false, false, false, false, false]) rfl (by kernel_rfl) (by kernel_rfl) (by kernel_rfl) rfl ?_
      refine f_val rfl rfl rfl (by intro t_ w hw; exact x_move (.pointer (some ⟨b, 0, none⟩)) rfl w) ?_
      refine f_first 12 (listed' := #[true, true, true, true, true, true, true, true, true, true, false, true, true, false, false, false, false, false, false, false]) rfl (by kernel_rfl) (by kernel_rfl) (by kernel_rfl) rfl ?_
      refine f_val rfl rfl rfl (by intro t_ w hw; exact x_nilCheck (.pointer (some ⟨b, 0, none⟩)) rfl ⟨_, rfl⟩ w) ?_
      refine f_first 13 (listed' := #[true, true, true, true, true, true, true, true, true, true, false, true, true, true, false, false, false, false, false, false]) rfl (by kernel_rfl) (by kernel_rfl) (by kernel_rfl) rfl ?_
      refine f_val rfl rfl rfl (by intro t_ w hw; exact x_fieldAddr 87 2 2 2 3 rfl fi_87_2 rfl w) ?_
      refine f_first 14 (listed' := #[true, true, true, true, true, true, true, true, true, true, false, true, true, true, true, false, false, false, false, false]) rfl (by kernel_rfl) (by kernel_rfl) (by kernel_rfl) rfl ?_
      refine f_val rfl rfl rfl (by intro t_ w hw; exact x_load (.int .i64 (L.length : Int)) ag_3 rfl (hw.blk_at (i := 0) rfl) rfl) ?_
      refine f_first 15 (listed' := #[true, true, true, true, true, true, true, true, true, true, false, true, true, true, true, true, false, false, false, false]) rfl (by kernel_rfl) (by kernel_rfl) (by kernel_rfl) rfl ?_
      refine f_val rfl rfl rfl (by intro t_ w hw; exact x_rem ((L.length : Int) % 8) rfl rfl (by omega) (tmod_pos (by omega)) w) ?_
      refine f_first 16 (listed' := #[true, true, true, true, true, true, true, true, true, true, false, true, true, true, true, true, true, false, false, false]) rfl (by kernel_rfl) (by kernel_rfl) (by kernel_rfl) rfl ?_
      refine f_val rfl rfl rfl (by intro t_ w hw; exact x_shr ((2 ^ (7 - L.length % 8) : Nat) : Int) rfl rfl (by omega) (shr128 L.length (by omega)) w) ?_
      refine f_all (rs := [10]) (by kernel_rfl) (by simp) ?_
      refine a_cons ⟨_, rfl, ?_⟩ (fun x hx => absurd hx (by simp))
      intro w60 H61
      try dsimp only at H61
      refine s_load (.int .u8 (((pkp L).getD (L.length / 8) 0).toNat : Int)) ag_5 rfl (H61.blk_at (i := 1) rfl) (elem_cell (L := pkp L) (i := L.length / 8) u8c_len (by rw [pkp_len L]; exact h56) (by have hh : (pkp L).length = L.length / 8 + 1 := pkp_len L; omega) 0 0 (by decide) _ rfl) rfl ?_
      refine ⟨blk bk50 (.cells cur51 5 (0, 0)) :: (F.set i emp), ?_, H61⟩
      change FReg _ _ _ _ _ #[true, true, true, true, true, true, true, true, true, true, true, true, true, true, true, true, true, false, false, false] _ _
      refine f_first 17 (listed' := #[true, true, true, true, true, true, true, true, true, true, true, true, true, true, true, true, true, true, false, false]) rfl (by kernel_rfl) (by kernel_rfl) (by kernel_rfl) rfl ?_
      refine f_val rfl rfl rfl (by intro t_ w hw; exact x_or ((byteN L (L.length / 8) + 2 ^ (7 - L.length % 8) : Nat) : Int) rfl rfl (or_put L) w) ?_
      refine f_first 18 (listed' := #[true, true, true, true, true, true, true, true, true, true, true, true, true, true, true, true, true, true, true, false]) rfl (by kernel_rfl) (by kernel_rfl) (by kernel_rfl) rfl ?_
      refine f_val rfl rfl rfl (by intro t_ w hw; exact x_indexAddr bk50 (off := 0) ((L.length : Int) / 8) 1 (0 + (L.length / 8) * 1) (by exact congrArg (fun z_ => Value.slice z_ (L.length / 8 + 1) cc6) ((fun (_ : 0 < 1) => hp52) (by omega))) rfl el_22 (by omega) (by rw [show ((L.length : Int) / 8 : Int).toNat = L.length / 8 from by omega]) w) ?_
      refine f_all (rs := [19]) (by kernel_rfl) (by simp) ?_
      refine a_cons ⟨_, rfl, ?_⟩ (fun x hx => absurd hx (by simp))
      intro w62 H63
      try dsimp only at H63
      have hx66 := row_set1 (f := u8c) (L := pkp L) (cur := cur51) u8c_len (by rw [pkp_len L]; exact h56) (show (pkp L).length * 1 ≤ cur51.size by rw [pkp_len L, h55]; exact Nat.mul_le_mul_right 1 h53) (j := L.length / 8) (by have hh := pkp_len L; omega) 0 (.int .u8 ((byteN L (L.length / 8) + 2 ^ (7 - L.length % 8) : Nat) : Int)) (UInt8.ofNat (byteN L (L.length / 8) + 2 ^ (7 - L.length % 8))) (u8_set (byte_or_lt L))
      refine s_store H63 1 (.int .u8 ((byteN L (L.length / 8) + 2 ^ (7 - L.length % 8) : Nat) : Int)) rfl rfl rfl sz_5 rfl (by have hh := pkp_len L; have hk := (show (pkp L).length * 1 ≤ cur51.size by rw [pkp_len L, h55]; exact Nat.mul_le_mul_right 1 h53); omega) rfl (cs' := (cur51.setIfInBounds (0 + (L.length / 8) * 1) (.int .u8 ((byteN L (L.length / 8) + 2 ^ (7 - L.length % 8) : Nat) : Int)))) rfl ?_; intro w64 H65
      refine ⟨blk bk50 (.cells (cur51.setIfInBounds (0 + (L.length / 8) * 1) (.int .u8 ((byteN L (L.length / 8) + 2 ^ (7 - L.length % 8) : Nat) : Int))) 5 (0, 0)) :: (F.set i emp), ?_, H65⟩
      change FReg _ _ _ _ _ #[true, true, true, true, true, true, true, true, true, true, true, true, true, true, true, true, true, true, true, true] _ _
      refine f_done (by kernel_rfl) ?_
      intro w67 H68
      refine g_region ?_
      refine r_cons (s_move (.pointer (some ⟨b, 0, none⟩)) rfl rfl ?_)
      refine r_cons (s_nilCheck (.pointer (some ⟨b, 0, none⟩)) rfl ⟨_, rfl⟩ rfl ?_)
      refine r_cons (s_fieldAddr 87 2 2 2 3 rfl fi_87_2 rfl rfl ?_)
      refine r_cons (s_load (.int .i64 (L.length : Int)) ag_3 rfl (H68.blk_at (i := 0) rfl) rfl rfl ?_)
      refine r_cons (s_add ((L.length : Int) + 1) rfl rfl (wi64 (by omega)) rfl ?_)
      refine r_cons (s_nilCheck (.pointer (some ⟨b, 0, none⟩)) rfl ⟨_, rfl⟩ rfl ?_)
      refine r_cons (s_fieldAddr 87 2 2 2 3 rfl fi_87_2 rfl rfl ?_)
      refine r_cons (s_store H68 0 (.int .i64 ((L.length : Int) + 1)) rfl rfl rfl sz_3 rfl (Nat.le_of_ble_eq_true rfl) rfl (cs' := #[.bool true, .slice pp5 (L.length / 8 + 1) cc6, .int .i64 ((L.length : Int) + 1)]) rfl ?_); intro w69 H70
      refine r_nil ?_
      refine g_end' [] Try.func65 Try.results65 trivial ?_
      have H71 := Row.shut2 (p := pp5) (n := L.length / 8 + 1) (c := cc6) (size := 1) (xs := ((pkp L).set (L.length / 8) (UInt8.ofNat (byteN L (L.length / 8) + 2 ^ (7 - L.length % 8)))).flatMap u8c) H70 (i := 1) rfl hp52 h53 h54 (by rw [Array.size_setIfInBounds]; exact h55) (by have hh : ((cur51.setIfInBounds (0 + (L.length / 8) * 1) (.int .u8 ((byteN L (L.length / 8) + 2 ^ (7 - L.length % 8) : Nat) : Int))).toList.drop 0).take (((pkp L).set (L.length / 8) (UInt8.ofNat (byteN L (L.length / 8) + 2 ^ (7 - L.length % 8)))).length * 1) = ((pkp L).set (L.length / 8) (UInt8.ofNat (byteN L (L.length / 8) + 2 ^ (7 - L.length % 8)))).flatMap u8c := hx66; have hk : ((pkp L).set (L.length / 8) (UInt8.ofNat (byteN L (L.length / 8) + 2 ^ (7 - L.length % 8)))).length = L.length / 8 + 1 := (by rw [List.length_set]; exact pkp_len L); rw [hk] at hh; exact hh) (one_u8 _)
      have H72 : St W w69 (blk b (.cells #[.bool true, .slice pp5 (L.length / 8 + 1) cc6, .int .i64 ((L.length : Int) + 1)] 87 (0, 0)) :: Row 5 1 (.slice pp5 (L.length / 8 + 1) cc6) (L.length / 8 + 1) (((pkp L).set (L.length / 8) (UInt8.ofNat (byteN L (L.length / 8) + 2 ^ (7 - L.length % 8)))).flatMap u8c) :: (F.set i emp)) := ((H71.move 1 rfl).move 1 rfl)
      have H73 : St W w69 (blk b (.cells #[.bool true, .slice pp5 (L.length / 8 + 1) cc6, .int .i64 ((L ++ [true]).length : Int)] 87 (0, 0)) :: Row 5 1 (.slice pp5 (L.length / 8 + 1) cc6) (((L ++ [true]).length + 7) / 8) ((pk (L ++ [true])).flatMap u8c) :: F.set i emp) := by rw [snoc_len, snoc_bytes, pk_snoc_true]; exact H72
      have hx : x = true := hb59
      rw [hx]
      exact ⟨rfl, St.back hi (St.shut_ex (.slice pp5 (L.length / 8 + 1) cc6) (St.shut_star (ls := [blk b (.cells #[.bool true, .slice pp5 (L.length / 8 + 1) cc6, .int .i64 ((L ++ [true]).length : Int)] 87 (0, 0)), Row 5 1 (.slice pp5 (L.length / 8 + 1) cc6) (((L ++ [true]).length + 7) / 8) ((pk (L ++ [true])).flatMap u8c)]) H73))⟩
    · have hb59 := eq_false_of_ne_true hb59
      refine g_false (congrArg Value.bool hb59) ?_
      refine g_skip ?_
      refine g_region ?_
      refine r_cons (s_move (.pointer (some ⟨b, 0, none⟩)) rfl rfl ?_)
      refine r_cons (s_nilCheck (.pointer (some ⟨b, 0, none⟩)) rfl ⟨_, rfl⟩ rfl ?_)
      refine r_cons (s_fieldAddr 87 2 2 2 3 rfl fi_87_2 rfl rfl ?_)
      refine r_cons (s_load (.int .i64 (L.length : Int)) ag_3 rfl (H58.blk_at (i := 0) rfl) rfl rfl ?_)
      refine r_cons (s_add ((L.length : Int) + 1) rfl rfl (wi64 (by omega)) rfl ?_)
      refine r_cons (s_nilCheck (.pointer (some ⟨b, 0, none⟩)) rfl ⟨_, rfl⟩ rfl ?_)
      refine r_cons (s_fieldAddr 87 2 2 2 3 rfl fi_87_2 rfl rfl ?_)
      refine r_cons (s_store H58 0 (.int .i64 ((L.length : Int) + 1)) rfl rfl rfl sz_3 rfl (Nat.le_of_ble_eq_true rfl) rfl (cs' := #[.bool true, .slice pp5 (L.length / 8 + 1) cc6, .int .i64 ((L.length : Int) + 1)]) rfl ?_); intro w74 H75
      refine r_nil ?_
      refine g_end' [] Try.func65 Try.results65 trivial ?_
      have H76 := Row.shut2 (p := pp5) (n := L.length / 8 + 1) (c := cc6) (size := 1) (xs := (pkp L).flatMap u8c) H75 (i := 1) rfl hp52 h53 h54 h55 (by have hh : (cur51.toList.drop 0).take ((pkp L).length * 1) = (pkp L).flatMap u8c := (by rw [pkp_len L]; exact h56); have hk : (pkp L).length = L.length / 8 + 1 := pkp_len L; rw [hk] at hh; exact hh) (one_u8 _)
      have H77 : St W w74 (blk b (.cells #[.bool true, .slice pp5 (L.length / 8 + 1) cc6, .int .i64 ((L.length : Int) + 1)] 87 (0, 0)) :: Row 5 1 (.slice pp5 (L.length / 8 + 1) cc6) (L.length / 8 + 1) ((pkp L).flatMap u8c) :: (F.set i emp)) := ((H76.move 1 rfl).move 1 rfl)
      have H78 : St W w74 (blk b (.cells #[.bool true, .slice pp5 (L.length / 8 + 1) cc6, .int .i64 ((L ++ [false]).length : Int)] 87 (0, 0)) :: Row 5 1 (.slice pp5 (L.length / 8 + 1) cc6) (((L ++ [false]).length + 7) / 8) ((pk (L ++ [false])).flatMap u8c) :: F.set i emp) := by rw [snoc_len, snoc_bytes, pk_snoc_false]; exact H77
      have hx : x = false := hb59
      rw [hx]
      exact ⟨rfl, St.back hi (St.shut_ex (.slice pp5 (L.length / 8 + 1) cc6) (St.shut_star (ls := [blk b (.cells #[.bool true, .slice pp5 (L.length / 8 + 1) cc6, .int .i64 ((L ++ [false]).length : Int)] 87 (0, 0)), Row 5 1 (.slice pp5 (L.length / 8 + 1) cc6) (((L ++ [false]).length + 7) / 8) ((pk (L ++ [false])).flatMap u8c)]) H78))⟩
set_option maxHeartbeats 4000000 in
set_option maxRecDepth 100000 in
theorem Len64 {W w : World} {F : List Atom} (u : Nat) (hu : u < 18446744073709551616) (H : St W w F) : Calls Try.prog 66 #[.int .u64 (u : Int)] w (Ret fun v w' => v = .int .i64 (bitLen u : Int) ∧ St W w' F) := by
  refine calls_of_go (n := 25) Try.func66 rfl Try.ntmps66 rfl ?_
  refine g_seq ?_
  refine g_region ?_
  refine r_cons (s_assign (.int .i64 0) rfl rfl ?_)
  refine r_nil ?_
  refine g_seq ?_
  refine g_seq ?_
  refine g_region ?_
  refine r_cons (s_move (.int .u64 (u : Int)) rfl rfl ?_)
  by_cases hc1 : (4294967296 : Int) ≤ (u : Int)
  · skip
    refine r_cons (s_geq true rfl rfl (dtrue hc1) rfl ?_)
    refine r_nil ?_
    refine g_true rfl ?_
    refine g_seq ?_
    refine g_region ?_
    refine r_cons (s_move (.int .u64 (u : Int)) rfl rfl ?_)
    refine r_cons (s_shr ((u / 2 ^ 32 : Nat) : Int) rfl rfl (by omega) (shr_nat (k := 32) rfl (by decide)) rfl ?_)
    refine r_cons (s_assign (.int .u64 ((u / 2 ^ 32 : Nat) : Int)) rfl rfl ?_)
    refine r_nil ?_
    refine g_region ?_
    refine r_cons (s_assign (.int .i64 32) rfl rfl ?_)
    refine r_nil ?_
    refine g_seq ?_
    refine g_seq ?_
    refine g_region ?_
    refine r_cons (s_move (.int .u64 ((u / 2 ^ 32 : Nat) : Int)) rfl rfl ?_)
    by_cases hc2 : (65536 : Int) ≤ ((u / 2 ^ 32 : Nat) : Int)
    · skip
      refine r_cons (s_geq true rfl rfl (dtrue hc2) rfl ?_)
      refine r_nil ?_
      refine g_true rfl ?_
      refine g_seq ?_
      refine g_region ?_
      refine r_cons (s_move (.int .u64 ((u / 2 ^ 32 : Nat) : Int)) rfl rfl ?_)
      refine r_cons (s_shr (((u / 2 ^ 32) / 2 ^ 16 : Nat) : Int) rfl rfl (by omega) (shr_nat (k := 16) rfl (by decide)) rfl ?_)
      refine r_cons (s_assign (.int .u64 (((u / 2 ^ 32) / 2 ^ 16 : Nat) : Int)) rfl rfl ?_)
      refine r_nil ?_
      refine g_region ?_
      refine r_cons (s_move (.int .i64 32) rfl rfl ?_)
      refine r_cons (s_add 48 rfl rfl (wi64 (by omega)) rfl ?_)
      refine r_cons (s_assign (.int .i64 48) rfl rfl ?_)
      refine r_nil ?_
      refine g_seq ?_
      refine g_seq ?_
      refine g_region ?_
      refine r_cons (s_move (.int .u64 (((u / 2 ^ 32) / 2 ^ 16 : Nat) : Int)) rfl rfl ?_)
      by_cases hc3 : (256 : Int) ≤ (((u / 2 ^ 32) / 2 ^ 16 : Nat) : Int)
      · skip
        refine r_cons (s_geq true rfl rfl (dtrue hc3) rfl ?_)
        refine r_nil ?_
        refine g_true rfl ?_
        refine g_seq ?_
        refine g_region ?_
        refine r_cons (s_move (.int .u64 (((u / 2 ^ 32) / 2 ^ 16 : Nat) : Int)) rfl rfl ?_)
        refine r_cons (s_shr ((((u / 2 ^ 32) / 2 ^ 16) / 2 ^ 8 : Nat) : Int) rfl rfl (by omega) (shr_nat (k := 8) rfl (by decide)) rfl ?_)
        refine r_cons (s_assign (.int .u64 ((((u / 2 ^ 32) / 2 ^ 16) / 2 ^ 8 : Nat) : Int)) rfl rfl ?_)
        refine r_nil ?_
        refine g_region ?_
        refine r_cons (s_move (.int .i64 48) rfl rfl ?_)
        refine r_cons (s_add 56 rfl rfl (wi64 (by omega)) rfl ?_)
        refine r_cons (s_assign (.int .i64 56) rfl rfl ?_)
        refine r_nil ?_
        refine g_seq ?_
        refine g_region ?_
        refine r_cons (s_move (.int .i64 56) rfl rfl ?_)
        refine r_cons (s_move (.int .u64 ((((u / 2 ^ 32) / 2 ^ 16) / 2 ^ 8 : Nat) : Int)) rfl rfl ?_)
        refine r_cons (s_conv ((((u / 2 ^ 32) / 2 ^ 16) / 2 ^ 8 : Nat) : Int) rfl us_54 ik_5 (wu8 (by omega)) rfl ?_)
        refine r_cons (s_index_str _ ((((u / 2 ^ 32) / 2 ^ 16) / 2 ^ 8 : Nat) : Int) (bitLen (((u / 2 ^ 32) / 2 ^ 16) / 2 ^ 8) : Int) rfl rfl st_9 (by omega) (len8_str (n := ((u / 2 ^ 32) / 2 ^ 16) / 2 ^ 8) (by omega) (by omega)) rfl ?_)
        refine r_cons (s_conv (bitLen (((u / 2 ^ 32) / 2 ^ 16) / 2 ^ 8) : Int) rfl us_5 ik_3 (wi64 (by have := bitLen_le8 ((((u / 2 ^ 32) / 2 ^ 16) / 2 ^ 8)) (by omega); omega)) rfl ?_)
        refine r_cons (s_add (56 + (bitLen (((u / 2 ^ 32) / 2 ^ 16) / 2 ^ 8) : Int)) rfl rfl (wi64 (by have := bitLen_le8 (((u / 2 ^ 32) / 2 ^ 16) / 2 ^ 8) (by omega); omega)) rfl ?_)
        refine r_cons (s_assign (.int .i64 (56 + (bitLen (((u / 2 ^ 32) / 2 ^ 16) / 2 ^ 8) : Int))) rfl rfl ?_)
        refine r_nil ?_
        refine g_ret' [.int .i64 (56 + (bitLen (((u / 2 ^ 32) / 2 ^ 16) / 2 ^ 8) : Int))] Try.func66 Try.results66 ⟨rfl, trivial⟩ ?_
        have H4 : St W w F := H
        exact ⟨vint (by have := bitLen_div (u := u) (k := 32) (by omega); have := bitLen_div (u := (u / 2 ^ 32)) (k := 16) (by omega); have := bitLen_div (u := ((u / 2 ^ 32) / 2 ^ 16)) (k := 8) (by omega); omega), H4⟩
      · skip
        refine r_cons (s_geq false rfl rfl (dfalse hc3) rfl ?_)
        refine r_nil ?_
        refine g_false rfl ?_
        refine g_skip ?_
        refine g_seq ?_
        refine g_region ?_
        refine r_cons (s_move (.int .i64 48) rfl rfl ?_)
        refine r_cons (s_move (.int .u64 (((u / 2 ^ 32) / 2 ^ 16 : Nat) : Int)) rfl rfl ?_)
        refine r_cons (s_conv (((u / 2 ^ 32) / 2 ^ 16 : Nat) : Int) rfl us_54 ik_5 (wu8 (by omega)) rfl ?_)
        refine r_cons (s_index_str _ (((u / 2 ^ 32) / 2 ^ 16 : Nat) : Int) (bitLen ((u / 2 ^ 32) / 2 ^ 16) : Int) rfl rfl st_9 (by omega) (len8_str (n := (u / 2 ^ 32) / 2 ^ 16) (by omega) (by omega)) rfl ?_)
        refine r_cons (s_conv (bitLen ((u / 2 ^ 32) / 2 ^ 16) : Int) rfl us_5 ik_3 (wi64 (by have := bitLen_le8 (((u / 2 ^ 32) / 2 ^ 16)) (by omega); omega)) rfl ?_)
        refine r_cons (s_add (48 + (bitLen ((u / 2 ^ 32) / 2 ^ 16) : Int)) rfl rfl (wi64 (by have := bitLen_le8 ((u / 2 ^ 32) / 2 ^ 16) (by omega); omega)) rfl ?_)
        refine r_cons (s_assign (.int .i64 (48 + (bitLen ((u / 2 ^ 32) / 2 ^ 16) : Int))) rfl rfl ?_)
        refine r_nil ?_
        refine g_ret' [.int .i64 (48 + (bitLen ((u / 2 ^ 32) / 2 ^ 16) : Int))] Try.func66 Try.results66 ⟨rfl, trivial⟩ ?_
        have H5 : St W w F := H
        exact ⟨vint (by have := bitLen_div (u := u) (k := 32) (by omega); have := bitLen_div (u := (u / 2 ^ 32)) (k := 16) (by omega); omega), H5⟩
    · skip
      refine r_cons (s_geq false rfl rfl (dfalse hc2) rfl ?_)
      refine r_nil ?_
      refine g_false rfl ?_
      refine g_skip ?_
      refine g_seq ?_
      refine g_seq ?_
      refine g_region ?_
      refine r_cons (s_move (.int .u64 ((u / 2 ^ 32 : Nat) : Int)) rfl rfl ?_)
      by_cases hc6 : (256 : Int) ≤ ((u / 2 ^ 32 : Nat) : Int)
      · skip
        refine r_cons (s_geq true rfl rfl (dtrue hc6) rfl ?_)
        refine r_nil ?_
        refine g_true rfl ?_
        refine g_seq ?_
        refine g_region ?_
        refine r_cons (s_move (.int .u64 ((u / 2 ^ 32 : Nat) : Int)) rfl rfl ?_)
        refine r_cons (s_shr (((u / 2 ^ 32) / 2 ^ 8 : Nat) : Int) rfl rfl (by omega) (shr_nat (k := 8) rfl (by decide)) rfl ?_)
        refine r_cons (s_assign (.int .u64 (((u / 2 ^ 32) / 2 ^ 8 : Nat) : Int)) rfl rfl ?_)
        refine r_nil ?_
        refine g_region ?_
        refine r_cons (s_move (.int .i64 32) rfl rfl ?_)
        refine r_cons (s_add 40 rfl rfl (wi64 (by omega)) rfl ?_)
        refine r_cons (s_assign (.int .i64 40) rfl rfl ?_)
        refine r_nil ?_
        refine g_seq ?_
        refine g_region ?_
        refine r_cons (s_move (.int .i64 40) rfl rfl ?_)
        refine r_cons (s_move (.int .u64 (((u / 2 ^ 32) / 2 ^ 8 : Nat) : Int)) rfl rfl ?_)
        refine r_cons (s_conv (((u / 2 ^ 32) / 2 ^ 8 : Nat) : Int) rfl us_54 ik_5 (wu8 (by omega)) rfl ?_)
        refine r_cons (s_index_str _ (((u / 2 ^ 32) / 2 ^ 8 : Nat) : Int) (bitLen ((u / 2 ^ 32) / 2 ^ 8) : Int) rfl rfl st_9 (by omega) (len8_str (n := (u / 2 ^ 32) / 2 ^ 8) (by omega) (by omega)) rfl ?_)
        refine r_cons (s_conv (bitLen ((u / 2 ^ 32) / 2 ^ 8) : Int) rfl us_5 ik_3 (wi64 (by have := bitLen_le8 (((u / 2 ^ 32) / 2 ^ 8)) (by omega); omega)) rfl ?_)
        refine r_cons (s_add (40 + (bitLen ((u / 2 ^ 32) / 2 ^ 8) : Int)) rfl rfl (wi64 (by have := bitLen_le8 ((u / 2 ^ 32) / 2 ^ 8) (by omega); omega)) rfl ?_)
        refine r_cons (s_assign (.int .i64 (40 + (bitLen ((u / 2 ^ 32) / 2 ^ 8) : Int))) rfl rfl ?_)
        refine r_nil ?_
        refine g_ret' [.int .i64 (40 + (bitLen ((u / 2 ^ 32) / 2 ^ 8) : Int))] Try.func66 Try.results66 ⟨rfl, trivial⟩ ?_
        have H7 : St W w F := H
        exact ⟨vint (by have := bitLen_div (u := u) (k := 32) (by omega); have := bitLen_div (u := (u / 2 ^ 32)) (k := 8) (by omega); omega), H7⟩
      · skip
        refine r_cons (s_geq false rfl rfl (dfalse hc6) rfl ?_)
        refine r_nil ?_
        refine g_false rfl ?_
        refine g_skip ?_
        refine g_seq ?_
        refine g_region ?_
        refine r_cons (s_move (.int .i64 32) rfl rfl ?_)
        refine r_cons (s_move (.int .u64 ((u / 2 ^ 32 : Nat) : Int)) rfl rfl ?_)
        refine r_cons (s_conv ((u / 2 ^ 32 : Nat) : Int) rfl us_54 ik_5 (wu8 (by omega)) rfl ?_)
        refine r_cons (s_index_str _ ((u / 2 ^ 32 : Nat) : Int) (bitLen (u / 2 ^ 32) : Int) rfl rfl st_9 (by omega) (len8_str (n := u / 2 ^ 32) (by omega) (by omega)) rfl ?_)
        refine r_cons (s_conv (bitLen (u / 2 ^ 32) : Int) rfl us_5 ik_3 (wi64 (by have := bitLen_le8 ((u / 2 ^ 32)) (by omega); omega)) rfl ?_)
        refine r_cons (s_add (32 + (bitLen (u / 2 ^ 32) : Int)) rfl rfl (wi64 (by have := bitLen_le8 (u / 2 ^ 32) (by omega); omega)) rfl ?_)
        refine r_cons (s_assign (.int .i64 (32 + (bitLen (u / 2 ^ 32) : Int))) rfl rfl ?_)
        refine r_nil ?_
        refine g_ret' [.int .i64 (32 + (bitLen (u / 2 ^ 32) : Int))] Try.func66 Try.results66 ⟨rfl, trivial⟩ ?_
        have H8 : St W w F := H
        exact ⟨vint (by have := bitLen_div (u := u) (k := 32) (by omega); omega), H8⟩
  · skip
    refine r_cons (s_geq false rfl rfl (dfalse hc1) rfl ?_)
    refine r_nil ?_
    refine g_false rfl ?_
    refine g_skip ?_
    refine g_seq ?_
    refine g_seq ?_
    refine g_region ?_
    refine r_cons (s_move (.int .u64 (u : Int)) rfl rfl ?_)
    by_cases hc9 : (65536 : Int) ≤ (u : Int)
    · skip
      refine r_cons (s_geq true rfl rfl (dtrue hc9) rfl ?_)
      refine r_nil ?_
      refine g_true rfl ?_
      refine g_seq ?_
      refine g_region ?_
      refine r_cons (s_move (.int .u64 (u : Int)) rfl rfl ?_)
      refine r_cons (s_shr ((u / 2 ^ 16 : Nat) : Int) rfl rfl (by omega) (shr_nat (k := 16) rfl (by decide)) rfl ?_)
      refine r_cons (s_assign (.int .u64 ((u / 2 ^ 16 : Nat) : Int)) rfl rfl ?_)
      refine r_nil ?_
      refine g_region ?_
      refine r_cons (s_move (.int .i64 0) rfl rfl ?_)
      refine r_cons (s_add 16 rfl rfl (wi64 (by omega)) rfl ?_)
      refine r_cons (s_assign (.int .i64 16) rfl rfl ?_)
      refine r_nil ?_
      refine g_seq ?_
      refine g_seq ?_
      refine g_region ?_
      refine r_cons (s_move (.int .u64 ((u / 2 ^ 16 : Nat) : Int)) rfl rfl ?_)
      by_cases hc10 : (256 : Int) ≤ ((u / 2 ^ 16 : Nat) : Int)
      · skip
        refine r_cons (s_geq true rfl rfl (dtrue hc10) rfl ?_)
        refine r_nil ?_
        refine g_true rfl ?_
        refine g_seq ?_
        refine g_region ?_
        refine r_cons (s_move (.int .u64 ((u / 2 ^ 16 : Nat) : Int)) rfl rfl ?_)
        refine r_cons (s_shr (((u / 2 ^ 16) / 2 ^ 8 : Nat) : Int) rfl rfl (by omega) (shr_nat (k := 8) rfl (by decide)) rfl ?_)
        refine r_cons (s_assign (.int .u64 (((u / 2 ^ 16) / 2 ^ 8 : Nat) : Int)) rfl rfl ?_)
        refine r_nil ?_
        refine g_region ?_
        refine r_cons (s_move (.int .i64 16) rfl rfl ?_)
        refine r_cons (s_add 24 rfl rfl (wi64 (by omega)) rfl ?_)
        refine r_cons (s_assign (.int .i64 24) rfl rfl ?_)
        refine r_nil ?_
        refine g_seq ?_
        refine g_region ?_
        refine r_cons (s_move (.int .i64 24) rfl rfl ?_)
        refine r_cons (s_move (.int .u64 (((u / 2 ^ 16) / 2 ^ 8 : Nat) : Int)) rfl rfl ?_)
        refine r_cons (s_conv (((u / 2 ^ 16) / 2 ^ 8 : Nat) : Int) rfl us_54 ik_5 (wu8 (by omega)) rfl ?_)
        refine r_cons (s_index_str _ (((u / 2 ^ 16) / 2 ^ 8 : Nat) : Int) (bitLen ((u / 2 ^ 16) / 2 ^ 8) : Int) rfl rfl st_9 (by omega) (len8_str (n := (u / 2 ^ 16) / 2 ^ 8) (by omega) (by omega)) rfl ?_)
        refine r_cons (s_conv (bitLen ((u / 2 ^ 16) / 2 ^ 8) : Int) rfl us_5 ik_3 (wi64 (by have := bitLen_le8 (((u / 2 ^ 16) / 2 ^ 8)) (by omega); omega)) rfl ?_)
        refine r_cons (s_add (24 + (bitLen ((u / 2 ^ 16) / 2 ^ 8) : Int)) rfl rfl (wi64 (by have := bitLen_le8 ((u / 2 ^ 16) / 2 ^ 8) (by omega); omega)) rfl ?_)
        refine r_cons (s_assign (.int .i64 (24 + (bitLen ((u / 2 ^ 16) / 2 ^ 8) : Int))) rfl rfl ?_)
        refine r_nil ?_
        refine g_ret' [.int .i64 (24 + (bitLen ((u / 2 ^ 16) / 2 ^ 8) : Int))] Try.func66 Try.results66 ⟨rfl, trivial⟩ ?_
        have H11 : St W w F := H
        exact ⟨vint (by have := bitLen_div (u := u) (k := 16) (by omega); have := bitLen_div (u := (u / 2 ^ 16)) (k := 8) (by omega); omega), H11⟩
      · skip
        refine r_cons (s_geq false rfl rfl (dfalse hc10) rfl ?_)
        refine r_nil ?_
        refine g_false rfl ?_
        refine g_skip ?_
        refine g_seq ?_
        refine g_region ?_
        refine r_cons (s_move (.int .i64 16) rfl rfl ?_)
        refine r_cons (s_move (.int .u64 ((u / 2 ^ 16 : Nat) : Int)) rfl rfl ?_)
        refine r_cons (s_conv ((u / 2 ^ 16 : Nat) : Int) rfl us_54 ik_5 (wu8 (by omega)) rfl ?_)
        refine r_cons (s_index_str _ ((u / 2 ^ 16 : Nat) : Int) (bitLen (u / 2 ^ 16) : Int) rfl rfl st_9 (by omega) (len8_str (n := u / 2 ^ 16) (by omega) (by omega)) rfl ?_)
        refine r_cons (s_conv (bitLen (u / 2 ^ 16) : Int) rfl us_5 ik_3 (wi64 (by have := bitLen_le8 ((u / 2 ^ 16)) (by omega); omega)) rfl ?_)
        refine r_cons (s_add (16 + (bitLen (u / 2 ^ 16) : Int)) rfl rfl (wi64 (by have := bitLen_le8 (u / 2 ^ 16) (by omega); omega)) rfl ?_)
        refine r_cons (s_assign (.int .i64 (16 + (bitLen (u / 2 ^ 16) : Int))) rfl rfl ?_)
        refine r_nil ?_
        refine g_ret' [.int .i64 (16 + (bitLen (u / 2 ^ 16) : Int))] Try.func66 Try.results66 ⟨rfl, trivial⟩ ?_
        have H12 : St W w F := H
        exact ⟨vint (by have := bitLen_div (u := u) (k := 16) (by omega); omega), H12⟩
    · skip
      refine r_cons (s_geq false rfl rfl (dfalse hc9) rfl ?_)
      refine r_nil ?_
      refine g_false rfl ?_
      refine g_skip ?_
      refine g_seq ?_
      refine g_seq ?_
      refine g_region ?_
      refine r_cons (s_move (.int .u64 (u : Int)) rfl rfl ?_)
      by_cases hc13 : (256 : Int) ≤ (u : Int)
      · skip
        refine r_cons (s_geq true rfl rfl (dtrue hc13) rfl ?_)
        refine r_nil ?_
        refine g_true rfl ?_
        refine g_seq ?_
        refine g_region ?_
        refine r_cons (s_move (.int .u64 (u : Int)) rfl rfl ?_)
        refine r_cons (s_shr ((u / 2 ^ 8 : Nat) : Int) rfl rfl (by omega) (shr_nat (k := 8) rfl (by decide)) rfl ?_)
        refine r_cons (s_assign (.int .u64 ((u / 2 ^ 8 : Nat) : Int)) rfl rfl ?_)
        refine r_nil ?_
        refine g_region ?_
        refine r_cons (s_move (.int .i64 0) rfl rfl ?_)
        refine r_cons (s_add 8 rfl rfl (wi64 (by omega)) rfl ?_)
        refine r_cons (s_assign (.int .i64 8) rfl rfl ?_)
        refine r_nil ?_
        refine g_seq ?_
        refine g_region ?_
        refine r_cons (s_move (.int .i64 8) rfl rfl ?_)
        refine r_cons (s_move (.int .u64 ((u / 2 ^ 8 : Nat) : Int)) rfl rfl ?_)
        refine r_cons (s_conv ((u / 2 ^ 8 : Nat) : Int) rfl us_54 ik_5 (wu8 (by omega)) rfl ?_)
        refine r_cons (s_index_str _ ((u / 2 ^ 8 : Nat) : Int) (bitLen (u / 2 ^ 8) : Int) rfl rfl st_9 (by omega) (len8_str (n := u / 2 ^ 8) (by omega) (by omega)) rfl ?_)
        refine r_cons (s_conv (bitLen (u / 2 ^ 8) : Int) rfl us_5 ik_3 (wi64 (by have := bitLen_le8 ((u / 2 ^ 8)) (by omega); omega)) rfl ?_)
        refine r_cons (s_add (8 + (bitLen (u / 2 ^ 8) : Int)) rfl rfl (wi64 (by have := bitLen_le8 (u / 2 ^ 8) (by omega); omega)) rfl ?_)
        refine r_cons (s_assign (.int .i64 (8 + (bitLen (u / 2 ^ 8) : Int))) rfl rfl ?_)
        refine r_nil ?_
        refine g_ret' [.int .i64 (8 + (bitLen (u / 2 ^ 8) : Int))] Try.func66 Try.results66 ⟨rfl, trivial⟩ ?_
        have H14 : St W w F := H
        exact ⟨vint (by have := bitLen_div (u := u) (k := 8) (by omega); omega), H14⟩
      · skip
        refine r_cons (s_geq false rfl rfl (dfalse hc13) rfl ?_)
        refine r_nil ?_
        refine g_false rfl ?_
        refine g_skip ?_
        refine g_seq ?_
        refine g_region ?_
        refine r_cons (s_move (.int .i64 0) rfl rfl ?_)
        refine r_cons (s_move (.int .u64 (u : Int)) rfl rfl ?_)
        refine r_cons (s_conv (u : Int) rfl us_54 ik_5 (wu8 (by omega)) rfl ?_)
        refine r_cons (s_index_str _ (u : Int) (bitLen (u) : Int) rfl rfl st_9 (by omega) (len8_str (n := u) (by omega) (by omega)) rfl ?_)
        refine r_cons (s_conv (bitLen (u) : Int) rfl us_5 ik_3 (wi64 (by have := bitLen_le8 ((u)) (by omega); omega)) rfl ?_)
        refine r_cons (s_add (0 + (bitLen (u) : Int)) rfl rfl (wi64 (by have := bitLen_le8 (u) (by omega); omega)) rfl ?_)
        refine r_cons (s_assign (.int .i64 (0 + (bitLen (u) : Int))) rfl rfl ?_)
        refine r_nil ?_
        refine g_ret' [.int .i64 (0 + (bitLen (u) : Int))] Try.func66 Try.results66 ⟨rfl, trivial⟩ ?_
        have H15 : St W w F := H
        exact ⟨vint (by omega), H15⟩
set_option maxHeartbeats 4000000 in
set_option maxRecDepth 100000 in
theorem Size {W w : World} {F : List Atom} (u : Nat) (hu : u < 18446744073709551616) (H : St W w F) : Calls Try.prog 62 #[.int .u64 (u : Int)] w (Ret fun v w' => v = .int .i64 (sizeU u : Int) ∧ St W w' F) := by
  refine calls_of_go (n := 10) Try.func62 rfl Try.ntmps62 rfl ?_
  refine g_seq ?_
  refine g_region ?_
  refine r_cons (s_assign (.int .i64 0) rfl rfl ?_)
  refine r_nil ?_
  refine g_seq ?_
  refine g_seq ?_
  refine g_region ?_
  refine r_cons (s_move (.int .u64 (u : Int)) rfl rfl ?_)
  by_cases hc1 : (u : Int) = 18446744073709551615
  · skip
    refine r_cons (s_eql true rfl rfl (dtrue hc1) rfl ?_)
    refine r_nil ?_
    refine g_true rfl ?_
    refine g_seq ?_
    refine g_region ?_
    refine r_cons (s_assign (.int .i64 129) rfl rfl ?_)
    refine r_nil ?_
    refine g_ret' [.int .i64 129] Try.func62 Try.results62 ⟨rfl, trivial⟩ ?_
    have H2 : St W w F := H
    exact ⟨vint (by unfold sizeU; rw [if_pos (by omega)]; rfl), H2⟩
  · skip
    refine r_cons (s_eql false rfl rfl (dfalse hc1) rfl ?_)
    refine r_nil ?_
    refine g_false rfl ?_
    refine g_skip ?_
    refine g_seq ?_
    refine g_region ?_
    refine r_cons (s_move (.int .u64 (u : Int)) rfl rfl ?_)
    refine r_cons (s_add ((u + 1 : Nat) : Int) rfl rfl ((wu64 (by omega)).trans (by omega)) rfl ?_)
    refine r_cons (s_call [.int .u64 ((u + 1 : Nat) : Int)] pl_66 rfl rfl (Len64 (u + 1) (by omega) H) ?_)
    rintro _ w3 ⟨rfl, H4⟩
    refine r_cons (s_mul (2 * (bitLen (u + 1) : Int)) rfl rfl (wi64 (by have := bitLen_le64 (u := u + 1) (by omega); omega)) rfl ?_)
    refine r_cons (s_sub (2 * (bitLen (u + 1) : Int) - 1) rfl rfl (wi64 (by have := bitLen_le64 (u := u + 1) (by omega); omega)) rfl ?_)
    refine r_cons (s_assign (.int .i64 (2 * (bitLen (u + 1) : Int) - 1)) rfl rfl ?_)
    refine r_nil ?_
    refine g_ret' [.int .i64 (2 * (bitLen (u + 1) : Int) - 1)] Try.func62 Try.results62 ⟨rfl, trivial⟩ ?_
    have H5 : St W w3 F := H4
    exact ⟨vint (by unfold sizeU; first | rw [if_pos (by omega)] | (rw [if_neg (by omega)]; have := bitLen_pos (u := u + 1) (by omega); omega)), H5⟩
set_option maxHeartbeats 4000000 in
set_option maxRecDepth 100000 in
theorem NewSink {W w : World} {F : List Atom}  (H : St W w F) : Calls Try.prog 50 #[] w (Ret fun v w' => ∃ k, v = .pointer (some ⟨k, 0, none⟩) ∧ St W w' (SinkA k [] :: F)) := by
  refine calls_of_go (n := 3) Try.func50 rfl Try.ntmps50 rfl ?_
  refine g_seq ?_
  refine g_region ?_
  refine r_cons (s_assign (.pointer none) rfl rfl ?_)
  refine r_nil ?_
  refine g_seq ?_
  refine g_region ?_
  refine r_cons (s_build (cs := #[.bool true, .slice none 0 0, .int .i64 0]) (by kernel_rfl) rfl ?_)
  refine r_cons (s_box H 87 (.agg #[.bool true, .slice none 0 0, .int .i64 0]) rfl (cs := #[.bool true, .slice none 0 0, .int .i64 0]) rfl rfl ?_); intro bk1 w2 H3
  refine r_cons (s_assign (.pointer (some ⟨bk1, 0, none⟩)) rfl rfl ?_)
  refine r_nil ?_
  refine g_ret' [.pointer (some ⟨bk1, 0, none⟩)] Try.func50 Try.results50 ⟨rfl, trivial⟩ ?_
  have H4 : St W w2 (blk bk1 (.cells #[.bool true, .slice none 0 0, .int .i64 0] 87 (0, 0)) :: F) := H3
  have H5 := ((Row.nil_intro H4 5 1).move 1 rfl)
  exact ⟨bk1, rfl, St.shut_ex (.slice none 0 0) (St.shut_star (ls := [blk bk1 (.cells #[.bool true, .slice none 0 0, .int .i64 (([] : List Bool).length : Int)] 87 (0, 0)), Row 5 1 (.slice none 0 0) ((([] : List Bool).length + 7) / 8) ((pk []).flatMap u8c)]) H5)⟩
set_option maxHeartbeats 4000000 in
set_option maxRecDepth 100000 in
theorem Sink_room {W w : World} {F : List Atom} (b : Nat) (L : List Bool) (n : Int) (hb : L.length ≤ 1048576) {i : Nat} (hi : F[i]? = some (SinkA b L)) (H : St W w F) : Calls Try.prog 60 #[.pointer (some ⟨b, 0, none⟩), .int .i64 n] w (Ret fun v w' => v = .int .i64 (putE L n) ∧ St W w' F) := by
  have H0 := H.front hi
  refine calls_of_go (n := 23) Try.func60 rfl Try.ntmps60 rfl ?_
  refine g_seq ?_
  refine g_region ?_
  refine r_cons (s_assign (.int .i64 0) rfl rfl ?_)
  refine r_nil ?_
  refine g_seq ?_
  refine g_block ?_
  refine g_seq ?_
  refine g_region ?_
  refine r_cons (s_move (.pointer (some ⟨b, 0, none⟩)) rfl rfl ?_)
  refine r_cons (s_peql false un_76 rfl rfl rfl rfl ?_)
  refine r_cons (s_move (.bool false) rfl rfl ?_)
  refine r_cons (r_take rfl rfl ?_)
  refine s_move (.pointer (some ⟨b, 0, none⟩)) rfl rfl ?_
  refine r_cons (r_take rfl rfl ?_)
  refine s_nilCheck (.pointer (some ⟨b, 0, none⟩)) rfl ⟨_, rfl⟩ rfl ?_
  refine r_cons (r_take rfl rfl ?_)
  refine s_fieldAddr 87 0 0 0 4 rfl fi_87_0 rfl rfl ?_
  refine r_cons (r_take rfl rfl ?_)
  have H1 := H0.move 0 rfl
  obtain ⟨vv2, H3⟩ := St.open_ex H1
  have H4 := St.open_star H3
  obtain ⟨pp5, cc6, rfl⟩ := Row.slice (i := 1) H4 rfl
  have H7 : St W w (blk b (.cells #[.bool true, .slice pp5 ((L.length + 7) / 8) cc6, .int .i64 (L.length : Int)] 87 (0, 0)) :: Row 5 1 (.slice pp5 ((L.length + 7) / 8) cc6) ((L.length + 7) / 8) ((pk L).flatMap u8c) :: (F.set i emp)) := H4
  refine s_load (.bool true) ag_4 rfl (H7.blk_at (i := 0) rfl) rfl rfl ?_
  refine r_cons (r_take rfl rfl ?_)
  refine s_not true rfl false rfl rfl ?_
  refine r_cons (s_pick_f (.bool false) rfl rfl rfl ?_)
  refine r_cons (s_assign (.bool false) rfl rfl ?_)
  refine r_nil ?_
  refine g_false rfl ?_
  refine g_seq ?_
  refine g_region ?_
  refine r_cons (s_move (.int .i64 n) rfl rfl ?_)
  refine r_cons (s_move (.pointer (some ⟨b, 0, none⟩)) rfl rfl ?_)
  refine r_cons (s_nilCheck (.pointer (some ⟨b, 0, none⟩)) rfl ⟨_, rfl⟩ rfl ?_)
  refine r_cons (s_fieldAddr 87 2 2 2 3 rfl fi_87_2 rfl rfl ?_)
  refine r_cons (s_load (.int .i64 (L.length : Int)) ag_3 rfl (H7.blk_at (i := 0) rfl) rfl rfl ?_)
  refine r_cons (s_sub (1048576 - (L.length : Int)) rfl rfl (wi64 (by omega)) rfl ?_)
  by_cases hc8 : 1048576 - (L.length : Int) < n
  · skip
    refine r_cons (s_gtr true rfl rfl (dtrue hc8) rfl ?_)
    refine r_cons (s_assign (.bool true) rfl rfl ?_)
    refine r_nil ?_
    refine g_true rfl ?_
    refine g_seq ?_
    refine g_region ?_
    refine r_cons (s_assign (.int .i64 3) rfl rfl ?_)
    refine r_nil ?_
    refine g_ret' [.int .i64 3] Try.func60 Try.results60 ⟨rfl, trivial⟩ ?_
    have H9 : St W w (SinkA b L :: (F.set i emp)) := St.shut_ex (.slice pp5 ((L.length + 7) / 8) cc6) (St.shut_star (ls := [blk b (.cells #[.bool true, .slice pp5 ((L.length + 7) / 8) cc6, .int .i64 (L.length : Int)] 87 (0, 0)), Row 5 1 (.slice pp5 ((L.length + 7) / 8) cc6) ((L.length + 7) / 8) ((pk L).flatMap u8c)]) H7)
    have H10 : St W w (SinkA b L :: (F.set i emp)) := H9
    exact ⟨vint (by first | exact (putE_3 ‹_›).symm | exact (putE_0 ‹_›).symm), St.back_same hi H10⟩
  · skip
    refine r_cons (s_gtr false rfl rfl (dfalse hc8) rfl ?_)
    refine r_cons (s_assign (.bool false) rfl rfl ?_)
    refine r_nil ?_
    refine g_false rfl ?_
    refine g_skip ?_
    refine g_inBlock ?_
    refine g_seq ?_
    refine g_region ?_
    refine r_cons (s_assign (.int .i64 0) rfl rfl ?_)
    refine r_nil ?_
    refine g_ret' [.int .i64 0] Try.func60 Try.results60 ⟨rfl, trivial⟩ ?_
    have H11 : St W w (SinkA b L :: (F.set i emp)) := St.shut_ex (.slice pp5 ((L.length + 7) / 8) cc6) (St.shut_star (ls := [blk b (.cells #[.bool true, .slice pp5 ((L.length + 7) / 8) cc6, .int .i64 (L.length : Int)] 87 (0, 0)), Row 5 1 (.slice pp5 ((L.length + 7) / 8) cc6) ((L.length + 7) / 8) ((pk L).flatMap u8c)]) H7)
    have H12 : St W w (SinkA b L :: (F.set i emp)) := H11
    exact ⟨vint (by first | exact (putE_3 ‹_›).symm | exact (putE_0 ‹_›).symm), St.back_same hi H12⟩
set_option maxHeartbeats 4000000 in
set_option maxRecDepth 100000 in
theorem Sink_all {W w : World} {F : List Atom} (b : Nat) (L : List Bool) (u n : Nat) (hu : u < 18446744073709551616) (hn : n ≤ 64) (hb : L.length ≤ 1099511000000) {i : Nat} (hi : F[i]? = some (SinkA b L)) (H : St W w F) : Calls Try.prog 61 #[.pointer (some ⟨b, 0, none⟩), .int .u64 (u : Int), .int .i64 (n : Int)] w (Ret fun v w' => v = .tuple #[] ∧ St W w' (F.set i (SinkA b (L ++ lowB u n)))) := by
  have H0 := H.front hi
  refine calls_of_go (n := 22) Try.func61 rfl Try.ntmps61 rfl ?_
  refine g_seq ?_
  refine g_region ?_
  refine r_cons (s_move (.int .i64 (n : Int)) rfl rfl ?_)
  refine r_cons (s_move (.int .i64 0) rfl rfl ?_)
  refine r_nil ?_
  refine g_block ?_
  have H1 : St W w (SinkA b (L ++ lowK u n 0) :: (F.set i emp)) := by rw [show L ++ lowK u n 0 = L from List.append_nil L]; exact H0
  refine g_loop_inv (fun (x_ : Nat) => match x_ with | j => [(0, .pointer (some ⟨b, 0, none⟩)), (1, .int .u64 (u : Int)), (2, .int .i64 (n : Int)), (7, .int .i64 (n : Int)), (8, .int .i64 (j : Int))]) (fun (x_ : Nat) w => match x_ with | j => (j ≤ n) ∧ St W w (SinkA b (L ++ lowK u n j) :: (F.set i emp))) (fun (x_ : Nat) => match x_ with | j => n - j) (0) ?_ ?_ ?_
  · exact ⟨by first | rfl | exact vint (by omega), by first | rfl | exact vint (by omega), by first | rfl | exact vint (by omega), by first | rfl | exact vint (by omega), by first | rfl | exact vint (by omega), trivial⟩
  · exact ⟨(by omega), H1⟩
  · rintro j ρ2 w3 ⟨hj, H4⟩ nx5
    change Ends _ _ (upds ρ2 [(0, .pointer (some ⟨b, 0, none⟩)), (1, .int .u64 (u : Int)), (2, .int .i64 (n : Int)), (7, .int .i64 (n : Int)), (8, .int .i64 (j : Int))]) w3
    refine g_seq ?_
    refine g_region ?_
    by_cases hc6 : (j : Int) < (n : Int)
    · skip
      refine r_cons (s_lss true rfl rfl (dtrue hc6) rfl ?_)
      refine r_nil ?_
      refine g_seq ?_
      refine g_true rfl ?_
      refine g_skip ?_
      refine g_seq ?_
      refine g_block ?_
      refine g_seq ?_
      refine g_region ?_
      refine r_cons (s_move (.int .i64 (j : Int)) rfl rfl ?_)
      refine r_cons (s_assign (.int .i64 (j : Int)) rfl rfl ?_)
      refine r_nil ?_
      refine g_region ?_
      refine r_cons (s_move (.pointer (some ⟨b, 0, none⟩)) rfl rfl ?_)
      refine r_cons (s_move (.int .u64 (u : Int)) rfl rfl ?_)
      refine r_cons (s_move (.int .i64 (n : Int)) rfl rfl ?_)
      refine r_cons (s_sub ((n : Int) - 1) rfl rfl (wi64 (by omega)) rfl ?_)
      refine r_cons (s_move (.int .i64 (j : Int)) rfl rfl ?_)
      refine r_cons (s_sub ((n : Int) - 1 - (j : Int)) rfl rfl (wi64 (by omega)) rfl ?_)
      refine r_cons (s_shr ((u / 2 ^ (n - 1 - j) : Nat) : Int) rfl rfl (by omega) (shr_nat (k := n - 1 - j) (by omega) (by show _ ≤ 64; omega)) rfl ?_)
      refine r_cons (s_and ((u / 2 ^ (n - 1 - j) % 2 : Nat) : Int) rfl rfl (and_one _ (Nat.lt_of_le_of_lt (Nat.div_le_self _ _) hu)) rfl ?_)
      refine r_cons (s_eql (u.testBit (n - 1 - j)) rfl rfl (bit_is u (n - 1 - j)) rfl ?_)
      refine r_cons (s_call [.pointer (some ⟨b, 0, none⟩), .bool (u.testBit (n - 1 - j))] pl_65 rfl rfl (Sink_put b (L ++ lowK u n j) (u.testBit (n - 1 - j)) (by (try simp only [List.length_append, List.length_cons, List.length_nil, lowK_len, lowB_len]); omega) (i := 0) rfl H4) ?_)
      rintro _ w7 ⟨rfl, H8⟩
      refine r_nil ?_
      refine g_inBlock ?_
      refine g_region ?_
      refine r_cons (s_add ((j : Int) + 1) rfl rfl (wi64 (by omega)) rfl ?_)
      refine r_cons (s_move (.int .i64 ((j : Int) + 1)) rfl rfl ?_)
      refine r_nil ?_
      have H9 : St W w7 (SinkA b ((L ++ lowK u n j) ++ [u.testBit (n - 1 - j)]) :: (F.set i emp)) := H8
      have H10 : St W w7 (SinkA b (L ++ lowK u n (j + 1)) :: (F.set i emp)) := by rw [← app_lowK]; exact H9
      exact nx5 (j + 1) _ _ ⟨(by omega), H10⟩ (by first | (dsimp only; omega) | omega) ⟨by first | rfl | exact vint (by omega), by first | rfl | exact vint (by omega), by first | rfl | exact vint (by omega), by first | rfl | exact vint (by omega), by first | rfl | exact vint (by omega), trivial⟩
    · skip
      refine r_cons (s_lss false rfl rfl (dfalse hc6) rfl ?_)
      refine r_nil ?_
      refine g_seq ?_
      refine g_false rfl ?_
      refine g_exit (by rfl) ?_
      refine g_end' [] Try.func61 Try.results61 trivial ?_
      have H11 : St W w3 (SinkA b (L ++ lowK u n j) :: (F.set i emp)) := H4
      obtain rfl : j = n := by omega
      exact ⟨rfl, St.back hi H11⟩
set_option maxHeartbeats 4000000 in
set_option maxRecDepth 100000 in
theorem Sink_nat {W w : World} {F : List Atom} (b : Nat) (L : List Bool) (u : Nat) (hu : u < 18446744073709551616) (hb : L.length ≤ 1048576) {i : Nat} (hi : F[i]? = some (SinkA b L)) (H : St W w F) : Calls Try.prog 63 #[.pointer (some ⟨b, 0, none⟩), .int .u64 (u : Int)] w (Ret fun v w' => v = .tuple #[] ∧ St W w' (F.set i (SinkA b (L ++ natB u)))) := by
  have H0 := H.front hi
  refine calls_of_go (n := 23) Try.func63 rfl Try.ntmps63 rfl ?_
  refine g_seq ?_
  refine g_region ?_
  refine r_cons (s_move (.int .u64 (u : Int)) rfl rfl ?_)
  refine r_cons (s_call [.int .u64 (u : Int)] pl_62 rfl rfl (Size (u) (by omega) H0) ?_)
  rintro _ w1 ⟨rfl, H2⟩
  have hsz := sizeU_le hu
  refine r_cons (s_quo ((sizeU u / 2 : Nat) : Int) rfl rfl (by omega) (by rw [tdiv_pos (by omega)]; exact (wi64 (by omega)).trans (by omega)) rfl ?_)
  refine r_cons (s_assign (.int .i64 ((sizeU u / 2 : Nat) : Int)) rfl rfl ?_)
  refine r_nil ?_
  refine g_seq ?_
  refine g_region ?_
  refine r_cons (s_move (.pointer (some ⟨b, 0, none⟩)) rfl rfl ?_)
  refine r_cons (s_move (.int .i64 ((sizeU u / 2 : Nat) : Int)) rfl rfl ?_)
  refine r_cons (s_call [.pointer (some ⟨b, 0, none⟩), .int .u64 0, .int .i64 ((sizeU u / 2 : Nat) : Int)] pl_61 rfl rfl (Sink_all b L (0) (sizeU u / 2) (by omega) (by omega) (by (try simp only [List.length_append, List.length_cons, List.length_nil, lowB_len]); omega) (i := 0) rfl H2) ?_)
  rintro _ w3 ⟨rfl, H4⟩
  refine r_nil ?_
  refine g_seq ?_
  refine g_seq ?_
  refine g_region ?_
  refine r_cons (s_move (.int .i64 ((sizeU u / 2 : Nat) : Int)) rfl rfl ?_)
  by_cases hc5 : ((sizeU u / 2 : Nat) : Int) = 64
  · skip
    refine r_cons (s_eql true rfl rfl (dtrue hc5) rfl ?_)
    refine r_nil ?_
    refine g_true rfl ?_
    refine g_seq ?_
    refine g_region ?_
    refine r_cons (s_move (.pointer (some ⟨b, 0, none⟩)) rfl rfl ?_)
    refine r_cons (s_call [.pointer (some ⟨b, 0, none⟩), .bool true] pl_65 rfl rfl (Sink_put b (L ++ lowB 0 (sizeU u / 2)) true (by (try simp only [List.length_append, List.length_cons, List.length_nil, lowK_len, lowB_len]); omega) (i := 0) rfl H4) ?_)
    rintro _ w6 ⟨rfl, H7⟩
    refine r_nil ?_
    refine g_seq ?_
    refine g_region ?_
    refine r_cons (s_move (.pointer (some ⟨b, 0, none⟩)) rfl rfl ?_)
    refine r_cons (s_call [.pointer (some ⟨b, 0, none⟩), .int .u64 0, .int .i64 64] pl_61 rfl rfl (Sink_all b ((L ++ lowB 0 (sizeU u / 2)) ++ [true]) (0) (64) (by omega) (by omega) (by (try simp only [List.length_append, List.length_cons, List.length_nil, lowB_len]); omega) (i := 0) rfl H7) ?_)
    rintro _ w8 ⟨rfl, H9⟩
    refine r_nil ?_
    refine g_ret' [] Try.func63 Try.results63 trivial ?_
    have H10 : St W w8 (SinkA b ((L ++ lowB 0 (sizeU u / 2)) ++ [true] ++ lowB 0 64) :: (F.set i emp)) := H9
    have hL : L ++ natB u = (L ++ lowB 0 (sizeU u / 2)) ++ [true] ++ lowB 0 64 := by rw [natB_max ((sizeU_64 hu).1 (by omega))]; simp only [List.append_assoc]
    exact ⟨rfl, by rw [hL]; exact St.back hi H10⟩
  · skip
    refine r_cons (s_eql false rfl rfl (dfalse hc5) rfl ?_)
    refine r_nil ?_
    refine g_false rfl ?_
    refine g_skip ?_
    refine g_region ?_
    have hne : u + 1 < 18446744073709551616 := by have := (sizeU_64 hu); omega
    refine r_cons (s_move (.pointer (some ⟨b, 0, none⟩)) rfl rfl ?_)
    refine r_cons (s_move (.int .u64 (u : Int)) rfl rfl ?_)
    refine r_cons (s_add ((u + 1 : Nat) : Int) rfl rfl ((wu64 (by omega)).trans (by omega)) rfl ?_)
    refine r_cons (s_move (.int .i64 ((sizeU u / 2 : Nat) : Int)) rfl rfl ?_)
    refine r_cons (s_add ((sizeU u / 2 + 1 : Nat) : Int) rfl rfl ((wi64 (by omega)).trans (by omega)) rfl ?_)
    refine r_cons (s_call [.pointer (some ⟨b, 0, none⟩), .int .u64 ((u + 1 : Nat) : Int), .int .i64 ((sizeU u / 2 + 1 : Nat) : Int)] pl_61 rfl rfl (Sink_all b (L ++ lowB 0 (sizeU u / 2)) (u + 1) (sizeU u / 2 + 1) (by omega) (by omega) (by (try simp only [List.length_append, List.length_cons, List.length_nil, lowB_len]); omega) (i := 0) rfl H4) ?_)
    rintro _ w11 ⟨rfl, H12⟩
    refine r_nil ?_
    refine g_end' [] Try.func63 Try.results63 trivial ?_
    have H13 : St W w11 (SinkA b (L ++ lowB 0 (sizeU u / 2) ++ lowB (u + 1) (sizeU u / 2 + 1)) :: (F.set i emp)) := H12
    have hL : L ++ natB u = L ++ lowB 0 (sizeU u / 2) ++ lowB (u + 1) (sizeU u / 2 + 1) := by rw [natB_is (fun h => by have := (sizeU_64 hu).2 h; omega)]; simp only [List.append_assoc]
    exact ⟨rfl, by rw [hL]; exact St.back hi H13⟩
set_option maxHeartbeats 4000000 in
set_option maxRecDepth 100000 in
theorem Sink_Nat {W w : World} {F : List Atom} (b : Nat) (L : List Bool) (u : Nat) (hu : u < 18446744073709551616) (hb : L.length ≤ 1048576) {i : Nat} (hi : F[i]? = some (SinkA b L)) (H : St W w F) : Calls Try.prog 52 #[.pointer (some ⟨b, 0, none⟩), .int .u64 (u : Int)] w (Ret fun v w' => v = .int .i64 (putE L (sizeU u : Int)) ∧ St W w' (F.set i (SinkA b (putL L (natB u))))) := by
  have H0 := H.front hi
  refine calls_of_go (n := 16) Try.func52 rfl Try.ntmps52 rfl ?_
  refine g_seq ?_
  refine g_region ?_
  refine r_cons (s_assign (.int .i64 0) rfl rfl ?_)
  refine r_nil ?_
  refine g_seq ?_
  refine g_region ?_
  refine r_cons (s_move (.pointer (some ⟨b, 0, none⟩)) rfl rfl ?_)
  refine r_cons (s_move (.int .u64 (u : Int)) rfl rfl ?_)
  refine r_cons (s_call [.int .u64 (u : Int)] pl_62 rfl rfl (Size (u) (by omega) H0) ?_)
  rintro _ w1 ⟨rfl, H2⟩
  refine r_cons (s_call [.pointer (some ⟨b, 0, none⟩), .int .i64 (sizeU u : Int)] pl_60 rfl rfl (Sink_room b L (sizeU u : Int) (by first | omega | (simp only [List.length_append, List.length_nil, lowB_len, natB_len]; omega) | (repeat (first | exact Nat.zero_le _ | assumption | refine putL_le ?_ | refine bitsL_le ?_ | refine evPutL_le ?_ | (simp only [List.length_append, List.length_nil, lowB_len, natB_len]; omega)))) (i := 0) rfl H2) ?_)
  rintro _ w3 ⟨rfl, H4⟩
  refine r_cons (s_assign (.int .i64 (putE L (sizeU u : Int))) rfl rfl ?_)
  refine r_nil ?_
  refine g_seq ?_
  refine g_seq ?_
  refine g_region ?_
  refine r_cons (s_move (.int .i64 (putE L (sizeU u : Int))) rfl rfl ?_)
  by_cases hc5 : putE L (sizeU u : Int) = 0
  · skip
    refine r_cons (s_eql true rfl rfl (dtrue hc5) rfl ?_)
    refine r_nil ?_
    refine g_true rfl ?_
    refine g_region ?_
    refine r_cons (s_move (.pointer (some ⟨b, 0, none⟩)) rfl rfl ?_)
    refine r_cons (s_move (.int .u64 (u : Int)) rfl rfl ?_)
    refine r_cons (s_call [.pointer (some ⟨b, 0, none⟩), .int .u64 (u : Int)] pl_63 rfl rfl (Sink_nat b L (u) (by omega) (by first | omega | (simp only [List.length_append, List.length_nil, lowB_len, natB_len]; omega) | (repeat (first | exact Nat.zero_le _ | assumption | refine putL_le ?_ | refine bitsL_le ?_ | refine evPutL_le ?_ | (simp only [List.length_append, List.length_nil, lowB_len, natB_len]; omega)))) (i := 0) rfl H4) ?_)
    rintro _ w6 ⟨rfl, H7⟩
    refine r_nil ?_
    refine g_seq ?_
    refine g_region ?_
    refine r_cons (s_move (.int .i64 (putE L (sizeU u : Int))) rfl rfl ?_)
    refine r_cons (s_assign (.int .i64 (putE L (sizeU u : Int))) rfl rfl ?_)
    refine r_nil ?_
    refine g_ret' [.int .i64 (putE L (sizeU u : Int))] Try.func52 Try.results52 ⟨rfl, trivial⟩ ?_
    have H8 : St W w6 (SinkA b (L ++ natB u) :: (F.set i emp)) := H7
    exact ⟨rfl, by rw [putL_0 (M := natB u) (n := (sizeU u : Int)) (by rw [natB_len]) ‹_›]; exact St.back hi H8⟩
  · skip
    refine r_cons (s_eql false rfl rfl (dfalse hc5) rfl ?_)
    refine r_nil ?_
    refine g_false rfl ?_
    refine g_skip ?_
    refine g_seq ?_
    refine g_region ?_
    refine r_cons (s_move (.int .i64 (putE L (sizeU u : Int))) rfl rfl ?_)
    refine r_cons (s_assign (.int .i64 (putE L (sizeU u : Int))) rfl rfl ?_)
    refine r_nil ?_
    refine g_ret' [.int .i64 (putE L (sizeU u : Int))] Try.func52 Try.results52 ⟨rfl, trivial⟩ ?_
    have H9 : St W w3 (SinkA b L :: (F.set i emp)) := H4
    exact ⟨rfl, by rw [putL_no (M := natB u) (n := (sizeU u : Int)) (by rw [natB_len]) ‹_›]; exact St.back hi H9⟩
set_option maxHeartbeats 4000000 in
set_option maxRecDepth 100000 in
theorem Sink_Bits {W w : World} {F : List Atom} (b : Nat) (L : List Bool) (u : Nat) (n : Int) (hu : u < 18446744073709551616) (hb : L.length ≤ 1048576) {i : Nat} (hi : F[i]? = some (SinkA b L)) (H : St W w F) : Calls Try.prog 51 #[.pointer (some ⟨b, 0, none⟩), .int .u64 (u : Int), .int .i64 n] w (Ret fun v w' => v = .int .i64 (bitsE L u n) ∧ St W w' (F.set i (SinkA b (bitsL L u n)))) := by
  have H0 := H.front hi
  refine calls_of_go (n := 43) Try.func51 rfl Try.ntmps51 rfl ?_
  refine g_seq ?_
  refine g_region ?_
  refine r_cons (s_assign (.int .i64 0) rfl rfl ?_)
  refine r_nil ?_
  refine g_seq ?_
  refine g_seq ?_
  refine g_region ?_
  refine r_cons (s_move (.pointer (some ⟨b, 0, none⟩)) rfl rfl ?_)
  refine r_cons (s_peql false un_76 rfl rfl rfl rfl ?_)
  refine r_cons (s_move (.bool false) rfl rfl ?_)
  refine r_cons (r_take rfl rfl ?_)
  refine s_move (.pointer (some ⟨b, 0, none⟩)) rfl rfl ?_
  refine r_cons (r_take rfl rfl ?_)
  refine s_nilCheck (.pointer (some ⟨b, 0, none⟩)) rfl ⟨_, rfl⟩ rfl ?_
  refine r_cons (r_take rfl rfl ?_)
  refine s_fieldAddr 87 0 0 0 4 rfl fi_87_0 rfl rfl ?_
  refine r_cons (r_take rfl rfl ?_)
  have H1 := H0.move 0 rfl
  obtain ⟨vv2, H3⟩ := St.open_ex H1
  have H4 := St.open_star H3
  obtain ⟨pp5, cc6, rfl⟩ := Row.slice (i := 1) H4 rfl
  have H7 : St W w (blk b (.cells #[.bool true, .slice pp5 ((L.length + 7) / 8) cc6, .int .i64 (L.length : Int)] 87 (0, 0)) :: Row 5 1 (.slice pp5 ((L.length + 7) / 8) cc6) ((L.length + 7) / 8) ((pk L).flatMap u8c) :: (F.set i emp)) := H4
  refine s_load (.bool true) ag_4 rfl (H7.blk_at (i := 0) rfl) rfl rfl ?_
  refine r_cons (r_take rfl rfl ?_)
  refine s_not true rfl false rfl rfl ?_
  refine r_cons (s_pick_f (.bool false) rfl rfl rfl ?_)
  refine r_nil ?_
  refine g_false rfl ?_
  refine g_skip ?_
  refine g_seq ?_
  refine g_seq ?_
  refine g_region ?_
  refine r_cons (s_move (.int .i64 n) rfl rfl ?_)
  by_cases hc8 : n < 0
  · skip
    refine r_cons (s_lss true rfl rfl (dtrue hc8) rfl ?_)
    refine r_cons (s_move (.bool true) rfl rfl ?_)
    refine r_cons (r_pass rfl rfl rfl rfl rfl ?_)
    refine r_cons (r_pass rfl rfl rfl rfl rfl ?_)
    refine r_cons (s_pick_t (.bool true) rfl rfl rfl ?_)
    refine r_cons (s_move (.bool true) rfl rfl ?_)
    refine r_cons (r_pass rfl rfl rfl rfl rfl ?_)
    refine r_cons (r_pass rfl rfl rfl rfl rfl ?_)
    refine r_cons (r_pass rfl rfl rfl rfl rfl ?_)
    refine r_cons (r_passN rfl rfl rfl rfl ?_)
    refine r_cons (r_passN rfl rfl rfl rfl ?_)
    refine r_cons (r_passN rfl rfl rfl rfl ?_)
    refine r_cons (r_passN rfl rfl rfl rfl ?_)
    refine r_cons (r_pass rfl rfl rfl rfl rfl ?_)
    refine r_cons (s_pick_t (.bool true) rfl rfl rfl ?_)
    refine r_nil ?_
    refine g_true rfl ?_
    refine g_seq ?_
    refine g_region ?_
    refine r_cons (s_assign (.int .i64 1) rfl rfl ?_)
    refine r_nil ?_
    refine g_ret' [.int .i64 1] Try.func51 Try.results51 ⟨rfl, trivial⟩ ?_
    have H9 : St W w (SinkA b L :: (F.set i emp)) := St.shut_ex (.slice pp5 ((L.length + 7) / 8) cc6) (St.shut_star (ls := [blk b (.cells #[.bool true, .slice pp5 ((L.length + 7) / 8) cc6, .int .i64 (L.length : Int)] 87 (0, 0)), Row 5 1 (.slice pp5 ((L.length + 7) / 8) cc6) ((L.length + 7) / 8) ((pk L).flatMap u8c)]) H7)
    have H10 : St W w (SinkA b L :: (F.set i emp)) := H9
    have hf : fitsB u n = false := by first | exact fits_not1 (by omega) | exact fits_not2 ‹_›
    exact ⟨vint (by unfold bitsE; rw [if_neg (by rw [hf]; simp)]), by rw [show bitsL L u n = L from if_neg (by rw [hf]; simp)]; exact St.back hi H10⟩
  · skip
    refine r_cons (s_lss false rfl rfl (dfalse hc8) rfl ?_)
    refine r_cons (s_move (.bool false) rfl rfl ?_)
    refine r_cons (r_take rfl rfl ?_)
    refine s_move (.int .i64 n) rfl rfl ?_
    refine r_cons (r_take rfl rfl ?_)
    by_cases hc11 : (64 : Int) < n
    · skip
      refine s_gtr true rfl rfl (dtrue hc11) rfl ?_
      refine r_cons (s_pick_f (.bool true) rfl rfl rfl ?_)
      refine r_cons (s_move (.bool true) rfl rfl ?_)
      refine r_cons (r_pass rfl rfl rfl rfl rfl ?_)
      refine r_cons (r_pass rfl rfl rfl rfl rfl ?_)
      refine r_cons (r_pass rfl rfl rfl rfl rfl ?_)
      refine r_cons (r_passN rfl rfl rfl rfl ?_)
      refine r_cons (r_passN rfl rfl rfl rfl ?_)
      refine r_cons (r_passN rfl rfl rfl rfl ?_)
      refine r_cons (r_passN rfl rfl rfl rfl ?_)
      refine r_cons (r_pass rfl rfl rfl rfl rfl ?_)
      refine r_cons (s_pick_t (.bool true) rfl rfl rfl ?_)
      refine r_nil ?_
      refine g_true rfl ?_
      refine g_seq ?_
      refine g_region ?_
      refine r_cons (s_assign (.int .i64 1) rfl rfl ?_)
      refine r_nil ?_
      refine g_ret' [.int .i64 1] Try.func51 Try.results51 ⟨rfl, trivial⟩ ?_
      have H12 : St W w (SinkA b L :: (F.set i emp)) := St.shut_ex (.slice pp5 ((L.length + 7) / 8) cc6) (St.shut_star (ls := [blk b (.cells #[.bool true, .slice pp5 ((L.length + 7) / 8) cc6, .int .i64 (L.length : Int)] 87 (0, 0)), Row 5 1 (.slice pp5 ((L.length + 7) / 8) cc6) ((L.length + 7) / 8) ((pk L).flatMap u8c)]) H7)
      have H13 : St W w (SinkA b L :: (F.set i emp)) := H12
      have hf : fitsB u n = false := by first | exact fits_not1 (by omega) | exact fits_not2 ‹_›
      exact ⟨vint (by unfold bitsE; rw [if_neg (by rw [hf]; simp)]), by rw [show bitsL L u n = L from if_neg (by rw [hf]; simp)]; exact St.back hi H13⟩
    · skip
      refine s_gtr false rfl rfl (dfalse hc11) rfl ?_
      refine r_cons (s_pick_f (.bool false) rfl rfl rfl ?_)
      refine r_cons (s_move (.bool false) rfl rfl ?_)
      refine r_cons (r_take rfl rfl ?_)
      refine s_move (.int .i64 n) rfl rfl ?_
      refine r_cons (r_take rfl rfl ?_)
      by_cases hc14 : n < 64
      · skip
        refine s_lss true rfl rfl (dtrue hc14) rfl ?_
        refine r_cons (r_take rfl rfl ?_)
        refine s_move (.bool true) rfl rfl ?_
        refine r_cons (r_take rfl rfl ?_)
        refine s_move (.int .u64 (u : Int)) rfl rfl ?_
        refine r_cons (r_take rfl rfl ?_)
        refine s_move (.int .i64 n) rfl rfl ?_
        refine r_cons (r_take rfl rfl ?_)
        refine s_shr ((u / 2 ^ n.toNat : Nat) : Int) rfl rfl (by omega) (shr_nat (k := n.toNat) (by omega) (by show _ ≤ 64; omega)) rfl ?_
        refine r_cons (r_take rfl rfl ?_)
        by_cases hc15 : ((u / 2 ^ n.toNat : Nat) : Int) = 0
        · skip
          refine s_neq false rfl rfl (ntrue hc15) rfl ?_
          refine r_cons (r_take rfl rfl ?_)
          refine s_pick_t (.bool false) rfl rfl rfl ?_
          refine r_cons (s_pick_f (.bool false) rfl rfl rfl ?_)
          refine r_nil ?_
          refine g_false rfl ?_
          refine g_skip ?_
          refine g_seq ?_
          refine g_region ?_
          have hf : fitsB u n = true := by first | exact fits_64 hu (by omega) | exact fits_yes (by omega) (by omega) ‹_›
          have hnn : n = (n.toNat : Int) := by omega
          refine r_cons (s_move (.pointer (some ⟨b, 0, none⟩)) rfl rfl ?_)
          refine r_cons (s_move (.int .i64 n) rfl rfl ?_)
          have H16 : St W w (SinkA b L :: (F.set i emp)) := St.shut_ex (.slice pp5 ((L.length + 7) / 8) cc6) (St.shut_star (ls := [blk b (.cells #[.bool true, .slice pp5 ((L.length + 7) / 8) cc6, .int .i64 (L.length : Int)] 87 (0, 0)), Row 5 1 (.slice pp5 ((L.length + 7) / 8) cc6) ((L.length + 7) / 8) ((pk L).flatMap u8c)]) H7)
          refine r_cons (s_call [.pointer (some ⟨b, 0, none⟩), .int .i64 n] pl_60 rfl rfl (Sink_room b L n (by first | omega | (simp only [List.length_append, List.length_nil, lowB_len, natB_len]; omega) | (repeat (first | exact Nat.zero_le _ | assumption | refine putL_le ?_ | refine bitsL_le ?_ | refine evPutL_le ?_ | (simp only [List.length_append, List.length_nil, lowB_len, natB_len]; omega)))) (i := 0) rfl H16) ?_)
          rintro _ w17 ⟨rfl, H18⟩
          refine r_cons (s_assign (.int .i64 (putE L n)) rfl rfl ?_)
          refine r_nil ?_
          refine g_seq ?_
          refine g_seq ?_
          refine g_region ?_
          refine r_cons (s_move (.int .i64 (putE L n)) rfl rfl ?_)
          by_cases hc19 : putE L n = 0
          · skip
            refine r_cons (s_eql true rfl rfl (dtrue hc19) rfl ?_)
            refine r_nil ?_
            refine g_true rfl ?_
            refine g_region ?_
            refine r_cons (s_move (.pointer (some ⟨b, 0, none⟩)) rfl rfl ?_)
            refine r_cons (s_move (.int .u64 (u : Int)) rfl rfl ?_)
            refine r_cons (s_move (.int .i64 n) rfl rfl ?_)
            refine r_cons (s_call [.pointer (some ⟨b, 0, none⟩), .int .u64 (u : Int), .int .i64 ((n.toNat : Nat) : Int)] pl_61 (by rw [← hnn]; rfl) rfl (Sink_all b L u n.toNat (by omega) (by omega) (by omega) (i := 0) rfl H18) ?_)
            rintro _ w20 ⟨rfl, H21⟩
            refine r_nil ?_
            refine g_seq ?_
            refine g_region ?_
            refine r_cons (s_move (.int .i64 (putE L n)) rfl rfl ?_)
            refine r_cons (s_assign (.int .i64 (putE L n)) rfl rfl ?_)
            refine r_nil ?_
            refine g_ret' [.int .i64 (putE L n)] Try.func51 Try.results51 ⟨rfl, trivial⟩ ?_
            have H22 : St W w20 (SinkA b (L ++ lowB u n.toNat) :: (F.set i emp)) := H21
            exact ⟨vint (by unfold bitsE; rw [if_pos hf]), by rw [show bitsL L u n = putL L (lowB u n.toNat) from if_pos hf, putL_0 (M := lowB u n.toNat) (n := n) (by rw [lowB_len]; omega) ‹_›]; exact St.back hi H22⟩
          · skip
            refine r_cons (s_eql false rfl rfl (dfalse hc19) rfl ?_)
            refine r_nil ?_
            refine g_false rfl ?_
            refine g_skip ?_
            refine g_seq ?_
            refine g_region ?_
            refine r_cons (s_move (.int .i64 (putE L n)) rfl rfl ?_)
            refine r_cons (s_assign (.int .i64 (putE L n)) rfl rfl ?_)
            refine r_nil ?_
            refine g_ret' [.int .i64 (putE L n)] Try.func51 Try.results51 ⟨rfl, trivial⟩ ?_
            have H23 : St W w17 (SinkA b L :: (F.set i emp)) := H18
            exact ⟨vint (by unfold bitsE; rw [if_pos hf]), by rw [show bitsL L u n = putL L (lowB u n.toNat) from if_pos hf, putL_no (M := lowB u n.toNat) (n := n) (by rw [lowB_len]; omega) ‹_›]; exact St.back hi H23⟩
        · skip
          refine s_neq true rfl rfl (nfalse hc15) rfl ?_
          refine r_cons (r_take rfl rfl ?_)
          refine s_pick_t (.bool true) rfl rfl rfl ?_
          refine r_cons (s_pick_f (.bool true) rfl rfl rfl ?_)
          refine r_nil ?_
          refine g_true rfl ?_
          refine g_seq ?_
          refine g_region ?_
          refine r_cons (s_assign (.int .i64 1) rfl rfl ?_)
          refine r_nil ?_
          refine g_ret' [.int .i64 1] Try.func51 Try.results51 ⟨rfl, trivial⟩ ?_
          have H24 : St W w (SinkA b L :: (F.set i emp)) := St.shut_ex (.slice pp5 ((L.length + 7) / 8) cc6) (St.shut_star (ls := [blk b (.cells #[.bool true, .slice pp5 ((L.length + 7) / 8) cc6, .int .i64 (L.length : Int)] 87 (0, 0)), Row 5 1 (.slice pp5 ((L.length + 7) / 8) cc6) ((L.length + 7) / 8) ((pk L).flatMap u8c)]) H7)
          have H25 : St W w (SinkA b L :: (F.set i emp)) := H24
          have hf : fitsB u n = false := by first | exact fits_not1 (by omega) | exact fits_not2 ‹_›
          exact ⟨vint (by unfold bitsE; rw [if_neg (by rw [hf]; simp)]), by rw [show bitsL L u n = L from if_neg (by rw [hf]; simp)]; exact St.back hi H25⟩
      · skip
        refine s_lss false rfl rfl (dfalse hc14) rfl ?_
        refine r_cons (r_take rfl rfl ?_)
        refine s_move (.bool false) rfl rfl ?_
        refine r_cons (r_pass rfl rfl rfl rfl rfl ?_)
        refine r_cons (r_pass rfl rfl rfl rfl rfl ?_)
        refine r_cons (r_pass rfl rfl rfl rfl rfl ?_)
        refine r_cons (r_pass rfl rfl rfl rfl rfl ?_)
        refine r_cons (r_take rfl rfl ?_)
        refine s_pick_f (.bool false) rfl rfl rfl ?_
        refine r_cons (s_pick_f (.bool false) rfl rfl rfl ?_)
        refine r_nil ?_
        refine g_false rfl ?_
        refine g_skip ?_
        refine g_seq ?_
        refine g_region ?_
        have hf : fitsB u n = true := by first | exact fits_64 hu (by omega) | exact fits_yes (by omega) (by omega) ‹_›
        have hnn : n = (n.toNat : Int) := by omega
        refine r_cons (s_move (.pointer (some ⟨b, 0, none⟩)) rfl rfl ?_)
        refine r_cons (s_move (.int .i64 n) rfl rfl ?_)
        have H26 : St W w (SinkA b L :: (F.set i emp)) := St.shut_ex (.slice pp5 ((L.length + 7) / 8) cc6) (St.shut_star (ls := [blk b (.cells #[.bool true, .slice pp5 ((L.length + 7) / 8) cc6, .int .i64 (L.length : Int)] 87 (0, 0)), Row 5 1 (.slice pp5 ((L.length + 7) / 8) cc6) ((L.length + 7) / 8) ((pk L).flatMap u8c)]) H7)
        refine r_cons (s_call [.pointer (some ⟨b, 0, none⟩), .int .i64 n] pl_60 rfl rfl (Sink_room b L n (by first | omega | (simp only [List.length_append, List.length_nil, lowB_len, natB_len]; omega) | (repeat (first | exact Nat.zero_le _ | assumption | refine putL_le ?_ | refine bitsL_le ?_ | refine evPutL_le ?_ | (simp only [List.length_append, List.length_nil, lowB_len, natB_len]; omega)))) (i := 0) rfl H26) ?_)
        rintro _ w27 ⟨rfl, H28⟩
        refine r_cons (s_assign (.int .i64 (putE L n)) rfl rfl ?_)
        refine r_nil ?_
        refine g_seq ?_
        refine g_seq ?_
        refine g_region ?_
        refine r_cons (s_move (.int .i64 (putE L n)) rfl rfl ?_)
        by_cases hc29 : putE L n = 0
        · skip
          refine r_cons (s_eql true rfl rfl (dtrue hc29) rfl ?_)
          refine r_nil ?_
          refine g_true rfl ?_
          refine g_region ?_
          refine r_cons (s_move (.pointer (some ⟨b, 0, none⟩)) rfl rfl ?_)
          refine r_cons (s_move (.int .u64 (u : Int)) rfl rfl ?_)
          refine r_cons (s_move (.int .i64 n) rfl rfl ?_)
          refine r_cons (s_call [.pointer (some ⟨b, 0, none⟩), .int .u64 (u : Int), .int .i64 ((n.toNat : Nat) : Int)] pl_61 (by rw [← hnn]; rfl) rfl (Sink_all b L u n.toNat (by omega) (by omega) (by omega) (i := 0) rfl H28) ?_)
          rintro _ w30 ⟨rfl, H31⟩
          refine r_nil ?_
          refine g_seq ?_
          refine g_region ?_
          refine r_cons (s_move (.int .i64 (putE L n)) rfl rfl ?_)
          refine r_cons (s_assign (.int .i64 (putE L n)) rfl rfl ?_)
          refine r_nil ?_
          refine g_ret' [.int .i64 (putE L n)] Try.func51 Try.results51 ⟨rfl, trivial⟩ ?_
          have H32 : St W w30 (SinkA b (L ++ lowB u n.toNat) :: (F.set i emp)) := H31
          exact ⟨vint (by unfold bitsE; rw [if_pos hf]), by rw [show bitsL L u n = putL L (lowB u n.toNat) from if_pos hf, putL_0 (M := lowB u n.toNat) (n := n) (by rw [lowB_len]; omega) ‹_›]; exact St.back hi H32⟩
        · skip
          refine r_cons (s_eql false rfl rfl (dfalse hc29) rfl ?_)
          refine r_nil ?_
          refine g_false rfl ?_
          refine g_skip ?_
          refine g_seq ?_
          refine g_region ?_
          refine r_cons (s_move (.int .i64 (putE L n)) rfl rfl ?_)
          refine r_cons (s_assign (.int .i64 (putE L n)) rfl rfl ?_)
          refine r_nil ?_
          refine g_ret' [.int .i64 (putE L n)] Try.func51 Try.results51 ⟨rfl, trivial⟩ ?_
          have H33 : St W w27 (SinkA b L :: (F.set i emp)) := H28
          exact ⟨vint (by unfold bitsE; rw [if_pos hf]), by rw [show bitsL L u n = putL L (lowB u n.toNat) from if_pos hf, putL_no (M := lowB u n.toNat) (n := n) (by rw [lowB_len]; omega) ‹_›]; exact St.back hi H33⟩
set_option maxHeartbeats 4000000 in
set_option maxRecDepth 100000 in
theorem Sink_Text {W w : World} {F : List Atom} (b : Nat) (L : List Bool) (s : ByteArray) (hs : s.size ≤ 140737488355328) (hb : L.length ≤ 1048576) {i : Nat} (hi : F[i]? = some (SinkA b L)) (H : St W w F) : Calls Try.prog 53 #[.pointer (some ⟨b, 0, none⟩), .string s] w (Ret fun v w' => v = .int .i64 (putE L ((textB s).length : Int)) ∧ St W w' (F.set i (SinkA b (putL L (textB s))))) := by
  have H0 := H.front hi
  refine calls_of_go (n := 50) Try.func53 rfl Try.ntmps53 rfl ?_
  refine g_seq ?_
  refine g_region ?_
  refine r_cons (s_assign (.int .i64 0) rfl rfl ?_)
  refine r_nil ?_
  refine g_seq ?_
  refine g_seq ?_
  refine g_region ?_
  refine r_cons (s_move (.pointer (some ⟨b, 0, none⟩)) rfl rfl ?_)
  refine r_cons (s_peql false un_76 rfl rfl rfl rfl ?_)
  refine r_cons (s_move (.bool false) rfl rfl ?_)
  refine r_cons (r_take rfl rfl ?_)
  refine s_move (.pointer (some ⟨b, 0, none⟩)) rfl rfl ?_
  refine r_cons (r_take rfl rfl ?_)
  refine s_nilCheck (.pointer (some ⟨b, 0, none⟩)) rfl ⟨_, rfl⟩ rfl ?_
  refine r_cons (r_take rfl rfl ?_)
  refine s_fieldAddr 87 0 0 0 4 rfl fi_87_0 rfl rfl ?_
  refine r_cons (r_take rfl rfl ?_)
  have H1 := H0.move 0 rfl
  obtain ⟨vv2, H3⟩ := St.open_ex H1
  have H4 := St.open_star H3
  obtain ⟨pp5, cc6, rfl⟩ := Row.slice (i := 1) H4 rfl
  have H7 : St W w (blk b (.cells #[.bool true, .slice pp5 ((L.length + 7) / 8) cc6, .int .i64 (L.length : Int)] 87 (0, 0)) :: Row 5 1 (.slice pp5 ((L.length + 7) / 8) cc6) ((L.length + 7) / 8) ((pk L).flatMap u8c) :: (F.set i emp)) := H4
  refine s_load (.bool true) ag_4 rfl (H7.blk_at (i := 0) rfl) rfl rfl ?_
  refine r_cons (r_take rfl rfl ?_)
  refine s_not true rfl false rfl rfl ?_
  refine r_cons (s_pick_f (.bool false) rfl rfl rfl ?_)
  refine r_nil ?_
  refine g_false rfl ?_
  refine g_skip ?_
  refine g_seq ?_
  refine g_seq ?_
  refine g_region ?_
  refine r_cons (s_move (.string s) rfl rfl ?_)
  refine r_cons (s_len_str (s).size rfl st_9 rfl rfl ?_)
  by_cases hc8 : (1048576 : Int) < (s.size : Int)
  · skip
    refine r_cons (s_gtr true rfl rfl (dtrue hc8) rfl ?_)
    refine r_nil ?_
    refine g_true rfl ?_
    refine g_seq ?_
    refine g_region ?_
    refine r_cons (s_assign (.int .i64 3) rfl rfl ?_)
    refine r_nil ?_
    refine g_ret' [.int .i64 3] Try.func53 Try.results53 ⟨rfl, trivial⟩ ?_
    have H9 : St W w (SinkA b L :: (F.set i emp)) := St.shut_ex (.slice pp5 ((L.length + 7) / 8) cc6) (St.shut_star (ls := [blk b (.cells #[.bool true, .slice pp5 ((L.length + 7) / 8) cc6, .int .i64 (L.length : Int)] 87 (0, 0)), Row 5 1 (.slice pp5 ((L.length + 7) / 8) cc6) ((L.length + 7) / 8) ((pk L).flatMap u8c)]) H7)
    have H10 : St W w (SinkA b L :: (F.set i emp)) := H9
    have he : putE L ((textB s).length : Int) = 3 := putE_3 (by rw [textB_len]; push_cast; omega)
    exact ⟨vint he.symm, by rw [putL_no rfl (by rw [he]; decide)]; exact St.back hi H10⟩
  · skip
    refine r_cons (s_gtr false rfl rfl (dfalse hc8) rfl ?_)
    refine r_nil ?_
    refine g_false rfl ?_
    refine g_skip ?_
    refine g_seq ?_
    refine g_region ?_
    refine r_cons (s_move (.pointer (some ⟨b, 0, none⟩)) rfl rfl ?_)
    refine r_cons (s_move (.string s) rfl rfl ?_)
    refine r_cons (s_len_str (s).size rfl st_9 rfl rfl ?_)
    refine r_cons (s_conv (s.size : Int) rfl us_3 ik_54 (wu64 (by omega)) rfl ?_)
    refine r_cons (s_call [.int .u64 (s.size : Int)] pl_62 rfl rfl (Size (s.size) (by omega) H7) ?_)
    rintro _ w11 ⟨rfl, H12⟩
    refine r_cons (s_move (.string s) rfl rfl ?_)
    refine r_cons (s_len_str (s).size rfl st_9 rfl rfl ?_)
    have hsz := sizeU_le (u := s.size) (by omega)
    refine r_cons (s_mul (8 * (s.size : Int)) rfl rfl (wi64 (by omega)) rfl ?_)
    refine r_cons (s_add ((sizeU s.size : Int) + (8 * (s.size : Int))) rfl rfl (wi64 (by omega)) rfl ?_)
    have H13 : St W w11 (SinkA b L :: (F.set i emp)) := St.shut_ex (.slice pp5 ((L.length + 7) / 8) cc6) (St.shut_star (ls := [blk b (.cells #[.bool true, .slice pp5 ((L.length + 7) / 8) cc6, .int .i64 (L.length : Int)] 87 (0, 0)), Row 5 1 (.slice pp5 ((L.length + 7) / 8) cc6) ((L.length + 7) / 8) ((pk L).flatMap u8c)]) H12)
    refine r_cons (s_call [.pointer (some ⟨b, 0, none⟩), .int .i64 ((sizeU s.size : Int) + (8 * (s.size : Int)))] pl_60 rfl rfl (Sink_room b L ((sizeU s.size : Int) + (8 * (s.size : Int))) (by first | omega | (simp only [List.length_append, List.length_nil, lowB_len, natB_len]; omega) | (repeat (first | exact Nat.zero_le _ | assumption | refine putL_le ?_ | refine bitsL_le ?_ | refine evPutL_le ?_ | (simp only [List.length_append, List.length_nil, lowB_len, natB_len]; omega)))) (i := 0) rfl H13) ?_)
    rintro _ w14 ⟨rfl, H15⟩
    refine r_cons (s_assign (.int .i64 (putE L ((sizeU s.size : Int) + (8 * (s.size : Int))))) rfl rfl ?_)
    refine r_nil ?_
    refine g_seq ?_
    refine g_seq ?_
    refine g_region ?_
    refine r_cons (s_move (.int .i64 (putE L ((sizeU s.size : Int) + (8 * (s.size : Int))))) rfl rfl ?_)
    by_cases hc16 : putE L ((sizeU s.size : Int) + (8 * (s.size : Int))) = 0
    · skip
      refine r_cons (s_eql true rfl rfl (dtrue hc16) rfl ?_)
      refine r_nil ?_
      refine g_true rfl ?_
      refine g_seq ?_
      refine g_region ?_
      have hr := putE_room ‹putE L ((sizeU s.size : Int) + 8 * (s.size : Int)) = 0›
      have hnl := natB_len s.size
      refine r_cons (s_move (.pointer (some ⟨b, 0, none⟩)) rfl rfl ?_)
      refine r_cons (s_move (.string s) rfl rfl ?_)
      refine r_cons (s_len_str (s).size rfl st_9 rfl rfl ?_)
      refine r_cons (s_conv (s.size : Int) rfl us_3 ik_54 (wu64 (by omega)) rfl ?_)
      refine r_cons (s_call [.pointer (some ⟨b, 0, none⟩), .int .u64 (s.size : Int)] pl_63 rfl rfl (Sink_nat b L (s.size) (by omega) (by first | omega | (simp only [List.length_append, List.length_nil, lowB_len, natB_len]; omega) | (repeat (first | exact Nat.zero_le _ | assumption | refine putL_le ?_ | refine bitsL_le ?_ | refine evPutL_le ?_ | (simp only [List.length_append, List.length_nil, lowB_len, natB_len]; omega)))) (i := 0) rfl H15) ?_)
      rintro _ w17 ⟨rfl, H18⟩
      refine r_nil ?_
      refine g_seq ?_
      refine g_region ?_
      refine r_cons (s_move (.string s) rfl rfl ?_)
      refine r_cons (s_str_bytes H18 s rfl us_9 un_22 un_5 rfl ?_); intro bk19 w20 cap22 N23 tl24 hN23 hcap22 htl24 H21
      refine r_cons (s_len s.size rfl ⟨_, un_22⟩ rfl ?_)
      refine r_cons (s_move (.int .i64 0) rfl rfl ?_)
      refine r_nil ?_
      refine g_block ?_
      have H25 : St W w20 (SinkA b (L ++ natB s.size) :: blk bk19 (.cells ((bytesV s.data.toList ++ tl24).toArray) 5 (N23, N23 + 1)) :: (F.set i emp)) := (H21.move 1 rfl)
      have H26 : St W w20 (SinkA b (L ++ natB s.size ++ textK s 0) :: blk bk19 (.cells ((bytesV s.data.toList ++ tl24).toArray) 5 (N23, N23 + 1)) :: (F.set i emp)) := by rw [show L ++ natB s.size ++ textK s 0 = L ++ natB s.size from List.append_nil _]; exact H25
      refine g_loop_inv (fun (x_ : Nat) => match x_ with | j => [(0, .pointer (some ⟨b, 0, none⟩)), (4, .int .i64 0), (5, .int .i64 (putE L ((sizeU s.size : Int) + (8 * (s.size : Int))))), (38, .slice (some ⟨bk19, 0, none⟩) s.size cap22), (39, .int .i64 (s.size : Int)), (40, .int .i64 (j : Int))]) (fun (x_ : Nat) w => match x_ with | j => (j ≤ s.size) ∧ St W w (SinkA b (L ++ natB s.size ++ textK s j) :: blk bk19 (.cells ((bytesV s.data.toList ++ tl24).toArray) 5 (N23, N23 + 1)) :: (F.set i emp))) (fun (x_ : Nat) => match x_ with | j => s.size - j) (0) ?_ ?_ ?_
      · exact ⟨by first | rfl | exact vint (by omega), by first | rfl | exact vint (by omega), by first | rfl | exact vint (by omega), by first | rfl | exact vint (by omega), by first | rfl | exact vint (by omega), by first | rfl | exact vint (by omega), trivial⟩
      · exact ⟨(by omega), H26⟩
      · rintro j ρ27 w28 ⟨hj, H29⟩ nx30
        change Ends _ _ (upds ρ27 [(0, .pointer (some ⟨b, 0, none⟩)), (4, .int .i64 0), (5, .int .i64 (putE L ((sizeU s.size : Int) + (8 * (s.size : Int))))), (38, .slice (some ⟨bk19, 0, none⟩) s.size cap22), (39, .int .i64 (s.size : Int)), (40, .int .i64 (j : Int))]) w28
        refine g_seq ?_
        refine g_region ?_
        by_cases hc31 : (j : Int) < (s.size : Int)
        · skip
          refine r_cons (s_lss true rfl rfl (dtrue hc31) rfl ?_)
          refine r_nil ?_
          refine g_seq ?_
          refine g_true rfl ?_
          refine g_skip ?_
          refine g_seq ?_
          refine g_block ?_
          refine g_seq ?_
          refine g_region ?_
          refine r_cons (s_indexAddr bk19 (j : Int) 1 (0 + j * 1) rfl rfl el_22 (by omega) rfl rfl ?_)
          refine r_cons (s_load (.int .u8 ((s.data.toList.getD j 0).toNat : Int)) ag_5 rfl (H29.blk_at (i := 1) rfl) (by have hh := bytes_get s tl24 j (by omega); rw [show 0 + j * 1 = j from by omega]; exact hh) rfl ?_)
          refine r_cons (s_assign (.int .u8 ((s.data.toList.getD j 0).toNat : Int)) rfl rfl ?_)
          refine r_nil ?_
          refine g_region ?_
          have htl := textK_len s j
          have hlt := byteAt_lt s j
          refine r_cons (s_move (.pointer (some ⟨b, 0, none⟩)) rfl rfl ?_)
          refine r_cons (s_move (.int .u8 ((s.data.toList.getD j 0).toNat : Int)) rfl rfl ?_)
          refine r_cons (s_conv ((s.data.toList.getD j 0).toNat : Int) rfl us_5 ik_54 (wu64 (by omega)) rfl ?_)
          refine r_cons (s_call [.pointer (some ⟨b, 0, none⟩), .int .u64 ((s.data.toList.getD j 0).toNat : Int), .int .i64 8] pl_61 rfl rfl (Sink_all b (L ++ natB s.size ++ textK s j) ((s.data.toList.getD j 0).toNat) (8) (by omega) (by omega) (by (try simp only [List.length_append, List.length_cons, List.length_nil, lowB_len]); omega) (i := 0) rfl H29) ?_)
          rintro _ w32 ⟨rfl, H33⟩
          refine r_nil ?_
          refine g_inBlock ?_
          refine g_region ?_
          refine r_cons (s_add ((j : Int) + 1) rfl rfl (wi64 (by omega)) rfl ?_)
          refine r_cons (s_move (.int .i64 ((j : Int) + 1)) rfl rfl ?_)
          refine r_nil ?_
          have H34 : St W w32 (SinkA b (L ++ natB s.size ++ textK s j ++ lowB ((s.data.toList.getD j 0).toNat) 8) :: blk bk19 (.cells ((bytesV s.data.toList ++ tl24).toArray) 5 (N23, N23 + 1)) :: (F.set i emp)) := ((H33.move 1 rfl).move 1 rfl)
          have H35 : St W w32 (SinkA b (L ++ natB s.size ++ textK s (j + 1)) :: blk bk19 (.cells ((bytesV s.data.toList ++ tl24).toArray) 5 (N23, N23 + 1)) :: (F.set i emp)) := by rw [textK_succ (by omega), ← List.append_assoc]; exact H34
          exact nx30 (j + 1) _ _ ⟨(by omega), H35⟩ (by first | (dsimp only; omega) | omega) ⟨by first | rfl | exact vint (by omega), by first | rfl | exact vint (by omega), by first | rfl | exact vint (by omega), by first | rfl | exact vint (by omega), by first | rfl | exact vint (by omega), by first | rfl | exact vint (by omega), trivial⟩
        · skip
          refine r_cons (s_lss false rfl rfl (dfalse hc31) rfl ?_)
          refine r_nil ?_
          refine g_seq ?_
          refine g_false rfl ?_
          refine g_exit (by rfl) ?_
          refine g_seq ?_
          refine g_region ?_
          refine r_cons (s_move (.int .i64 (putE L ((sizeU s.size : Int) + (8 * (s.size : Int))))) rfl rfl ?_)
          refine r_cons (s_assign (.int .i64 (putE L ((sizeU s.size : Int) + (8 * (s.size : Int))))) rfl rfl ?_)
          refine r_nil ?_
          refine g_ret' [.int .i64 (putE L ((sizeU s.size : Int) + (8 * (s.size : Int))))] Try.func53 Try.results53 ⟨rfl, trivial⟩ ?_
          have H36 : St W w28 (SinkA b (L ++ natB s.size ++ textK s j) :: (F.set i emp)) := (H29.drop 1 rfl)
          obtain rfl : j = s.size := by omega
          have hL : L ++ textB s = L ++ natB s.size ++ textK s s.size := by rw [textK_all, List.append_assoc]
          have he : putE L ((textB s).length : Int) = 0 := by rw [textB_len]; push_cast; assumption
          exact ⟨vint (by rw [he]; assumption), by rw [putL_0 rfl he, hL]; exact St.back hi H36⟩
    · skip
      refine r_cons (s_eql false rfl rfl (dfalse hc16) rfl ?_)
      refine r_nil ?_
      refine g_false rfl ?_
      refine g_skip ?_
      refine g_seq ?_
      refine g_region ?_
      refine r_cons (s_move (.int .i64 (putE L ((sizeU s.size : Int) + (8 * (s.size : Int))))) rfl rfl ?_)
      refine r_cons (s_assign (.int .i64 (putE L ((sizeU s.size : Int) + (8 * (s.size : Int))))) rfl rfl ?_)
      refine r_nil ?_
      refine g_ret' [.int .i64 (putE L ((sizeU s.size : Int) + (8 * (s.size : Int))))] Try.func53 Try.results53 ⟨rfl, trivial⟩ ?_
      have H37 : St W w14 (SinkA b L :: (F.set i emp)) := H15
      have he : putE L ((textB s).length : Int) = putE L ((sizeU s.size : Int) + 8 * (s.size : Int)) := by rw [textB_len]; push_cast; rfl
      exact ⟨vint he.symm, by rw [putL_no rfl (by rw [he]; assumption)]; exact St.back hi H37⟩
set_option maxHeartbeats 4000000 in
set_option maxRecDepth 100000 in
theorem Sink_Out {W w : World} {F : List Atom} (b : Nat) (L : List Bool) (hb : L.length ≤ 1048576) {i : Nat} (hi : F[i]? = some (SinkA b L)) (H : St W w F) : Calls Try.prog 54 #[.pointer (some ⟨b, 0, none⟩)] w (Ret fun v w' => ∃ p c, v = .slice p ((L.length + 7) / 8) c ∧ St W w' (Row 5 1 (.slice p ((L.length + 7) / 8) c) ((L.length + 7) / 8) ((pk L).flatMap u8c) :: F)) := by
  have H0 := H.front hi
  refine calls_of_go (n := 10) Try.func54 rfl Try.ntmps54 rfl ?_
  refine g_seq ?_
  refine g_region ?_
  refine r_cons (s_assign (.slice none 0 0) rfl rfl ?_)
  refine r_nil ?_
  refine g_seq ?_
  refine g_seq ?_
  refine g_region ?_
  refine r_cons (s_move (.pointer (some ⟨b, 0, none⟩)) rfl rfl ?_)
  refine r_cons (s_peql false un_76 rfl rfl rfl rfl ?_)
  refine r_nil ?_
  refine g_false rfl ?_
  refine g_skip ?_
  refine g_seq ?_
  refine g_region ?_
  refine r_cons (s_move (.pointer (some ⟨b, 0, none⟩)) rfl rfl ?_)
  refine r_cons (s_nilCheck (.pointer (some ⟨b, 0, none⟩)) rfl ⟨_, rfl⟩ rfl ?_)
  refine r_cons (s_fieldAddr 87 1 1 1 22 rfl fi_87_1 rfl rfl ?_)
  have H1 := H0.move 0 rfl
  obtain ⟨vv2, H3⟩ := St.open_ex H1
  have H4 := St.open_star H3
  obtain ⟨pp5, cc6, rfl⟩ := Row.slice (i := 1) H4 rfl
  have H7 : St W w (blk b (.cells #[.bool true, .slice pp5 ((L.length + 7) / 8) cc6, .int .i64 (L.length : Int)] 87 (0, 0)) :: Row 5 1 (.slice pp5 ((L.length + 7) / 8) cc6) ((L.length + 7) / 8) ((pk L).flatMap u8c) :: (F.set i emp)) := H4
  refine r_cons (s_load (.slice pp5 ((L.length + 7) / 8) cc6) ag_22 rfl (H7.blk_at (i := 0) rfl) rfl rfl ?_)
  refine r_cons (s_call [.slice pp5 ((L.length + 7) / 8) cc6] pl_42 rfl rfl (clone_bytes _ _ ((L.length + 7) / 8) ((pk L).flatMap u8c) RdA.row (by first | omega | (have hlp := Nat.le_refl 0; omega)) (j := 1) rfl H7) ?_)
  rintro _ w10 ⟨pp8, cc9, rfl, H11⟩
  refine r_cons (s_assign (.slice pp8 ((L.length + 7) / 8) cc9) rfl rfl ?_)
  refine r_nil ?_
  refine g_ret' [.slice pp8 ((L.length + 7) / 8) cc9] Try.func54 Try.results54 ⟨rfl, trivial⟩ ?_
  have H12 : St W w10 (blk b (.cells #[.bool true, .slice pp5 ((L.length + 7) / 8) cc6, .int .i64 (L.length : Int)] 87 (0, 0)) :: Row 5 1 (.slice pp5 ((L.length + 7) / 8) cc6) ((L.length + 7) / 8) ((pk L).flatMap u8c) :: Row 5 1 (.slice pp8 ((L.length + 7) / 8) cc9) ((L.length + 7) / 8) ((pk L).flatMap u8c) :: (F.set i emp)) := ((H11.move 2 rfl).move 2 rfl)
  have H13 : St W w10 (SinkA b L :: Row 5 1 (.slice pp8 ((L.length + 7) / 8) cc9) ((L.length + 7) / 8) ((pk L).flatMap u8c) :: (F.set i emp)) := St.shut_ex (.slice pp5 ((L.length + 7) / 8) cc6) (St.shut_star (ls := [blk b (.cells #[.bool true, .slice pp5 ((L.length + 7) / 8) cc6, .int .i64 (L.length : Int)] 87 (0, 0)), Row 5 1 (.slice pp5 ((L.length + 7) / 8) cc6) ((L.length + 7) / 8) ((pk L).flatMap u8c)]) H12)
  have H14 : St W w10 (SinkA b L :: Row 5 1 (.slice pp8 ((L.length + 7) / 8) cc9) ((L.length + 7) / 8) ((pk L).flatMap u8c) :: (F.set i emp)) := ((H13.move 1 rfl).move 1 rfl)
  have H15 : St W w10 (SinkA b L :: (Row 5 1 (.slice pp8 ((L.length + 7) / 8) cc9) ((L.length + 7) / 8) ((pk L).flatMap u8c) :: F).set (i + 1) emp) := H14
  exact ⟨_, _, rfl, St.back_same (i := i + 1) (by exact hi) H15⟩
/-- Bytes of which bits are taken. -/
def SrcA (b : Nat) (bs : List UInt8) (p : Nat) : Atom := ex fun v : Value => star [blk b (.cells #[.bool true, v, .int .i64 ((p : Nat) : Int)] 66 (0, 0)), Im 1 v bs.length (bs.flatMap u8c)]
set_option maxHeartbeats 4000000 in
set_option maxRecDepth 100000 in
theorem NewSource {W w : World} {F : List Atom} (A : Atom) (v0 : Value) (bs : List UInt8) (hA : RdA A 1 v0 bs.length (bs.flatMap u8c)) (hb : bs.length ≤ 140737488355328) {j : Nat} (hj : F[j]? = some A) (H : St W w F) : Calls Try.prog 26 #[v0] w (Ret fun v w' => ∃ k, v = .pointer (some ⟨k, 0, none⟩) ∧ St W w' (SrcA k bs 0 :: F)) := by
  have hml := (hA _ _ _ j H hj).2
  obtain ⟨pp1, cc2, rfl, hn3⟩ := Rd.shape (hA _ _ _ j H hj).1
  refine calls_of_go (n := 7) Try.func26 rfl Try.ntmps26 rfl ?_
  refine g_seq ?_
  refine g_region ?_
  refine r_cons (s_assign (.pointer none) rfl rfl ?_)
  refine r_nil ?_
  refine g_seq ?_
  refine g_region ?_
  refine r_cons (s_move (.slice pp1 bs.length cc2) rfl rfl ?_)
  refine r_cons (s_call [.slice pp1 bs.length cc2] pl_42 rfl rfl (clone_bytes _ _ bs.length (bs.flatMap u8c) hA (by first | omega | (have hlp := Nat.le_refl 0; omega)) (j := j + 0) (by exact hj) H) ?_)
  rintro _ w6 ⟨pp4, cc5, rfl, H7⟩
  refine r_cons (s_build (cs := #[.bool true, .slice pp4 bs.length cc5, .int .i64 0]) (by kernel_rfl) rfl ?_)
  refine r_cons (s_box H7 66 (.agg #[.bool true, .slice pp4 bs.length cc5, .int .i64 0]) rfl (cs := #[.bool true, .slice pp4 bs.length cc5, .int .i64 0]) rfl rfl ?_); intro bk8 w9 H10
  refine r_cons (s_assign (.pointer (some ⟨bk8, 0, none⟩)) rfl rfl ?_)
  refine r_nil ?_
  refine g_ret' [.pointer (some ⟨bk8, 0, none⟩)] Try.func26 Try.results26 ⟨rfl, trivial⟩ ?_
  have H11 : St W w9 (blk bk8 (.cells #[.bool true, .slice pp4 bs.length cc5, .int .i64 0] 66 (0, 0)) :: Row 5 1 (.slice pp4 bs.length cc5) bs.length (bs.flatMap u8c) :: F) := ((H10.move 1 rfl).move 1 rfl)
  have H12 := Row.im H11 (i := 1) rfl
  exact ⟨bk8, rfl, St.shut_ex (.slice pp4 bs.length cc5) (St.shut_star (ls := [blk bk8 (.cells #[.bool true, .slice pp4 bs.length cc5, .int .i64 0] 66 (0, 0)), Im 1 (.slice pp4 bs.length cc5) bs.length (bs.flatMap u8c)]) H12)⟩
set_option maxHeartbeats 4000000 in
set_option maxRecDepth 100000 in
theorem Src_Left {W w : World} {F : List Atom} (b : Nat) (bs : List UInt8) (p : Nat) (hp : p ≤ 8 * bs.length) (hb : bs.length ≤ 140737488355328) {i : Nat} (hi : F[i]? = some (SrcA b bs p)) (H : St W w F) : Calls Try.prog 45 #[.pointer (some ⟨b, 0, none⟩)] w (Ret fun v w' => v = .int .i64 ((remB bs p).length : Int) ∧ St W w' F) := by
  have H0 := H.front hi
  refine calls_of_go (n := 16) Try.func45 rfl Try.ntmps45 rfl ?_
  refine g_seq ?_
  refine g_region ?_
  refine r_cons (s_assign (.int .i64 0) rfl rfl ?_)
  refine r_nil ?_
  refine g_seq ?_
  refine g_seq ?_
  refine g_region ?_
  refine r_cons (s_move (.pointer (some ⟨b, 0, none⟩)) rfl rfl ?_)
  refine r_cons (s_peql false un_47 rfl rfl rfl rfl ?_)
  refine r_nil ?_
  refine g_false rfl ?_
  refine g_skip ?_
  refine g_seq ?_
  have H1 := H0.move 0 rfl
  obtain ⟨vv2, H3⟩ := St.open_ex H1
  have H4 := St.open_star H3
  obtain ⟨pp5, cc6, gA7, oA8, kA9, eA10, zA11, rfl, hn12, hp13, hx14, hs15, hml, H16⟩ := Im.open_ H4 (i := 1) rfl
  have H17 : St W w (imi (0 < bs.length) gA7 (.cells kA9 eA10 zA11) :: blk b (.cells #[.bool true, .slice pp5 bs.length cc6, .int .i64 ((p : Nat) : Int)] 66 (0, 0)) :: Im 1 (.slice pp5 bs.length cc6) bs.length (bs.flatMap u8c) :: (F.set i emp)) := H16
  refine g_quiet (fun w' => St W w' (imi (0 < bs.length) gA7 (.cells kA9 eA10 zA11) :: blk b (.cells #[.bool true, .slice pp5 bs.length cc6, .int .i64 ((p : Nat) : Int)] 66 (0, 0)) :: Im 1 (.slice pp5 bs.length cc6) bs.length (bs.flatMap u8c) :: (F.set i emp))) mixed (by kernel_rfl) H17.drew ?_
  refine q_cons (q_val rfl rfl rfl (by intro w hw; exact x_move (.pointer (some ⟨b, 0, none⟩)) rfl w) ?_)
  refine q_cons (q_val rfl rfl rfl (by intro w hw; exact x_nilCheck (.pointer (some ⟨b, 0, none⟩)) rfl ⟨_, rfl⟩ w) ?_)
  refine q_cons (q_val rfl rfl rfl (by intro w hw; exact x_fieldAddr 66 1 1 1 22 rfl fi_66_1 rfl w) ?_)
  refine q_cons (q_val rfl rfl rfl (by intro w hw; exact x_load (.slice pp5 bs.length cc6) ag_22 rfl (hw.blk_at (i := 1) rfl) rfl) ?_)
  refine q_cons (q_val rfl rfl rfl (by intro w hw; exact x_len bs.length rfl ⟨_, un_22⟩ w) ?_)
  refine q_cons (q_val rfl rfl rfl (by intro w hw; exact x_mul (8 * (bs.length : Int)) rfl rfl (wi64 (by omega)) w) ?_)
  refine q_cons (q_val rfl rfl rfl (by intro w hw; exact x_move (.pointer (some ⟨b, 0, none⟩)) rfl w) ?_)
  refine q_cons (q_val rfl rfl rfl (by intro w hw; exact x_nilCheck (.pointer (some ⟨b, 0, none⟩)) rfl ⟨_, rfl⟩ w) ?_)
  refine q_cons (q_val rfl rfl rfl (by intro w hw; exact x_fieldAddr 66 2 2 2 3 rfl fi_66_2 rfl w) ?_)
  refine q_cons (q_val rfl rfl rfl (by intro w hw; exact x_load (.int .i64 ((p : Nat) : Int)) ag_3 rfl (hw.blk_at (i := 1) rfl) rfl) ?_)
  refine q_cons (q_val rfl rfl rfl (by intro w hw; exact x_sub (8 * (bs.length : Int) - ((p : Nat) : Int)) rfl rfl (wi64 (by omega)) w) ?_)
  refine q_cons (q_val rfl rfl rfl (by intro w hw; exact x_assign (.int .i64 (8 * (bs.length : Int) - ((p : Nat) : Int))) rfl w) ?_)
  refine q_nil ?_
  intro w18 H19
  refine g_ret' [.int .i64 (8 * (bs.length : Int) - ((p : Nat) : Int))] Try.func45 Try.results45 ⟨rfl, trivial⟩ ?_
  have H20 : St W w18 (blk b (.cells #[.bool true, .slice pp5 bs.length cc6, .int .i64 ((p : Nat) : Int)] 66 (0, 0)) :: Im 1 (.slice pp5 bs.length cc6) bs.length (bs.flatMap u8c) :: (F.set i emp)) := (((H19.move 2 rfl).move 2 rfl).drop 2 rfl)
  have H21 : St W w18 (SrcA b bs p :: (F.set i emp)) := St.shut_ex (.slice pp5 bs.length cc6) (St.shut_star (ls := [blk b (.cells #[.bool true, .slice pp5 bs.length cc6, .int .i64 ((p : Nat) : Int)] 66 (0, 0)), Im 1 (.slice pp5 bs.length cc6) bs.length (bs.flatMap u8c)]) H20)
  have H22 : St W w18 (SrcA b bs p :: (F.set i emp)) := H21
  exact ⟨vint (by rw [remB_len]; omega), St.back_same hi H22⟩
set_option maxHeartbeats 4000000 in
set_option maxRecDepth 100000 in
theorem Src_bit {W w : World} {F : List Atom} (b : Nat) (bs : List UInt8) (p : Nat) (hp : p ≤ 8 * bs.length) (hb : bs.length ≤ 140737488355328) (k : Nat) (hk : k < 8 * bs.length) {i : Nat} (hi : F[i]? = some (SrcA b bs p)) (H : St W w F) : Calls Try.prog 46 #[.pointer (some ⟨b, 0, none⟩), .int .i64 (k : Int)] w (Ret fun v w' => v = .int .u64 ((bitAt bs k).toNat : Int) ∧ St W w' F) := by
  have H0 := H.front hi
  refine calls_of_go (n := 19) Try.func46 rfl Try.ntmps46 rfl ?_
  refine g_seq ?_
  refine g_region ?_
  refine r_cons (s_assign (.int .u64 0) rfl rfl ?_)
  refine r_nil ?_
  refine g_seq ?_
  refine g_region ?_
  refine r_cons (s_move (.pointer (some ⟨b, 0, none⟩)) rfl rfl ?_)
  refine r_cons (s_nilCheck (.pointer (some ⟨b, 0, none⟩)) rfl ⟨_, rfl⟩ rfl ?_)
  refine r_cons (s_fieldAddr 66 1 1 1 22 rfl fi_66_1 rfl rfl ?_)
  have H1 := H0.move 0 rfl
  obtain ⟨vv2, H3⟩ := St.open_ex H1
  have H4 := St.open_star H3
  obtain ⟨pp5, cc6, gA7, oA8, kA9, eA10, zA11, rfl, hn12, hp13, hx14, hs15, hml, H16⟩ := Im.open_ H4 (i := 1) rfl
  have H17 : St W w (imi (0 < bs.length) gA7 (.cells kA9 eA10 zA11) :: blk b (.cells #[.bool true, .slice pp5 bs.length cc6, .int .i64 ((p : Nat) : Int)] 66 (0, 0)) :: Im 1 (.slice pp5 bs.length cc6) bs.length (bs.flatMap u8c) :: (F.set i emp)) := H16
  refine r_cons (s_load (.slice pp5 bs.length cc6) ag_22 rfl (H17.blk_at (i := 1) rfl) rfl rfl ?_)
  refine r_cons (s_move (.int .i64 (k : Int)) rfl rfl ?_)
  refine r_cons (s_quo ((k : Int) / 8) rfl rfl (by omega) (by rw [tdiv_pos (by omega)]; exact wi64 (by omega)) rfl ?_)
  refine r_cons (s_indexAddr gA7 (off := oA8) ((k : Int) / 8) 1 (oA8 + (k / 8) * 1) (by exact congrArg (fun z_ => Value.slice z_ bs.length cc6) (hp13 (by omega))) rfl el_22 (by omega) (by rw [show ((k : Int) / 8 : Int).toNat = k / 8 from by omega]) rfl ?_)
  refine r_cons (s_load (.int .u8 ((bs.getD (k / 8) 0).toNat : Int)) ag_5 rfl (H17.imi_at (i := 0) rfl (by omega)) (elem_cell (L := bs) (i := k / 8) u8c_len (hx14 (by omega)) (by omega) 0 0 (by decide) _ rfl) rfl ?_)
  refine r_cons (s_move (.int .i64 (k : Int)) rfl rfl ?_)
  refine r_cons (s_rem ((k : Int) % 8) rfl rfl (by omega) (tmod_pos (by omega)) rfl ?_)
  refine r_cons (s_sub (7 - ((k : Int) % 8)) rfl rfl (wi64 (by omega)) rfl ?_)
  refine r_cons (s_shr (((bs.getD (k / 8) 0).toNat / 2 ^ (7 - k % 8) : Nat) : Int) rfl rfl (by omega) (shr_nat (k := 7 - k % 8) (by omega) (by show _ ≤ 8; omega)) rfl ?_)
  refine r_cons (s_and (((bs.getD (k / 8) 0).toNat / 2 ^ (7 - k % 8) % 2 : Nat) : Int) rfl rfl (and_one8 _ (Nat.lt_of_le_of_lt (Nat.div_le_self _ _) (UInt8.toNat_lt _))) rfl ?_)
  refine r_cons (s_conv ((bitAt bs k).toNat : Int) rfl us_5 ik_54 ((by rw [bit_nat]; exact wu64 (by have := Bool.toNat_le (bitAt bs k); unfold bitAt at this; omega))) rfl ?_)
  refine r_cons (s_assign (.int .u64 ((bitAt bs k).toNat : Int)) rfl rfl ?_)
  refine r_nil ?_
  refine g_ret' [.int .u64 ((bitAt bs k).toNat : Int)] Try.func46 Try.results46 ⟨rfl, trivial⟩ ?_
  have H18 : St W w (blk b (.cells #[.bool true, .slice pp5 bs.length cc6, .int .i64 ((p : Nat) : Int)] 66 (0, 0)) :: Im 1 (.slice pp5 bs.length cc6) bs.length (bs.flatMap u8c) :: (F.set i emp)) := (((H17.move 2 rfl).move 2 rfl).drop 2 rfl)
  have H19 : St W w (SrcA b bs p :: (F.set i emp)) := St.shut_ex (.slice pp5 bs.length cc6) (St.shut_star (ls := [blk b (.cells #[.bool true, .slice pp5 bs.length cc6, .int .i64 ((p : Nat) : Int)] 66 (0, 0)), Im 1 (.slice pp5 bs.length cc6) bs.length (bs.flatMap u8c)]) H18)
  have H20 : St W w (SrcA b bs p :: (F.set i emp)) := H19
  exact ⟨rfl, St.back_same hi H20⟩
set_option maxHeartbeats 4000000 in
set_option maxRecDepth 100000 in
theorem Src_Bits {W w : World} {F : List Atom} (b : Nat) (bs : List UInt8) (p : Nat) (hp : p ≤ 8 * bs.length) (hb : bs.length ≤ 140737488355328) (n : Int) {i : Nat} (hi : F[i]? = some (SrcA b bs p)) (H : St W w F) : Calls Try.prog 43 #[.pointer (some ⟨b, 0, none⟩), .int .i64 n] w (Ret fun v w' => v = .tuple #[.int .u64 (srcU (remB bs p) n : Int), .int .i64 (srcE (remB bs p) n)] ∧ St W w' (F.set i (SrcA b bs (p + srcN (remB bs p) n)))) := by
  have H0 := H.front hi
  refine calls_of_go (n := 50) Try.func43 rfl Try.ntmps43 rfl ?_
  refine g_seq ?_
  refine g_region ?_
  refine r_cons (s_assign (.int .u64 0) rfl rfl ?_)
  refine r_cons (s_assign (.int .i64 0) rfl rfl ?_)
  refine r_nil ?_
  refine g_seq ?_
  refine g_block ?_
  refine g_seq ?_
  refine g_region ?_
  refine r_cons (s_move (.pointer (some ⟨b, 0, none⟩)) rfl rfl ?_)
  refine r_cons (s_peql false un_47 rfl rfl rfl rfl ?_)
  refine r_cons (s_move (.bool false) rfl rfl ?_)
  refine r_cons (r_take rfl rfl ?_)
  refine s_move (.pointer (some ⟨b, 0, none⟩)) rfl rfl ?_
  refine r_cons (r_take rfl rfl ?_)
  refine s_nilCheck (.pointer (some ⟨b, 0, none⟩)) rfl ⟨_, rfl⟩ rfl ?_
  refine r_cons (r_take rfl rfl ?_)
  refine s_fieldAddr 66 0 0 0 4 rfl fi_66_0 rfl rfl ?_
  refine r_cons (r_take rfl rfl ?_)
  have H1 := H0.move 0 rfl
  obtain ⟨vv2, H3⟩ := St.open_ex H1
  have H4 := St.open_star H3
  obtain ⟨pp5, cc6, gA7, oA8, kA9, eA10, zA11, rfl, hn12, hp13, hx14, hs15, hml, H16⟩ := Im.open_ H4 (i := 1) rfl
  have H17 : St W w (imi (0 < bs.length) gA7 (.cells kA9 eA10 zA11) :: blk b (.cells #[.bool true, .slice pp5 bs.length cc6, .int .i64 ((p : Nat) : Int)] 66 (0, 0)) :: Im 1 (.slice pp5 bs.length cc6) bs.length (bs.flatMap u8c) :: (F.set i emp)) := H16
  refine s_load (.bool true) ag_4 rfl (H17.blk_at (i := 1) rfl) rfl rfl ?_
  refine r_cons (r_take rfl rfl ?_)
  refine s_not true rfl false rfl rfl ?_
  refine r_cons (s_pick_f (.bool false) rfl rfl rfl ?_)
  refine r_cons (s_assign (.bool false) rfl rfl ?_)
  refine r_nil ?_
  refine g_false rfl ?_
  refine g_seq ?_
  refine g_region ?_
  refine r_cons (s_move (.int .i64 n) rfl rfl ?_)
  by_cases hc18 : n < 0
  · skip
    refine r_cons (s_lss true rfl rfl (dtrue hc18) rfl ?_)
    refine r_cons (s_move (.bool true) rfl rfl ?_)
    refine r_cons (r_pass rfl rfl rfl rfl rfl ?_)
    refine r_cons (r_pass rfl rfl rfl rfl rfl ?_)
    refine r_cons (s_pick_t (.bool true) rfl rfl rfl ?_)
    refine r_cons (s_assign (.bool true) rfl rfl ?_)
    refine r_nil ?_
    refine g_true rfl ?_
    refine g_seq ?_
    refine g_region ?_
    refine r_cons (s_assign (.int .u64 0) rfl rfl ?_)
    refine r_cons (s_assign (.int .i64 1) rfl rfl ?_)
    refine r_nil ?_
    refine g_ret' [.int .u64 0, .int .i64 1] Try.func43 Try.results43 ⟨rfl, rfl, trivial⟩ ?_
    have H19 : St W w (blk b (.cells #[.bool true, .slice pp5 bs.length cc6, .int .i64 ((p : Nat) : Int)] 66 (0, 0)) :: Im 1 (.slice pp5 bs.length cc6) bs.length (bs.flatMap u8c) :: (F.set i emp)) := (((H17.move 2 rfl).move 2 rfl).drop 2 rfl)
    have H20 : St W w (SrcA b bs p :: (F.set i emp)) := St.shut_ex (.slice pp5 bs.length cc6) (St.shut_star (ls := [blk b (.cells #[.bool true, .slice pp5 bs.length cc6, .int .i64 ((p : Nat) : Int)] 66 (0, 0)), Im 1 (.slice pp5 bs.length cc6) bs.length (bs.flatMap u8c)]) H19)
    have H21 : St W w (SrcA b bs p :: (F.set i emp)) := H20
    have hE : srcE (remB bs p) n = 1 := by first | exact srcE_1 (by omega) | exact srcE_10 (by omega) (by omega)
    have hE0 : ¬ srcE (remB bs p) n = 0 := by rw [hE]; decide
    exact ⟨by rw [srcU_no hE0, hE]; rfl, by rw [srcN_no hE0]; exact St.back hi H21⟩
  · skip
    refine r_cons (s_lss false rfl rfl (dfalse hc18) rfl ?_)
    refine r_cons (s_move (.bool false) rfl rfl ?_)
    refine r_cons (r_take rfl rfl ?_)
    refine s_move (.int .i64 n) rfl rfl ?_
    refine r_cons (r_take rfl rfl ?_)
    by_cases hc22 : (64 : Int) < n
    · skip
      refine s_gtr true rfl rfl (dtrue hc22) rfl ?_
      refine r_cons (s_pick_f (.bool true) rfl rfl rfl ?_)
      refine r_cons (s_assign (.bool true) rfl rfl ?_)
      refine r_nil ?_
      refine g_true rfl ?_
      refine g_seq ?_
      refine g_region ?_
      refine r_cons (s_assign (.int .u64 0) rfl rfl ?_)
      refine r_cons (s_assign (.int .i64 1) rfl rfl ?_)
      refine r_nil ?_
      refine g_ret' [.int .u64 0, .int .i64 1] Try.func43 Try.results43 ⟨rfl, rfl, trivial⟩ ?_
      have H23 : St W w (blk b (.cells #[.bool true, .slice pp5 bs.length cc6, .int .i64 ((p : Nat) : Int)] 66 (0, 0)) :: Im 1 (.slice pp5 bs.length cc6) bs.length (bs.flatMap u8c) :: (F.set i emp)) := (((H17.move 2 rfl).move 2 rfl).drop 2 rfl)
      have H24 : St W w (SrcA b bs p :: (F.set i emp)) := St.shut_ex (.slice pp5 bs.length cc6) (St.shut_star (ls := [blk b (.cells #[.bool true, .slice pp5 bs.length cc6, .int .i64 ((p : Nat) : Int)] 66 (0, 0)), Im 1 (.slice pp5 bs.length cc6) bs.length (bs.flatMap u8c)]) H23)
      have H25 : St W w (SrcA b bs p :: (F.set i emp)) := H24
      have hE : srcE (remB bs p) n = 1 := by first | exact srcE_1 (by omega) | exact srcE_10 (by omega) (by omega)
      have hE0 : ¬ srcE (remB bs p) n = 0 := by rw [hE]; decide
      exact ⟨by rw [srcU_no hE0, hE]; rfl, by rw [srcN_no hE0]; exact St.back hi H25⟩
    · skip
      refine s_gtr false rfl rfl (dfalse hc22) rfl ?_
      refine r_cons (s_pick_f (.bool false) rfl rfl rfl ?_)
      refine r_cons (s_assign (.bool false) rfl rfl ?_)
      refine r_nil ?_
      refine g_false rfl ?_
      refine g_seq ?_
      refine g_region ?_
      refine r_cons (s_move (.int .i64 n) rfl rfl ?_)
      refine r_cons (s_move (.pointer (some ⟨b, 0, none⟩)) rfl rfl ?_)
      have H26 : St W w (blk b (.cells #[.bool true, .slice pp5 bs.length cc6, .int .i64 ((p : Nat) : Int)] 66 (0, 0)) :: Im 1 (.slice pp5 bs.length cc6) bs.length (bs.flatMap u8c) :: (F.set i emp)) := (((H17.move 2 rfl).move 2 rfl).drop 2 rfl)
      have H27 : St W w (SrcA b bs p :: (F.set i emp)) := St.shut_ex (.slice pp5 bs.length cc6) (St.shut_star (ls := [blk b (.cells #[.bool true, .slice pp5 bs.length cc6, .int .i64 ((p : Nat) : Int)] 66 (0, 0)), Im 1 (.slice pp5 bs.length cc6) bs.length (bs.flatMap u8c)]) H26)
      refine r_cons (s_call [.pointer (some ⟨b, 0, none⟩)] pl_45 rfl rfl (Src_Left b bs p (by first | omega | decide +kernel | (repeat (first | assumption | exact Nat.zero_le _ | refine natN_pos ?_ | refine srcN_pos ?_ | refine textN_pos ?_))) (by first | omega | decide +kernel)   (i := 0) rfl H27) ?_)
      rintro _ w28 ⟨rfl, H29⟩
      by_cases hc30 : ((remB bs p).length : Int) < n
      · skip
        refine r_cons (s_gtr true rfl rfl (dtrue hc30) rfl ?_)
        refine r_cons (s_assign (.bool true) rfl rfl ?_)
        refine r_nil ?_
        refine g_true rfl ?_
        refine g_seq ?_
        refine g_region ?_
        refine r_cons (s_assign (.int .u64 0) rfl rfl ?_)
        refine r_cons (s_assign (.int .i64 10) rfl rfl ?_)
        refine r_nil ?_
        refine g_ret' [.int .u64 0, .int .i64 10] Try.func43 Try.results43 ⟨rfl, rfl, trivial⟩ ?_
        have H31 : St W w28 (SrcA b bs p :: (F.set i emp)) := H29
        have hE : srcE (remB bs p) n = 10 := by first | exact srcE_1 (by omega) | exact srcE_10 (by omega) (by omega)
        have hE0 : ¬ srcE (remB bs p) n = 0 := by rw [hE]; decide
        exact ⟨by rw [srcU_no hE0, hE]; rfl, by rw [srcN_no hE0]; exact St.back hi H31⟩
      · skip
        refine r_cons (s_gtr false rfl rfl (dfalse hc30) rfl ?_)
        refine r_cons (s_assign (.bool false) rfl rfl ?_)
        refine r_nil ?_
        refine g_false rfl ?_
        refine g_skip ?_
        refine g_inBlock ?_
        refine g_seq ?_
        refine g_region ?_
        refine r_cons (s_assign (.int .u64 0) rfl rfl ?_)
        refine r_nil ?_
        refine g_seq ?_
        refine g_seq ?_
        refine g_region ?_
        refine r_cons (s_move (.int .i64 n) rfl rfl ?_)
        refine r_cons (s_move (.int .i64 0) rfl rfl ?_)
        refine r_nil ?_
        refine g_block ?_
        have H32 : St W w28 (SrcA b bs p :: (F.set i emp)) := H29
        have hE := srcE_0 (R := remB bs p) (n := n) (by omega) (by omega)
        have hL := remB_len bs p
        have hI := srcE_is hE
        have H33 : St W w28 (SrcA b bs (p + 0) :: (F.set i emp)) := H32
        refine g_loop_inv (fun (x_ : Nat) => match x_ with | j => [(0, .pointer (some ⟨b, 0, none⟩)), (4, .int .u64 0), (5, .int .i64 0), (6, .int .u64 (valOf ((remB bs p).take j) : Int)), (29, .int .i64 n), (30, .int .i64 (j : Int))]) (fun (x_ : Nat) w => match x_ with | j => ((j : Int) ≤ n) ∧ St W w (SrcA b bs (p + j) :: (F.set i emp))) (fun (x_ : Nat) => match x_ with | j => n.toNat - j) (0) ?_ ?_ ?_
        · exact ⟨by first | rfl | exact vint (by omega), by first | rfl | exact vint (by omega), by first | rfl | exact vint (by omega), by first | rfl | exact vint (by omega), by first | rfl | exact vint (by omega), by first | rfl | exact vint (by omega), trivial⟩
        · exact ⟨(by omega), H33⟩
        · rintro j ρ34 w35 ⟨hj, H36⟩ nx37
          change Ends _ _ (upds ρ34 [(0, .pointer (some ⟨b, 0, none⟩)), (4, .int .u64 0), (5, .int .i64 0), (6, .int .u64 (valOf ((remB bs p).take j) : Int)), (29, .int .i64 n), (30, .int .i64 (j : Int))]) w35
          have hfin : ¬ (j : Int) < n → (j = n.toNat) := fun h => by omega
          refine g_seq ?_
          refine g_region ?_
          by_cases hc38 : (j : Int) < n
          · skip
            refine r_cons (s_lss true rfl rfl (dtrue hc38) rfl ?_)
            refine r_nil ?_
            refine g_seq ?_
            refine g_true rfl ?_
            refine g_skip ?_
            refine g_seq ?_
            refine g_block ?_
            refine g_seq ?_
            refine g_region ?_
            have hv := val_take_lt63 (remB bs p) (j := j) (by omega)
            have hv2 := valOf_take_rem (bs := bs) (p := p) (j := j) (by omega)
            have hbb := Bool.toNat_le (bitAt bs (p + j))
            refine r_cons (s_move (.int .u64 (valOf ((remB bs p).take j) : Int)) rfl rfl ?_)
            refine r_cons (s_shl ((2 * valOf ((remB bs p).take j) : Nat) : Int) rfl rfl (by omega) (shl1 hv) rfl ?_)
            refine r_cons (s_move (.pointer (some ⟨b, 0, none⟩)) rfl rfl ?_)
            refine r_cons (s_move (.pointer (some ⟨b, 0, none⟩)) rfl rfl ?_)
            refine r_cons (s_nilCheck (.pointer (some ⟨b, 0, none⟩)) rfl ⟨_, rfl⟩ rfl ?_)
            refine r_cons (s_fieldAddr 66 2 2 2 3 rfl fi_66_2 rfl rfl ?_)
            have H39 := H36.move 0 rfl
            obtain ⟨vv40, H41⟩ := St.open_ex H39
            have H42 := St.open_star H41
            obtain ⟨pp43, cc44, gA45, oA46, kA47, eA48, zA49, rfl, hn50, hp51, hx52, hs53, hml, H54⟩ := Im.open_ H42 (i := 1) rfl
            have H55 : St W w35 (imi (0 < bs.length) gA45 (.cells kA47 eA48 zA49) :: blk b (.cells #[.bool true, .slice pp43 bs.length cc44, .int .i64 ((p + j : Nat) : Int)] 66 (0, 0)) :: Im 1 (.slice pp43 bs.length cc44) bs.length (bs.flatMap u8c) :: (F.set i emp)) := H54
            refine r_cons (s_load (.int .i64 ((p + j : Nat) : Int)) ag_3 rfl (H55.blk_at (i := 1) rfl) rfl rfl ?_)
            have H56 : St W w35 (blk b (.cells #[.bool true, .slice pp43 bs.length cc44, .int .i64 ((p + j : Nat) : Int)] 66 (0, 0)) :: Im 1 (.slice pp43 bs.length cc44) bs.length (bs.flatMap u8c) :: (F.set i emp)) := (((H55.move 2 rfl).move 2 rfl).drop 2 rfl)
            have H57 : St W w35 (SrcA b bs (p + j) :: (F.set i emp)) := St.shut_ex (.slice pp43 bs.length cc44) (St.shut_star (ls := [blk b (.cells #[.bool true, .slice pp43 bs.length cc44, .int .i64 ((p + j : Nat) : Int)] 66 (0, 0)), Im 1 (.slice pp43 bs.length cc44) bs.length (bs.flatMap u8c)]) H56)
            refine r_cons (s_call [.pointer (some ⟨b, 0, none⟩), .int .i64 ((p + j : Nat) : Int)] pl_46 rfl rfl (Src_bit b bs (p + j) (by first | omega | decide +kernel | (repeat (first | assumption | exact Nat.zero_le _ | refine natN_pos ?_ | refine srcN_pos ?_ | refine textN_pos ?_))) (by first | omega | decide +kernel) (p + j) (by omega) (i := 0) rfl H57) ?_)
            rintro _ w58 ⟨rfl, H59⟩
            refine r_cons (s_or ((2 * valOf ((remB bs p).take j) + (bitAt bs (p + j)).toNat : Nat) : Int) rfl rfl (or_low _ _ hv hbb) rfl ?_)
            refine r_cons (s_assign (.int .u64 ((2 * valOf ((remB bs p).take j) + (bitAt bs (p + j)).toNat : Nat) : Int)) rfl rfl ?_)
            refine r_nil ?_
            refine g_region ?_
            refine r_cons (s_move (.pointer (some ⟨b, 0, none⟩)) rfl rfl ?_)
            refine r_cons (s_nilCheck (.pointer (some ⟨b, 0, none⟩)) rfl ⟨_, rfl⟩ rfl ?_)
            refine r_cons (s_fieldAddr 66 2 2 2 3 rfl fi_66_2 rfl rfl ?_)
            have H60 := H59.move 0 rfl
            obtain ⟨vv61, H62⟩ := St.open_ex H60
            have H63 := St.open_star H62
            obtain ⟨pp64, cc65, gA66, oA67, kA68, eA69, zA70, rfl, hn71, hp72, hx73, hs74, hml, H75⟩ := Im.open_ H63 (i := 1) rfl
            have H76 : St W w58 (imi (0 < bs.length) gA66 (.cells kA68 eA69 zA70) :: blk b (.cells #[.bool true, .slice pp64 bs.length cc65, .int .i64 ((p + j : Nat) : Int)] 66 (0, 0)) :: Im 1 (.slice pp64 bs.length cc65) bs.length (bs.flatMap u8c) :: (F.set i emp)) := H75
            refine r_cons (s_load (.int .i64 ((p + j : Nat) : Int)) ag_3 rfl (H76.blk_at (i := 1) rfl) rfl rfl ?_)
            refine r_cons (s_add (((p + j : Nat) : Int) + 1) rfl rfl (wi64 (by omega)) rfl ?_)
            refine r_cons (s_nilCheck (.pointer (some ⟨b, 0, none⟩)) rfl ⟨_, rfl⟩ rfl ?_)
            refine r_cons (s_fieldAddr 66 2 2 2 3 rfl fi_66_2 rfl rfl ?_)
            refine r_cons (s_store H76 1 (.int .i64 (((p + j : Nat) : Int) + 1)) rfl rfl rfl sz_3 rfl (Nat.le_of_ble_eq_true rfl) rfl (cs' := #[.bool true, .slice pp64 bs.length cc65, .int .i64 (((p + j : Nat) : Int) + 1)]) rfl ?_); intro w77 H78
            refine r_nil ?_
            refine g_inBlock ?_
            refine g_region ?_
            refine r_cons (s_add ((j : Int) + 1) rfl rfl (wi64 (by omega)) rfl ?_)
            refine r_cons (s_move (.int .i64 ((j : Int) + 1)) rfl rfl ?_)
            refine r_nil ?_
            have H79 : St W w77 (blk b (.cells #[.bool true, .slice pp64 bs.length cc65, .int .i64 (((p + j : Nat) : Int) + 1)] 66 (0, 0)) :: Im 1 (.slice pp64 bs.length cc65) bs.length (bs.flatMap u8c) :: (F.set i emp)) := (((H78.move 2 rfl).move 2 rfl).drop 2 rfl)
            have H80 : St W w77 (blk b (.cells #[.bool true, .slice pp64 bs.length cc65, .int .i64 ((p + (j + 1) : Nat) : Int)] 66 (0, 0)) :: Im 1 (.slice pp64 bs.length cc65) bs.length (bs.flatMap u8c) :: (F.set i emp)) := by rw [show ((p + (j + 1) : Nat) : Int) = ((p + j : Nat) : Int) + 1 from by omega]; exact H79
            have H81 : St W w77 (SrcA b bs (p + (j + 1)) :: (F.set i emp)) := St.shut_ex (.slice pp64 bs.length cc65) (St.shut_star (ls := [blk b (.cells #[.bool true, .slice pp64 bs.length cc65, .int .i64 ((p + (j + 1) : Nat) : Int)] 66 (0, 0)), Im 1 (.slice pp64 bs.length cc65) bs.length (bs.flatMap u8c)]) H80)
            have H82 : St W w77 (SrcA b bs (p + (j + 1)) :: (F.set i emp)) := H81
            exact nx37 (j + 1) _ _ ⟨(by omega), H82⟩ (by first | (dsimp only; omega) | omega) ⟨by first | rfl | exact vint (by omega), by first | rfl | exact vint (by omega), by first | rfl | exact vint (by omega), by first | rfl | exact vint (by omega), by first | rfl | exact vint (by omega), by first | rfl | exact vint (by omega), trivial⟩
          · skip
            refine r_cons (s_lss false rfl rfl (dfalse hc38) rfl ?_)
            refine r_nil ?_
            refine g_seq ?_
            refine g_false rfl ?_
            refine g_exit (by rfl) ?_
            refine g_seq ?_
            refine g_region ?_
            refine r_cons (s_move (.int .u64 (valOf ((remB bs p).take j) : Int)) rfl rfl ?_)
            refine r_cons (s_assign (.int .u64 (valOf ((remB bs p).take j) : Int)) rfl rfl ?_)
            refine r_cons (s_assign (.int .i64 0) rfl rfl ?_)
            refine r_nil ?_
            refine g_ret' [.int .u64 (valOf ((remB bs p).take j) : Int), .int .i64 0] Try.func43 Try.results43 ⟨rfl, rfl, trivial⟩ ?_
            have H83 : St W w35 (SrcA b bs (p + j) :: (F.set i emp)) := H36
            obtain rfl : j = n.toNat := by omega
            exact ⟨by rw [hE, srcU_0 hE]; rfl, by rw [srcN_0 hE]; exact St.back hi H83⟩
set_option maxHeartbeats 4000000 in
set_option maxRecDepth 100000 in
theorem Src_back_ok {W w : World} {F : List Atom} (b : Nat) (bs : List UInt8) (p : Nat) (q : Int) (e : Int) (he : e = 0) {i : Nat} (hi : F[i]? = some (SrcA b bs p)) (H : St W w F) : Calls Try.prog 58 #[.pointer (some ⟨b, 0, none⟩), .int .i64 q, .int .i64 e] w (Ret fun v w' => v = .int .i64 e ∧ St W w' F) := by
  have H0 := H.front hi
  refine calls_of_go (n := 14) Try.func58 rfl Try.ntmps58 rfl ?_
  refine g_seq ?_
  refine g_region ?_
  refine r_cons (s_assign (.int .i64 0) rfl rfl ?_)
  refine r_nil ?_
  refine g_seq ?_
  refine g_seq ?_
  refine g_region ?_
  refine r_cons (s_move (.int .i64 e) rfl rfl ?_)
  refine r_cons (s_neq false rfl rfl (ntrue he) rfl ?_)
  refine r_nil ?_
  refine g_false rfl ?_
  refine g_skip ?_
  refine g_seq ?_
  refine g_region ?_
  refine r_cons (s_move (.int .i64 e) rfl rfl ?_)
  refine r_cons (s_assign (.int .i64 e) rfl rfl ?_)
  refine r_nil ?_
  refine g_ret' [.int .i64 e] Try.func58 Try.results58 ⟨rfl, trivial⟩ ?_
  have H1 : St W w (SrcA b bs p :: (F.set i emp)) := H0
  exact ⟨rfl, St.back_same hi H1⟩
set_option maxHeartbeats 4000000 in
set_option maxRecDepth 100000 in
theorem Src_back_no {W w : World} {F : List Atom} (b : Nat) (bs : List UInt8) (p : Nat) (q : Nat) (e : Int) (he : ¬ e = 0) {i : Nat} (hi : F[i]? = some (SrcA b bs p)) (H : St W w F) : Calls Try.prog 58 #[.pointer (some ⟨b, 0, none⟩), .int .i64 ((q : Nat) : Int), .int .i64 e] w (Ret fun v w' => v = .int .i64 e ∧ St W w' (F.set i (SrcA b bs q))) := by
  have H0 := H.front hi
  refine calls_of_go (n := 14) Try.func58 rfl Try.ntmps58 rfl ?_
  refine g_seq ?_
  refine g_region ?_
  refine r_cons (s_assign (.int .i64 0) rfl rfl ?_)
  refine r_nil ?_
  refine g_seq ?_
  refine g_seq ?_
  refine g_region ?_
  refine r_cons (s_move (.int .i64 e) rfl rfl ?_)
  refine r_cons (s_neq true rfl rfl (nfalse he) rfl ?_)
  refine r_nil ?_
  refine g_true rfl ?_
  refine g_region ?_
  refine r_cons (s_move (.pointer (some ⟨b, 0, none⟩)) rfl rfl ?_)
  refine r_cons (s_move (.int .i64 ((q : Nat) : Int)) rfl rfl ?_)
  refine r_cons (s_nilCheck (.pointer (some ⟨b, 0, none⟩)) rfl ⟨_, rfl⟩ rfl ?_)
  refine r_cons (s_fieldAddr 66 2 2 2 3 rfl fi_66_2 rfl rfl ?_)
  have H1 := H0.move 0 rfl
  obtain ⟨vv2, H3⟩ := St.open_ex H1
  have H4 := St.open_star H3
  obtain ⟨pp5, cc6, gA7, oA8, kA9, eA10, zA11, rfl, hn12, hp13, hx14, hs15, hml, H16⟩ := Im.open_ H4 (i := 1) rfl
  have H17 : St W w (imi (0 < bs.length) gA7 (.cells kA9 eA10 zA11) :: blk b (.cells #[.bool true, .slice pp5 bs.length cc6, .int .i64 ((p : Nat) : Int)] 66 (0, 0)) :: Im 1 (.slice pp5 bs.length cc6) bs.length (bs.flatMap u8c) :: (F.set i emp)) := H16
  refine r_cons (s_store H17 1 (.int .i64 ((q : Nat) : Int)) rfl rfl rfl sz_3 rfl (Nat.le_of_ble_eq_true rfl) rfl (cs' := #[.bool true, .slice pp5 bs.length cc6, .int .i64 ((q : Nat) : Int)]) rfl ?_); intro w18 H19
  refine r_nil ?_
  refine g_seq ?_
  refine g_region ?_
  refine r_cons (s_move (.int .i64 e) rfl rfl ?_)
  refine r_cons (s_assign (.int .i64 e) rfl rfl ?_)
  refine r_nil ?_
  refine g_ret' [.int .i64 e] Try.func58 Try.results58 ⟨rfl, trivial⟩ ?_
  have H20 : St W w18 (blk b (.cells #[.bool true, .slice pp5 bs.length cc6, .int .i64 ((q : Nat) : Int)] 66 (0, 0)) :: Im 1 (.slice pp5 bs.length cc6) bs.length (bs.flatMap u8c) :: (F.set i emp)) := (((H19.move 2 rfl).move 2 rfl).drop 2 rfl)
  have H21 : St W w18 (SrcA b bs q :: (F.set i emp)) := St.shut_ex (.slice pp5 bs.length cc6) (St.shut_star (ls := [blk b (.cells #[.bool true, .slice pp5 bs.length cc6, .int .i64 ((q : Nat) : Int)] 66 (0, 0)), Im 1 (.slice pp5 bs.length cc6) bs.length (bs.flatMap u8c)]) H20)
  have H22 : St W w18 (SrcA b bs q :: (F.set i emp)) := H21
  exact ⟨rfl, St.back hi H22⟩
set_option maxHeartbeats 4000000 in
set_option maxRecDepth 100000 in
theorem Src_Nat {W w : World} {F : List Atom} (b : Nat) (bs : List UInt8) (p : Nat) (hp : p ≤ 8 * bs.length) (hb : bs.length ≤ 140737488355328) {i : Nat} (hi : F[i]? = some (SrcA b bs p)) (H : St W w F) : Calls Try.prog 44 #[.pointer (some ⟨b, 0, none⟩)] w (Ret fun v w' => v = .tuple #[.int .u64 (natU (remB bs p) : Int), .int .i64 (natE (remB bs p))] ∧ St W w' (F.set i (SrcA b bs (p + natN (remB bs p))))) := by
  have H0 := H.front hi
  refine calls_of_go (n := 82) Try.func44 rfl Try.ntmps44 rfl ?_
  refine g_seq ?_
  refine g_region ?_
  refine r_cons (s_assign (.int .u64 0) rfl rfl ?_)
  refine r_cons (s_assign (.int .i64 0) rfl rfl ?_)
  refine r_nil ?_
  refine g_seq ?_
  refine g_seq ?_
  refine g_region ?_
  refine r_cons (s_move (.pointer (some ⟨b, 0, none⟩)) rfl rfl ?_)
  refine r_cons (s_peql false un_47 rfl rfl rfl rfl ?_)
  refine r_cons (s_move (.bool false) rfl rfl ?_)
  refine r_cons (r_take rfl rfl ?_)
  refine s_move (.pointer (some ⟨b, 0, none⟩)) rfl rfl ?_
  refine r_cons (r_take rfl rfl ?_)
  refine s_nilCheck (.pointer (some ⟨b, 0, none⟩)) rfl ⟨_, rfl⟩ rfl ?_
  refine r_cons (r_take rfl rfl ?_)
  refine s_fieldAddr 66 0 0 0 4 rfl fi_66_0 rfl rfl ?_
  refine r_cons (r_take rfl rfl ?_)
  have H1 := H0.move 0 rfl
  obtain ⟨vv2, H3⟩ := St.open_ex H1
  have H4 := St.open_star H3
  obtain ⟨pp5, cc6, gA7, oA8, kA9, eA10, zA11, rfl, hn12, hp13, hx14, hs15, hml, H16⟩ := Im.open_ H4 (i := 1) rfl
  have H17 : St W w (imi (0 < bs.length) gA7 (.cells kA9 eA10 zA11) :: blk b (.cells #[.bool true, .slice pp5 bs.length cc6, .int .i64 ((p : Nat) : Int)] 66 (0, 0)) :: Im 1 (.slice pp5 bs.length cc6) bs.length (bs.flatMap u8c) :: (F.set i emp)) := H16
  refine s_load (.bool true) ag_4 rfl (H17.blk_at (i := 1) rfl) rfl rfl ?_
  refine r_cons (r_take rfl rfl ?_)
  refine s_not true rfl false rfl rfl ?_
  refine r_cons (s_pick_f (.bool false) rfl rfl rfl ?_)
  refine r_nil ?_
  refine g_false rfl ?_
  refine g_skip ?_
  refine g_seq ?_
  refine g_region ?_
  refine r_cons (s_move (.pointer (some ⟨b, 0, none⟩)) rfl rfl ?_)
  refine r_cons (s_nilCheck (.pointer (some ⟨b, 0, none⟩)) rfl ⟨_, rfl⟩ rfl ?_)
  refine r_cons (s_fieldAddr 66 2 2 2 3 rfl fi_66_2 rfl rfl ?_)
  refine r_cons (s_load (.int .i64 ((p : Nat) : Int)) ag_3 rfl (H17.blk_at (i := 1) rfl) rfl rfl ?_)
  refine r_cons (s_assign (.int .i64 ((p : Nat) : Int)) rfl rfl ?_)
  refine r_nil ?_
  refine g_seq ?_
  refine g_region ?_
  refine r_cons (s_assign (.int .i64 0) rfl rfl ?_)
  refine r_nil ?_
  refine g_seq ?_
  refine g_block ?_
  have H18 : St W w (blk b (.cells #[.bool true, .slice pp5 bs.length cc6, .int .i64 ((p : Nat) : Int)] 66 (0, 0)) :: Im 1 (.slice pp5 bs.length cc6) bs.length (bs.flatMap u8c) :: (F.set i emp)) := (((H17.move 2 rfl).move 2 rfl).drop 2 rfl)
  have H19 : St W w (SrcA b bs p :: (F.set i emp)) := St.shut_ex (.slice pp5 bs.length cc6) (St.shut_star (ls := [blk b (.cells #[.bool true, .slice pp5 bs.length cc6, .int .i64 ((p : Nat) : Int)] 66 (0, 0)), Im 1 (.slice pp5 bs.length cc6) bs.length (bs.flatMap u8c)]) H18)
  have H20 : St W w (SrcA b bs p :: (F.set i emp)) := H19
  have hL := remB_len bs p
  refine g_loop_inv (fun (x_ : Nat) => match x_ with | k => [(0, .pointer (some ⟨b, 0, none⟩)), (2, .int .u64 0), (3, .int .i64 0), (4, .int .i64 ((p : Nat) : Int)), (5, .int .i64 (k : Int))]) (fun (x_ : Nat) w => match x_ with | k => (k ≤ 65) ∧ (k ≤ (remB bs p).length) ∧ (∀ j, j < k → (remB bs p).getD j false = false) ∧ St W w (SrcA b bs p :: (F.set i emp))) (fun (x_ : Nat) => match x_ with | k => 65 - k) (0) ?_ ?_ ?_
  · exact ⟨by first | rfl | exact vint (by omega), by first | rfl | exact vint (by omega), by first | rfl | exact vint (by omega), by first | rfl | exact vint (by omega), by first | rfl | exact vint (by omega), trivial⟩
  · exact ⟨(by omega), (by omega), (fun j hj => by omega), H20⟩
  · rintro k ρ21 w22 ⟨hk, hkr, hz, H23⟩ nx24
    change Ends _ _ (upds ρ21 [(0, .pointer (some ⟨b, 0, none⟩)), (2, .int .u64 0), (3, .int .i64 0), (4, .int .i64 ((p : Nat) : Int)), (5, .int .i64 (k : Int))]) w22
    refine g_seq ?_
    refine g_seq ?_
    refine g_region ?_
    refine r_cons (s_move (.int .i64 (k : Int)) rfl rfl ?_)
    by_cases hc25 : (k : Int) < 65
    · skip
      refine r_cons (s_lss true rfl rfl (dtrue hc25) rfl ?_)
      refine r_cons (s_move (.bool true) rfl rfl ?_)
      refine r_cons (r_take rfl rfl ?_)
      refine s_move (.int .i64 (k : Int)) rfl rfl ?_
      refine r_cons (r_take rfl rfl ?_)
      refine s_move (.pointer (some ⟨b, 0, none⟩)) rfl rfl ?_
      refine r_cons (r_take rfl rfl ?_)
      refine s_call [.pointer (some ⟨b, 0, none⟩)] pl_45 rfl rfl (Src_Left b bs p (by first | omega | decide +kernel | (repeat (first | assumption | exact Nat.zero_le _ | refine natN_pos ?_ | refine srcN_pos ?_ | refine textN_pos ?_))) (by first | omega | decide +kernel)   (i := 0) rfl H23) ?_
      rintro _ w26 ⟨rfl, H27⟩
      refine r_cons (r_take rfl rfl ?_)
      by_cases hc28 : (k : Int) < ((remB bs p).length : Int)
      · skip
        refine s_lss true rfl rfl (dtrue hc28) rfl ?_
        refine r_cons (s_pick_t (.bool true) rfl rfl rfl ?_)
        refine r_cons (s_move (.bool true) rfl rfl ?_)
        refine r_cons (r_take rfl rfl ?_)
        refine s_move (.pointer (some ⟨b, 0, none⟩)) rfl rfl ?_
        refine r_cons (r_take rfl rfl ?_)
        refine s_move (.int .i64 ((p : Nat) : Int)) rfl rfl ?_
        refine r_cons (r_take rfl rfl ?_)
        refine s_move (.int .i64 (k : Int)) rfl rfl ?_
        refine r_cons (r_take rfl rfl ?_)
        refine s_add (((p : Nat) : Int) + (k : Int)) rfl rfl (wi64 (by omega)) rfl ?_
        refine r_cons (r_take rfl rfl ?_)
        refine s_call [.pointer (some ⟨b, 0, none⟩), .int .i64 (((p : Nat) : Int) + (k : Int))] pl_46 rfl rfl (Src_bit b bs p (by first | omega | decide +kernel | (repeat (first | assumption | exact Nat.zero_le _ | refine natN_pos ?_ | refine srcN_pos ?_ | refine textN_pos ?_))) (by first | omega | decide +kernel) (p + k) (by omega) (i := 0) rfl H27) ?_
        rintro _ w29 ⟨rfl, H30⟩
        refine r_cons (r_take rfl rfl ?_)
        by_cases hc31 : ((bitAt bs (p + k)).toNat : Int) = 0
        · skip
          refine s_eql true rfl rfl (dtrue hc31) rfl ?_
          refine r_cons (s_pick_t (.bool true) rfl rfl rfl ?_)
          refine r_nil ?_
          refine g_true rfl ?_
          refine g_skip ?_
          refine g_block ?_
          refine g_region ?_
          refine r_cons (s_move (.int .i64 (k : Int)) rfl rfl ?_)
          refine r_cons (s_add ((k : Int) + 1) rfl rfl (wi64 (by omega)) rfl ?_)
          refine r_cons (s_assign (.int .i64 ((k : Int) + 1)) rfl rfl ?_)
          refine r_nil ?_
          refine g_inBlock ?_
          have H32 : St W w29 (SrcA b bs p :: (F.set i emp)) := H30
          have hbit : bitAt bs (p + k) = false := toNat_1.1 ‹_›
          exact nx24 (k + 1) _ _ ⟨(by omega), (by omega), (fun j hj => (Nat.lt_or_ge j k).elim (hz j) (fun h => by rw [show j = k from by omega, remB_getD (by omega)]; exact hbit)), H32⟩ (by first | (dsimp only; omega) | omega) ⟨by first | rfl | exact vint (by omega), by first | rfl | exact vint (by omega), by first | rfl | exact vint (by omega), by first | rfl | exact vint (by omega), by first | rfl | exact vint (by omega), trivial⟩
        · skip
          refine s_eql false rfl rfl (dfalse hc31) rfl ?_
          refine r_cons (s_pick_t (.bool false) rfl rfl rfl ?_)
          refine r_nil ?_
          refine g_false rfl ?_
          refine g_exit (by rfl) ?_
          refine g_seq ?_
          refine g_block ?_
          refine g_seq ?_
          refine g_region ?_
          have hzz : zeros (remB bs p) = k := zeros_is hk hkr hz (by first | (left; omega) | (right; left; omega) | (right; right; rw [remB_getD (by omega)]; exact Bool.of_not_eq_false fun h => absurd (toNat_1.2 h) ‹_›))
          clear hz
          refine r_cons (s_move (.int .i64 (k : Int)) rfl rfl ?_)
          refine r_cons (s_eql false rfl rfl (dfalse (by omega)) rfl ?_)
          refine r_cons (s_assign (.bool false) rfl rfl ?_)
          refine r_nil ?_
          refine g_false rfl ?_
          refine g_seq ?_
          refine g_region ?_
          refine r_cons (s_move (.pointer (some ⟨b, 0, none⟩)) rfl rfl ?_)
          refine r_cons (s_call [.pointer (some ⟨b, 0, none⟩)] pl_45 rfl rfl (Src_Left b bs p (by first | omega | decide +kernel | (repeat (first | assumption | exact Nat.zero_le _ | refine natN_pos ?_ | refine srcN_pos ?_ | refine textN_pos ?_))) (by first | omega | decide +kernel)   (i := 0) rfl H30) ?_)
          rintro _ w33 ⟨rfl, H34⟩
          refine r_cons (s_move (.int .i64 (k : Int)) rfl rfl ?_)
          refine r_cons (s_mul (2 * (k : Int)) rfl rfl (wi64 (by omega)) rfl ?_)
          refine r_cons (s_add (2 * (k : Int) + 1) rfl rfl (wi64 (by omega)) rfl ?_)
          by_cases hc35 : ((remB bs p).length : Int) < 2 * (k : Int) + 1
          · skip
            refine r_cons (s_lss true rfl rfl (dtrue hc35) rfl ?_)
            refine r_cons (s_assign (.bool true) rfl rfl ?_)
            refine r_nil ?_
            refine g_true rfl ?_
            refine g_seq ?_
            refine g_region ?_
            refine r_cons (s_assign (.int .u64 0) rfl rfl ?_)
            refine r_cons (s_assign (.int .i64 10) rfl rfl ?_)
            refine r_nil ?_
            refine g_ret' [.int .u64 0, .int .i64 10] Try.func44 Try.results44 ⟨rfl, rfl, trivial⟩ ?_
            have H36 : St W w33 (SrcA b bs p :: (F.set i emp)) := H34
            have hE : natE (remB bs p) = 10 := natE_10 (by omega) (by omega)
            have hE0 : ¬ natE (remB bs p) = 0 := by rw [hE]; decide
            exact ⟨by rw [natU_no hE0, hE]; rfl, by rw [natN_no hE0]; exact St.back hi H36⟩
          · skip
            refine r_cons (s_lss false rfl rfl (dfalse hc35) rfl ?_)
            refine r_cons (s_assign (.bool false) rfl rfl ?_)
            refine r_nil ?_
            refine g_false rfl ?_
            refine g_skip ?_
            refine g_inBlock ?_
            refine g_seq ?_
            refine g_region ?_
            refine r_cons (s_move (.pointer (some ⟨b, 0, none⟩)) rfl rfl ?_)
            refine r_cons (s_nilCheck (.pointer (some ⟨b, 0, none⟩)) rfl ⟨_, rfl⟩ rfl ?_)
            refine r_cons (s_fieldAddr 66 2 2 2 3 rfl fi_66_2 rfl rfl ?_)
            have H37 := H34.move 0 rfl
            obtain ⟨vv38, H39⟩ := St.open_ex H37
            have H40 := St.open_star H39
            obtain ⟨pp41, cc42, gA43, oA44, kA45, eA46, zA47, rfl, hn48, hp49, hx50, hs51, hml, H52⟩ := Im.open_ H40 (i := 1) rfl
            have H53 : St W w33 (imi (0 < bs.length) gA43 (.cells kA45 eA46 zA47) :: blk b (.cells #[.bool true, .slice pp41 bs.length cc42, .int .i64 ((p : Nat) : Int)] 66 (0, 0)) :: Im 1 (.slice pp41 bs.length cc42) bs.length (bs.flatMap u8c) :: (F.set i emp)) := H52
            refine r_cons (s_load (.int .i64 ((p : Nat) : Int)) ag_3 rfl (H53.blk_at (i := 1) rfl) rfl rfl ?_)
            refine r_cons (s_move (.int .i64 (k : Int)) rfl rfl ?_)
            refine r_cons (s_add ((k : Int) + 1) rfl rfl (wi64 (by omega)) rfl ?_)
            refine r_cons (s_add (((p : Nat) : Int) + ((k : Int) + 1)) rfl rfl (wi64 (by omega)) rfl ?_)
            refine r_cons (s_nilCheck (.pointer (some ⟨b, 0, none⟩)) rfl ⟨_, rfl⟩ rfl ?_)
            refine r_cons (s_fieldAddr 66 2 2 2 3 rfl fi_66_2 rfl rfl ?_)
            refine r_cons (s_store H53 1 (.int .i64 (((p : Nat) : Int) + ((k : Int) + 1))) rfl rfl rfl sz_3 rfl (Nat.le_of_ble_eq_true rfl) rfl (cs' := #[.bool true, .slice pp41 bs.length cc42, .int .i64 (((p : Nat) : Int) + ((k : Int) + 1))]) rfl ?_); intro w54 H55
            refine r_nil ?_
            refine g_seq ?_
            refine g_region ?_
            have hL1 := remB_len bs (p + k + 1)
            have he : srcE (remB bs (p + k + 1)) (k : Int) = 0 := srcE_0 (by omega) (by omega)
            have hu1 : srcU (remB bs (p + k + 1)) (k : Int) = valOf (((remB bs p).drop (zeros (remB bs p) + 1)).take (zeros (remB bs p))) := by rw [srcU_0 he, hzz, Int.toNat_natCast, remB_drop, Nat.add_assoc]
            have hu2 := srcU_lt_pow (R := remB bs (p + k + 1)) (k := k)
            have hN1 : srcN (remB bs (p + k + 1)) (k : Int) = k := by rw [srcN_0 he]; exact Int.toNat_natCast k
            refine r_cons (s_move (.pointer (some ⟨b, 0, none⟩)) rfl rfl ?_)
            refine r_cons (s_move (.int .i64 (k : Int)) rfl rfl ?_)
            have H56 : St W w54 (blk b (.cells #[.bool true, .slice pp41 bs.length cc42, .int .i64 (((p : Nat) : Int) + ((k : Int) + 1))] 66 (0, 0)) :: Im 1 (.slice pp41 bs.length cc42) bs.length (bs.flatMap u8c) :: (F.set i emp)) := (((H55.move 2 rfl).move 2 rfl).drop 2 rfl)
            have H57 : St W w54 (blk b (.cells #[.bool true, .slice pp41 bs.length cc42, .int .i64 ((p + k + 1 : Nat) : Int)] 66 (0, 0)) :: Im 1 (.slice pp41 bs.length cc42) bs.length (bs.flatMap u8c) :: (F.set i emp)) := by rw [show ((p + k + 1 : Nat) : Int) = ((p : Nat) : Int) + ((k : Int) + 1) from by omega]; exact H56
            have H58 : St W w54 (SrcA b bs (p + k + 1) :: (F.set i emp)) := St.shut_ex (.slice pp41 bs.length cc42) (St.shut_star (ls := [blk b (.cells #[.bool true, .slice pp41 bs.length cc42, .int .i64 ((p + k + 1 : Nat) : Int)] 66 (0, 0)), Im 1 (.slice pp41 bs.length cc42) bs.length (bs.flatMap u8c)]) H57)
            refine r_cons (s_call [.pointer (some ⟨b, 0, none⟩), .int .i64 (k : Int)] pl_43 rfl rfl (Src_Bits b bs (p + k + 1) (by first | omega | decide +kernel | (repeat (first | assumption | exact Nat.zero_le _ | refine natN_pos ?_ | refine srcN_pos ?_ | refine textN_pos ?_))) (by first | omega | decide +kernel) (k : Int)  (i := 0) rfl H58) ?_)
            rintro _ w59 ⟨rfl, H60⟩
            refine r_cons (s_move (.tuple #[.int .u64 (srcU (remB bs (p + k + 1)) (k : Int) : Int), .int .i64 (srcE (remB bs (p + k + 1)) (k : Int))]) rfl rfl ?_)
            refine r_cons (s_extract (.int .u64 (srcU (remB bs (p + k + 1)) (k : Int) : Int)) #[.int .u64 (srcU (remB bs (p + k + 1)) (k : Int) : Int), .int .i64 (srcE (remB bs (p + k + 1)) (k : Int))] rfl rfl rfl ?_)
            refine r_cons (s_extract (.int .i64 (srcE (remB bs (p + k + 1)) (k : Int))) #[.int .u64 (srcU (remB bs (p + k + 1)) (k : Int) : Int), .int .i64 (srcE (remB bs (p + k + 1)) (k : Int))] rfl rfl rfl ?_)
            refine r_cons (s_assign (.int .u64 (srcU (remB bs (p + k + 1)) (k : Int) : Int)) rfl rfl ?_)
            refine r_cons (s_assign (.int .i64 (srcE (remB bs (p + k + 1)) (k : Int))) rfl rfl ?_)
            refine r_nil ?_
            refine g_seq ?_
            refine g_seq ?_
            refine g_region ?_
            refine r_cons (s_move (.pointer (some ⟨b, 0, none⟩)) rfl rfl ?_)
            refine r_cons (s_move (.int .i64 ((p : Nat) : Int)) rfl rfl ?_)
            refine r_cons (s_move (.int .i64 (srcE (remB bs (p + k + 1)) (k : Int))) rfl rfl ?_)
            refine r_cons (s_call [.pointer (some ⟨b, 0, none⟩), .int .i64 ((p : Nat) : Int), .int .i64 (srcE (remB bs (p + k + 1)) (k : Int))] pl_58 rfl rfl (Src_back_ok b bs (p + k + 1 + srcN (remB bs (p + k + 1)) (k : Int)) ((p : Nat) : Int) (srcE (remB bs (p + k + 1)) (k : Int)) he (i := 0) rfl H60) ?_)
            rintro _ w61 ⟨rfl, H62⟩
            refine r_cons (s_neq false rfl rfl (ntrue he) rfl ?_)
            refine r_nil ?_
            refine g_false rfl ?_
            refine g_skip ?_
            refine g_seq ?_
            refine g_seq ?_
            refine g_region ?_
            refine r_cons (s_move (.int .i64 (k : Int)) rfl rfl ?_)
            by_cases hc63 : (k : Int) = 64
            · skip
              refine r_cons (s_eql true rfl rfl (dtrue hc63) rfl ?_)
              refine r_nil ?_
              refine g_true rfl ?_
              refine g_seq ?_
              refine g_seq ?_
              refine g_region ?_
              refine r_cons (s_move (.int .u64 (srcU (remB bs (p + k + 1)) (k : Int) : Int)) rfl rfl ?_)
              by_cases hc64 : (srcU (remB bs (p + k + 1)) (k : Int) : Int) = 0
              · skip
                refine r_cons (s_neq false rfl rfl (ntrue hc64) rfl ?_)
                refine r_nil ?_
                refine g_false rfl ?_
                refine g_skip ?_
                refine g_seq ?_
                refine g_region ?_
                refine r_cons (s_assign (.int .u64 18446744073709551615) rfl rfl ?_)
                refine r_cons (s_assign (.int .i64 0) rfl rfl ?_)
                refine r_nil ?_
                refine g_ret' [.int .u64 18446744073709551615, .int .i64 0] Try.func44 Try.results44 ⟨rfl, rfl, trivial⟩ ?_
                have H65 : St W w61 (SrcA b bs (p + k + 1 + srcN (remB bs (p + k + 1)) (k : Int)) :: (F.set i emp)) := H62
                have hE : natE (remB bs p) = 0 := natE_0 (by omega) (by omega) (by rw [← hu1]; omega)
                have hN : natN (remB bs p) = k + 1 + k := by rw [natN_0 hE]; omega
                have hU : natU (remB bs p) = 18446744073709551615 := by exact natU_64 hE (by omega)
                have hP : p + natN (remB bs p) = p + k + 1 + srcN (remB bs (p + k + 1)) (k : Int) := by rw [hN, hN1]; omega
                have hv : (natU (remB bs p) : Int) = 18446744073709551615 := by rw [hU]; rfl
                exact ⟨by rw [hE, hv]; rfl, by rw [hP]; exact St.back hi H65⟩
              · skip
                refine r_cons (s_neq true rfl rfl (nfalse hc64) rfl ?_)
                refine r_nil ?_
                refine g_true rfl ?_
                refine g_seq ?_
                refine g_region ?_
                refine r_cons (s_move (.pointer (some ⟨b, 0, none⟩)) rfl rfl ?_)
                refine r_cons (s_move (.int .i64 ((p : Nat) : Int)) rfl rfl ?_)
                refine r_cons (s_call [.pointer (some ⟨b, 0, none⟩), .int .i64 ((p : Nat) : Int), .int .i64 11] pl_58 rfl rfl (Src_back_no b bs (p + k + 1 + srcN (remB bs (p + k + 1)) (k : Int)) (p) 11 (by decide) (i := 0) rfl H62) ?_)
                rintro _ w66 ⟨rfl, H67⟩
                refine r_cons (s_assign (.int .u64 0) rfl rfl ?_)
                refine r_cons (s_assign (.int .i64 11) rfl rfl ?_)
                refine r_nil ?_
                refine g_ret' [.int .u64 0, .int .i64 11] Try.func44 Try.results44 ⟨rfl, rfl, trivial⟩ ?_
                have H68 : St W w66 (SrcA b bs p :: (F.set i emp)) := H67
                have hE : natE (remB bs p) = 11 := by first | exact natE_65 (by omega) | exact natE_11 (by omega) (by omega) (by rw [← hu1]; omega)
                have hE0 : ¬ natE (remB bs p) = 0 := by rw [hE]; decide
                exact ⟨by rw [natU_no hE0, hE]; rfl, by rw [natN_no hE0]; exact St.back hi H68⟩
            · skip
              refine r_cons (s_eql false rfl rfl (dfalse hc63) rfl ?_)
              refine r_nil ?_
              refine g_false rfl ?_
              refine g_skip ?_
              refine g_seq ?_
              refine g_region ?_
              have hpw := pow_le63 (k := k) (by omega)
              refine r_cons (s_move (.int .u64 (srcU (remB bs (p + k + 1)) (k : Int) : Int)) rfl rfl ?_)
              refine r_cons (s_move (.int .i64 (k : Int)) rfl rfl ?_)
              refine r_cons (s_shl ((2 ^ k : Nat) : Int) rfl rfl (by omega) (shl_one rfl (by omega)) rfl ?_)
              have hq : 0 < 2 ^ k := Nat.pow_pos (by decide)
              refine r_cons (s_add ((srcU (remB bs (p + k + 1)) (k : Int) + 2 ^ k : Nat) : Int) rfl rfl ((wu64 (by generalize 2 ^ k = q at *; omega)).trans (by generalize 2 ^ k = q at *; omega)) rfl ?_)
              refine r_cons (s_sub ((srcU (remB bs (p + k + 1)) (k : Int) + 2 ^ k - 1 : Nat) : Int) rfl rfl ((wu64 (by generalize 2 ^ k = q at *; omega)).trans (by generalize 2 ^ k = q at *; omega)) rfl ?_)
              refine r_cons (s_assign (.int .u64 ((srcU (remB bs (p + k + 1)) (k : Int) + 2 ^ k - 1 : Nat) : Int)) rfl rfl ?_)
              refine r_cons (s_assign (.int .i64 0) rfl rfl ?_)
              refine r_nil ?_
              refine g_ret' [.int .u64 ((srcU (remB bs (p + k + 1)) (k : Int) + 2 ^ k - 1 : Nat) : Int), .int .i64 0] Try.func44 Try.results44 ⟨rfl, rfl, trivial⟩ ?_
              have H69 : St W w61 (SrcA b bs (p + k + 1 + srcN (remB bs (p + k + 1)) (k : Int)) :: (F.set i emp)) := H62
              have hE : natE (remB bs p) = 0 := natE_0 (by omega) (by omega) (by rw [← hu1]; omega)
              have hN : natN (remB bs p) = k + 1 + k := by rw [natN_0 hE]; omega
              have hU : natU (remB bs p) = valOf (((remB bs p).drop (zeros (remB bs p) + 1)).take (zeros (remB bs p))) + 2 ^ k - 1 := by rw [natU_is hE (by omega), hzz]
              have hP : p + natN (remB bs p) = p + k + 1 + srcN (remB bs (p + k + 1)) (k : Int) := by rw [hN, hN1]; omega
              have hv : (natU (remB bs p) : Int) = ((srcU (remB bs (p + k + 1)) (k : Int) + 2 ^ k - 1 : Nat) : Int) := by rw [hU, ← hu1]; skip
              exact ⟨by rw [hE, hv]; rfl, by rw [hP]; exact St.back hi H69⟩
      · skip
        refine s_lss false rfl rfl (dfalse hc28) rfl ?_
        refine r_cons (s_pick_t (.bool false) rfl rfl rfl ?_)
        refine r_cons (s_move (.bool false) rfl rfl ?_)
        refine r_cons (r_pass rfl rfl rfl rfl rfl ?_)
        refine r_cons (r_pass rfl rfl rfl rfl rfl ?_)
        refine r_cons (r_pass rfl rfl rfl rfl rfl ?_)
        refine r_cons (r_pass rfl rfl rfl rfl rfl ?_)
        refine r_cons (r_pass rfl rfl rfl rfl rfl ?_)
        refine r_cons (r_pass rfl rfl rfl rfl rfl ?_)
        refine r_cons (s_pick_f (.bool false) rfl rfl rfl ?_)
        refine r_nil ?_
        refine g_false rfl ?_
        refine g_exit (by rfl) ?_
        refine g_seq ?_
        refine g_block ?_
        refine g_seq ?_
        refine g_region ?_
        have hzz : zeros (remB bs p) = k := zeros_is hk hkr hz (by first | (left; omega) | (right; left; omega) | (right; right; rw [remB_getD (by omega)]; exact Bool.of_not_eq_false fun h => absurd (toNat_1.2 h) ‹_›))
        clear hz
        refine r_cons (s_move (.int .i64 (k : Int)) rfl rfl ?_)
        refine r_cons (s_eql false rfl rfl (dfalse (by omega)) rfl ?_)
        refine r_cons (s_assign (.bool false) rfl rfl ?_)
        refine r_nil ?_
        refine g_false rfl ?_
        refine g_seq ?_
        refine g_region ?_
        refine r_cons (s_move (.pointer (some ⟨b, 0, none⟩)) rfl rfl ?_)
        refine r_cons (s_call [.pointer (some ⟨b, 0, none⟩)] pl_45 rfl rfl (Src_Left b bs p (by first | omega | decide +kernel | (repeat (first | assumption | exact Nat.zero_le _ | refine natN_pos ?_ | refine srcN_pos ?_ | refine textN_pos ?_))) (by first | omega | decide +kernel)   (i := 0) rfl H27) ?_)
        rintro _ w70 ⟨rfl, H71⟩
        refine r_cons (s_move (.int .i64 (k : Int)) rfl rfl ?_)
        refine r_cons (s_mul (2 * (k : Int)) rfl rfl (wi64 (by omega)) rfl ?_)
        refine r_cons (s_add (2 * (k : Int) + 1) rfl rfl (wi64 (by omega)) rfl ?_)
        by_cases hc72 : ((remB bs p).length : Int) < 2 * (k : Int) + 1
        · skip
          refine r_cons (s_lss true rfl rfl (dtrue hc72) rfl ?_)
          refine r_cons (s_assign (.bool true) rfl rfl ?_)
          refine r_nil ?_
          refine g_true rfl ?_
          refine g_seq ?_
          refine g_region ?_
          refine r_cons (s_assign (.int .u64 0) rfl rfl ?_)
          refine r_cons (s_assign (.int .i64 10) rfl rfl ?_)
          refine r_nil ?_
          refine g_ret' [.int .u64 0, .int .i64 10] Try.func44 Try.results44 ⟨rfl, rfl, trivial⟩ ?_
          have H73 : St W w70 (SrcA b bs p :: (F.set i emp)) := H71
          have hE : natE (remB bs p) = 10 := natE_10 (by omega) (by omega)
          have hE0 : ¬ natE (remB bs p) = 0 := by rw [hE]; decide
          exact ⟨by rw [natU_no hE0, hE]; rfl, by rw [natN_no hE0]; exact St.back hi H73⟩
        · skip
          refine r_cons (s_lss false rfl rfl (dfalse hc72) rfl ?_)
          refine r_cons (s_assign (.bool false) rfl rfl ?_)
          refine r_nil ?_
          refine g_false rfl ?_
          refine g_skip ?_
          refine g_inBlock ?_
          refine g_seq ?_
          refine g_region ?_
          refine r_cons (s_move (.pointer (some ⟨b, 0, none⟩)) rfl rfl ?_)
          refine r_cons (s_nilCheck (.pointer (some ⟨b, 0, none⟩)) rfl ⟨_, rfl⟩ rfl ?_)
          refine r_cons (s_fieldAddr 66 2 2 2 3 rfl fi_66_2 rfl rfl ?_)
          have H74 := H71.move 0 rfl
          obtain ⟨vv75, H76⟩ := St.open_ex H74
          have H77 := St.open_star H76
          obtain ⟨pp78, cc79, gA80, oA81, kA82, eA83, zA84, rfl, hn85, hp86, hx87, hs88, hml, H89⟩ := Im.open_ H77 (i := 1) rfl
          have H90 : St W w70 (imi (0 < bs.length) gA80 (.cells kA82 eA83 zA84) :: blk b (.cells #[.bool true, .slice pp78 bs.length cc79, .int .i64 ((p : Nat) : Int)] 66 (0, 0)) :: Im 1 (.slice pp78 bs.length cc79) bs.length (bs.flatMap u8c) :: (F.set i emp)) := H89
          refine r_cons (s_load (.int .i64 ((p : Nat) : Int)) ag_3 rfl (H90.blk_at (i := 1) rfl) rfl rfl ?_)
          refine r_cons (s_move (.int .i64 (k : Int)) rfl rfl ?_)
          refine r_cons (s_add ((k : Int) + 1) rfl rfl (wi64 (by omega)) rfl ?_)
          refine r_cons (s_add (((p : Nat) : Int) + ((k : Int) + 1)) rfl rfl (wi64 (by omega)) rfl ?_)
          refine r_cons (s_nilCheck (.pointer (some ⟨b, 0, none⟩)) rfl ⟨_, rfl⟩ rfl ?_)
          refine r_cons (s_fieldAddr 66 2 2 2 3 rfl fi_66_2 rfl rfl ?_)
          refine r_cons (s_store H90 1 (.int .i64 (((p : Nat) : Int) + ((k : Int) + 1))) rfl rfl rfl sz_3 rfl (Nat.le_of_ble_eq_true rfl) rfl (cs' := #[.bool true, .slice pp78 bs.length cc79, .int .i64 (((p : Nat) : Int) + ((k : Int) + 1))]) rfl ?_); intro w91 H92
          refine r_nil ?_
          refine g_seq ?_
          refine g_region ?_
          have hL1 := remB_len bs (p + k + 1)
          have he : srcE (remB bs (p + k + 1)) (k : Int) = 0 := srcE_0 (by omega) (by omega)
          have hu1 : srcU (remB bs (p + k + 1)) (k : Int) = valOf (((remB bs p).drop (zeros (remB bs p) + 1)).take (zeros (remB bs p))) := by rw [srcU_0 he, hzz, Int.toNat_natCast, remB_drop, Nat.add_assoc]
          have hu2 := srcU_lt_pow (R := remB bs (p + k + 1)) (k := k)
          have hN1 : srcN (remB bs (p + k + 1)) (k : Int) = k := by rw [srcN_0 he]; exact Int.toNat_natCast k
          refine r_cons (s_move (.pointer (some ⟨b, 0, none⟩)) rfl rfl ?_)
          refine r_cons (s_move (.int .i64 (k : Int)) rfl rfl ?_)
          have H93 : St W w91 (blk b (.cells #[.bool true, .slice pp78 bs.length cc79, .int .i64 (((p : Nat) : Int) + ((k : Int) + 1))] 66 (0, 0)) :: Im 1 (.slice pp78 bs.length cc79) bs.length (bs.flatMap u8c) :: (F.set i emp)) := (((H92.move 2 rfl).move 2 rfl).drop 2 rfl)
          have H94 : St W w91 (blk b (.cells #[.bool true, .slice pp78 bs.length cc79, .int .i64 ((p + k + 1 : Nat) : Int)] 66 (0, 0)) :: Im 1 (.slice pp78 bs.length cc79) bs.length (bs.flatMap u8c) :: (F.set i emp)) := by rw [show ((p + k + 1 : Nat) : Int) = ((p : Nat) : Int) + ((k : Int) + 1) from by omega]; exact H93
          have H95 : St W w91 (SrcA b bs (p + k + 1) :: (F.set i emp)) := St.shut_ex (.slice pp78 bs.length cc79) (St.shut_star (ls := [blk b (.cells #[.bool true, .slice pp78 bs.length cc79, .int .i64 ((p + k + 1 : Nat) : Int)] 66 (0, 0)), Im 1 (.slice pp78 bs.length cc79) bs.length (bs.flatMap u8c)]) H94)
          refine r_cons (s_call [.pointer (some ⟨b, 0, none⟩), .int .i64 (k : Int)] pl_43 rfl rfl (Src_Bits b bs (p + k + 1) (by first | omega | decide +kernel | (repeat (first | assumption | exact Nat.zero_le _ | refine natN_pos ?_ | refine srcN_pos ?_ | refine textN_pos ?_))) (by first | omega | decide +kernel) (k : Int)  (i := 0) rfl H95) ?_)
          rintro _ w96 ⟨rfl, H97⟩
          refine r_cons (s_move (.tuple #[.int .u64 (srcU (remB bs (p + k + 1)) (k : Int) : Int), .int .i64 (srcE (remB bs (p + k + 1)) (k : Int))]) rfl rfl ?_)
          refine r_cons (s_extract (.int .u64 (srcU (remB bs (p + k + 1)) (k : Int) : Int)) #[.int .u64 (srcU (remB bs (p + k + 1)) (k : Int) : Int), .int .i64 (srcE (remB bs (p + k + 1)) (k : Int))] rfl rfl rfl ?_)
          refine r_cons (s_extract (.int .i64 (srcE (remB bs (p + k + 1)) (k : Int))) #[.int .u64 (srcU (remB bs (p + k + 1)) (k : Int) : Int), .int .i64 (srcE (remB bs (p + k + 1)) (k : Int))] rfl rfl rfl ?_)
          refine r_cons (s_assign (.int .u64 (srcU (remB bs (p + k + 1)) (k : Int) : Int)) rfl rfl ?_)
          refine r_cons (s_assign (.int .i64 (srcE (remB bs (p + k + 1)) (k : Int))) rfl rfl ?_)
          refine r_nil ?_
          refine g_seq ?_
          refine g_seq ?_
          refine g_region ?_
          refine r_cons (s_move (.pointer (some ⟨b, 0, none⟩)) rfl rfl ?_)
          refine r_cons (s_move (.int .i64 ((p : Nat) : Int)) rfl rfl ?_)
          refine r_cons (s_move (.int .i64 (srcE (remB bs (p + k + 1)) (k : Int))) rfl rfl ?_)
          refine r_cons (s_call [.pointer (some ⟨b, 0, none⟩), .int .i64 ((p : Nat) : Int), .int .i64 (srcE (remB bs (p + k + 1)) (k : Int))] pl_58 rfl rfl (Src_back_ok b bs (p + k + 1 + srcN (remB bs (p + k + 1)) (k : Int)) ((p : Nat) : Int) (srcE (remB bs (p + k + 1)) (k : Int)) he (i := 0) rfl H97) ?_)
          rintro _ w98 ⟨rfl, H99⟩
          refine r_cons (s_neq false rfl rfl (ntrue he) rfl ?_)
          refine r_nil ?_
          refine g_false rfl ?_
          refine g_skip ?_
          refine g_seq ?_
          refine g_seq ?_
          refine g_region ?_
          refine r_cons (s_move (.int .i64 (k : Int)) rfl rfl ?_)
          by_cases hc100 : (k : Int) = 64
          · skip
            refine r_cons (s_eql true rfl rfl (dtrue hc100) rfl ?_)
            refine r_nil ?_
            refine g_true rfl ?_
            refine g_seq ?_
            refine g_seq ?_
            refine g_region ?_
            refine r_cons (s_move (.int .u64 (srcU (remB bs (p + k + 1)) (k : Int) : Int)) rfl rfl ?_)
            by_cases hc101 : (srcU (remB bs (p + k + 1)) (k : Int) : Int) = 0
            · skip
              refine r_cons (s_neq false rfl rfl (ntrue hc101) rfl ?_)
              refine r_nil ?_
              refine g_false rfl ?_
              refine g_skip ?_
              refine g_seq ?_
              refine g_region ?_
              refine r_cons (s_assign (.int .u64 18446744073709551615) rfl rfl ?_)
              refine r_cons (s_assign (.int .i64 0) rfl rfl ?_)
              refine r_nil ?_
              refine g_ret' [.int .u64 18446744073709551615, .int .i64 0] Try.func44 Try.results44 ⟨rfl, rfl, trivial⟩ ?_
              have H102 : St W w98 (SrcA b bs (p + k + 1 + srcN (remB bs (p + k + 1)) (k : Int)) :: (F.set i emp)) := H99
              have hE : natE (remB bs p) = 0 := natE_0 (by omega) (by omega) (by rw [← hu1]; omega)
              have hN : natN (remB bs p) = k + 1 + k := by rw [natN_0 hE]; omega
              have hU : natU (remB bs p) = 18446744073709551615 := by exact natU_64 hE (by omega)
              have hP : p + natN (remB bs p) = p + k + 1 + srcN (remB bs (p + k + 1)) (k : Int) := by rw [hN, hN1]; omega
              have hv : (natU (remB bs p) : Int) = 18446744073709551615 := by rw [hU]; rfl
              exact ⟨by rw [hE, hv]; rfl, by rw [hP]; exact St.back hi H102⟩
            · skip
              refine r_cons (s_neq true rfl rfl (nfalse hc101) rfl ?_)
              refine r_nil ?_
              refine g_true rfl ?_
              refine g_seq ?_
              refine g_region ?_
              refine r_cons (s_move (.pointer (some ⟨b, 0, none⟩)) rfl rfl ?_)
              refine r_cons (s_move (.int .i64 ((p : Nat) : Int)) rfl rfl ?_)
              refine r_cons (s_call [.pointer (some ⟨b, 0, none⟩), .int .i64 ((p : Nat) : Int), .int .i64 11] pl_58 rfl rfl (Src_back_no b bs (p + k + 1 + srcN (remB bs (p + k + 1)) (k : Int)) (p) 11 (by decide) (i := 0) rfl H99) ?_)
              rintro _ w103 ⟨rfl, H104⟩
              refine r_cons (s_assign (.int .u64 0) rfl rfl ?_)
              refine r_cons (s_assign (.int .i64 11) rfl rfl ?_)
              refine r_nil ?_
              refine g_ret' [.int .u64 0, .int .i64 11] Try.func44 Try.results44 ⟨rfl, rfl, trivial⟩ ?_
              have H105 : St W w103 (SrcA b bs p :: (F.set i emp)) := H104
              have hE : natE (remB bs p) = 11 := by first | exact natE_65 (by omega) | exact natE_11 (by omega) (by omega) (by rw [← hu1]; omega)
              have hE0 : ¬ natE (remB bs p) = 0 := by rw [hE]; decide
              exact ⟨by rw [natU_no hE0, hE]; rfl, by rw [natN_no hE0]; exact St.back hi H105⟩
          · skip
            refine r_cons (s_eql false rfl rfl (dfalse hc100) rfl ?_)
            refine r_nil ?_
            refine g_false rfl ?_
            refine g_skip ?_
            refine g_seq ?_
            refine g_region ?_
            have hpw := pow_le63 (k := k) (by omega)
            refine r_cons (s_move (.int .u64 (srcU (remB bs (p + k + 1)) (k : Int) : Int)) rfl rfl ?_)
            refine r_cons (s_move (.int .i64 (k : Int)) rfl rfl ?_)
            refine r_cons (s_shl ((2 ^ k : Nat) : Int) rfl rfl (by omega) (shl_one rfl (by omega)) rfl ?_)
            have hq : 0 < 2 ^ k := Nat.pow_pos (by decide)
            refine r_cons (s_add ((srcU (remB bs (p + k + 1)) (k : Int) + 2 ^ k : Nat) : Int) rfl rfl ((wu64 (by generalize 2 ^ k = q at *; omega)).trans (by generalize 2 ^ k = q at *; omega)) rfl ?_)
            refine r_cons (s_sub ((srcU (remB bs (p + k + 1)) (k : Int) + 2 ^ k - 1 : Nat) : Int) rfl rfl ((wu64 (by generalize 2 ^ k = q at *; omega)).trans (by generalize 2 ^ k = q at *; omega)) rfl ?_)
            refine r_cons (s_assign (.int .u64 ((srcU (remB bs (p + k + 1)) (k : Int) + 2 ^ k - 1 : Nat) : Int)) rfl rfl ?_)
            refine r_cons (s_assign (.int .i64 0) rfl rfl ?_)
            refine r_nil ?_
            refine g_ret' [.int .u64 ((srcU (remB bs (p + k + 1)) (k : Int) + 2 ^ k - 1 : Nat) : Int), .int .i64 0] Try.func44 Try.results44 ⟨rfl, rfl, trivial⟩ ?_
            have H106 : St W w98 (SrcA b bs (p + k + 1 + srcN (remB bs (p + k + 1)) (k : Int)) :: (F.set i emp)) := H99
            have hE : natE (remB bs p) = 0 := natE_0 (by omega) (by omega) (by rw [← hu1]; omega)
            have hN : natN (remB bs p) = k + 1 + k := by rw [natN_0 hE]; omega
            have hU : natU (remB bs p) = valOf (((remB bs p).drop (zeros (remB bs p) + 1)).take (zeros (remB bs p))) + 2 ^ k - 1 := by rw [natU_is hE (by omega), hzz]
            have hP : p + natN (remB bs p) = p + k + 1 + srcN (remB bs (p + k + 1)) (k : Int) := by rw [hN, hN1]; omega
            have hv : (natU (remB bs p) : Int) = ((srcU (remB bs (p + k + 1)) (k : Int) + 2 ^ k - 1 : Nat) : Int) := by rw [hU, ← hu1]; skip
            exact ⟨by rw [hE, hv]; rfl, by rw [hP]; exact St.back hi H106⟩
    · skip
      refine r_cons (s_lss false rfl rfl (dfalse hc25) rfl ?_)
      refine r_cons (s_move (.bool false) rfl rfl ?_)
      refine r_cons (r_pass rfl rfl rfl rfl rfl ?_)
      refine r_cons (r_pass rfl rfl rfl rfl rfl ?_)
      refine r_cons (r_pass rfl rfl rfl rfl rfl ?_)
      refine r_cons (r_pass rfl rfl rfl rfl rfl ?_)
      refine r_cons (s_pick_f (.bool false) rfl rfl rfl ?_)
      refine r_cons (s_move (.bool false) rfl rfl ?_)
      refine r_cons (r_pass rfl rfl rfl rfl rfl ?_)
      refine r_cons (r_pass rfl rfl rfl rfl rfl ?_)
      refine r_cons (r_pass rfl rfl rfl rfl rfl ?_)
      refine r_cons (r_pass rfl rfl rfl rfl rfl ?_)
      refine r_cons (r_pass rfl rfl rfl rfl rfl ?_)
      refine r_cons (r_pass rfl rfl rfl rfl rfl ?_)
      refine r_cons (s_pick_f (.bool false) rfl rfl rfl ?_)
      refine r_nil ?_
      refine g_false rfl ?_
      refine g_exit (by rfl) ?_
      refine g_seq ?_
      refine g_block ?_
      refine g_seq ?_
      refine g_region ?_
      have hzz : zeros (remB bs p) = k := zeros_is hk hkr hz (by first | (left; omega) | (right; left; omega) | (right; right; rw [remB_getD (by omega)]; exact Bool.of_not_eq_false fun h => absurd (toNat_1.2 h) ‹_›))
      clear hz
      refine r_cons (s_move (.int .i64 (k : Int)) rfl rfl ?_)
      by_cases hc107 : (k : Int) = 65
      · skip
        refine r_cons (s_eql true rfl rfl (dtrue hc107) rfl ?_)
        refine r_cons (s_assign (.bool true) rfl rfl ?_)
        refine r_nil ?_
        refine g_true rfl ?_
        refine g_seq ?_
        refine g_region ?_
        refine r_cons (s_assign (.int .u64 0) rfl rfl ?_)
        refine r_cons (s_assign (.int .i64 11) rfl rfl ?_)
        refine r_nil ?_
        refine g_ret' [.int .u64 0, .int .i64 11] Try.func44 Try.results44 ⟨rfl, rfl, trivial⟩ ?_
        have H108 : St W w22 (SrcA b bs p :: (F.set i emp)) := H23
        have hE : natE (remB bs p) = 11 := by first | exact natE_65 (by omega) | exact natE_11 (by omega) (by omega) (by rw [← hu1]; omega)
        have hE0 : ¬ natE (remB bs p) = 0 := by rw [hE]; decide
        exact ⟨by rw [natU_no hE0, hE]; rfl, by rw [natN_no hE0]; exact St.back hi H108⟩
      · skip
        refine r_cons (s_eql false rfl rfl (dfalse hc107) rfl ?_)
        refine r_cons (s_assign (.bool false) rfl rfl ?_)
        refine r_nil ?_
        refine g_false rfl ?_
        refine g_seq ?_
        refine g_region ?_
        refine r_cons (s_move (.pointer (some ⟨b, 0, none⟩)) rfl rfl ?_)
        refine r_cons (s_call [.pointer (some ⟨b, 0, none⟩)] pl_45 rfl rfl (Src_Left b bs p (by first | omega | decide +kernel | (repeat (first | assumption | exact Nat.zero_le _ | refine natN_pos ?_ | refine srcN_pos ?_ | refine textN_pos ?_))) (by first | omega | decide +kernel)   (i := 0) rfl H23) ?_)
        rintro _ w109 ⟨rfl, H110⟩
        refine r_cons (s_move (.int .i64 (k : Int)) rfl rfl ?_)
        refine r_cons (s_mul (2 * (k : Int)) rfl rfl (wi64 (by omega)) rfl ?_)
        refine r_cons (s_add (2 * (k : Int) + 1) rfl rfl (wi64 (by omega)) rfl ?_)
        by_cases hc111 : ((remB bs p).length : Int) < 2 * (k : Int) + 1
        · skip
          refine r_cons (s_lss true rfl rfl (dtrue hc111) rfl ?_)
          refine r_cons (s_assign (.bool true) rfl rfl ?_)
          refine r_nil ?_
          refine g_true rfl ?_
          refine g_seq ?_
          refine g_region ?_
          refine r_cons (s_assign (.int .u64 0) rfl rfl ?_)
          refine r_cons (s_assign (.int .i64 10) rfl rfl ?_)
          refine r_nil ?_
          refine g_ret' [.int .u64 0, .int .i64 10] Try.func44 Try.results44 ⟨rfl, rfl, trivial⟩ ?_
          have H112 : St W w109 (SrcA b bs p :: (F.set i emp)) := H110
          have hE : natE (remB bs p) = 10 := natE_10 (by omega) (by omega)
          have hE0 : ¬ natE (remB bs p) = 0 := by rw [hE]; decide
          exact ⟨by rw [natU_no hE0, hE]; rfl, by rw [natN_no hE0]; exact St.back hi H112⟩
        · skip
          refine r_cons (s_lss false rfl rfl (dfalse hc111) rfl ?_)
          refine r_cons (s_assign (.bool false) rfl rfl ?_)
          refine r_nil ?_
          refine g_false rfl ?_
          refine g_skip ?_
          refine g_inBlock ?_
          refine g_seq ?_
          refine g_region ?_
          refine r_cons (s_move (.pointer (some ⟨b, 0, none⟩)) rfl rfl ?_)
          refine r_cons (s_nilCheck (.pointer (some ⟨b, 0, none⟩)) rfl ⟨_, rfl⟩ rfl ?_)
          refine r_cons (s_fieldAddr 66 2 2 2 3 rfl fi_66_2 rfl rfl ?_)
          have H113 := H110.move 0 rfl
          obtain ⟨vv114, H115⟩ := St.open_ex H113
          have H116 := St.open_star H115
          obtain ⟨pp117, cc118, gA119, oA120, kA121, eA122, zA123, rfl, hn124, hp125, hx126, hs127, hml, H128⟩ := Im.open_ H116 (i := 1) rfl
          have H129 : St W w109 (imi (0 < bs.length) gA119 (.cells kA121 eA122 zA123) :: blk b (.cells #[.bool true, .slice pp117 bs.length cc118, .int .i64 ((p : Nat) : Int)] 66 (0, 0)) :: Im 1 (.slice pp117 bs.length cc118) bs.length (bs.flatMap u8c) :: (F.set i emp)) := H128
          refine r_cons (s_load (.int .i64 ((p : Nat) : Int)) ag_3 rfl (H129.blk_at (i := 1) rfl) rfl rfl ?_)
          refine r_cons (s_move (.int .i64 (k : Int)) rfl rfl ?_)
          refine r_cons (s_add ((k : Int) + 1) rfl rfl (wi64 (by omega)) rfl ?_)
          refine r_cons (s_add (((p : Nat) : Int) + ((k : Int) + 1)) rfl rfl (wi64 (by omega)) rfl ?_)
          refine r_cons (s_nilCheck (.pointer (some ⟨b, 0, none⟩)) rfl ⟨_, rfl⟩ rfl ?_)
          refine r_cons (s_fieldAddr 66 2 2 2 3 rfl fi_66_2 rfl rfl ?_)
          refine r_cons (s_store H129 1 (.int .i64 (((p : Nat) : Int) + ((k : Int) + 1))) rfl rfl rfl sz_3 rfl (Nat.le_of_ble_eq_true rfl) rfl (cs' := #[.bool true, .slice pp117 bs.length cc118, .int .i64 (((p : Nat) : Int) + ((k : Int) + 1))]) rfl ?_); intro w130 H131
          refine r_nil ?_
          refine g_seq ?_
          refine g_region ?_
          have hL1 := remB_len bs (p + k + 1)
          have he : srcE (remB bs (p + k + 1)) (k : Int) = 0 := srcE_0 (by omega) (by omega)
          have hu1 : srcU (remB bs (p + k + 1)) (k : Int) = valOf (((remB bs p).drop (zeros (remB bs p) + 1)).take (zeros (remB bs p))) := by rw [srcU_0 he, hzz, Int.toNat_natCast, remB_drop, Nat.add_assoc]
          have hu2 := srcU_lt_pow (R := remB bs (p + k + 1)) (k := k)
          have hN1 : srcN (remB bs (p + k + 1)) (k : Int) = k := by rw [srcN_0 he]; exact Int.toNat_natCast k
          refine r_cons (s_move (.pointer (some ⟨b, 0, none⟩)) rfl rfl ?_)
          refine r_cons (s_move (.int .i64 (k : Int)) rfl rfl ?_)
          have H132 : St W w130 (blk b (.cells #[.bool true, .slice pp117 bs.length cc118, .int .i64 (((p : Nat) : Int) + ((k : Int) + 1))] 66 (0, 0)) :: Im 1 (.slice pp117 bs.length cc118) bs.length (bs.flatMap u8c) :: (F.set i emp)) := (((H131.move 2 rfl).move 2 rfl).drop 2 rfl)
          have H133 : St W w130 (blk b (.cells #[.bool true, .slice pp117 bs.length cc118, .int .i64 ((p + k + 1 : Nat) : Int)] 66 (0, 0)) :: Im 1 (.slice pp117 bs.length cc118) bs.length (bs.flatMap u8c) :: (F.set i emp)) := by rw [show ((p + k + 1 : Nat) : Int) = ((p : Nat) : Int) + ((k : Int) + 1) from by omega]; exact H132
          have H134 : St W w130 (SrcA b bs (p + k + 1) :: (F.set i emp)) := St.shut_ex (.slice pp117 bs.length cc118) (St.shut_star (ls := [blk b (.cells #[.bool true, .slice pp117 bs.length cc118, .int .i64 ((p + k + 1 : Nat) : Int)] 66 (0, 0)), Im 1 (.slice pp117 bs.length cc118) bs.length (bs.flatMap u8c)]) H133)
          refine r_cons (s_call [.pointer (some ⟨b, 0, none⟩), .int .i64 (k : Int)] pl_43 rfl rfl (Src_Bits b bs (p + k + 1) (by first | omega | decide +kernel | (repeat (first | assumption | exact Nat.zero_le _ | refine natN_pos ?_ | refine srcN_pos ?_ | refine textN_pos ?_))) (by first | omega | decide +kernel) (k : Int)  (i := 0) rfl H134) ?_)
          rintro _ w135 ⟨rfl, H136⟩
          refine r_cons (s_move (.tuple #[.int .u64 (srcU (remB bs (p + k + 1)) (k : Int) : Int), .int .i64 (srcE (remB bs (p + k + 1)) (k : Int))]) rfl rfl ?_)
          refine r_cons (s_extract (.int .u64 (srcU (remB bs (p + k + 1)) (k : Int) : Int)) #[.int .u64 (srcU (remB bs (p + k + 1)) (k : Int) : Int), .int .i64 (srcE (remB bs (p + k + 1)) (k : Int))] rfl rfl rfl ?_)
          refine r_cons (s_extract (.int .i64 (srcE (remB bs (p + k + 1)) (k : Int))) #[.int .u64 (srcU (remB bs (p + k + 1)) (k : Int) : Int), .int .i64 (srcE (remB bs (p + k + 1)) (k : Int))] rfl rfl rfl ?_)
          refine r_cons (s_assign (.int .u64 (srcU (remB bs (p + k + 1)) (k : Int) : Int)) rfl rfl ?_)
          refine r_cons (s_assign (.int .i64 (srcE (remB bs (p + k + 1)) (k : Int))) rfl rfl ?_)
          refine r_nil ?_
          refine g_seq ?_
          refine g_seq ?_
          refine g_region ?_
          refine r_cons (s_move (.pointer (some ⟨b, 0, none⟩)) rfl rfl ?_)
          refine r_cons (s_move (.int .i64 ((p : Nat) : Int)) rfl rfl ?_)
          refine r_cons (s_move (.int .i64 (srcE (remB bs (p + k + 1)) (k : Int))) rfl rfl ?_)
          refine r_cons (s_call [.pointer (some ⟨b, 0, none⟩), .int .i64 ((p : Nat) : Int), .int .i64 (srcE (remB bs (p + k + 1)) (k : Int))] pl_58 rfl rfl (Src_back_ok b bs (p + k + 1 + srcN (remB bs (p + k + 1)) (k : Int)) ((p : Nat) : Int) (srcE (remB bs (p + k + 1)) (k : Int)) he (i := 0) rfl H136) ?_)
          rintro _ w137 ⟨rfl, H138⟩
          refine r_cons (s_neq false rfl rfl (ntrue he) rfl ?_)
          refine r_nil ?_
          refine g_false rfl ?_
          refine g_skip ?_
          refine g_seq ?_
          refine g_seq ?_
          refine g_region ?_
          refine r_cons (s_move (.int .i64 (k : Int)) rfl rfl ?_)
          refine r_cons (s_eql false rfl rfl (dfalse (by omega)) rfl ?_)
          refine r_nil ?_
          refine g_false rfl ?_
          refine g_skip ?_
          refine g_seq ?_
          refine g_region ?_
          have hpw := pow_le63 (k := k) (by omega)
          refine r_cons (s_move (.int .u64 (srcU (remB bs (p + k + 1)) (k : Int) : Int)) rfl rfl ?_)
          refine r_cons (s_move (.int .i64 (k : Int)) rfl rfl ?_)
          refine r_cons (s_shl ((2 ^ k : Nat) : Int) rfl rfl (by omega) (shl_one rfl (by omega)) rfl ?_)
          have hq : 0 < 2 ^ k := Nat.pow_pos (by decide)
          refine r_cons (s_add ((srcU (remB bs (p + k + 1)) (k : Int) + 2 ^ k : Nat) : Int) rfl rfl ((wu64 (by generalize 2 ^ k = q at *; omega)).trans (by generalize 2 ^ k = q at *; omega)) rfl ?_)
          refine r_cons (s_sub ((srcU (remB bs (p + k + 1)) (k : Int) + 2 ^ k - 1 : Nat) : Int) rfl rfl ((wu64 (by generalize 2 ^ k = q at *; omega)).trans (by generalize 2 ^ k = q at *; omega)) rfl ?_)
          refine r_cons (s_assign (.int .u64 ((srcU (remB bs (p + k + 1)) (k : Int) + 2 ^ k - 1 : Nat) : Int)) rfl rfl ?_)
          refine r_cons (s_assign (.int .i64 0) rfl rfl ?_)
          refine r_nil ?_
          refine g_ret' [.int .u64 ((srcU (remB bs (p + k + 1)) (k : Int) + 2 ^ k - 1 : Nat) : Int), .int .i64 0] Try.func44 Try.results44 ⟨rfl, rfl, trivial⟩ ?_
          have H139 : St W w137 (SrcA b bs (p + k + 1 + srcN (remB bs (p + k + 1)) (k : Int)) :: (F.set i emp)) := H138
          have hE : natE (remB bs p) = 0 := natE_0 (by omega) (by omega) (by rw [← hu1]; omega)
          have hN : natN (remB bs p) = k + 1 + k := by rw [natN_0 hE]; omega
          have hU : natU (remB bs p) = valOf (((remB bs p).drop (zeros (remB bs p) + 1)).take (zeros (remB bs p))) + 2 ^ k - 1 := by rw [natU_is hE (by omega), hzz]
          have hP : p + natN (remB bs p) = p + k + 1 + srcN (remB bs (p + k + 1)) (k : Int) := by rw [hN, hN1]; omega
          have hv : (natU (remB bs p) : Int) = ((srcU (remB bs (p + k + 1)) (k : Int) + 2 ^ k - 1 : Nat) : Int) := by rw [hU, ← hu1]; skip
          exact ⟨by rw [hE, hv]; rfl, by rw [hP]; exact St.back hi H139⟩
set_option maxHeartbeats 4000000 in
set_option maxRecDepth 100000 in
theorem Src_End {W w : World} {F : List Atom} (b : Nat) (bs : List UInt8) (p : Nat) (hp : p ≤ 8 * bs.length) (hb : bs.length ≤ 140737488355328) {i : Nat} (hi : F[i]? = some (SrcA b bs p)) (H : St W w F) : Calls Try.prog 32 #[.pointer (some ⟨b, 0, none⟩)] w (Ret fun v w' => v = .int .i64 (endE (remB bs p)) ∧ St W w' F) := by
  have H0 := H.front hi
  refine calls_of_go (n := 34) Try.func32 rfl Try.ntmps32 rfl ?_
  refine g_seq ?_
  refine g_region ?_
  refine r_cons (s_assign (.int .i64 0) rfl rfl ?_)
  refine r_nil ?_
  refine g_seq ?_
  refine g_seq ?_
  refine g_region ?_
  refine r_cons (s_move (.pointer (some ⟨b, 0, none⟩)) rfl rfl ?_)
  refine r_cons (s_peql false un_47 rfl rfl rfl rfl ?_)
  refine r_cons (s_move (.bool false) rfl rfl ?_)
  refine r_cons (r_take rfl rfl ?_)
  refine s_move (.pointer (some ⟨b, 0, none⟩)) rfl rfl ?_
  refine r_cons (r_take rfl rfl ?_)
  refine s_nilCheck (.pointer (some ⟨b, 0, none⟩)) rfl ⟨_, rfl⟩ rfl ?_
  refine r_cons (r_take rfl rfl ?_)
  refine s_fieldAddr 66 0 0 0 4 rfl fi_66_0 rfl rfl ?_
  refine r_cons (r_take rfl rfl ?_)
  have H1 := H0.move 0 rfl
  obtain ⟨vv2, H3⟩ := St.open_ex H1
  have H4 := St.open_star H3
  obtain ⟨pp5, cc6, gA7, oA8, kA9, eA10, zA11, rfl, hn12, hp13, hx14, hs15, hml, H16⟩ := Im.open_ H4 (i := 1) rfl
  have H17 : St W w (imi (0 < bs.length) gA7 (.cells kA9 eA10 zA11) :: blk b (.cells #[.bool true, .slice pp5 bs.length cc6, .int .i64 ((p : Nat) : Int)] 66 (0, 0)) :: Im 1 (.slice pp5 bs.length cc6) bs.length (bs.flatMap u8c) :: (F.set i emp)) := H16
  refine s_load (.bool true) ag_4 rfl (H17.blk_at (i := 1) rfl) rfl rfl ?_
  refine r_cons (r_take rfl rfl ?_)
  refine s_not true rfl false rfl rfl ?_
  refine r_cons (s_pick_f (.bool false) rfl rfl rfl ?_)
  refine r_nil ?_
  refine g_false rfl ?_
  refine g_skip ?_
  refine g_seq ?_
  refine g_seq ?_
  refine g_region ?_
  refine r_cons (s_move (.pointer (some ⟨b, 0, none⟩)) rfl rfl ?_)
  have H18 : St W w (blk b (.cells #[.bool true, .slice pp5 bs.length cc6, .int .i64 ((p : Nat) : Int)] 66 (0, 0)) :: Im 1 (.slice pp5 bs.length cc6) bs.length (bs.flatMap u8c) :: (F.set i emp)) := (((H17.move 2 rfl).move 2 rfl).drop 2 rfl)
  have H19 : St W w (SrcA b bs p :: (F.set i emp)) := St.shut_ex (.slice pp5 bs.length cc6) (St.shut_star (ls := [blk b (.cells #[.bool true, .slice pp5 bs.length cc6, .int .i64 ((p : Nat) : Int)] 66 (0, 0)), Im 1 (.slice pp5 bs.length cc6) bs.length (bs.flatMap u8c)]) H18)
  refine r_cons (s_call [.pointer (some ⟨b, 0, none⟩)] pl_45 rfl rfl (Src_Left b bs p (by first | omega | decide +kernel | (repeat (first | assumption | exact Nat.zero_le _ | refine natN_pos ?_ | refine srcN_pos ?_ | refine textN_pos ?_))) (by first | omega | decide +kernel)   (i := 0) rfl H19) ?_)
  rintro _ w20 ⟨rfl, H21⟩
  by_cases hc22 : (8 : Int) ≤ ((remB bs p).length : Int)
  · skip
    refine r_cons (s_geq true rfl rfl (dtrue hc22) rfl ?_)
    refine r_nil ?_
    refine g_true rfl ?_
    refine g_seq ?_
    refine g_region ?_
    refine r_cons (s_assign (.int .i64 12) rfl rfl ?_)
    refine r_nil ?_
    refine g_ret' [.int .i64 12] Try.func32 Try.results32 ⟨rfl, trivial⟩ ?_
    have H23 : St W w20 (SrcA b bs p :: (F.set i emp)) := H21
    exact ⟨vint (by have hL2 := remB_len bs p; first | exact (endE_long (by omega)).symm | exact (endE_bit (j := k) (by omega) (by rw [remB_getD (by omega)]; cases hh : bitAt bs (p + k) with | true => rfl | false => (have h1 : (((bitAt bs (p + k)).toNat : Nat) : Int) = 1 := ‹_›; rw [hh] at h1; cases h1))).symm | exact (endE_0 (by omega) (fun j hj => hz j (by omega))).symm), St.back_same hi H23⟩
  · skip
    refine r_cons (s_geq false rfl rfl (dfalse hc22) rfl ?_)
    refine r_nil ?_
    refine g_false rfl ?_
    refine g_skip ?_
    refine g_seq ?_
    refine g_seq ?_
    refine g_region ?_
    refine r_cons (s_move (.pointer (some ⟨b, 0, none⟩)) rfl rfl ?_)
    refine r_cons (s_nilCheck (.pointer (some ⟨b, 0, none⟩)) rfl ⟨_, rfl⟩ rfl ?_)
    refine r_cons (s_fieldAddr 66 2 2 2 3 rfl fi_66_2 rfl rfl ?_)
    have H24 := H21.move 0 rfl
    obtain ⟨vv25, H26⟩ := St.open_ex H24
    have H27 := St.open_star H26
    obtain ⟨pp28, cc29, gA30, oA31, kA32, eA33, zA34, rfl, hn35, hp36, hx37, hs38, hml, H39⟩ := Im.open_ H27 (i := 1) rfl
    have H40 : St W w20 (imi (0 < bs.length) gA30 (.cells kA32 eA33 zA34) :: blk b (.cells #[.bool true, .slice pp28 bs.length cc29, .int .i64 ((p : Nat) : Int)] 66 (0, 0)) :: Im 1 (.slice pp28 bs.length cc29) bs.length (bs.flatMap u8c) :: (F.set i emp)) := H39
    refine r_cons (s_load (.int .i64 ((p : Nat) : Int)) ag_3 rfl (H40.blk_at (i := 1) rfl) rfl rfl ?_)
    refine r_cons (s_assign (.int .i64 ((p : Nat) : Int)) rfl rfl ?_)
    refine r_nil ?_
    refine g_block ?_
    have H41 : St W w20 (blk b (.cells #[.bool true, .slice pp28 bs.length cc29, .int .i64 ((p : Nat) : Int)] 66 (0, 0)) :: Im 1 (.slice pp28 bs.length cc29) bs.length (bs.flatMap u8c) :: (F.set i emp)) := (((H40.move 2 rfl).move 2 rfl).drop 2 rfl)
    have H42 : St W w20 (SrcA b bs p :: (F.set i emp)) := St.shut_ex (.slice pp28 bs.length cc29) (St.shut_star (ls := [blk b (.cells #[.bool true, .slice pp28 bs.length cc29, .int .i64 ((p : Nat) : Int)] 66 (0, 0)), Im 1 (.slice pp28 bs.length cc29) bs.length (bs.flatMap u8c)]) H41)
    have H43 : St W w20 (SrcA b bs p :: (F.set i emp)) := H42
    have hL := remB_len bs p
    refine g_loop_inv (fun (x_ : Nat) => match x_ with | k => [(0, .pointer (some ⟨b, 0, none⟩)), (2, .int .i64 0), (3, .int .i64 ((p + k : Nat) : Int))]) (fun (x_ : Nat) w => match x_ with | k => (p + k ≤ 8 * bs.length) ∧ (∀ j, j < k → (remB bs p).getD j false = false) ∧ St W w (SrcA b bs p :: (F.set i emp))) (fun (x_ : Nat) => match x_ with | k => 8 * bs.length - (p + k)) (0) ?_ ?_ ?_
    · exact ⟨by first | rfl | exact vint (by omega), by first | rfl | exact vint (by omega), by first | rfl | exact vint (by omega), trivial⟩
    · exact ⟨(by omega), (fun j hj => by omega), H43⟩
    · rintro k ρ44 w45 ⟨hk, hz, H46⟩ nx47
      change Ends _ _ (upds ρ44 [(0, .pointer (some ⟨b, 0, none⟩)), (2, .int .i64 0), (3, .int .i64 ((p + k : Nat) : Int))]) w45
      refine g_seq ?_
      refine g_seq ?_
      refine g_region ?_
      refine r_cons (s_move (.int .i64 ((p + k : Nat) : Int)) rfl rfl ?_)
      refine r_cons (s_move (.pointer (some ⟨b, 0, none⟩)) rfl rfl ?_)
      refine r_cons (s_nilCheck (.pointer (some ⟨b, 0, none⟩)) rfl ⟨_, rfl⟩ rfl ?_)
      refine r_cons (s_fieldAddr 66 1 1 1 22 rfl fi_66_1 rfl rfl ?_)
      have H48 := H46.move 0 rfl
      obtain ⟨vv49, H50⟩ := St.open_ex H48
      have H51 := St.open_star H50
      obtain ⟨pp52, cc53, gA54, oA55, kA56, eA57, zA58, rfl, hn59, hp60, hx61, hs62, hml, H63⟩ := Im.open_ H51 (i := 1) rfl
      have H64 : St W w45 (imi (0 < bs.length) gA54 (.cells kA56 eA57 zA58) :: blk b (.cells #[.bool true, .slice pp52 bs.length cc53, .int .i64 ((p : Nat) : Int)] 66 (0, 0)) :: Im 1 (.slice pp52 bs.length cc53) bs.length (bs.flatMap u8c) :: (F.set i emp)) := H63
      refine r_cons (s_load (.slice pp52 bs.length cc53) ag_22 rfl (H64.blk_at (i := 1) rfl) rfl rfl ?_)
      refine r_cons (s_len bs.length rfl ⟨_, un_22⟩ rfl ?_)
      refine r_cons (s_mul (8 * (bs.length : Int)) rfl rfl (wi64 (by omega)) rfl ?_)
      by_cases hc65 : ((p + k : Nat) : Int) < 8 * (bs.length : Int)
      · skip
        refine r_cons (s_lss true rfl rfl (dtrue hc65) rfl ?_)
        refine r_nil ?_
        refine g_true rfl ?_
        refine g_skip ?_
        refine g_seq ?_
        refine g_block ?_
        refine g_seq ?_
        refine g_region ?_
        refine r_cons (s_move (.pointer (some ⟨b, 0, none⟩)) rfl rfl ?_)
        refine r_cons (s_move (.int .i64 ((p + k : Nat) : Int)) rfl rfl ?_)
        have H66 : St W w45 (blk b (.cells #[.bool true, .slice pp52 bs.length cc53, .int .i64 ((p : Nat) : Int)] 66 (0, 0)) :: Im 1 (.slice pp52 bs.length cc53) bs.length (bs.flatMap u8c) :: (F.set i emp)) := (((H64.move 2 rfl).move 2 rfl).drop 2 rfl)
        have H67 : St W w45 (SrcA b bs p :: (F.set i emp)) := St.shut_ex (.slice pp52 bs.length cc53) (St.shut_star (ls := [blk b (.cells #[.bool true, .slice pp52 bs.length cc53, .int .i64 ((p : Nat) : Int)] 66 (0, 0)), Im 1 (.slice pp52 bs.length cc53) bs.length (bs.flatMap u8c)]) H66)
        refine r_cons (s_call [.pointer (some ⟨b, 0, none⟩), .int .i64 ((p + k : Nat) : Int)] pl_46 rfl rfl (Src_bit b bs p (by first | omega | decide +kernel | (repeat (first | assumption | exact Nat.zero_le _ | refine natN_pos ?_ | refine srcN_pos ?_ | refine textN_pos ?_))) (by first | omega | decide +kernel) (p + k) (by omega) (i := 0) rfl H67) ?_)
        rintro _ w68 ⟨rfl, H69⟩
        by_cases hc70 : ((bitAt bs (p + k)).toNat : Int) = 1
        · skip
          refine r_cons (s_eql true rfl rfl (dtrue hc70) rfl ?_)
          refine r_nil ?_
          refine g_true rfl ?_
          refine g_seq ?_
          refine g_region ?_
          refine r_cons (s_assign (.int .i64 12) rfl rfl ?_)
          refine r_nil ?_
          refine g_ret' [.int .i64 12] Try.func32 Try.results32 ⟨rfl, trivial⟩ ?_
          have H71 : St W w68 (SrcA b bs p :: (F.set i emp)) := H69
          exact ⟨vint (by have hL2 := remB_len bs p; first | exact (endE_long (by omega)).symm | exact (endE_bit (j := k) (by omega) (by rw [remB_getD (by omega)]; cases hh : bitAt bs (p + k) with | true => rfl | false => (have h1 : (((bitAt bs (p + k)).toNat : Nat) : Int) = 1 := ‹_›; rw [hh] at h1; cases h1))).symm | exact (endE_0 (by omega) (fun j hj => hz j (by omega))).symm), St.back_same hi H71⟩
        · skip
          refine r_cons (s_eql false rfl rfl (dfalse hc70) rfl ?_)
          refine r_nil ?_
          refine g_false rfl ?_
          refine g_skip ?_
          refine g_inBlock ?_
          refine g_region ?_
          refine r_cons (s_move (.int .i64 ((p + k : Nat) : Int)) rfl rfl ?_)
          refine r_cons (s_add (((p + k : Nat) : Int) + 1) rfl rfl (wi64 (by omega)) rfl ?_)
          refine r_cons (s_assign (.int .i64 (((p + k : Nat) : Int) + 1)) rfl rfl ?_)
          refine r_nil ?_
          have H72 : St W w68 (SrcA b bs p :: (F.set i emp)) := H69
          have hbit : bitAt bs (p + k) = false := by cases hh : bitAt bs (p + k) with | false => rfl | true => exact absurd (show (((bitAt bs (p + k)).toNat : Nat) : Int) = 1 by rw [hh]; rfl) ‹_›
          exact nx47 (k + 1) _ _ ⟨(by omega), (fun j hj => (Nat.lt_or_ge j k).elim (hz j) (fun h => by rw [show j = k from by omega, remB_getD (by omega)]; exact hbit)), H72⟩ (by first | (dsimp only; omega) | omega) ⟨by first | rfl | exact vint (by omega), by first | rfl | exact vint (by omega), by first | rfl | exact vint (by omega), trivial⟩
      · skip
        refine r_cons (s_lss false rfl rfl (dfalse hc65) rfl ?_)
        refine r_nil ?_
        refine g_false rfl ?_
        refine g_exit (by rfl) ?_
        refine g_seq ?_
        refine g_region ?_
        refine r_cons (s_assign (.int .i64 0) rfl rfl ?_)
        refine r_nil ?_
        refine g_ret' [.int .i64 0] Try.func32 Try.results32 ⟨rfl, trivial⟩ ?_
        have H73 : St W w45 (blk b (.cells #[.bool true, .slice pp52 bs.length cc53, .int .i64 ((p : Nat) : Int)] 66 (0, 0)) :: Im 1 (.slice pp52 bs.length cc53) bs.length (bs.flatMap u8c) :: (F.set i emp)) := (((H64.move 2 rfl).move 2 rfl).drop 2 rfl)
        have H74 : St W w45 (SrcA b bs p :: (F.set i emp)) := St.shut_ex (.slice pp52 bs.length cc53) (St.shut_star (ls := [blk b (.cells #[.bool true, .slice pp52 bs.length cc53, .int .i64 ((p : Nat) : Int)] 66 (0, 0)), Im 1 (.slice pp52 bs.length cc53) bs.length (bs.flatMap u8c)]) H73)
        have H75 : St W w45 (SrcA b bs p :: (F.set i emp)) := H74
        exact ⟨vint (by have hL2 := remB_len bs p; first | exact (endE_long (by omega)).symm | exact (endE_bit (j := k) (by omega) (by rw [remB_getD (by omega)]; cases hh : bitAt bs (p + k) with | true => rfl | false => (have h1 : (((bitAt bs (p + k)).toNat : Nat) : Int) = 1 := ‹_›; rw [hh] at h1; cases h1))).symm | exact (endE_0 (by omega) (fun j hj => hz j (by omega))).symm), St.back_same hi H75⟩
set_option maxHeartbeats 4000000 in
set_option maxRecDepth 100000 in
theorem bytes_Equal {W w : World} {F : List Atom} (A B : Atom) (u v : Value) (m n : Nat) (xs ys : List UInt8) (hA : RdA A 1 u m (xs.flatMap u8c)) (hB : RdA B 1 v n (ys.flatMap u8c)) {j k : Nat} (hj : F[j]? = some A) (hk : F[k]? = some B) (H : St W w F) : Calls Try.prog 18 #[u, v] w (Ret fun v w' => v = .bool (decide (xs = ys)) ∧ St W w' F) := by
  have hml := (hA _ _ _ j H hj).2
  obtain ⟨pp1, cc2, rfl, hn3⟩ := Rd.shape (hA _ _ _ j H hj).1
  have hml := (hB _ _ _ k H hk).2
  obtain ⟨pp4, cc5, rfl, hn6⟩ := Rd.shape (hB _ _ _ k H hk).1
  refine calls_of_go (n := 10) Try.func18 rfl Try.ntmps18 rfl ?_
  refine g_seq ?_
  refine g_region ?_
  refine r_cons (s_assign (.bool false) rfl rfl ?_)
  refine r_nil ?_
  refine g_seq ?_
  refine g_region ?_
  refine r_cons (s_move (.slice pp1 m cc2) rfl rfl ?_)
  refine r_cons (s_bytes_str (xs := xs) rfl (by rw [bytesV_flat]; exact (hA _ _ _ (j + 0) H (by exact hj)).1) un_22 un_5 un_9 rfl ?_)
  refine r_cons (s_move (.slice pp4 n cc5) rfl rfl ?_)
  refine r_cons (s_bytes_str (xs := ys) rfl (by rw [bytesV_flat]; exact (hB _ _ _ (k + 0) H (by exact hk)).1) un_22 un_5 un_9 rfl ?_)
  refine r_cons (s_seql (decide ((⟨(xs).toArray⟩ : ByteArray) = ⟨(ys).toArray⟩)) rfl rfl rfl rfl ?_)
  refine r_cons (s_assign (.bool (decide ((⟨(xs).toArray⟩ : ByteArray) = ⟨(ys).toArray⟩))) rfl rfl ?_)
  refine r_nil ?_
  refine g_ret' [.bool (decide ((⟨(xs).toArray⟩ : ByteArray) = ⟨(ys).toArray⟩))] Try.func18 Try.results18 ⟨rfl, trivial⟩ ?_
  have H7 : St W w F := H
  exact ⟨congrArg Value.bool lit_bytes, H7⟩
set_option maxHeartbeats 4000000 in
set_option maxRecDepth 100000 in
theorem frame_time {W w : World} {F : List Atom} (n : Int) (H : St W w F) : Calls Try.prog 38 #[.int .i64 n] w (Ret fun v w' => v = .bool (timeB n) ∧ St W w' F) := by
  refine calls_of_go (n := 9) Try.func38 rfl Try.ntmps38 rfl ?_
  refine g_seq ?_
  refine g_region ?_
  refine r_cons (s_assign (.bool false) rfl rfl ?_)
  refine r_nil ?_
  refine g_seq ?_
  refine g_region ?_
  refine r_cons (s_move (.int .i64 n) rfl rfl ?_)
  by_cases hc1 : (0 : Int) ≤ n
  · skip
    refine r_cons (s_geq true rfl rfl (dtrue hc1) rfl ?_)
    refine r_cons (s_move (.bool true) rfl rfl ?_)
    refine r_cons (r_take rfl rfl ?_)
    refine s_move (.int .i64 n) rfl rfl ?_
    refine r_cons (r_take rfl rfl ?_)
    by_cases hc2 : n ≤ 1099511627776
    · skip
      refine s_leq true rfl rfl (dtrue hc2) rfl ?_
      refine r_cons (s_pick_t (.bool true) rfl rfl rfl ?_)
      refine r_cons (s_assign (.bool true) rfl rfl ?_)
      refine r_nil ?_
      refine g_ret' [.bool true] Try.func38 Try.results38 ⟨rfl, trivial⟩ ?_
      exact ⟨congrArg Value.bool (by simp only [timeB, brB]; first | (exact (decide_eq_true (by omega)).symm) | (exact (decide_eq_false (by omega)).symm)), H⟩
    · skip
      refine s_leq false rfl rfl (dfalse hc2) rfl ?_
      refine r_cons (s_pick_t (.bool false) rfl rfl rfl ?_)
      refine r_cons (s_assign (.bool false) rfl rfl ?_)
      refine r_nil ?_
      refine g_ret' [.bool false] Try.func38 Try.results38 ⟨rfl, trivial⟩ ?_
      exact ⟨congrArg Value.bool (by simp only [timeB, brB]; first | (exact (decide_eq_true (by omega)).symm) | (exact (decide_eq_false (by omega)).symm)), H⟩
  · skip
    refine r_cons (s_geq false rfl rfl (dfalse hc1) rfl ?_)
    refine r_cons (s_move (.bool false) rfl rfl ?_)
    refine r_cons (r_pass rfl rfl rfl rfl rfl ?_)
    refine r_cons (r_pass rfl rfl rfl rfl rfl ?_)
    refine r_cons (s_pick_f (.bool false) rfl rfl rfl ?_)
    refine r_cons (s_assign (.bool false) rfl rfl ?_)
    refine r_nil ?_
    refine g_ret' [.bool false] Try.func38 Try.results38 ⟨rfl, trivial⟩ ?_
    exact ⟨congrArg Value.bool (by simp only [timeB, brB]; first | (exact (decide_eq_true (by omega)).symm) | (exact (decide_eq_false (by omega)).symm)), H⟩
set_option maxHeartbeats 4000000 in
set_option maxRecDepth 100000 in
theorem frame_broker {W w : World} {F : List Atom} (n : Int) (H : St W w F) : Calls Try.prog 37 #[.int .i64 n] w (Ret fun v w' => v = .bool (brB n) ∧ St W w' F) := by
  refine calls_of_go (n := 9) Try.func37 rfl Try.ntmps37 rfl ?_
  refine g_seq ?_
  refine g_region ?_
  refine r_cons (s_assign (.bool false) rfl rfl ?_)
  refine r_nil ?_
  refine g_seq ?_
  refine g_region ?_
  refine r_cons (s_move (.int .i64 n) rfl rfl ?_)
  by_cases hc1 : (0 : Int) ≤ n
  · skip
    refine r_cons (s_geq true rfl rfl (dtrue hc1) rfl ?_)
    refine r_cons (s_move (.bool true) rfl rfl ?_)
    refine r_cons (r_take rfl rfl ?_)
    refine s_move (.int .i64 n) rfl rfl ?_
    refine r_cons (r_take rfl rfl ?_)
    by_cases hc2 : n < 16
    · skip
      refine s_lss true rfl rfl (dtrue hc2) rfl ?_
      refine r_cons (s_pick_t (.bool true) rfl rfl rfl ?_)
      refine r_cons (s_assign (.bool true) rfl rfl ?_)
      refine r_nil ?_
      refine g_ret' [.bool true] Try.func37 Try.results37 ⟨rfl, trivial⟩ ?_
      exact ⟨congrArg Value.bool (by simp only [timeB, brB]; first | (exact (decide_eq_true (by omega)).symm) | (exact (decide_eq_false (by omega)).symm)), H⟩
    · skip
      refine s_lss false rfl rfl (dfalse hc2) rfl ?_
      refine r_cons (s_pick_t (.bool false) rfl rfl rfl ?_)
      refine r_cons (s_assign (.bool false) rfl rfl ?_)
      refine r_nil ?_
      refine g_ret' [.bool false] Try.func37 Try.results37 ⟨rfl, trivial⟩ ?_
      exact ⟨congrArg Value.bool (by simp only [timeB, brB]; first | (exact (decide_eq_true (by omega)).symm) | (exact (decide_eq_false (by omega)).symm)), H⟩
  · skip
    refine r_cons (s_geq false rfl rfl (dfalse hc1) rfl ?_)
    refine r_cons (s_move (.bool false) rfl rfl ?_)
    refine r_cons (r_pass rfl rfl rfl rfl rfl ?_)
    refine r_cons (r_pass rfl rfl rfl rfl rfl ?_)
    refine r_cons (s_pick_f (.bool false) rfl rfl rfl ?_)
    refine r_cons (s_assign (.bool false) rfl rfl ?_)
    refine r_nil ?_
    refine g_ret' [.bool false] Try.func37 Try.results37 ⟨rfl, trivial⟩ ?_
    exact ⟨congrArg Value.bool (by simp only [timeB, brB]; first | (exact (decide_eq_true (by omega)).symm) | (exact (decide_eq_false (by omega)).symm)), H⟩
end Sl
