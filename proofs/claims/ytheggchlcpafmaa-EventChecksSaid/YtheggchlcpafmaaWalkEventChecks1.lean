/- Walks of the program's functions. Printed by a program of this claim's author. No condition. -/
import Derived.Test.YtheggchlcpafmaaSlQ
import Derived.Test.YtheggchlcpafmaaSlR
import Derived.Test.YtheggchlcpafmaaProg
import Derived.Test.YtheggchlcpafmaaWalkEventChecks0
namespace Sl
open _root_.Go _root_.Go.RowKit _root_.Go.Proofs
set_option linter.all false
set_option maxHeartbeats 4000000 in
set_option maxRecDepth 100000 in
theorem Compare_int {W w : World} {F : List Atom} (m n : Int) (H : St W w F) : Calls Try.prog 68 #[.int .i64 m, .int .i64 n] w (Ret fun v w' => v = .int .i64 (cmpI m n) ∧ St W w' F) := by
  refine calls_of_go (n := 20) Try.func68 rfl Try.ntmps68 rfl ?_
  refine g_seq ?_
  refine g_region ?_
  refine r_cons (s_assign (.int .i64 0) rfl rfl ?_)
  refine r_nil ?_
  refine g_seq ?_
  refine g_region ?_
  refine r_cons (s_move (.int .i64 m) rfl rfl ?_)
  refine r_cons (s_call [.int .i64 m] pl_90 rfl rfl (isNaN_int m H) ?_)
  rintro _ w1 ⟨rfl, H2⟩
  refine r_cons (s_assign (.bool false) rfl rfl ?_)
  refine r_nil ?_
  refine g_seq ?_
  refine g_region ?_
  refine r_cons (s_move (.int .i64 n) rfl rfl ?_)
  refine r_cons (s_call [.int .i64 n] pl_90 rfl rfl (isNaN_int n H2) ?_)
  rintro _ w3 ⟨rfl, H4⟩
  refine r_cons (s_assign (.bool false) rfl rfl ?_)
  refine r_nil ?_
  refine g_seq ?_
  refine g_seq ?_
  refine g_region ?_
  refine r_cons (s_move (.bool false) rfl rfl ?_)
  refine r_nil ?_
  refine g_false rfl ?_
  refine g_skip ?_
  refine g_seq ?_
  refine g_seq ?_
  refine g_region ?_
  refine r_cons (s_move (.bool false) rfl rfl ?_)
  refine r_nil ?_
  refine g_false rfl ?_
  refine g_skip ?_
  refine g_seq ?_
  refine g_seq ?_
  refine g_region ?_
  refine r_cons (s_move (.int .i64 m) rfl rfl ?_)
  refine r_cons (s_move (.int .i64 n) rfl rfl ?_)
  by_cases hc5 : m < n
  · skip
    refine r_cons (s_lss true rfl rfl (dtrue hc5) rfl ?_)
    refine r_nil ?_
    refine g_true rfl ?_
    refine g_seq ?_
    refine g_region ?_
    refine r_cons (s_assign (.int .i64 (-1)) rfl rfl ?_)
    refine r_nil ?_
    refine g_ret' [.int .i64 (-1)] Try.func68 Try.results68 ⟨rfl, trivial⟩ ?_
    exact ⟨vint (by unfold cmpI; repeat' split <;> omega), H4⟩
  · skip
    refine r_cons (s_lss false rfl rfl (dfalse hc5) rfl ?_)
    refine r_nil ?_
    refine g_false rfl ?_
    refine g_skip ?_
    refine g_seq ?_
    refine g_seq ?_
    refine g_region ?_
    refine r_cons (s_move (.int .i64 m) rfl rfl ?_)
    refine r_cons (s_move (.int .i64 n) rfl rfl ?_)
    by_cases hc6 : n < m
    · skip
      refine r_cons (s_gtr true rfl rfl (dtrue hc6) rfl ?_)
      refine r_nil ?_
      refine g_true rfl ?_
      refine g_seq ?_
      refine g_region ?_
      refine r_cons (s_assign (.int .i64 1) rfl rfl ?_)
      refine r_nil ?_
      refine g_ret' [.int .i64 1] Try.func68 Try.results68 ⟨rfl, trivial⟩ ?_
      exact ⟨vint (by unfold cmpI; repeat' split <;> omega), H4⟩
    · skip
      refine r_cons (s_gtr false rfl rfl (dfalse hc6) rfl ?_)
      refine r_nil ?_
      refine g_false rfl ?_
      refine g_skip ?_
      refine g_seq ?_
      refine g_region ?_
      refine r_cons (s_assign (.int .i64 0) rfl rfl ?_)
      refine r_nil ?_
      refine g_ret' [.int .i64 0] Try.func68 Try.results68 ⟨rfl, trivial⟩ ?_
      exact ⟨vint (by unfold cmpI; repeat' split <;> omega), H4⟩
set_option maxHeartbeats 4000000 in
set_option maxRecDepth 100000 in
theorem isNaN_int64 {W w : World} {F : List Atom} (n : Int) (H : St W w F) : Calls Try.prog 91 #[.int .i64 n] w (Ret fun v w' => v = .bool false ∧ St W w' F) := by
  refine calls_of_go (n := 6) Try.func91 rfl Try.ntmps91 rfl ?_
  refine g_seq ?_
  refine g_region ?_
  refine r_cons (s_assign (.bool false) rfl rfl ?_)
  refine r_nil ?_
  refine g_seq ?_
  refine g_region ?_
  refine r_cons (s_move (.int .i64 n) rfl rfl ?_)
  refine r_cons (s_move (.int .i64 n) rfl rfl ?_)
  refine r_cons (s_neq false rfl rfl (ntrue rfl) rfl ?_)
  refine r_cons (s_assign (.bool false) rfl rfl ?_)
  refine r_nil ?_
  refine g_ret' [.bool false] Try.func91 Try.results91 ⟨rfl, trivial⟩ ?_
  exact ⟨rfl, H⟩
set_option maxHeartbeats 4000000 in
set_option maxRecDepth 100000 in
theorem Compare_int64 {W w : World} {F : List Atom} (m n : Int) (H : St W w F) : Calls Try.prog 69 #[.int .i64 m, .int .i64 n] w (Ret fun v w' => v = .int .i64 (cmpI m n) ∧ St W w' F) := by
  refine calls_of_go (n := 20) Try.func69 rfl Try.ntmps69 rfl ?_
  refine g_seq ?_
  refine g_region ?_
  refine r_cons (s_assign (.int .i64 0) rfl rfl ?_)
  refine r_nil ?_
  refine g_seq ?_
  refine g_region ?_
  refine r_cons (s_move (.int .i64 m) rfl rfl ?_)
  refine r_cons (s_call [.int .i64 m] pl_91 rfl rfl (isNaN_int64 m H) ?_)
  rintro _ w1 ⟨rfl, H2⟩
  refine r_cons (s_assign (.bool false) rfl rfl ?_)
  refine r_nil ?_
  refine g_seq ?_
  refine g_region ?_
  refine r_cons (s_move (.int .i64 n) rfl rfl ?_)
  refine r_cons (s_call [.int .i64 n] pl_91 rfl rfl (isNaN_int64 n H2) ?_)
  rintro _ w3 ⟨rfl, H4⟩
  refine r_cons (s_assign (.bool false) rfl rfl ?_)
  refine r_nil ?_
  refine g_seq ?_
  refine g_seq ?_
  refine g_region ?_
  refine r_cons (s_move (.bool false) rfl rfl ?_)
  refine r_nil ?_
  refine g_false rfl ?_
  refine g_skip ?_
  refine g_seq ?_
  refine g_seq ?_
  refine g_region ?_
  refine r_cons (s_move (.bool false) rfl rfl ?_)
  refine r_nil ?_
  refine g_false rfl ?_
  refine g_skip ?_
  refine g_seq ?_
  refine g_seq ?_
  refine g_region ?_
  refine r_cons (s_move (.int .i64 m) rfl rfl ?_)
  refine r_cons (s_move (.int .i64 n) rfl rfl ?_)
  by_cases hc5 : m < n
  · skip
    refine r_cons (s_lss true rfl rfl (dtrue hc5) rfl ?_)
    refine r_nil ?_
    refine g_true rfl ?_
    refine g_seq ?_
    refine g_region ?_
    refine r_cons (s_assign (.int .i64 (-1)) rfl rfl ?_)
    refine r_nil ?_
    refine g_ret' [.int .i64 (-1)] Try.func69 Try.results69 ⟨rfl, trivial⟩ ?_
    exact ⟨vint (by unfold cmpI; repeat' split <;> omega), H4⟩
  · skip
    refine r_cons (s_lss false rfl rfl (dfalse hc5) rfl ?_)
    refine r_nil ?_
    refine g_false rfl ?_
    refine g_skip ?_
    refine g_seq ?_
    refine g_seq ?_
    refine g_region ?_
    refine r_cons (s_move (.int .i64 m) rfl rfl ?_)
    refine r_cons (s_move (.int .i64 n) rfl rfl ?_)
    by_cases hc6 : n < m
    · skip
      refine r_cons (s_gtr true rfl rfl (dtrue hc6) rfl ?_)
      refine r_nil ?_
      refine g_true rfl ?_
      refine g_seq ?_
      refine g_region ?_
      refine r_cons (s_assign (.int .i64 1) rfl rfl ?_)
      refine r_nil ?_
      refine g_ret' [.int .i64 1] Try.func69 Try.results69 ⟨rfl, trivial⟩ ?_
      exact ⟨vint (by unfold cmpI; repeat' split <;> omega), H4⟩
    · skip
      refine r_cons (s_gtr false rfl rfl (dfalse hc6) rfl ?_)
      refine r_nil ?_
      refine g_false rfl ?_
      refine g_skip ?_
      refine g_seq ?_
      refine g_region ?_
      refine r_cons (s_assign (.int .i64 0) rfl rfl ?_)
      refine r_nil ?_
      refine g_ret' [.int .i64 0] Try.func69 Try.results69 ⟨rfl, trivial⟩ ?_
      exact ⟨vint (by unfold cmpI; repeat' split <;> omega), H4⟩
set_option maxHeartbeats 4000000 in
set_option maxRecDepth 100000 in
theorem Or_int {W w : World} {F : List Atom} (g : Nat) (m n : Int) (e : TypeId) (z : Nat × Nat) {i : Nat} (hi : F[i]? = some (blk g (.cells #[.int .i64 m, .int .i64 n] e z))) (H : St W w F) : Calls Try.prog 67 #[.slice (some ⟨g, 0, none⟩) 2 2] w (Ret fun v w' => v = .int .i64 (if ¬ m = 0 then m else n) ∧ St W w' F) := by
  have H0 := H.front hi
  refine calls_of_go (n := 18) Try.func67 rfl Try.ntmps67 rfl ?_
  refine g_seq ?_
  refine g_region ?_
  refine r_cons (s_assign (.int .i64 0) rfl rfl ?_)
  refine r_nil ?_
  refine g_seq ?_
  refine g_region ?_
  refine r_cons (s_assign (.int .i64 0) rfl rfl ?_)
  refine r_nil ?_
  refine g_seq ?_
  refine g_seq ?_
  refine g_region ?_
  refine r_cons (s_move (.slice (some ⟨g, 0, none⟩) 2 2) rfl rfl ?_)
  refine r_cons (s_len 2 rfl ⟨_, un_130⟩ rfl ?_)
  refine r_cons (s_move (.int .i64 0) rfl rfl ?_)
  refine r_nil ?_
  refine g_block ?_
  refine g_loop ?_
  refine g_seq ?_
  refine g_region ?_
  refine r_cons (s_lss true rfl rfl (dtrue (by decide)) rfl ?_)
  refine r_nil ?_
  refine g_seq ?_
  refine g_true rfl ?_
  refine g_skip ?_
  refine g_seq ?_
  refine g_block ?_
  refine g_seq ?_
  refine g_region ?_
  refine r_cons (s_indexAddr g 0 1 0 rfl rfl el_130 (by omega) rfl rfl ?_)
  refine r_cons (s_load (.int .i64 m) ag_3 rfl (H0.blk_at (i := 0) rfl) rfl rfl ?_)
  refine r_cons (s_assign (.int .i64 m) rfl rfl ?_)
  refine r_nil ?_
  refine g_seq ?_
  refine g_region ?_
  refine r_cons (s_move (.int .i64 m) rfl rfl ?_)
  refine r_cons (s_move (.int .i64 0) rfl rfl ?_)
  by_cases hc1 : m = 0
  · skip
    refine r_cons (s_neq false rfl rfl (ntrue hc1) rfl ?_)
    refine r_nil ?_
    refine g_false rfl ?_
    refine g_skip ?_
    refine g_inBlock ?_
    refine g_region ?_
    refine r_cons (s_add 1 rfl rfl (wi64 (by omega)) rfl ?_)
    refine r_cons (s_move (.int .i64 1) rfl rfl ?_)
    refine r_nil ?_
    refine g_inLoop ?_
    refine g_seq ?_
    refine g_region ?_
    refine r_cons (s_lss true rfl rfl (dtrue (by decide)) rfl ?_)
    refine r_nil ?_
    refine g_seq ?_
    refine g_true rfl ?_
    refine g_skip ?_
    refine g_seq ?_
    refine g_block ?_
    refine g_seq ?_
    refine g_region ?_
    refine r_cons (s_indexAddr g 1 1 1 rfl rfl el_130 (by omega) rfl rfl ?_)
    refine r_cons (s_load (.int .i64 n) ag_3 rfl (H0.blk_at (i := 0) rfl) rfl rfl ?_)
    refine r_cons (s_assign (.int .i64 n) rfl rfl ?_)
    refine r_nil ?_
    refine g_seq ?_
    refine g_region ?_
    refine r_cons (s_move (.int .i64 n) rfl rfl ?_)
    refine r_cons (s_move (.int .i64 0) rfl rfl ?_)
    by_cases hc2 : n = 0
    · skip
      refine r_cons (s_neq false rfl rfl (ntrue hc2) rfl ?_)
      refine r_nil ?_
      refine g_false rfl ?_
      refine g_skip ?_
      refine g_inBlock ?_
      refine g_region ?_
      refine r_cons (s_add 2 rfl rfl (wi64 (by omega)) rfl ?_)
      refine r_cons (s_move (.int .i64 2) rfl rfl ?_)
      refine r_nil ?_
      refine g_inLoop ?_
      refine g_seq ?_
      refine g_region ?_
      refine r_cons (s_lss false rfl rfl (dfalse (by decide)) rfl ?_)
      refine r_nil ?_
      refine g_seq ?_
      refine g_false rfl ?_
      refine g_exit (by rfl) ?_
      refine g_seq ?_
      refine g_region ?_
      refine r_cons (s_move (.int .i64 0) rfl rfl ?_)
      refine r_cons (s_assign (.int .i64 0) rfl rfl ?_)
      refine r_nil ?_
      refine g_ret' [.int .i64 0] Try.func67 Try.results67 ⟨rfl, trivial⟩ ?_
      have H3 : St W w (blk g (.cells #[.int .i64 m, .int .i64 n] e z) :: (F.set i emp)) := H0
      exact ⟨vint (by split <;> omega), St.back_same hi H3⟩
    · skip
      refine r_cons (s_neq true rfl rfl (nfalse hc2) rfl ?_)
      refine r_nil ?_
      refine g_true rfl ?_
      refine g_seq ?_
      refine g_region ?_
      refine r_cons (s_move (.int .i64 n) rfl rfl ?_)
      refine r_cons (s_assign (.int .i64 n) rfl rfl ?_)
      refine r_nil ?_
      refine g_ret' [.int .i64 n] Try.func67 Try.results67 ⟨rfl, trivial⟩ ?_
      have H4 : St W w (blk g (.cells #[.int .i64 m, .int .i64 n] e z) :: (F.set i emp)) := H0
      exact ⟨vint (by split <;> omega), St.back_same hi H4⟩
  · skip
    refine r_cons (s_neq true rfl rfl (nfalse hc1) rfl ?_)
    refine r_nil ?_
    refine g_true rfl ?_
    refine g_seq ?_
    refine g_region ?_
    refine r_cons (s_move (.int .i64 m) rfl rfl ?_)
    refine r_cons (s_assign (.int .i64 m) rfl rfl ?_)
    refine r_nil ?_
    refine g_ret' [.int .i64 m] Try.func67 Try.results67 ⟨rfl, trivial⟩ ?_
    have H5 : St W w (blk g (.cells #[.int .i64 m, .int .i64 n] e z) :: (F.set i emp)) := H0
    exact ⟨vint (by split <;> omega), St.back_same hi H5⟩
set_option maxHeartbeats 4000000 in
set_option maxRecDepth 100000 in
theorem event_Compare {W w : World} {F : List Atom} (s1 q1 s2 q2 : Int) (H : St W w F) : Calls Try.prog 21 #[.agg #[.int .i64 s1, .int .i64 q1], .agg #[.int .i64 s2, .int .i64 q2]] w (Ret fun v w' => v = .int .i64 (cmpID s1 q1 s2 q2) ∧ St W w' F) := by
  refine calls_of_go (n := 17) Try.func21 rfl Try.ntmps21 rfl ?_
  refine g_seq ?_
  refine g_region ?_
  refine r_cons (s_box H 30 (.agg #[.int .i64 s1, .int .i64 q1]) rfl (cs := #[.int .i64 s1, .int .i64 q1]) rfl rfl ?_); intro bk1 w2 H3
  refine r_cons (s_box H3 30 (.agg #[.int .i64 s2, .int .i64 q2]) rfl (cs := #[.int .i64 s2, .int .i64 q2]) rfl rfl ?_); intro bk4 w5 H6
  refine r_cons (s_assign (.int .i64 0) rfl rfl ?_)
  refine r_nil ?_
  refine g_seq ?_
  refine g_mix (fun t_ w => St W w (blk bk4 (.cells #[.int .i64 s2, .int .i64 q2] 30 (0, 0)) :: blk bk1 (.cells #[.int .i64 s1, .int .i64 q1] 30 (0, 0)) :: t_)) F mixed 13 rfl H6.drew ?_
  refine f_first 0 (listed' := #[true, false, false, false, false, false, false, false, false, false, false, false, false]) rfl (by kernel_rfl) (by kernel_rfl) (by kernel_rfl) rfl ?_
  refine f_val rfl rfl rfl (by intro t_ w hw; exact x_fieldAddr 30 0 0 0 3 rfl fi_30_0 rfl w) ?_
  refine f_first 1 (listed' := #[true, true, false, false, false, false, false, false, false, false, false, false, false]) rfl (by kernel_rfl) (by kernel_rfl) (by kernel_rfl) rfl ?_
  refine f_val rfl rfl rfl (by intro t_ w hw; exact x_load (.int .i64 s1) ag_3 rfl (hw.blk_at (i := 1) rfl) rfl) ?_
  refine f_first 2 (listed' := #[true, true, true, false, false, false, false, false, false, false, false, false, false]) rfl (by kernel_rfl) (by kernel_rfl) (by kernel_rfl) rfl ?_
  refine f_val rfl rfl rfl (by intro t_ w hw; exact x_fieldAddr 30 0 0 0 3 rfl fi_30_0 rfl w) ?_
  refine f_first 3 (listed' := #[true, true, true, true, false, false, false, false, false, false, false, false, false]) rfl (by kernel_rfl) (by kernel_rfl) (by kernel_rfl) rfl ?_
  refine f_val rfl rfl rfl (by intro t_ w hw; exact x_load (.int .i64 s2) ag_3 rfl (hw.blk_at (i := 0) rfl) rfl) ?_
  refine f_first 4 (listed' := #[true, true, true, true, true, false, false, false, false, false, false, false, false]) rfl (by kernel_rfl) (by kernel_rfl) (by kernel_rfl) rfl ?_
  refine f_enter (args := #[.int .i64 s1, .int .i64 s2]) (v := .int .i64 (cmpI s1 s2)) rfl rfl rfl (x_call pl_68 [.int .i64 s1, .int .i64 s2] rfl) (fun t_ w hw => Compare_int s1 s2 hw) ?_
  refine f_first 5 (listed' := #[true, true, true, true, true, true, false, false, false, false, false, false, false]) rfl (by kernel_rfl) (by kernel_rfl) (by kernel_rfl) rfl ?_
  refine f_val rfl rfl rfl (by intro t_ w hw; exact x_fieldAddr 30 1 1 1 2 rfl fi_30_1 rfl w) ?_
  refine f_first 6 (listed' := #[true, true, true, true, true, true, true, false, false, false, false, false, false]) rfl (by kernel_rfl) (by kernel_rfl) (by kernel_rfl) rfl ?_
  refine f_val rfl rfl rfl (by intro t_ w hw; exact x_load (.int .i64 q1) ag_2 rfl (hw.blk_at (i := 1) rfl) rfl) ?_
  refine f_first 7 (listed' := #[true, true, true, true, true, true, true, true, false, false, false, false, false]) rfl (by kernel_rfl) (by kernel_rfl) (by kernel_rfl) rfl ?_
  refine f_val rfl rfl rfl (by intro t_ w hw; exact x_fieldAddr 30 1 1 1 2 rfl fi_30_1 rfl w) ?_
  refine f_first 8 (listed' := #[true, true, true, true, true, true, true, true, true, false, false, false, false]) rfl (by kernel_rfl) (by kernel_rfl) (by kernel_rfl) rfl ?_
  refine f_val rfl rfl rfl (by intro t_ w hw; exact x_load (.int .i64 q2) ag_2 rfl (hw.blk_at (i := 0) rfl) rfl) ?_
  refine f_first 9 (listed' := #[true, true, true, true, true, true, true, true, true, true, false, false, false]) rfl (by kernel_rfl) (by kernel_rfl) (by kernel_rfl) rfl ?_
  refine f_enter (args := #[.int .i64 q1, .int .i64 q2]) (v := .int .i64 (cmpI q1 q2)) rfl rfl rfl (x_call pl_69 [.int .i64 q1, .int .i64 q2] rfl) (fun t_ w hw => Compare_int64 q1 q2 hw) ?_
  refine f_all (rs := [10]) (by kernel_rfl) (by simp) ?_
  refine a_cons ⟨_, rfl, ?_⟩ (fun x hx => absurd hx (by simp))
  intro w7 H8
  try dsimp only at H8
  refine s_buildSlice H8 1 2 (cs := #[.int .i64 (cmpI s1 s2), .int .i64 (cmpI q1 q2)]) #[.int .i64 0] el_130 ze_3 (by decide) (by decide) (by kernel_rfl) rfl ?_; intro bk9 w10 H11
  have H12 : St W w10 (blk bk4 (.cells #[.int .i64 s2, .int .i64 q2] 30 (0, 0)) :: blk bk1 (.cells #[.int .i64 s1, .int .i64 q1] 30 (0, 0)) :: blk bk9 (.cells #[.int .i64 (cmpI s1 s2), .int .i64 (cmpI q1 q2)] 3 (0, 0)) :: F) := ((H11.move 2 rfl).move 2 rfl)
  refine ⟨blk bk9 (.cells #[.int .i64 (cmpI s1 s2), .int .i64 (cmpI q1 q2)] 3 (0, 0)) :: F, ?_, H12⟩
  change FReg _ _ _ _ _ #[true, true, true, true, true, true, true, true, true, true, true, false, false] _ _
  refine f_all (rs := [11]) (by kernel_rfl) (by simp) ?_
  refine a_cons ⟨_, rfl, ?_⟩ (fun x hx => absurd hx (by simp))
  intro w13 H14
  try dsimp only at H14
  refine s_call [.slice (some ⟨bk9, 0, none⟩) 2 2] pl_67 rfl rfl (Or_int bk9 (cmpI s1 s2) (cmpI q1 q2) 3 (0, 0) (i := 2) rfl H14) ?_
  rintro _ w15 ⟨rfl, H16⟩
  refine ⟨blk bk9 (.cells #[.int .i64 (cmpI s1 s2), .int .i64 (cmpI q1 q2)] 3 (0, 0)) :: F, ?_, H16⟩
  change FReg _ _ _ _ _ #[true, true, true, true, true, true, true, true, true, true, true, true, false] _ _
  refine f_first 12 (listed' := #[true, true, true, true, true, true, true, true, true, true, true, true, true]) rfl (by kernel_rfl) (by kernel_rfl) (by kernel_rfl) rfl ?_
  refine f_val rfl rfl rfl (by intro t_ w hw; exact x_assign (.int .i64 (if ¬ (cmpI s1 s2) = 0 then (cmpI s1 s2) else (cmpI q1 q2))) rfl w) ?_
  refine f_done (by kernel_rfl) ?_
  intro w17 H18
  refine g_ret' [.int .i64 (if ¬ (cmpI s1 s2) = 0 then (cmpI s1 s2) else (cmpI q1 q2))] Try.func21 Try.results21 ⟨rfl, trivial⟩ ?_
  have H19 : St W w17 F := (((H18.drop 0 rfl).drop 0 rfl).drop 0 rfl)
  exact ⟨rfl, H19⟩
set_option maxHeartbeats 4000000 in
set_option maxRecDepth 100000 in
theorem ref04_Compare {W w : World} {F : List Atom} (s1 q1 s2 q2 : Int) (H : St W w F) : Calls Try.prog 22 #[.agg #[.int .i64 s1, .int .i64 q1], .agg #[.int .i64 s2, .int .i64 q2]] w (Ret fun v w' => v = .int .i64 (cmpID s1 q1 s2 q2) ∧ St W w' F) := by
  refine calls_of_go (n := 29) Try.func22 rfl Try.ntmps22 rfl ?_
  refine g_seq ?_
  refine g_region ?_
  refine r_cons (s_box H 30 (.agg #[.int .i64 s1, .int .i64 q1]) rfl (cs := #[.int .i64 s1, .int .i64 q1]) rfl rfl ?_); intro bk1 w2 H3
  refine r_cons (s_box H3 30 (.agg #[.int .i64 s2, .int .i64 q2]) rfl (cs := #[.int .i64 s2, .int .i64 q2]) rfl rfl ?_); intro bk4 w5 H6
  refine r_cons (s_assign (.int .i64 0) rfl rfl ?_)
  refine r_nil ?_
  refine g_seq ?_
  refine g_block ?_
  refine g_seq ?_
  refine g_region ?_
  refine r_cons (s_fieldAddr 30 0 0 0 3 rfl fi_30_0 rfl rfl ?_)
  refine r_cons (s_load (.int .i64 s1) ag_3 rfl (H6.blk_at (i := 1) rfl) rfl rfl ?_)
  refine r_cons (s_fieldAddr 30 0 0 0 3 rfl fi_30_0 rfl rfl ?_)
  refine r_cons (s_load (.int .i64 s2) ag_3 rfl (H6.blk_at (i := 0) rfl) rfl rfl ?_)
  by_cases hc7 : s1 < s2
  · skip
    refine r_cons (s_lss true rfl rfl (dtrue hc7) rfl ?_)
    refine r_cons (s_move (.bool true) rfl rfl ?_)
    refine r_cons (r_pass rfl rfl rfl rfl rfl ?_)
    refine r_cons (r_pass rfl rfl rfl rfl rfl ?_)
    refine r_cons (r_pass rfl rfl rfl rfl rfl ?_)
    refine r_cons (r_pass rfl rfl rfl rfl rfl ?_)
    refine r_cons (r_pass rfl rfl rfl rfl rfl ?_)
    refine r_cons (r_pass rfl rfl rfl rfl rfl ?_)
    refine r_cons (r_passN rfl rfl rfl rfl ?_)
    refine r_cons (r_passN rfl rfl rfl rfl ?_)
    refine r_cons (r_passN rfl rfl rfl rfl ?_)
    refine r_cons (r_passN rfl rfl rfl rfl ?_)
    refine r_cons (r_passN rfl rfl rfl rfl ?_)
    refine r_cons (r_pass rfl rfl rfl rfl rfl ?_)
    refine r_cons (s_pick_t (.bool true) rfl rfl rfl ?_)
    refine r_cons (s_assign (.bool true) rfl rfl ?_)
    refine r_nil ?_
    refine g_true rfl ?_
    refine g_seq ?_
    refine g_region ?_
    refine r_cons (s_assign (.int .i64 (-1)) rfl rfl ?_)
    refine r_nil ?_
    refine g_ret' [.int .i64 (-1)] Try.func22 Try.results22 ⟨rfl, trivial⟩ ?_
    have H8 : St W w5 F := ((H6.drop 0 rfl).drop 0 rfl)
    exact ⟨vint (by rw [cmpID_is]; (try simp only [Bool.and_true, Bool.and_eq_true, Bool.and_eq_false_iff, decide_eq_true_eq, decide_eq_false_iff_not] at *); first | (rw [if_pos (by omega)]; done) | (rw [if_neg (by omega), if_pos (by omega)]; done) | (rw [if_neg (by omega), if_neg (by omega)]; done)), H8⟩
  · skip
    refine r_cons (s_lss false rfl rfl (dfalse hc7) rfl ?_)
    refine r_cons (s_move (.bool false) rfl rfl ?_)
    refine r_cons (r_take rfl rfl ?_)
    refine s_fieldAddr 30 0 0 0 3 rfl fi_30_0 rfl rfl ?_
    refine r_cons (r_take rfl rfl ?_)
    refine s_load (.int .i64 s1) ag_3 rfl (H6.blk_at (i := 1) rfl) rfl rfl ?_
    refine r_cons (r_take rfl rfl ?_)
    refine s_fieldAddr 30 0 0 0 3 rfl fi_30_0 rfl rfl ?_
    refine r_cons (r_take rfl rfl ?_)
    refine s_load (.int .i64 s2) ag_3 rfl (H6.blk_at (i := 0) rfl) rfl rfl ?_
    refine r_cons (r_take rfl rfl ?_)
    by_cases hc9 : s1 = s2
    · skip
      refine s_eql true rfl rfl (dtrue hc9) rfl ?_
      refine r_cons (r_take rfl rfl ?_)
      refine s_move (.bool true) rfl rfl ?_
      refine r_cons (r_take rfl rfl ?_)
      refine s_fieldAddr 30 1 1 1 2 rfl fi_30_1 rfl rfl ?_
      refine r_cons (r_take rfl rfl ?_)
      refine s_load (.int .i64 q1) ag_2 rfl (H6.blk_at (i := 1) rfl) rfl rfl ?_
      refine r_cons (r_take rfl rfl ?_)
      refine s_fieldAddr 30 1 1 1 2 rfl fi_30_1 rfl rfl ?_
      refine r_cons (r_take rfl rfl ?_)
      refine s_load (.int .i64 q2) ag_2 rfl (H6.blk_at (i := 0) rfl) rfl rfl ?_
      refine r_cons (r_take rfl rfl ?_)
      by_cases hc10 : q1 < q2
      · skip
        refine s_lss true rfl rfl (dtrue hc10) rfl ?_
        refine r_cons (r_take rfl rfl ?_)
        refine s_pick_t (.bool true) rfl rfl rfl ?_
        refine r_cons (s_pick_f (.bool true) rfl rfl rfl ?_)
        refine r_cons (s_assign (.bool true) rfl rfl ?_)
        refine r_nil ?_
        refine g_true rfl ?_
        refine g_seq ?_
        refine g_region ?_
        refine r_cons (s_assign (.int .i64 (-1)) rfl rfl ?_)
        refine r_nil ?_
        refine g_ret' [.int .i64 (-1)] Try.func22 Try.results22 ⟨rfl, trivial⟩ ?_
        have H11 : St W w5 F := ((H6.drop 0 rfl).drop 0 rfl)
        exact ⟨vint (by rw [cmpID_is]; (try simp only [Bool.and_true, Bool.and_eq_true, Bool.and_eq_false_iff, decide_eq_true_eq, decide_eq_false_iff_not] at *); first | (rw [if_pos (by omega)]; done) | (rw [if_neg (by omega), if_pos (by omega)]; done) | (rw [if_neg (by omega), if_neg (by omega)]; done)), H11⟩
      · skip
        refine s_lss false rfl rfl (dfalse hc10) rfl ?_
        refine r_cons (r_take rfl rfl ?_)
        refine s_pick_t (.bool false) rfl rfl rfl ?_
        refine r_cons (s_pick_f (.bool false) rfl rfl rfl ?_)
        refine r_cons (s_assign (.bool false) rfl rfl ?_)
        refine r_nil ?_
        refine g_false rfl ?_
        refine g_seq ?_
        refine g_region ?_
        refine r_cons (s_loadAgg [.int .i64 s1, .int .i64 q1] 2 ag_30 rfl (H6.blk_at (i := 1) rfl) (Nat.le_of_ble_eq_true rfl) rfl rfl ?_)
        refine r_cons (s_loadAgg [.int .i64 s2, .int .i64 q2] 2 ag_30 rfl (H6.blk_at (i := 0) rfl) (Nat.le_of_ble_eq_true rfl) rfl rfl ?_)
        refine r_cons (s_aeql ((decide (s1 = s2) && (decide (q1 = q2) && true))) gd_30 ev_30 rfl rfl rfl rfl ?_)
        refine r_cons (s_assign (.bool (decide (s1 = s2) && (decide (q1 = q2) && true))) rfl rfl ?_)
        refine r_nil ?_
        by_cases hb12 : ((decide (s1 = s2) && (decide (q1 = q2) && true))) = true
        · skip
          refine g_true (congrArg Value.bool hb12) ?_
          refine g_seq ?_
          refine g_region ?_
          refine r_cons (s_assign (.int .i64 0) rfl rfl ?_)
          refine r_nil ?_
          refine g_ret' [.int .i64 0] Try.func22 Try.results22 ⟨rfl, trivial⟩ ?_
          have H13 : St W w5 F := ((H6.drop 0 rfl).drop 0 rfl)
          exact ⟨vint (by rw [cmpID_is]; (try simp only [Bool.and_true, Bool.and_eq_true, Bool.and_eq_false_iff, decide_eq_true_eq, decide_eq_false_iff_not] at *); first | (rw [if_pos (by omega)]; done) | (rw [if_neg (by omega), if_pos (by omega)]; done) | (rw [if_neg (by omega), if_neg (by omega)]; done)), H13⟩
        · have hb12 := eq_false_of_ne_true hb12
          refine g_false (congrArg Value.bool hb12) ?_
          refine g_skip ?_
          refine g_inBlock ?_
          refine g_seq ?_
          refine g_region ?_
          refine r_cons (s_assign (.int .i64 1) rfl rfl ?_)
          refine r_nil ?_
          refine g_ret' [.int .i64 1] Try.func22 Try.results22 ⟨rfl, trivial⟩ ?_
          have H14 : St W w5 F := ((H6.drop 0 rfl).drop 0 rfl)
          exact ⟨vint (by rw [cmpID_is]; (try simp only [Bool.and_true, Bool.and_eq_true, Bool.and_eq_false_iff, decide_eq_true_eq, decide_eq_false_iff_not] at *); first | (rw [if_pos (by omega)]; done) | (rw [if_neg (by omega), if_pos (by omega)]; done) | (rw [if_neg (by omega), if_neg (by omega)]; done)), H14⟩
    · skip
      refine s_eql false rfl rfl (dfalse hc9) rfl ?_
      refine r_cons (r_take rfl rfl ?_)
      refine s_move (.bool false) rfl rfl ?_
      refine r_cons (r_pass rfl rfl rfl rfl rfl ?_)
      refine r_cons (r_pass rfl rfl rfl rfl rfl ?_)
      refine r_cons (r_pass rfl rfl rfl rfl rfl ?_)
      refine r_cons (r_pass rfl rfl rfl rfl rfl ?_)
      refine r_cons (r_pass rfl rfl rfl rfl rfl ?_)
      refine r_cons (r_take rfl rfl ?_)
      refine s_pick_f (.bool false) rfl rfl rfl ?_
      refine r_cons (s_pick_f (.bool false) rfl rfl rfl ?_)
      refine r_cons (s_assign (.bool false) rfl rfl ?_)
      refine r_nil ?_
      refine g_false rfl ?_
      refine g_seq ?_
      refine g_region ?_
      refine r_cons (s_loadAgg [.int .i64 s1, .int .i64 q1] 2 ag_30 rfl (H6.blk_at (i := 1) rfl) (Nat.le_of_ble_eq_true rfl) rfl rfl ?_)
      refine r_cons (s_loadAgg [.int .i64 s2, .int .i64 q2] 2 ag_30 rfl (H6.blk_at (i := 0) rfl) (Nat.le_of_ble_eq_true rfl) rfl rfl ?_)
      refine r_cons (s_aeql ((decide (s1 = s2) && (decide (q1 = q2) && true))) gd_30 ev_30 rfl rfl rfl rfl ?_)
      refine r_cons (s_assign (.bool (decide (s1 = s2) && (decide (q1 = q2) && true))) rfl rfl ?_)
      refine r_nil ?_
      by_cases hb15 : ((decide (s1 = s2) && (decide (q1 = q2) && true))) = true
      · skip
        refine g_true (congrArg Value.bool hb15) ?_
        refine g_seq ?_
        refine g_region ?_
        refine r_cons (s_assign (.int .i64 0) rfl rfl ?_)
        refine r_nil ?_
        refine g_ret' [.int .i64 0] Try.func22 Try.results22 ⟨rfl, trivial⟩ ?_
        have H16 : St W w5 F := ((H6.drop 0 rfl).drop 0 rfl)
        exact ⟨vint (by rw [cmpID_is]; (try simp only [Bool.and_true, Bool.and_eq_true, Bool.and_eq_false_iff, decide_eq_true_eq, decide_eq_false_iff_not] at *); first | (rw [if_pos (by omega)]; done) | (rw [if_neg (by omega), if_pos (by omega)]; done) | (rw [if_neg (by omega), if_neg (by omega)]; done)), H16⟩
      · have hb15 := eq_false_of_ne_true hb15
        refine g_false (congrArg Value.bool hb15) ?_
        refine g_skip ?_
        refine g_inBlock ?_
        refine g_seq ?_
        refine g_region ?_
        refine r_cons (s_assign (.int .i64 1) rfl rfl ?_)
        refine r_nil ?_
        refine g_ret' [.int .i64 1] Try.func22 Try.results22 ⟨rfl, trivial⟩ ?_
        have H17 : St W w5 F := ((H6.drop 0 rfl).drop 0 rfl)
        exact ⟨vint (by rw [cmpID_is]; (try simp only [Bool.and_true, Bool.and_eq_true, Bool.and_eq_false_iff, decide_eq_true_eq, decide_eq_false_iff_not] at *); first | (rw [if_pos (by omega)]; done) | (rw [if_neg (by omega), if_pos (by omega)]; done) | (rw [if_neg (by omega), if_neg (by omega)]; done)), H17⟩
set_option maxHeartbeats 4000000 in
set_option maxRecDepth 100000 in
theorem begun_one {W w : World} {F : List Atom} (s t : I64) (H : St W w F) : Calls Try.prog 56 #[.int .i64 s.v, .int .i64 t.v] w (Ret fun v w' => v = .agg #[.int .i64 ((bev s t).src.v), .int .i64 ((bev s t).seq.v), .int .i64 ((bev s t).time.v), .string ((bev s t).typ.v), .slice none 0 0] ∧ St W w' F) := by
  refine calls_of_go (n := 9) Try.func56 rfl Try.ntmps56 rfl ?_
  refine g_seq ?_
  refine g_region ?_
  refine r_cons (s_alloc H 33 ze_33 rfl ?_); intro bk1 w2 H3
  refine r_nil ?_
  refine g_seq ?_
  refine g_region ?_
  refine r_cons (s_move (.int .i64 s.v) rfl rfl ?_)
  refine r_cons (s_build (cs := #[.int .i64 0, .int .i64 s.v]) (by kernel_rfl) rfl ?_)
  refine r_cons (s_move (.int .i64 t.v) rfl rfl ?_)
  refine r_cons (s_build (cs := #[.int .i64 0, .int .i64 s.v, .int .i64 t.v, .string (⟨#[116]⟩), .slice none 0 0]) (by kernel_rfl) rfl ?_)
  refine r_cons (s_storeAgg H3 0 #[.int .i64 0, .int .i64 s.v, .int .i64 t.v, .string (⟨#[116]⟩), .slice none 0 0] 5 rfl rfl rfl sz_33 rfl (by simp [Value.oneCell']) (Nat.le_of_ble_eq_true rfl) (fun o h1 h2 => by first | (simp; done) | (simp; omega)) (cs' := #[.int .i64 0, .int .i64 s.v, .int .i64 t.v, .string (⟨#[116]⟩), .slice none 0 0]) rfl ?_); intro w4 H5
  refine r_nil ?_
  refine g_ret' [.agg #[.int .i64 0, .int .i64 s.v, .int .i64 t.v, .string (⟨#[116]⟩), .slice none 0 0]] Try.func56 Try.results56 ⟨(res_cellN rfl ag_33 (H5.blk_at (i := 0) rfl) (Nat.le_of_ble_eq_true rfl) rfl), trivial⟩ ?_
  have H6 : St W w4 F := (H5.drop 0 rfl)
  exact ⟨rfl, H6⟩
set_option maxHeartbeats 4000000 in
set_option maxRecDepth 100000 in
theorem begun_ {W w : World} {F : List Atom}  (H : St W w F) : Calls Try.prog 12 #[] w (Ret fun v w' => v = .bool true ∧ St W w' F) := by
  have H0 := Row.im (Row.nil_intro H 91 4) (i := 0) rfl
  refine calls_of_go (n := 50) Try.func12 rfl Try.ntmps12 rfl ?_
  refine g_seq ?_
  refine g_region ?_
  refine r_cons (s_assign (.bool false) rfl rfl ?_)
  refine r_nil ?_
  refine g_seq ?_
  refine g_region ?_
  refine r_cons (s_call [.int .i64 2] pl_11 rfl rfl (event_New 2 (by decide) H0) ?_)
  rintro _ w2 ⟨bk1, rfl, H3⟩
  refine r_cons (s_move (.tuple #[.pointer (some ⟨bk1, 0, none⟩), .int .i64 0]) rfl rfl ?_)
  refine r_cons (s_extract (.pointer (some ⟨bk1, 0, none⟩)) #[.pointer (some ⟨bk1, 0, none⟩), .int .i64 0] rfl rfl rfl ?_)
  refine r_cons (s_extract (.int .i64 0) #[.pointer (some ⟨bk1, 0, none⟩), .int .i64 0] rfl rfl rfl ?_)
  refine r_cons (s_assign (.pointer (some ⟨bk1, 0, none⟩)) rfl rfl ?_)
  refine r_cons (s_assign (.int .i64 0) rfl rfl ?_)
  refine r_nil ?_
  refine g_seq ?_
  refine g_seq ?_
  refine g_region ?_
  refine r_cons (s_move (.pointer (some ⟨bk1, 0, none⟩)) rfl rfl ?_)
  refine r_cons (s_peql false un_23 rfl rfl rfl rfl ?_)
  refine r_cons (s_move (.bool false) rfl rfl ?_)
  refine r_cons (r_take rfl rfl ?_)
  refine s_move (.int .i64 0) rfl rfl ?_
  refine r_cons (r_take rfl rfl ?_)
  refine s_neq false rfl rfl (ntrue (by decide)) rfl ?_
  refine r_cons (s_pick_f (.bool false) rfl rfl rfl ?_)
  refine r_nil ?_
  refine g_false rfl ?_
  refine g_skip ?_
  refine g_seq ?_
  refine g_region ?_
  refine r_cons (s_assign (.func (.func 56) #[] #[]) rfl rfl ?_)
  refine r_nil ?_
  refine g_seq ?_
  refine g_region ?_
  refine r_cons (s_move (.pointer (some ⟨bk1, 0, none⟩)) rfl rfl ?_)
  refine r_cons (s_move (.func (.func 56) #[] #[]) rfl rfl ?_)
  refine r_cons (s_callv [] [.int .i64 0, .int .i64 5] rfl pl_56 rfl rfl (begun_one (i64' 0) (i64' 5) H3) ?_)
  rintro _ w4 ⟨rfl, H5⟩
  refine r_cons (s_call [.pointer (some ⟨bk1, 0, none⟩), .agg #[.int .i64 ((bev (i64' 0) (i64' 5)).src.v), .int .i64 ((bev (i64' 0) (i64' 5)).seq.v), .int .i64 ((bev (i64' 0) (i64' 5)).time.v), .string ((bev (i64' 0) (i64' 5)).typ.v), .slice none 0 0]] pl_16 rfl rfl (Streams_Accept bk1 2 zeroSt [] (bev (i64' 0) (i64' 5)) (.slice none 0 0) (j := 1) rfl (i := 0) rfl H5) ?_)
  rintro _ w6 ⟨rfl, H7⟩
  refine r_cons (s_eql true rfl rfl (dtrue (by decide +kernel)) rfl ?_)
  refine r_cons (s_move (.bool true) rfl rfl ?_)
  refine r_cons (r_take rfl rfl ?_)
  refine s_move (.pointer (some ⟨bk1, 0, none⟩)) rfl rfl ?_
  refine r_cons (r_take rfl rfl ?_)
  refine s_move (.func (.func 56) #[] #[]) rfl rfl ?_
  refine r_cons (r_take rfl rfl ?_)
  refine s_callv [] [.int .i64 1, .int .i64 4] rfl pl_56 rfl rfl (begun_one (i64' 1) (i64' 4) H7) ?_
  rintro _ w8 ⟨rfl, H9⟩
  refine r_cons (r_take rfl rfl ?_)
  refine s_call [.pointer (some ⟨bk1, 0, none⟩), .agg #[.int .i64 ((bev (i64' 1) (i64' 4)).src.v), .int .i64 ((bev (i64' 1) (i64' 4)).seq.v), .int .i64 ((bev (i64' 1) (i64' 4)).time.v), .string ((bev (i64' 1) (i64' 4)).typ.v), .slice none 0 0]] pl_16 rfl rfl (Streams_Accept bk1 2 (accSt 2 zeroSt [] (bev (i64' 0) (i64' 5))) (accEvs 2 zeroSt [] (bev (i64' 0) (i64' 5))) (bev (i64' 1) (i64' 4)) (.slice none 0 0) (j := 1) rfl (i := 0) rfl H9) ?_
  rintro _ w10 ⟨rfl, H11⟩
  refine r_cons (r_take rfl rfl ?_)
  refine s_eql true rfl rfl (dtrue (by decide +kernel)) rfl ?_
  refine r_cons (s_pick_t (.bool true) rfl rfl rfl ?_)
  refine r_cons (s_move (.bool true) rfl rfl ?_)
  refine r_cons (r_take rfl rfl ?_)
  refine s_move (.pointer (some ⟨bk1, 0, none⟩)) rfl rfl ?_
  refine r_cons (r_take rfl rfl ?_)
  refine s_move (.func (.func 56) #[] #[]) rfl rfl ?_
  refine r_cons (r_take rfl rfl ?_)
  refine s_callv [] [.int .i64 2, .int .i64 6] rfl pl_56 rfl rfl (begun_one (i64' 2) (i64' 6) H11) ?_
  rintro _ w12 ⟨rfl, H13⟩
  refine r_cons (r_take rfl rfl ?_)
  refine s_call [.pointer (some ⟨bk1, 0, none⟩), .agg #[.int .i64 ((bev (i64' 2) (i64' 6)).src.v), .int .i64 ((bev (i64' 2) (i64' 6)).seq.v), .int .i64 ((bev (i64' 2) (i64' 6)).time.v), .string ((bev (i64' 2) (i64' 6)).typ.v), .slice none 0 0]] pl_16 rfl rfl (Streams_Accept bk1 2 (accSt 2 (accSt 2 zeroSt [] (bev (i64' 0) (i64' 5))) (accEvs 2 zeroSt [] (bev (i64' 0) (i64' 5))) (bev (i64' 1) (i64' 4))) (accEvs 2 (accSt 2 zeroSt [] (bev (i64' 0) (i64' 5))) (accEvs 2 zeroSt [] (bev (i64' 0) (i64' 5))) (bev (i64' 1) (i64' 4))) (bev (i64' 2) (i64' 6)) (.slice none 0 0) (j := 1) rfl (i := 0) rfl H13) ?_
  rintro _ w14 ⟨rfl, H15⟩
  refine r_cons (r_take rfl rfl ?_)
  refine s_eql true rfl rfl (dtrue (by decide +kernel)) rfl ?_
  refine r_cons (s_pick_t (.bool true) rfl rfl rfl ?_)
  refine r_cons (s_move (.bool true) rfl rfl ?_)
  refine r_cons (r_take rfl rfl ?_)
  refine s_move (.pointer (some ⟨bk1, 0, none⟩)) rfl rfl ?_
  refine r_cons (r_take rfl rfl ?_)
  refine s_move (.func (.func 56) #[] #[]) rfl rfl ?_
  refine r_cons (r_take rfl rfl ?_)
  refine s_callv [] [.int .i64 1, .int .i64 5] rfl pl_56 rfl rfl (begun_one (i64' 1) (i64' 5) H15) ?_
  rintro _ w16 ⟨rfl, H17⟩
  refine r_cons (r_take rfl rfl ?_)
  refine s_call [.pointer (some ⟨bk1, 0, none⟩), .agg #[.int .i64 ((bev (i64' 1) (i64' 5)).src.v), .int .i64 ((bev (i64' 1) (i64' 5)).seq.v), .int .i64 ((bev (i64' 1) (i64' 5)).time.v), .string ((bev (i64' 1) (i64' 5)).typ.v), .slice none 0 0]] pl_16 rfl rfl (Streams_Accept bk1 2 (accSt 2 (accSt 2 (accSt 2 zeroSt [] (bev (i64' 0) (i64' 5))) (accEvs 2 zeroSt [] (bev (i64' 0) (i64' 5))) (bev (i64' 1) (i64' 4))) (accEvs 2 (accSt 2 zeroSt [] (bev (i64' 0) (i64' 5))) (accEvs 2 zeroSt [] (bev (i64' 0) (i64' 5))) (bev (i64' 1) (i64' 4))) (bev (i64' 2) (i64' 6))) (accEvs 2 (accSt 2 (accSt 2 zeroSt [] (bev (i64' 0) (i64' 5))) (accEvs 2 zeroSt [] (bev (i64' 0) (i64' 5))) (bev (i64' 1) (i64' 4))) (accEvs 2 (accSt 2 zeroSt [] (bev (i64' 0) (i64' 5))) (accEvs 2 zeroSt [] (bev (i64' 0) (i64' 5))) (bev (i64' 1) (i64' 4))) (bev (i64' 2) (i64' 6))) (bev (i64' 1) (i64' 5)) (.slice none 0 0) (j := 1) rfl (i := 0) rfl H17) ?_
  rintro _ w18 ⟨rfl, H19⟩
  refine r_cons (r_take rfl rfl ?_)
  refine s_eql true rfl rfl (dtrue (by decide +kernel)) rfl ?_
  refine r_cons (s_pick_t (.bool true) rfl rfl rfl ?_)
  refine r_cons (s_move (.bool true) rfl rfl ?_)
  refine r_cons (r_take rfl rfl ?_)
  refine s_move (.pointer (some ⟨bk1, 0, none⟩)) rfl rfl ?_
  refine r_cons (r_take rfl rfl ?_)
  refine s_call [.pointer (some ⟨bk1, 0, none⟩), .int .i64 0] pl_13 rfl rfl (Streams_Mark bk1 2 (accSt 2 (accSt 2 (accSt 2 (accSt 2 zeroSt [] (bev (i64' 0) (i64' 5))) (accEvs 2 zeroSt [] (bev (i64' 0) (i64' 5))) (bev (i64' 1) (i64' 4))) (accEvs 2 (accSt 2 zeroSt [] (bev (i64' 0) (i64' 5))) (accEvs 2 zeroSt [] (bev (i64' 0) (i64' 5))) (bev (i64' 1) (i64' 4))) (bev (i64' 2) (i64' 6))) (accEvs 2 (accSt 2 (accSt 2 zeroSt [] (bev (i64' 0) (i64' 5))) (accEvs 2 zeroSt [] (bev (i64' 0) (i64' 5))) (bev (i64' 1) (i64' 4))) (accEvs 2 (accSt 2 zeroSt [] (bev (i64' 0) (i64' 5))) (accEvs 2 zeroSt [] (bev (i64' 0) (i64' 5))) (bev (i64' 1) (i64' 4))) (bev (i64' 2) (i64' 6))) (bev (i64' 1) (i64' 5))) (accEvs 2 (accSt 2 (accSt 2 (accSt 2 zeroSt [] (bev (i64' 0) (i64' 5))) (accEvs 2 zeroSt [] (bev (i64' 0) (i64' 5))) (bev (i64' 1) (i64' 4))) (accEvs 2 (accSt 2 zeroSt [] (bev (i64' 0) (i64' 5))) (accEvs 2 zeroSt [] (bev (i64' 0) (i64' 5))) (bev (i64' 1) (i64' 4))) (bev (i64' 2) (i64' 6))) (accEvs 2 (accSt 2 (accSt 2 zeroSt [] (bev (i64' 0) (i64' 5))) (accEvs 2 zeroSt [] (bev (i64' 0) (i64' 5))) (bev (i64' 1) (i64' 4))) (accEvs 2 (accSt 2 zeroSt [] (bev (i64' 0) (i64' 5))) (accEvs 2 zeroSt [] (bev (i64' 0) (i64' 5))) (bev (i64' 1) (i64' 4))) (bev (i64' 2) (i64' 6))) (bev (i64' 1) (i64' 5))) (0 : Int) (i := 0) rfl H19) ?_
  rintro _ w20 ⟨rfl, H21⟩
  refine r_cons (r_take rfl rfl ?_)
  refine s_eql true rfl rfl (dtrue (by decide +kernel)) rfl ?_
  refine r_cons (s_pick_t (.bool true) rfl rfl rfl ?_)
  refine r_cons (s_move (.bool true) rfl rfl ?_)
  refine r_cons (r_take rfl rfl ?_)
  refine s_move (.pointer (some ⟨bk1, 0, none⟩)) rfl rfl ?_
  refine r_cons (r_take rfl rfl ?_)
  refine s_call [.pointer (some ⟨bk1, 0, none⟩)] pl_32 rfl rfl (Streams_Len bk1 2 (accSt 2 (accSt 2 (accSt 2 (accSt 2 zeroSt [] (bev (i64' 0) (i64' 5))) (accEvs 2 zeroSt [] (bev (i64' 0) (i64' 5))) (bev (i64' 1) (i64' 4))) (accEvs 2 (accSt 2 zeroSt [] (bev (i64' 0) (i64' 5))) (accEvs 2 zeroSt [] (bev (i64' 0) (i64' 5))) (bev (i64' 1) (i64' 4))) (bev (i64' 2) (i64' 6))) (accEvs 2 (accSt 2 (accSt 2 zeroSt [] (bev (i64' 0) (i64' 5))) (accEvs 2 zeroSt [] (bev (i64' 0) (i64' 5))) (bev (i64' 1) (i64' 4))) (accEvs 2 (accSt 2 zeroSt [] (bev (i64' 0) (i64' 5))) (accEvs 2 zeroSt [] (bev (i64' 0) (i64' 5))) (bev (i64' 1) (i64' 4))) (bev (i64' 2) (i64' 6))) (bev (i64' 1) (i64' 5))) (accEvs 2 (accSt 2 (accSt 2 (accSt 2 zeroSt [] (bev (i64' 0) (i64' 5))) (accEvs 2 zeroSt [] (bev (i64' 0) (i64' 5))) (bev (i64' 1) (i64' 4))) (accEvs 2 (accSt 2 zeroSt [] (bev (i64' 0) (i64' 5))) (accEvs 2 zeroSt [] (bev (i64' 0) (i64' 5))) (bev (i64' 1) (i64' 4))) (bev (i64' 2) (i64' 6))) (accEvs 2 (accSt 2 (accSt 2 zeroSt [] (bev (i64' 0) (i64' 5))) (accEvs 2 zeroSt [] (bev (i64' 0) (i64' 5))) (bev (i64' 1) (i64' 4))) (accEvs 2 (accSt 2 zeroSt [] (bev (i64' 0) (i64' 5))) (accEvs 2 zeroSt [] (bev (i64' 0) (i64' 5))) (bev (i64' 1) (i64' 4))) (bev (i64' 2) (i64' 6))) (bev (i64' 1) (i64' 5)))  (i := 0) rfl H21) ?_
  rintro _ w22 ⟨rfl, H23⟩
  refine r_cons (r_take rfl rfl ?_)
  refine s_eql true rfl rfl (dtrue (by decide +kernel)) rfl ?_
  refine r_cons (s_pick_t (.bool true) rfl rfl rfl ?_)
  refine r_cons (s_assign (.bool true) rfl rfl ?_)
  refine r_nil ?_
  refine g_ret' [.bool true] Try.func12 Try.results12 ⟨rfl, trivial⟩ ?_
  have H24 : St W w22 F := ((H23.drop 0 rfl).drop 0 rfl)
  exact ⟨rfl, H24⟩
set_option maxHeartbeats 4000000 in
set_option maxRecDepth 100000 in
theorem EventChecks_ {W w : World} {F : List Atom} (a b : EvM) (ap bp : Option Addr) (ac bc : Nat) (hb : a.attrs.length * 48 ≤ 140737488355328) {j k : Nat} (hj : F[j]? = some (Attrs (.slice ap a.attrs.length ac) a.attrs)) (hk : F[k]? = some (Attrs (.slice bp b.attrs.length bc) b.attrs)) (H : St W w F) : Calls Try.prog 4 #[.agg #[.int .i64 a.src.v, .int .i64 a.seq.v, .int .i64 a.time.v, .string a.typ.v, .slice ap a.attrs.length ac], .agg #[.int .i64 b.src.v, .int .i64 b.seq.v, .int .i64 b.time.v, .string b.typ.v, .slice bp b.attrs.length bc]] w (Ret fun v w' => v = .bool true ∧ St W w' F) := by
  have H0 := (H.dup hj (Attrs_pers _ _)).dup (i := k + 1) (by exact hk) (Attrs_pers _ _)
  refine calls_of_go (n := 46) Try.func4 rfl Try.ntmps4 rfl ?_
  refine g_seq ?_
  refine g_region ?_
  refine r_cons (s_box H0 33 (.agg #[.int .i64 a.src.v, .int .i64 a.seq.v, .int .i64 a.time.v, .string a.typ.v, .slice ap a.attrs.length ac]) rfl (cs := #[.int .i64 a.src.v, .int .i64 a.seq.v, .int .i64 a.time.v, .string a.typ.v, .slice ap a.attrs.length ac]) rfl rfl ?_); intro bk1 w2 H3
  refine r_cons (s_box H3 33 (.agg #[.int .i64 b.src.v, .int .i64 b.seq.v, .int .i64 b.time.v, .string b.typ.v, .slice bp b.attrs.length bc]) rfl (cs := #[.int .i64 b.src.v, .int .i64 b.seq.v, .int .i64 b.time.v, .string b.typ.v, .slice bp b.attrs.length bc]) rfl rfl ?_); intro bk4 w5 H6
  refine r_cons (s_assign (.bool false) rfl rfl ?_)
  refine r_nil ?_
  refine g_seq ?_
  refine g_mix (fun t_ w => St W w (blk bk4 (.cells #[.int .i64 b.src.v, .int .i64 b.seq.v, .int .i64 b.time.v, .string b.typ.v, .slice bp b.attrs.length bc] 33 (0, 0)) :: blk bk1 (.cells #[.int .i64 a.src.v, .int .i64 a.seq.v, .int .i64 a.time.v, .string a.typ.v, .slice ap a.attrs.length ac] 33 (0, 0)) :: Attrs (.slice bp b.attrs.length bc) b.attrs :: Attrs (.slice ap a.attrs.length ac) a.attrs :: t_)) F mixed 42 rfl H6.drew ?_
  refine f_all (rs := [0]) (by kernel_rfl) (by simp) ?_
  refine a_cons ⟨_, rfl, ?_⟩ (fun x hx => absurd hx (by simp))
  intro w7 H8
  try dsimp only at H8
  refine s_call [] pl_12 rfl rfl (begun_ H8) ?_
  rintro _ w9 ⟨rfl, H10⟩
  refine ⟨F, ?_, H10⟩
  change FReg _ _ _ _ _ #[true, false, false, false, false, false, false, false, false, false, false, false, false, false, false, false, false, false, false, false, false, false, false, false, false, false, false, false, false, false, false, false, false, false, false, false, false, false, false, false, false, false] _ _
  refine f_first 1 (listed' := #[true, true, false, false, false, false, false, false, false, false, false, false, false, false, false, false, false, false, false, false, false, false, false, false, false, false, false, false, false, false, false, false, false, false, false, false, false, false, false, false, false, false]) rfl (by kernel_rfl) (by kernel_rfl) (by kernel_rfl) rfl ?_
  refine f_val rfl rfl rfl (by intro t_ w hw; exact x_move (.bool true) rfl w) ?_
  refine f_first 2 (listed' := #[true, true, true, false, false, false, false, false, false, false, false, false, false, false, false, false, false, false, false, false, false, false, false, false, false, false, false, false, false, false, false, false, false, false, false, false, false, false, false, false, false, false]) rfl (by kernel_rfl) (by kernel_rfl) (by kernel_rfl) rfl ?_
  refine f_take rfl rfl ?_
  refine f_val rfl rfl rfl (by intro t_ w hw; exact x_loadAgg [.int .i64 a.src.v, .int .i64 a.seq.v, .int .i64 a.time.v, .string a.typ.v, .slice ap a.attrs.length ac] 5 ag_33 rfl (hw.blk_at (i := 1) rfl) (Nat.le_of_ble_eq_true rfl) rfl) ?_
  refine f_first 3 (listed' := #[true, true, true, true, false, false, false, false, false, false, false, false, false, false, false, false, false, false, false, false, false, false, false, false, false, false, false, false, false, false, false, false, false, false, false, false, false, false, false, false, false, false]) rfl (by kernel_rfl) (by kernel_rfl) (by kernel_rfl) rfl ?_
  refine f_take rfl rfl ?_
  refine f_enter (args := #[.agg #[.int .i64 a.src.v, .int .i64 a.seq.v, .int .i64 a.time.v, .string a.typ.v, .slice ap a.attrs.length ac]]) (v := .int .i64 (evE a)) rfl rfl rfl (x_call pl_17 [.agg #[.int .i64 a.src.v, .int .i64 a.seq.v, .int .i64 a.time.v, .string a.typ.v, .slice ap a.attrs.length ac]] rfl) (fun t_ w hw => event_Check a (.slice ap a.attrs.length ac) (j := 3) rfl hw) ?_
  refine f_first 4 (listed' := #[true, true, true, true, true, false, false, false, false, false, false, false, false, false, false, false, false, false, false, false, false, false, false, false, false, false, false, false, false, false, false, false, false, false, false, false, false, false, false, false, false, false]) rfl (by kernel_rfl) (by kernel_rfl) (by kernel_rfl) rfl ?_
  refine f_take rfl rfl ?_
  refine f_val rfl rfl rfl (by intro t_ w hw; exact x_loadAgg [.int .i64 a.src.v, .int .i64 a.seq.v, .int .i64 a.time.v, .string a.typ.v, .slice ap a.attrs.length ac] 5 ag_33 rfl (hw.blk_at (i := 1) rfl) (Nat.le_of_ble_eq_true rfl) rfl) ?_
  refine f_first 5 (listed' := #[true, true, true, true, true, true, false, false, false, false, false, false, false, false, false, false, false, false, false, false, false, false, false, false, false, false, false, false, false, false, false, false, false, false, false, false, false, false, false, false, false, false]) rfl (by kernel_rfl) (by kernel_rfl) (by kernel_rfl) rfl ?_
  refine f_take rfl rfl ?_
  refine f_enter (args := #[.agg #[.int .i64 a.src.v, .int .i64 a.seq.v, .int .i64 a.time.v, .string a.typ.v, .slice ap a.attrs.length ac]]) (v := .int .i64 (evE a)) rfl rfl rfl (x_call pl_18 [.agg #[.int .i64 a.src.v, .int .i64 a.seq.v, .int .i64 a.time.v, .string a.typ.v, .slice ap a.attrs.length ac]] rfl) (fun t_ w hw => ref04_Check a (.slice ap a.attrs.length ac) (j := 3) rfl hw) ?_
  refine f_first 6 (listed' := #[true, true, true, true, true, true, true, false, false, false, false, false, false, false, false, false, false, false, false, false, false, false, false, false, false, false, false, false, false, false, false, false, false, false, false, false, false, false, false, false, false, false]) rfl (by kernel_rfl) (by kernel_rfl) (by kernel_rfl) rfl ?_
  refine f_take rfl rfl ?_
  refine f_val rfl rfl rfl (by intro t_ w hw; exact x_eql true rfl rfl (dtrue rfl) w) ?_
  refine f_first 7 (listed' := #[true, true, true, true, true, true, true, true, false, false, false, false, false, false, false, false, false, false, false, false, false, false, false, false, false, false, false, false, false, false, false, false, false, false, false, false, false, false, false, false, false, false]) rfl (by kernel_rfl) (by kernel_rfl) (by kernel_rfl) rfl ?_
  refine f_val rfl rfl rfl (by intro t_ w hw; exact x_pick_t (.bool true) rfl rfl w) ?_
  refine f_first 8 (listed' := #[true, true, true, true, true, true, true, true, true, false, false, false, false, false, false, false, false, false, false, false, false, false, false, false, false, false, false, false, false, false, false, false, false, false, false, false, false, false, false, false, false, false]) rfl (by kernel_rfl) (by kernel_rfl) (by kernel_rfl) rfl ?_
  refine f_val rfl rfl rfl (by intro t_ w hw; exact x_move (.bool true) rfl w) ?_
  refine f_first 9 (listed' := #[true, true, true, true, true, true, true, true, true, true, false, false, false, false, false, false, false, false, false, false, false, false, false, false, false, false, false, false, false, false, false, false, false, false, false, false, false, false, false, false, false, false]) rfl (by kernel_rfl) (by kernel_rfl) (by kernel_rfl) rfl ?_
  refine f_take rfl rfl ?_
  refine f_val rfl rfl rfl (by intro t_ w hw; exact x_loadAgg [.int .i64 a.src.v, .int .i64 a.seq.v, .int .i64 a.time.v, .string a.typ.v, .slice ap a.attrs.length ac] 5 ag_33 rfl (hw.blk_at (i := 1) rfl) (Nat.le_of_ble_eq_true rfl) rfl) ?_
  refine f_first 10 (listed' := #[true, true, true, true, true, true, true, true, true, true, true, false, false, false, false, false, false, false, false, false, false, false, false, false, false, false, false, false, false, false, false, false, false, false, false, false, false, false, false, false, false, false]) rfl (by kernel_rfl) (by kernel_rfl) (by kernel_rfl) rfl ?_
  refine f_take rfl rfl ?_
  refine f_val rfl rfl rfl (by intro t_ w hw; exact x_loadAgg [.int .i64 b.src.v, .int .i64 b.seq.v, .int .i64 b.time.v, .string b.typ.v, .slice bp b.attrs.length bc] 5 ag_33 rfl (hw.blk_at (i := 0) rfl) (Nat.le_of_ble_eq_true rfl) rfl) ?_
  refine f_first 11 (listed' := #[true, true, true, true, true, true, true, true, true, true, true, true, false, false, false, false, false, false, false, false, false, false, false, false, false, false, false, false, false, false, false, false, false, false, false, false, false, false, false, false, false, false]) rfl (by kernel_rfl) (by kernel_rfl) (by kernel_rfl) rfl ?_
  refine f_take rfl rfl ?_
  refine f_enter (args := #[.agg #[.int .i64 a.src.v, .int .i64 a.seq.v, .int .i64 a.time.v, .string a.typ.v, .slice ap a.attrs.length ac], .agg #[.int .i64 b.src.v, .int .i64 b.seq.v, .int .i64 b.time.v, .string b.typ.v, .slice bp b.attrs.length bc]]) (v := .bool (sameEv a b)) rfl rfl rfl (x_call pl_19 [.agg #[.int .i64 a.src.v, .int .i64 a.seq.v, .int .i64 a.time.v, .string a.typ.v, .slice ap a.attrs.length ac], .agg #[.int .i64 b.src.v, .int .i64 b.seq.v, .int .i64 b.time.v, .string b.typ.v, .slice bp b.attrs.length bc]] rfl) (fun t_ w hw => event_Same a b (.slice ap a.attrs.length ac) (.slice bp b.attrs.length bc) (j := 3) (k := 2) rfl rfl hw) ?_
  refine f_first 12 (listed' := #[true, true, true, true, true, true, true, true, true, true, true, true, true, false, false, false, false, false, false, false, false, false, false, false, false, false, false, false, false, false, false, false, false, false, false, false, false, false, false, false, false, false]) rfl (by kernel_rfl) (by kernel_rfl) (by kernel_rfl) rfl ?_
  refine f_take rfl rfl ?_
  refine f_val rfl rfl rfl (by intro t_ w hw; exact x_loadAgg [.int .i64 a.src.v, .int .i64 a.seq.v, .int .i64 a.time.v, .string a.typ.v, .slice ap a.attrs.length ac] 5 ag_33 rfl (hw.blk_at (i := 1) rfl) (Nat.le_of_ble_eq_true rfl) rfl) ?_
  refine f_first 13 (listed' := #[true, true, true, true, true, true, true, true, true, true, true, true, true, true, false, false, false, false, false, false, false, false, false, false, false, false, false, false, false, false, false, false, false, false, false, false, false, false, false, false, false, false]) rfl (by kernel_rfl) (by kernel_rfl) (by kernel_rfl) rfl ?_
  refine f_take rfl rfl ?_
  refine f_val rfl rfl rfl (by intro t_ w hw; exact x_loadAgg [.int .i64 b.src.v, .int .i64 b.seq.v, .int .i64 b.time.v, .string b.typ.v, .slice bp b.attrs.length bc] 5 ag_33 rfl (hw.blk_at (i := 0) rfl) (Nat.le_of_ble_eq_true rfl) rfl) ?_
  refine f_first 14 (listed' := #[true, true, true, true, true, true, true, true, true, true, true, true, true, true, true, false, false, false, false, false, false, false, false, false, false, false, false, false, false, false, false, false, false, false, false, false, false, false, false, false, false, false]) rfl (by kernel_rfl) (by kernel_rfl) (by kernel_rfl) rfl ?_
  refine f_take rfl rfl ?_
  refine f_enter (args := #[.agg #[.int .i64 a.src.v, .int .i64 a.seq.v, .int .i64 a.time.v, .string a.typ.v, .slice ap a.attrs.length ac], .agg #[.int .i64 b.src.v, .int .i64 b.seq.v, .int .i64 b.time.v, .string b.typ.v, .slice bp b.attrs.length bc]]) (v := .bool (sameEv a b)) rfl rfl rfl (x_call pl_20 [.agg #[.int .i64 a.src.v, .int .i64 a.seq.v, .int .i64 a.time.v, .string a.typ.v, .slice ap a.attrs.length ac], .agg #[.int .i64 b.src.v, .int .i64 b.seq.v, .int .i64 b.time.v, .string b.typ.v, .slice bp b.attrs.length bc]] rfl) (fun t_ w hw => ref04_Same a b (.slice ap a.attrs.length ac) (.slice bp b.attrs.length bc) (j := 3) (k := 2) rfl rfl hw) ?_
  refine f_first 15 (listed' := #[true, true, true, true, true, true, true, true, true, true, true, true, true, true, true, true, false, false, false, false, false, false, false, false, false, false, false, false, false, false, false, false, false, false, false, false, false, false, false, false, false, false]) rfl (by kernel_rfl) (by kernel_rfl) (by kernel_rfl) rfl ?_
  refine f_take rfl rfl ?_
  refine f_val rfl rfl rfl (by intro t_ w hw; exact x_beql true un_4 rfl rfl (dtrue rfl) w) ?_
  refine f_first 16 (listed' := #[true, true, true, true, true, true, true, true, true, true, true, true, true, true, true, true, true, false, false, false, false, false, false, false, false, false, false, false, false, false, false, false, false, false, false, false, false, false, false, false, false, false]) rfl (by kernel_rfl) (by kernel_rfl) (by kernel_rfl) rfl ?_
  refine f_val rfl rfl rfl (by intro t_ w hw; exact x_pick_t (.bool true) rfl rfl w) ?_
  refine f_first 17 (listed' := #[true, true, true, true, true, true, true, true, true, true, true, true, true, true, true, true, true, true, false, false, false, false, false, false, false, false, false, false, false, false, false, false, false, false, false, false, false, false, false, false, false, false]) rfl (by kernel_rfl) (by kernel_rfl) (by kernel_rfl) rfl ?_
  refine f_val rfl rfl rfl (by intro t_ w hw; exact x_move (.bool true) rfl w) ?_
  refine f_first 18 (listed' := #[true, true, true, true, true, true, true, true, true, true, true, true, true, true, true, true, true, true, true, false, false, false, false, false, false, false, false, false, false, false, false, false, false, false, false, false, false, false, false, false, false, false]) rfl (by kernel_rfl) (by kernel_rfl) (by kernel_rfl) rfl ?_
  refine f_take rfl rfl ?_
  refine f_val rfl rfl rfl (by intro t_ w hw; exact x_loadAgg [.int .i64 a.src.v, .int .i64 a.seq.v, .int .i64 a.time.v, .string a.typ.v, .slice ap a.attrs.length ac] 5 ag_33 rfl (hw.blk_at (i := 1) rfl) (Nat.le_of_ble_eq_true rfl) rfl) ?_
  refine f_first 19 (listed' := #[true, true, true, true, true, true, true, true, true, true, true, true, true, true, true, true, true, true, true, true, false, false, false, false, false, false, false, false, false, false, false, false, false, false, false, false, false, false, false, false, false, false]) rfl (by kernel_rfl) (by kernel_rfl) (by kernel_rfl) rfl ?_
  refine f_take rfl rfl ?_
  refine f_val rfl rfl rfl (by intro t_ w hw; exact x_loadAgg [.int .i64 a.src.v, .int .i64 a.seq.v, .int .i64 a.time.v, .string a.typ.v, .slice ap a.attrs.length ac] 5 ag_33 rfl (hw.blk_at (i := 1) rfl) (Nat.le_of_ble_eq_true rfl) rfl) ?_
  refine f_first 20 (listed' := #[true, true, true, true, true, true, true, true, true, true, true, true, true, true, true, true, true, true, true, true, true, false, false, false, false, false, false, false, false, false, false, false, false, false, false, false, false, false, false, false, false, false]) rfl (by kernel_rfl) (by kernel_rfl) (by kernel_rfl) rfl ?_
  refine f_take rfl rfl ?_
  refine f_enter (args := #[.agg #[.int .i64 a.src.v, .int .i64 a.seq.v, .int .i64 a.time.v, .string a.typ.v, .slice ap a.attrs.length ac], .agg #[.int .i64 a.src.v, .int .i64 a.seq.v, .int .i64 a.time.v, .string a.typ.v, .slice ap a.attrs.length ac]]) (v := .bool (sameEv a a)) rfl rfl rfl (x_call pl_19 [.agg #[.int .i64 a.src.v, .int .i64 a.seq.v, .int .i64 a.time.v, .string a.typ.v, .slice ap a.attrs.length ac], .agg #[.int .i64 a.src.v, .int .i64 a.seq.v, .int .i64 a.time.v, .string a.typ.v, .slice ap a.attrs.length ac]] rfl) (fun t_ w hw => event_Same a a (.slice ap a.attrs.length ac) (.slice ap a.attrs.length ac) (j := 3) (k := 3) rfl rfl hw) ?_
  refine f_first 21 (listed' := #[true, true, true, true, true, true, true, true, true, true, true, true, true, true, true, true, true, true, true, true, true, true, false, false, false, false, false, false, false, false, false, false, false, false, false, false, false, false, false, false, false, false]) rfl (by kernel_rfl) (by kernel_rfl) (by kernel_rfl) rfl ?_
  have hs : (sameEv a a) = true := by exact sameEv_iff.2 rfl
  refine f_val rfl rfl rfl (by intro t_ w hw; exact x_pick_t (.bool (sameEv a a)) rfl rfl w) ?_
  refine f_first 22 (listed' := #[true, true, true, true, true, true, true, true, true, true, true, true, true, true, true, true, true, true, true, true, true, true, true, false, false, false, false, false, false, false, false, false, false, false, false, false, false, false, false, false, false, false]) rfl (by kernel_rfl) (by kernel_rfl) (by kernel_rfl) rfl ?_
  refine f_val rfl rfl rfl (by intro t_ w hw; exact x_move (.bool (sameEv a a)) rfl w) ?_
  refine f_first 23 (listed' := #[true, true, true, true, true, true, true, true, true, true, true, true, true, true, true, true, true, true, true, true, true, true, true, true, false, false, false, false, false, false, false, false, false, false, false, false, false, false, false, false, false, false]) rfl (by kernel_rfl) (by kernel_rfl) (by kernel_rfl) rfl ?_
  refine f_take rfl (by exact congrArg some hs) ?_
  refine f_val rfl rfl rfl (by intro t_ w hw; exact x_fieldAddr 33 0 0 0 30 rfl fi_33_0 rfl w) ?_
  refine f_first 24 (listed' := #[true, true, true, true, true, true, true, true, true, true, true, true, true, true, true, true, true, true, true, true, true, true, true, true, true, false, false, false, false, false, false, false, false, false, false, false, false, false, false, false, false, false]) rfl (by kernel_rfl) (by kernel_rfl) (by kernel_rfl) rfl ?_
  refine f_take rfl (by exact congrArg some hs) ?_
  refine f_val rfl rfl rfl (by intro t_ w hw; exact x_loadAgg [.int .i64 a.src.v, .int .i64 a.seq.v] 2 ag_30 rfl (hw.blk_at (i := 1) rfl) (Nat.le_of_ble_eq_true rfl) rfl) ?_
  refine f_first 25 (listed' := #[true, true, true, true, true, true, true, true, true, true, true, true, true, true, true, true, true, true, true, true, true, true, true, true, true, true, false, false, false, false, false, false, false, false, false, false, false, false, false, false, false, false]) rfl (by kernel_rfl) (by kernel_rfl) (by kernel_rfl) rfl ?_
  refine f_take rfl (by exact congrArg some hs) ?_
  refine f_val rfl rfl rfl (by intro t_ w hw; exact x_fieldAddr 33 0 0 0 30 rfl fi_33_0 rfl w) ?_
  refine f_first 26 (listed' := #[true, true, true, true, true, true, true, true, true, true, true, true, true, true, true, true, true, true, true, true, true, true, true, true, true, true, true, false, false, false, false, false, false, false, false, false, false, false, false, false, false, false]) rfl (by kernel_rfl) (by kernel_rfl) (by kernel_rfl) rfl ?_
  refine f_take rfl (by exact congrArg some hs) ?_
  refine f_val rfl rfl rfl (by intro t_ w hw; exact x_loadAgg [.int .i64 b.src.v, .int .i64 b.seq.v] 2 ag_30 rfl (hw.blk_at (i := 0) rfl) (Nat.le_of_ble_eq_true rfl) rfl) ?_
  refine f_first 27 (listed' := #[true, true, true, true, true, true, true, true, true, true, true, true, true, true, true, true, true, true, true, true, true, true, true, true, true, true, true, true, false, false, false, false, false, false, false, false, false, false, false, false, false, false]) rfl (by kernel_rfl) (by kernel_rfl) (by kernel_rfl) rfl ?_
  refine f_take rfl (by exact congrArg some hs) ?_
  refine f_enter (args := #[.agg #[.int .i64 a.src.v, .int .i64 a.seq.v], .agg #[.int .i64 b.src.v, .int .i64 b.seq.v]]) (v := .int .i64 (cmpID a.src.v a.seq.v b.src.v b.seq.v)) rfl rfl rfl (x_call pl_21 [.agg #[.int .i64 a.src.v, .int .i64 a.seq.v], .agg #[.int .i64 b.src.v, .int .i64 b.seq.v]] rfl) (fun t_ w hw => event_Compare a.src.v a.seq.v b.src.v b.seq.v hw) ?_
  refine f_first 28 (listed' := #[true, true, true, true, true, true, true, true, true, true, true, true, true, true, true, true, true, true, true, true, true, true, true, true, true, true, true, true, true, false, false, false, false, false, false, false, false, false, false, false, false, false]) rfl (by kernel_rfl) (by kernel_rfl) (by kernel_rfl) rfl ?_
  refine f_take rfl (by exact congrArg some hs) ?_
  refine f_val rfl rfl rfl (by intro t_ w hw; exact x_fieldAddr 33 0 0 0 30 rfl fi_33_0 rfl w) ?_
  refine f_first 29 (listed' := #[true, true, true, true, true, true, true, true, true, true, true, true, true, true, true, true, true, true, true, true, true, true, true, true, true, true, true, true, true, true, false, false, false, false, false, false, false, false, false, false, false, false]) rfl (by kernel_rfl) (by kernel_rfl) (by kernel_rfl) rfl ?_
  refine f_take rfl (by exact congrArg some hs) ?_
  refine f_val rfl rfl rfl (by intro t_ w hw; exact x_loadAgg [.int .i64 a.src.v, .int .i64 a.seq.v] 2 ag_30 rfl (hw.blk_at (i := 1) rfl) (Nat.le_of_ble_eq_true rfl) rfl) ?_
  refine f_first 30 (listed' := #[true, true, true, true, true, true, true, true, true, true, true, true, true, true, true, true, true, true, true, true, true, true, true, true, true, true, true, true, true, true, true, false, false, false, false, false, false, false, false, false, false, false]) rfl (by kernel_rfl) (by kernel_rfl) (by kernel_rfl) rfl ?_
  refine f_take rfl (by exact congrArg some hs) ?_
  refine f_val rfl rfl rfl (by intro t_ w hw; exact x_fieldAddr 33 0 0 0 30 rfl fi_33_0 rfl w) ?_
  refine f_first 31 (listed' := #[true, true, true, true, true, true, true, true, true, true, true, true, true, true, true, true, true, true, true, true, true, true, true, true, true, true, true, true, true, true, true, true, false, false, false, false, false, false, false, false, false, false]) rfl (by kernel_rfl) (by kernel_rfl) (by kernel_rfl) rfl ?_
  refine f_take rfl (by exact congrArg some hs) ?_
  refine f_val rfl rfl rfl (by intro t_ w hw; exact x_loadAgg [.int .i64 b.src.v, .int .i64 b.seq.v] 2 ag_30 rfl (hw.blk_at (i := 0) rfl) (Nat.le_of_ble_eq_true rfl) rfl) ?_
  refine f_first 32 (listed' := #[true, true, true, true, true, true, true, true, true, true, true, true, true, true, true, true, true, true, true, true, true, true, true, true, true, true, true, true, true, true, true, true, true, false, false, false, false, false, false, false, false, false]) rfl (by kernel_rfl) (by kernel_rfl) (by kernel_rfl) rfl ?_
  refine f_take rfl (by exact congrArg some hs) ?_
  refine f_enter (args := #[.agg #[.int .i64 a.src.v, .int .i64 a.seq.v], .agg #[.int .i64 b.src.v, .int .i64 b.seq.v]]) (v := .int .i64 (cmpID a.src.v a.seq.v b.src.v b.seq.v)) rfl rfl rfl (x_call pl_22 [.agg #[.int .i64 a.src.v, .int .i64 a.seq.v], .agg #[.int .i64 b.src.v, .int .i64 b.seq.v]] rfl) (fun t_ w hw => ref04_Compare a.src.v a.seq.v b.src.v b.seq.v hw) ?_
  refine f_first 33 (listed' := #[true, true, true, true, true, true, true, true, true, true, true, true, true, true, true, true, true, true, true, true, true, true, true, true, true, true, true, true, true, true, true, true, true, true, false, false, false, false, false, false, false, false]) rfl (by kernel_rfl) (by kernel_rfl) (by kernel_rfl) rfl ?_
  refine f_take rfl (by exact congrArg some hs) ?_
  refine f_val rfl rfl rfl (by intro t_ w hw; exact x_eql true rfl rfl (dtrue rfl) w) ?_
  refine f_first 34 (listed' := #[true, true, true, true, true, true, true, true, true, true, true, true, true, true, true, true, true, true, true, true, true, true, true, true, true, true, true, true, true, true, true, true, true, true, true, false, false, false, false, false, false, false]) rfl (by kernel_rfl) (by kernel_rfl) (by kernel_rfl) rfl ?_
  refine f_val rfl rfl rfl (by intro t_ w hw; exact x_pick_t (.bool true) (by exact congrArg Value.bool hs) rfl w) ?_
  refine f_first 35 (listed' := #[true, true, true, true, true, true, true, true, true, true, true, true, true, true, true, true, true, true, true, true, true, true, true, true, true, true, true, true, true, true, true, true, true, true, true, true, false, false, false, false, false, false]) rfl (by kernel_rfl) (by kernel_rfl) (by kernel_rfl) rfl ?_
  refine f_val rfl rfl rfl (by intro t_ w hw; exact x_move (.bool true) rfl w) ?_
  refine f_first 36 (listed' := #[true, true, true, true, true, true, true, true, true, true, true, true, true, true, true, true, true, true, true, true, true, true, true, true, true, true, true, true, true, true, true, true, true, true, true, true, true, false, false, false, false, false]) rfl (by kernel_rfl) (by kernel_rfl) (by kernel_rfl) rfl ?_
  refine f_take rfl rfl ?_
  refine f_val rfl rfl rfl (by intro t_ w hw; exact x_loadAgg [.int .i64 a.src.v, .int .i64 a.seq.v, .int .i64 a.time.v, .string a.typ.v, .slice ap a.attrs.length ac] 5 ag_33 rfl (hw.blk_at (i := 1) rfl) (Nat.le_of_ble_eq_true rfl) rfl) ?_
  refine f_first 38 (listed' := #[true, true, true, true, true, true, true, true, true, true, true, true, true, true, true, true, true, true, true, true, true, true, true, true, true, true, true, true, true, true, true, true, true, true, true, true, true, false, true, false, false, false]) rfl (by kernel_rfl) (by kernel_rfl) (by kernel_rfl) rfl ?_
  refine f_take rfl rfl ?_
  refine f_val rfl rfl rfl (by intro t_ w hw; exact x_loadAgg [.int .i64 a.src.v, .int .i64 a.seq.v, .int .i64 a.time.v, .string a.typ.v, .slice ap a.attrs.length ac] 5 ag_33 rfl (hw.blk_at (i := 1) rfl) (Nat.le_of_ble_eq_true rfl) rfl) ?_
  refine f_all (rs := [37]) (by kernel_rfl) (by simp) ?_
  refine a_cons ⟨_, rfl, ?_⟩ (fun x hx => absurd hx (by simp))
  intro w11 H12
  try dsimp only at H12
  refine r_take rfl rfl ?_
  refine s_call [.agg #[.int .i64 a.src.v, .int .i64 a.seq.v, .int .i64 a.time.v, .string a.typ.v, .slice ap a.attrs.length ac]] pl_23 rfl rfl (event_Clone a (.slice ap a.attrs.length ac) (by omega) (j := 3) rfl H12) ?_
  rintro _ w15 ⟨pp13, cc14, rfl, H16⟩
  have H17 : St W w15 (blk bk4 (.cells #[.int .i64 b.src.v, .int .i64 b.seq.v, .int .i64 b.time.v, .string b.typ.v, .slice bp b.attrs.length bc] 33 (0, 0)) :: blk bk1 (.cells #[.int .i64 a.src.v, .int .i64 a.seq.v, .int .i64 a.time.v, .string a.typ.v, .slice ap a.attrs.length ac] 33 (0, 0)) :: Attrs (.slice bp b.attrs.length bc) b.attrs :: Attrs (.slice ap a.attrs.length ac) a.attrs :: Attrs (.slice pp13 a.attrs.length cc14) a.attrs :: F) := ((((H16.move 4 rfl).move 4 rfl).move 4 rfl).move 4 rfl)
  refine ⟨Attrs (.slice pp13 a.attrs.length cc14) a.attrs :: F, ?_, H17⟩
  change FReg _ _ _ _ _ #[true, true, true, true, true, true, true, true, true, true, true, true, true, true, true, true, true, true, true, true, true, true, true, true, true, true, true, true, true, true, true, true, true, true, true, true, true, true, true, false, false, false] _ _
  refine f_all (rs := [39]) (by kernel_rfl) (by simp) ?_
  refine a_cons ⟨_, rfl, ?_⟩ (fun x hx => absurd hx (by simp))
  intro w18 H19
  try dsimp only at H19
  refine r_take rfl rfl ?_
  refine s_call [.agg #[.int .i64 a.src.v, .int .i64 a.seq.v, .int .i64 a.time.v, .string a.typ.v, .slice pp13 a.attrs.length cc14], .agg #[.int .i64 a.src.v, .int .i64 a.seq.v, .int .i64 a.time.v, .string a.typ.v, .slice ap a.attrs.length ac]] pl_20 rfl rfl (ref04_Same a a (.slice pp13 a.attrs.length cc14) (.slice ap a.attrs.length ac) (j := 4) (k := 3) rfl rfl H19) ?_
  rintro _ w20 ⟨rfl, H21⟩
  refine ⟨Attrs (.slice pp13 a.attrs.length cc14) a.attrs :: F, ?_, H21⟩
  change FReg _ _ _ _ _ #[true, true, true, true, true, true, true, true, true, true, true, true, true, true, true, true, true, true, true, true, true, true, true, true, true, true, true, true, true, true, true, true, true, true, true, true, true, true, true, true, false, false] _ _
  refine f_first 40 (listed' := #[true, true, true, true, true, true, true, true, true, true, true, true, true, true, true, true, true, true, true, true, true, true, true, true, true, true, true, true, true, true, true, true, true, true, true, true, true, true, true, true, true, false]) rfl (by kernel_rfl) (by kernel_rfl) (by kernel_rfl) rfl ?_
  have hs2 : (sameEv a a) = true := by exact sameEv_iff.2 rfl
  refine f_val rfl rfl rfl (by intro t_ w hw; exact x_pick_t (.bool (sameEv a a)) rfl rfl w) ?_
  refine f_first 41 (listed' := #[true, true, true, true, true, true, true, true, true, true, true, true, true, true, true, true, true, true, true, true, true, true, true, true, true, true, true, true, true, true, true, true, true, true, true, true, true, true, true, true, true, true]) rfl (by kernel_rfl) (by kernel_rfl) (by kernel_rfl) rfl ?_
  refine f_val rfl rfl rfl (by intro t_ w hw; exact x_assign (.bool (sameEv a a)) rfl w) ?_
  refine f_done (by kernel_rfl) ?_
  intro w22 H23
  refine g_ret' [.bool (sameEv a a)] Try.func4 Try.results4 ⟨rfl, trivial⟩ ?_
  have H24 : St W w22 F := (((((H23.drop 0 rfl).drop 0 rfl).drop 0 rfl).drop 0 rfl).drop 0 rfl)
  exact ⟨congrArg Value.bool (sameEv_iff.2 rfl), H24⟩
end Sl
