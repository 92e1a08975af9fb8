/- Walks of the program's functions. Printed by a program of this claim's author. No condition. -/
import Derived.Test.YtcomkhcpifcgmaaSlQ
import Derived.Test.YtcomkhcpifcgmaaSlH
import Derived.Test.YtcomkhcpifcgmaaSlP
import Derived.Test.YtcomkhcpifcgmaaProg
import Derived.Test.YtcomkhcpifcgmaaWalkFrameWrites1
namespace Sl
open _root_.Go _root_.Go.RowKit _root_.Go.Proofs
set_option linter.all false
set_option maxHeartbeats 4000000 in
set_option maxRecDepth 100000 in
theorem frame_Encode {W w : World} {F : List Atom} (d : DgM) (bv_d : Value) {A_d : Atom} (hA_d : RdA A_d 1 bv_d d.body.length (d.body.flatMap u8c)) {j : Nat} (hj : F[j]? = some A_d) (H : St W w F) : Calls Try.prog 14 #[.agg #[.int .i64 d.frm.v, .int .i64 d.to_.v, .int .i64 d.kind.v, .int .i64 d.seq.v, .int .i64 d.ack.v, bv_d]] w (Ret fun v w' => ∃ p n c, v = .tuple #[.slice p n c, .int .i64 (dgE d)] ∧ n = (dgBytes d).length ∧ St W w' (Row 5 1 (.slice p n c) n ((dgBytes d).flatMap u8c) :: F)) := by
  have hml := (hA_d _ _ _ j H hj).2
  obtain ⟨pp1, cc2, rfl, hn3⟩ := Rd.shape (hA_d _ _ _ j H hj).1
  refine calls_of_go (n := 31) Try.func14 rfl Try.ntmps14 rfl ?_
  refine g_seq ?_
  refine g_region ?_
  refine r_cons (s_box H 24 (.agg #[.int .i64 d.frm.v, .int .i64 d.to_.v, .int .i64 d.kind.v, .int .i64 d.seq.v, .int .i64 d.ack.v, .slice pp1 d.body.length cc2]) rfl (cs := #[.int .i64 d.frm.v, .int .i64 d.to_.v, .int .i64 d.kind.v, .int .i64 d.seq.v, .int .i64 d.ack.v, .slice pp1 d.body.length cc2]) rfl rfl ?_); intro bk4 w5 H6
  refine r_cons (s_assign (.slice none 0 0) rfl rfl ?_)
  refine r_cons (s_assign (.int .i64 0) rfl rfl ?_)
  refine r_nil ?_
  refine g_seq ?_
  refine g_seq ?_
  refine g_region ?_
  refine r_cons (s_loadAgg [.int .i64 d.frm.v, .int .i64 d.to_.v, .int .i64 d.kind.v, .int .i64 d.seq.v, .int .i64 d.ack.v, .slice pp1 d.body.length cc2] 6 ag_24 rfl (H6.blk_at (i := 0) rfl) (Nat.le_of_ble_eq_true rfl) rfl rfl ?_)
  refine r_cons (s_call [.agg #[.int .i64 d.frm.v, .int .i64 d.to_.v, .int .i64 d.kind.v, .int .i64 d.seq.v, .int .i64 d.ack.v, .slice pp1 d.body.length cc2]] pl_15 rfl rfl (frame_Check d _ hA_d (j := j + 1) (by exact hj) H6) ?_)
  rintro _ w7 ⟨rfl, H8⟩
  refine r_cons (s_assign (.int .i64 (dgE d)) rfl rfl ?_)
  refine r_nil ?_
  refine g_seq ?_
  refine g_region ?_
  refine r_cons (s_move (.int .i64 (dgE d)) rfl rfl ?_)
  by_cases hc9 : dgE d = 0
  · skip
    refine r_cons (s_neq false rfl rfl (ntrue hc9) rfl ?_)
    refine r_nil ?_
    refine g_false rfl ?_
    refine g_skip ?_
    refine g_seq ?_
    refine g_region ?_
    refine r_cons (s_loadAgg [.int .i64 d.frm.v, .int .i64 d.to_.v, .int .i64 d.kind.v, .int .i64 d.seq.v, .int .i64 d.ack.v, .slice pp1 d.body.length cc2] 6 ag_24 rfl (H8.blk_at (i := 0) rfl) (Nat.le_of_ble_eq_true rfl) rfl rfl ?_)
    have hd : dgE d = 0 := by assumption
    have hle := dgBits_le hd
    have hhl : (dgHead d).length ≤ 20000 := by show (pk (dgBits d)).length ≤ _; rw [pk_len]; omega
    have hsl := sumN_lt (dgHead d)
    refine r_cons (s_call [.agg #[.int .i64 d.frm.v, .int .i64 d.to_.v, .int .i64 d.kind.v, .int .i64 d.seq.v, .int .i64 d.ack.v, .slice pp1 d.body.length cc2]] pl_36 rfl rfl (frame_form d _ (by assumption) hA_d (j := j + 1) (by exact hj) H8) ?_)
    rintro _ w12 ⟨pp10, _, cc11, rfl, rfl, H13⟩
    refine r_cons (s_assign (.slice pp10 ((dgHead d).length) cc11) rfl rfl ?_)
    refine r_nil ?_
    refine g_seq ?_
    refine g_region ?_
    refine r_cons (s_move (.slice pp10 ((dgHead d).length) cc11) rfl rfl ?_)
    refine r_cons (s_buildSlice H13 1 1 (cs := #[.slice pp10 ((dgHead d).length) cc11]) #[.slice none 0 0] el_64 ze_22 (by decide) (by decide) (by kernel_rfl) rfl ?_); intro bk14 w15 H16
    have H17 : St W w15 (blk bk14 (.cells #[.slice pp10 ((dgHead d).length) cc11] 22 (0, 0)) :: Row 5 1 (.slice pp10 ((dgHead d).length) cc11) ((dgHead d).length) ((dgHead d).flatMap u8c) :: blk bk4 (.cells #[.int .i64 d.frm.v, .int .i64 d.to_.v, .int .i64 d.kind.v, .int .i64 d.seq.v, .int .i64 d.ack.v, .slice pp1 d.body.length cc2] 24 (0, 0)) :: F) := (((H16.move 2 rfl).move 2 rfl).move 2 rfl)
    refine r_cons (s_call [.slice (some ⟨bk14, 0, none⟩) 1 1] pl_20 rfl rfl (Sum1_row bk14 (dgHead d) _ H17) ?_)
    rintro _ w18 ⟨rfl, H19⟩
    refine r_cons (s_assign (.int .u32 ((sumN (dgHead d) : Nat) : Int)) rfl rfl ?_)
    refine r_nil ?_
    refine g_seq ?_
    refine g_region ?_
    refine r_cons (s_move (.slice pp10 ((dgHead d).length) cc11) rfl rfl ?_)
    refine r_cons (s_move (.int .u32 ((sumN (dgHead d) : Nat) : Int)) rfl rfl ?_)
    refine r_cons (s_shr (((sumN (dgHead d)) / 2 ^ 24 : Nat) : Int) rfl rfl (by omega) (shr_nat (k := 24) rfl (by decide)) rfl ?_)
    refine r_cons (s_conv (((sumN (dgHead d)) / 2 ^ 24 : Nat) : Int) rfl us_37 ik_5 (wu8 (by omega)) rfl ?_)
    refine r_cons (s_move (.int .u32 ((sumN (dgHead d) : Nat) : Int)) rfl rfl ?_)
    refine r_cons (s_shr (((sumN (dgHead d)) / 2 ^ 16 : Nat) : Int) rfl rfl (by omega) (shr_nat (k := 16) rfl (by decide)) rfl ?_)
    refine r_cons (s_conv (((sumN (dgHead d)) / 2 ^ 16 % 256 : Nat) : Int) rfl us_37 ik_5 (wrap8 _) rfl ?_)
    refine r_cons (s_move (.int .u32 ((sumN (dgHead d) : Nat) : Int)) rfl rfl ?_)
    refine r_cons (s_shr (((sumN (dgHead d)) / 2 ^ 8 : Nat) : Int) rfl rfl (by omega) (shr_nat (k := 8) rfl (by decide)) rfl ?_)
    refine r_cons (s_conv (((sumN (dgHead d)) / 2 ^ 8 % 256 : Nat) : Int) rfl us_37 ik_5 (wrap8 _) rfl ?_)
    refine r_cons (s_move (.int .u32 ((sumN (dgHead d) : Nat) : Int)) rfl rfl ?_)
    refine r_cons (s_conv ((sumN (dgHead d) % 256 : Nat) : Int) rfl us_37 ik_5 (wrap8 _) rfl ?_)
    refine r_cons (s_buildSlice H19 1 4 (cs := #[.int .u8 (((sumN (dgHead d)) / 2 ^ 24 : Nat) : Int), .int .u8 (((sumN (dgHead d)) / 2 ^ 16 % 256 : Nat) : Int), .int .u8 (((sumN (dgHead d)) / 2 ^ 8 % 256 : Nat) : Int), .int .u8 ((sumN (dgHead d) % 256 : Nat) : Int)]) #[.int .u8 0] el_22 ze_5 (by decide) (by decide) (by kernel_rfl) rfl ?_); intro bk20 w21 H22
    refine r_cons (s_append H22 2 rfl rfl rfl (rd_blk (H22.blk_at (i := 0) rfl) rfl (Nat.le_of_ble_eq_true rfl) (by simp [Value.oneCell'])) ap_22 (by decide) (by unfold maxLen; omega) (by omega) (n' := (dgHead d).length + 4) (xs' := (dgBytes d).flatMap u8c) (by omega) (by rw [dgBytes_yes hd, List.flatMap_append, sumB_cells hsl]; rfl) rfl ?_); intro vv23 w24 H25 hn26
    obtain ⟨pp27, cc28, rfl⟩ := Row.slice H25 (i := 2) rfl
    refine r_cons (s_assign (.slice pp27 ((dgHead d).length + 4) cc28) rfl rfl ?_)
    refine r_cons (s_assign (.int .i64 0) rfl rfl ?_)
    refine r_nil ?_
    refine g_ret' [.slice pp27 ((dgHead d).length + 4) cc28, .int .i64 0] Try.func14 Try.results14 ⟨rfl, rfl, trivial⟩ ?_
    have H29 : St W w24 (Row 5 1 (.slice pp27 ((dgHead d).length + 4) cc28) ((dgHead d).length + 4) ((dgBytes d).flatMap u8c) :: F) := ((((H25.move 2 rfl).drop 1 rfl).drop 1 rfl).drop 1 rfl)
    exact ⟨_, _, _, by rw [hd]; rfl, by rw [dgBytes_yes hd, List.length_append, sumB_len], H29⟩
  · skip
    refine r_cons (s_neq true rfl rfl (nfalse hc9) rfl ?_)
    refine r_nil ?_
    refine g_true rfl ?_
    refine g_seq ?_
    refine g_region ?_
    refine r_cons (s_move (.int .i64 (dgE d)) rfl rfl ?_)
    refine r_cons (s_assign (.slice none 0 0) rfl rfl ?_)
    refine r_cons (s_assign (.int .i64 (dgE d)) rfl rfl ?_)
    refine r_nil ?_
    refine g_ret' [.slice none 0 0, .int .i64 (dgE d)] Try.func14 Try.results14 ⟨rfl, rfl, trivial⟩ ?_
    have H30 := Row.nil_intro H8 5 1
    have H31 : St W w7 (Row 5 1 (.slice none 0 0) 0 [] :: F) := (H30.drop 1 rfl)
    have hno : ¬ dgE d = 0 := by assumption
    exact ⟨none, 0, 0, rfl, by rw [dgBytes_no hno]; rfl, by rw [dgBytes_no hno]; exact H31⟩
set_option maxHeartbeats 4000000 in
set_option maxRecDepth 100000 in
theorem ref02_Encode {W w : World} {F : List Atom} (d : DgM) (bv_d : Value) {A_d : Atom} (hA_d : RdA A_d 1 bv_d d.body.length (d.body.flatMap u8c)) {j : Nat} (hj : F[j]? = some A_d) (H : St W w F) : Calls Try.prog 17 #[.agg #[.int .i64 d.frm.v, .int .i64 d.to_.v, .int .i64 d.kind.v, .int .i64 d.seq.v, .int .i64 d.ack.v, bv_d]] w (Ret fun v w' => ∃ p n c, v = .tuple #[.slice p n c, .int .i64 (dgE d)] ∧ n = (dgBytes d).length ∧ St W w' (Row 5 1 (.slice p n c) n ((dgBytes d).flatMap u8c) :: F)) := by
  have hml := (hA_d _ _ _ j H hj).2
  obtain ⟨pp1, cc2, rfl, hn3⟩ := Rd.shape (hA_d _ _ _ j H hj).1
  refine calls_of_go (n := 30) Try.func17 rfl Try.ntmps17 rfl ?_
  refine g_seq ?_
  refine g_region ?_
  refine r_cons (s_box H 24 (.agg #[.int .i64 d.frm.v, .int .i64 d.to_.v, .int .i64 d.kind.v, .int .i64 d.seq.v, .int .i64 d.ack.v, .slice pp1 d.body.length cc2]) rfl (cs := #[.int .i64 d.frm.v, .int .i64 d.to_.v, .int .i64 d.kind.v, .int .i64 d.seq.v, .int .i64 d.ack.v, .slice pp1 d.body.length cc2]) rfl rfl ?_); intro bk4 w5 H6
  refine r_cons (s_assign (.slice none 0 0) rfl rfl ?_)
  refine r_cons (s_assign (.int .i64 0) rfl rfl ?_)
  refine r_nil ?_
  refine g_seq ?_
  refine g_seq ?_
  refine g_region ?_
  refine r_cons (s_loadAgg [.int .i64 d.frm.v, .int .i64 d.to_.v, .int .i64 d.kind.v, .int .i64 d.seq.v, .int .i64 d.ack.v, .slice pp1 d.body.length cc2] 6 ag_24 rfl (H6.blk_at (i := 0) rfl) (Nat.le_of_ble_eq_true rfl) rfl rfl ?_)
  refine r_cons (s_call [.agg #[.int .i64 d.frm.v, .int .i64 d.to_.v, .int .i64 d.kind.v, .int .i64 d.seq.v, .int .i64 d.ack.v, .slice pp1 d.body.length cc2]] pl_25 rfl rfl (eyrieref02_Check d _ hA_d (j := j + 1) (by exact hj) H6) ?_)
  rintro _ w7 ⟨rfl, H8⟩
  refine r_cons (s_assign (.int .i64 (dgE d)) rfl rfl ?_)
  refine r_nil ?_
  refine g_seq ?_
  refine g_region ?_
  refine r_cons (s_move (.int .i64 (dgE d)) rfl rfl ?_)
  by_cases hc9 : dgE d = 0
  · skip
    refine r_cons (s_neq false rfl rfl (ntrue hc9) rfl ?_)
    refine r_nil ?_
    refine g_false rfl ?_
    refine g_skip ?_
    refine g_seq ?_
    refine g_region ?_
    refine r_cons (s_loadAgg [.int .i64 d.frm.v, .int .i64 d.to_.v, .int .i64 d.kind.v, .int .i64 d.seq.v, .int .i64 d.ack.v, .slice pp1 d.body.length cc2] 6 ag_24 rfl (H8.blk_at (i := 0) rfl) (Nat.le_of_ble_eq_true rfl) rfl rfl ?_)
    have hd : dgE d = 0 := by assumption
    have hle := dgBits_le hd
    have hhl : (dgHead d).length ≤ 20000 := by show (pk (dgBits d)).length ≤ _; rw [pk_len]; omega
    have hsl := sumN_lt (dgHead d)
    refine r_cons (s_call [.agg #[.int .i64 d.frm.v, .int .i64 d.to_.v, .int .i64 d.kind.v, .int .i64 d.seq.v, .int .i64 d.ack.v, .slice pp1 d.body.length cc2]] pl_39 rfl rfl (ref02_head d _ (by assumption) hA_d (j := j + 1) (by exact hj) H8) ?_)
    rintro _ w12 ⟨pp10, _, cc11, rfl, rfl, H13⟩
    refine r_cons (s_assign (.slice pp10 ((dgHead d).length) cc11) rfl rfl ?_)
    refine r_nil ?_
    refine g_seq ?_
    refine g_region ?_
    refine r_cons (s_move (.slice pp10 ((dgHead d).length) cc11) rfl rfl ?_)
    refine r_cons (s_call [.slice pp10 ((dgHead d).length) cc11] pl_21 rfl rfl (ref02_Sum_row (dgHead d) _ (i := 0) rfl H13) ?_)
    rintro _ w14 ⟨rfl, H15⟩
    refine r_cons (s_assign (.int .u32 ((sumN (dgHead d) : Nat) : Int)) rfl rfl ?_)
    refine r_nil ?_
    refine g_seq ?_
    refine g_region ?_
    refine r_cons (s_move (.slice pp10 ((dgHead d).length) cc11) rfl rfl ?_)
    refine r_cons (s_move (.int .u32 ((sumN (dgHead d) : Nat) : Int)) rfl rfl ?_)
    refine r_cons (s_shr (((sumN (dgHead d)) / 2 ^ 24 : Nat) : Int) rfl rfl (by omega) (shr_nat (k := 24) rfl (by decide)) rfl ?_)
    refine r_cons (s_conv (((sumN (dgHead d)) / 2 ^ 24 : Nat) : Int) rfl us_37 ik_5 (wu8 (by omega)) rfl ?_)
    refine r_cons (s_move (.int .u32 ((sumN (dgHead d) : Nat) : Int)) rfl rfl ?_)
    refine r_cons (s_shr (((sumN (dgHead d)) / 2 ^ 16 : Nat) : Int) rfl rfl (by omega) (shr_nat (k := 16) rfl (by decide)) rfl ?_)
    refine r_cons (s_conv (((sumN (dgHead d)) / 2 ^ 16 % 256 : Nat) : Int) rfl us_37 ik_5 (wrap8 _) rfl ?_)
    refine r_cons (s_move (.int .u32 ((sumN (dgHead d) : Nat) : Int)) rfl rfl ?_)
    refine r_cons (s_shr (((sumN (dgHead d)) / 2 ^ 8 : Nat) : Int) rfl rfl (by omega) (shr_nat (k := 8) rfl (by decide)) rfl ?_)
    refine r_cons (s_conv (((sumN (dgHead d)) / 2 ^ 8 % 256 : Nat) : Int) rfl us_37 ik_5 (wrap8 _) rfl ?_)
    refine r_cons (s_move (.int .u32 ((sumN (dgHead d) : Nat) : Int)) rfl rfl ?_)
    refine r_cons (s_conv ((sumN (dgHead d) % 256 : Nat) : Int) rfl us_37 ik_5 (wrap8 _) rfl ?_)
    refine r_cons (s_buildSlice H15 1 4 (cs := #[.int .u8 (((sumN (dgHead d)) / 2 ^ 24 : Nat) : Int), .int .u8 (((sumN (dgHead d)) / 2 ^ 16 % 256 : Nat) : Int), .int .u8 (((sumN (dgHead d)) / 2 ^ 8 % 256 : Nat) : Int), .int .u8 ((sumN (dgHead d) % 256 : Nat) : Int)]) #[.int .u8 0] el_22 ze_5 (by decide) (by decide) (by kernel_rfl) rfl ?_); intro bk16 w17 H18
    refine r_cons (s_append H18 1 rfl rfl rfl (rd_blk (H18.blk_at (i := 0) rfl) rfl (Nat.le_of_ble_eq_true rfl) (by simp [Value.oneCell'])) ap_22 (by decide) (by unfold maxLen; omega) (by omega) (n' := (dgHead d).length + 4) (xs' := (dgBytes d).flatMap u8c) (by omega) (by rw [dgBytes_yes hd, List.flatMap_append, sumB_cells hsl]; rfl) rfl ?_); intro vv19 w20 H21 hn22
    obtain ⟨pp23, cc24, rfl⟩ := Row.slice H21 (i := 1) rfl
    refine r_cons (s_assign (.slice pp23 ((dgHead d).length + 4) cc24) rfl rfl ?_)
    refine r_cons (s_assign (.int .i64 0) rfl rfl ?_)
    refine r_nil ?_
    refine g_ret' [.slice pp23 ((dgHead d).length + 4) cc24, .int .i64 0] Try.func17 Try.results17 ⟨rfl, rfl, trivial⟩ ?_
    have H25 : St W w20 (Row 5 1 (.slice pp23 ((dgHead d).length + 4) cc24) ((dgHead d).length + 4) ((dgBytes d).flatMap u8c) :: F) := (((H21.move 1 rfl).drop 1 rfl).drop 1 rfl)
    exact ⟨_, _, _, by rw [hd]; rfl, by rw [dgBytes_yes hd, List.length_append, sumB_len], H25⟩
  · skip
    refine r_cons (s_neq true rfl rfl (nfalse hc9) rfl ?_)
    refine r_nil ?_
    refine g_true rfl ?_
    refine g_seq ?_
    refine g_region ?_
    refine r_cons (s_move (.int .i64 (dgE d)) rfl rfl ?_)
    refine r_cons (s_assign (.slice none 0 0) rfl rfl ?_)
    refine r_cons (s_assign (.int .i64 (dgE d)) rfl rfl ?_)
    refine r_nil ?_
    refine g_ret' [.slice none 0 0, .int .i64 (dgE d)] Try.func17 Try.results17 ⟨rfl, rfl, trivial⟩ ?_
    have H26 := Row.nil_intro H8 5 1
    have H27 : St W w7 (Row 5 1 (.slice none 0 0) 0 [] :: F) := (H26.drop 1 rfl)
    have hno : ¬ dgE d = 0 := by assumption
    exact ⟨none, 0, 0, rfl, by rw [dgBytes_no hno]; rfl, by rw [dgBytes_no hno]; exact H27⟩
set_option maxHeartbeats 4000000 in
set_option maxRecDepth 100000 in
theorem frame_Size {W w : World} {F : List Atom} (d : DgM) (bv_d : Value) {A_d : Atom} (hA_d : RdA A_d 1 bv_d d.body.length (d.body.flatMap u8c)) {j : Nat} (hj : F[j]? = some A_d) (H : St W w F) : Calls Try.prog 19 #[.agg #[.int .i64 d.frm.v, .int .i64 d.to_.v, .int .i64 d.kind.v, .int .i64 d.seq.v, .int .i64 d.ack.v, bv_d]] w (Ret fun v w' => v = .int .i64 ((dgBytes d).length : Int) ∧ St W w' F) := by
  have hml := (hA_d _ _ _ j H hj).2
  obtain ⟨pp1, cc2, rfl, hn3⟩ := Rd.shape (hA_d _ _ _ j H hj).1
  refine calls_of_go (n := 12) Try.func19 rfl Try.ntmps19 rfl ?_
  refine g_seq ?_
  refine g_region ?_
  refine r_cons (s_box H 24 (.agg #[.int .i64 d.frm.v, .int .i64 d.to_.v, .int .i64 d.kind.v, .int .i64 d.seq.v, .int .i64 d.ack.v, .slice pp1 d.body.length cc2]) rfl (cs := #[.int .i64 d.frm.v, .int .i64 d.to_.v, .int .i64 d.kind.v, .int .i64 d.seq.v, .int .i64 d.ack.v, .slice pp1 d.body.length cc2]) rfl rfl ?_); intro bk4 w5 H6
  refine r_cons (s_assign (.int .i64 0) rfl rfl ?_)
  refine r_nil ?_
  refine g_seq ?_
  refine g_region ?_
  refine r_cons (s_loadAgg [.int .i64 d.frm.v, .int .i64 d.to_.v, .int .i64 d.kind.v, .int .i64 d.seq.v, .int .i64 d.ack.v, .slice pp1 d.body.length cc2] 6 ag_24 rfl (H6.blk_at (i := 0) rfl) (Nat.le_of_ble_eq_true rfl) rfl rfl ?_)
  refine r_cons (s_call [.agg #[.int .i64 d.frm.v, .int .i64 d.to_.v, .int .i64 d.kind.v, .int .i64 d.seq.v, .int .i64 d.ack.v, .slice pp1 d.body.length cc2]] pl_14 rfl rfl (frame_Encode d _ hA_d (j := j + 1) (by exact hj) H6) ?_)
  rintro _ w9 ⟨pp7, _, cc8, rfl, rfl, H10⟩
  refine r_cons (s_move (.tuple #[.slice pp7 ((dgBytes d).length) cc8, .int .i64 (dgE d)]) rfl rfl ?_)
  refine r_cons (s_extract (.slice pp7 ((dgBytes d).length) cc8) #[.slice pp7 ((dgBytes d).length) cc8, .int .i64 (dgE d)] rfl rfl rfl ?_)
  refine r_cons (s_extract (.int .i64 (dgE d)) #[.slice pp7 ((dgBytes d).length) cc8, .int .i64 (dgE d)] rfl rfl rfl ?_)
  refine r_cons (s_assign (.slice pp7 ((dgBytes d).length) cc8) rfl rfl ?_)
  refine r_cons (s_assign (.int .i64 (dgE d)) rfl rfl ?_)
  refine r_nil ?_
  refine g_seq ?_
  refine g_region ?_
  refine r_cons (s_move (.slice pp7 ((dgBytes d).length) cc8) rfl rfl ?_)
  refine r_cons (s_len ((dgBytes d).length) rfl ⟨_, un_22⟩ rfl ?_)
  refine r_cons (s_assign (.int .i64 ((dgBytes d).length : Int)) rfl rfl ?_)
  refine r_nil ?_
  refine g_ret' [.int .i64 ((dgBytes d).length : Int)] Try.func19 Try.results19 ⟨rfl, trivial⟩ ?_
  have H11 : St W w9 F := ((H10.drop 0 rfl).drop 0 rfl)
  exact ⟨rfl, H11⟩
set_option maxHeartbeats 4000000 in
set_option maxRecDepth 100000 in
theorem rd_bits_ok {W w : World} {F : List Atom} (r b : Nat) (bs : List UInt8) (p : Nat) (hp : p ≤ 8 * bs.length) (hb : bs.length ≤ 140737488355328) (kk_ : Int) (hk : 0 ≤ kk_ ∧ kk_ ≤ 8) (H : St W w (blk r (.cells #[.pointer (some ⟨b, 0, none⟩), .int .i64 0] 50 (0, 0)) :: SrcA b bs p :: F)) : Calls Try.prog 27 #[.pointer (some ⟨r, 0, none⟩), .int .i64 kk_] w (Ret fun v w' => (srcE (remB bs p) kk_ = 0 ∧ v = .int .i64 (srcU (remB bs p) kk_ : Int) ∧ ∃ p', remB bs p' = (remB bs p).drop (srcN (remB bs p) kk_) ∧ p' ≤ 8 * bs.length ∧ St W w' (blk r (.cells #[.pointer (some ⟨b, 0, none⟩), .int .i64 0] 50 (0, 0)) :: SrcA b bs p' :: F)) ∨ (¬ srcE (remB bs p) kk_ = 0 ∧ v = .int .i64 0 ∧ St W w' (blk r (.cells #[.pointer (some ⟨b, 0, none⟩), .int .i64 (srcE (remB bs p) kk_)] 50 (0, 0)) :: SrcA b bs p :: F))) := by
  refine calls_of_go (n := 27) Try.func27 rfl Try.ntmps27 rfl ?_
  refine g_seq ?_
  refine g_region ?_
  refine r_cons (s_assign (.int .i64 0) rfl rfl ?_)
  refine r_nil ?_
  refine g_seq ?_
  refine g_seq ?_
  refine g_region ?_
  refine r_cons (s_move (.pointer (some ⟨r, 0, none⟩)) rfl rfl ?_)
  refine r_cons (s_nilCheck (.pointer (some ⟨r, 0, none⟩)) rfl ⟨_, rfl⟩ rfl ?_)
  refine r_cons (s_fieldAddr 50 1 1 1 25 rfl fi_50_1 rfl rfl ?_)
  refine r_cons (s_load (.int .i64 0) ag_25 rfl (H.blk_at (i := 0) rfl) rfl rfl ?_)
  refine r_cons (s_neq false rfl rfl (ntrue (by decide)) rfl ?_)
  refine r_nil ?_
  refine g_false rfl ?_
  refine g_skip ?_
  refine g_seq ?_
  refine g_region ?_
  refine r_cons (s_move (.pointer (some ⟨r, 0, none⟩)) rfl rfl ?_)
  refine r_cons (s_nilCheck (.pointer (some ⟨r, 0, none⟩)) rfl ⟨_, rfl⟩ rfl ?_)
  refine r_cons (s_fieldAddr 50 0 0 0 47 rfl fi_50_0 rfl rfl ?_)
  refine r_cons (s_load (.pointer (some ⟨b, 0, none⟩)) ag_47 rfl (H.blk_at (i := 0) rfl) rfl rfl ?_)
  refine r_cons (s_move (.int .i64 kk_) rfl rfl ?_)
  refine r_cons (s_call [.pointer (some ⟨b, 0, none⟩), .int .i64 kk_] pl_43 rfl rfl (Src_Bits b bs p (by first | omega | decide +kernel | (repeat (first | assumption | exact Nat.zero_le _ | refine natN_pos ?_ | refine srcN_pos ?_ | refine textN_pos ?_))) (by first | omega | decide +kernel) kk_  (i := 1) rfl H) ?_)
  rintro _ w1 ⟨rfl, H2⟩
  refine r_cons (s_move (.tuple #[.int .u64 (srcU (remB bs p) kk_ : Int), .int .i64 (srcE (remB bs p) kk_)]) rfl rfl ?_)
  refine r_cons (s_extract (.int .u64 (srcU (remB bs p) kk_ : Int)) #[.int .u64 (srcU (remB bs p) kk_ : Int), .int .i64 (srcE (remB bs p) kk_)] rfl rfl rfl ?_)
  refine r_cons (s_extract (.int .i64 (srcE (remB bs p) kk_)) #[.int .u64 (srcU (remB bs p) kk_ : Int), .int .i64 (srcE (remB bs p) kk_)] rfl rfl rfl ?_)
  refine r_cons (s_assign (.int .u64 (srcU (remB bs p) kk_ : Int)) rfl rfl ?_)
  refine r_cons (s_assign (.int .i64 (srcE (remB bs p) kk_)) rfl rfl ?_)
  refine r_nil ?_
  refine g_seq ?_
  refine g_region ?_
  refine r_cons (s_move (.pointer (some ⟨r, 0, none⟩)) rfl rfl ?_)
  refine r_cons (s_move (.int .i64 (srcE (remB bs p) kk_)) rfl rfl ?_)
  refine r_cons (s_nilCheck (.pointer (some ⟨r, 0, none⟩)) rfl ⟨_, rfl⟩ rfl ?_)
  refine r_cons (s_fieldAddr 50 1 1 1 25 rfl fi_50_1 rfl rfl ?_)
  refine r_cons (s_store H2 0 (.int .i64 (srcE (remB bs p) kk_)) rfl rfl rfl sz_25 rfl (Nat.le_of_ble_eq_true rfl) rfl (cs' := #[.pointer (some ⟨b, 0, none⟩), .int .i64 (srcE (remB bs p) kk_)]) rfl ?_); intro w3 H4
  refine r_nil ?_
  refine g_seq ?_
  refine g_region ?_
  refine r_cons (s_move (.int .u64 (srcU (remB bs p) kk_ : Int)) rfl rfl ?_)
  have hlt := srcU_lt8 (R := remB bs p) hk
  refine r_cons (s_conv (srcU (remB bs p) kk_ : Int) rfl us_54 ik_3 (wi64 (by omega)) rfl ?_)
  refine r_cons (s_assign (.int .i64 (srcU (remB bs p) kk_ : Int)) rfl rfl ?_)
  refine r_nil ?_
  refine g_ret' [.int .i64 (srcU (remB bs p) kk_ : Int)] Try.func27 Try.results27 ⟨rfl, trivial⟩ ?_
  have H5 : St W w3 (blk r (.cells #[.pointer (some ⟨b, 0, none⟩), .int .i64 (srcE (remB bs p) kk_)] 50 (0, 0)) :: SrcA b bs (p + srcN (remB bs p) kk_) :: F) := ((H4.move 1 rfl).move 1 rfl)
  rcases Decidable.em (srcE (remB bs p) kk_ = 0) with he | he
  · refine .inl ⟨he, rfl, p + srcN (remB bs p) kk_, remB_drop bs p _ ▸ rfl, srcN_pos hp, ?_⟩
    have hx := H5
    rw [he] at hx
    exact hx
  · refine .inr ⟨he, by rw [srcU_no he]; rfl, ?_⟩
    have hx := H5
    rw [srcN_no he] at hx
    exact hx
set_option maxHeartbeats 4000000 in
set_option maxRecDepth 100000 in
theorem rd_bits_no {W w : World} {F : List Atom} (r b : Nat) (e : Int) (he : ¬ e = 0) (kk_ : Int) (hk : 0 ≤ kk_ ∧ kk_ ≤ 8) {i : Nat} (hi : F[i]? = some (blk r (.cells #[.pointer (some ⟨b, 0, none⟩), .int .i64 e] 50 (0, 0)))) (H : St W w F) : Calls Try.prog 27 #[.pointer (some ⟨r, 0, none⟩), .int .i64 kk_] w (Ret fun v w' => v = .int .i64 0 ∧ St W w' F) := by
  have H0 := H.front hi
  refine calls_of_go (n := 27) Try.func27 rfl Try.ntmps27 rfl ?_
  refine g_seq ?_
  refine g_region ?_
  refine r_cons (s_assign (.int .i64 0) rfl rfl ?_)
  refine r_nil ?_
  refine g_seq ?_
  refine g_seq ?_
  refine g_region ?_
  refine r_cons (s_move (.pointer (some ⟨r, 0, none⟩)) rfl rfl ?_)
  refine r_cons (s_nilCheck (.pointer (some ⟨r, 0, none⟩)) rfl ⟨_, rfl⟩ rfl ?_)
  refine r_cons (s_fieldAddr 50 1 1 1 25 rfl fi_50_1 rfl rfl ?_)
  refine r_cons (s_load (.int .i64 e) ag_25 rfl (H0.blk_at (i := 0) rfl) rfl rfl ?_)
  refine r_cons (s_neq true rfl rfl (nfalse he) rfl ?_)
  refine r_nil ?_
  refine g_true rfl ?_
  refine g_seq ?_
  refine g_region ?_
  refine r_cons (s_assign (.int .i64 0) rfl rfl ?_)
  refine r_nil ?_
  refine g_ret' [.int .i64 0] Try.func27 Try.results27 ⟨rfl, trivial⟩ ?_
  have H1 : St W w (blk r (.cells #[.pointer (some ⟨b, 0, none⟩), .int .i64 e] 50 (0, 0)) :: (F.set i emp)) := H0
  exact ⟨rfl, St.back_same hi H1⟩
set_option maxHeartbeats 4000000 in
set_option maxRecDepth 100000 in
theorem rd_nat_ok {W w : World} {F : List Atom} (r b : Nat) (bs : List UInt8) (p : Nat) (hp : p ≤ 8 * bs.length) (hb : bs.length ≤ 140737488355328) (H : St W w (blk r (.cells #[.pointer (some ⟨b, 0, none⟩), .int .i64 0] 50 (0, 0)) :: SrcA b bs p :: F)) : Calls Try.prog 30 #[.pointer (some ⟨r, 0, none⟩)] w (Ret fun v w' => (natE (remB bs p) = 0 ∧ v = .int .u64 (natU (remB bs p) : Int) ∧ ∃ p', remB bs p' = (remB bs p).drop (natN (remB bs p)) ∧ p' ≤ 8 * bs.length ∧ St W w' (blk r (.cells #[.pointer (some ⟨b, 0, none⟩), .int .i64 0] 50 (0, 0)) :: SrcA b bs p' :: F)) ∨ (¬ natE (remB bs p) = 0 ∧ v = .int .u64 0 ∧ St W w' (blk r (.cells #[.pointer (some ⟨b, 0, none⟩), .int .i64 (natE (remB bs p))] 50 (0, 0)) :: SrcA b bs p :: F))) := by
  refine calls_of_go (n := 23) Try.func30 rfl Try.ntmps30 rfl ?_
  refine g_seq ?_
  refine g_region ?_
  refine r_cons (s_assign (.int .u64 0) rfl rfl ?_)
  refine r_nil ?_
  refine g_seq ?_
  refine g_seq ?_
  refine g_region ?_
  refine r_cons (s_move (.pointer (some ⟨r, 0, none⟩)) rfl rfl ?_)
  refine r_cons (s_nilCheck (.pointer (some ⟨r, 0, none⟩)) rfl ⟨_, rfl⟩ rfl ?_)
  refine r_cons (s_fieldAddr 50 1 1 1 25 rfl fi_50_1 rfl rfl ?_)
  refine r_cons (s_load (.int .i64 0) ag_25 rfl (H.blk_at (i := 0) rfl) rfl rfl ?_)
  refine r_cons (s_neq false rfl rfl (ntrue (by decide)) rfl ?_)
  refine r_nil ?_
  refine g_false rfl ?_
  refine g_skip ?_
  refine g_seq ?_
  refine g_region ?_
  refine r_cons (s_move (.pointer (some ⟨r, 0, none⟩)) rfl rfl ?_)
  refine r_cons (s_nilCheck (.pointer (some ⟨r, 0, none⟩)) rfl ⟨_, rfl⟩ rfl ?_)
  refine r_cons (s_fieldAddr 50 0 0 0 47 rfl fi_50_0 rfl rfl ?_)
  refine r_cons (s_load (.pointer (some ⟨b, 0, none⟩)) ag_47 rfl (H.blk_at (i := 0) rfl) rfl rfl ?_)
  refine r_cons (s_call [.pointer (some ⟨b, 0, none⟩)] pl_44 rfl rfl (Src_Nat b bs p (by first | omega | decide +kernel | (repeat (first | assumption | exact Nat.zero_le _ | refine natN_pos ?_ | refine srcN_pos ?_ | refine textN_pos ?_))) (by first | omega | decide +kernel)   (i := 1) rfl H) ?_)
  rintro _ w1 ⟨rfl, H2⟩
  refine r_cons (s_move (.tuple #[.int .u64 (natU (remB bs p) : Int), .int .i64 (natE (remB bs p))]) rfl rfl ?_)
  refine r_cons (s_extract (.int .u64 (natU (remB bs p) : Int)) #[.int .u64 (natU (remB bs p) : Int), .int .i64 (natE (remB bs p))] rfl rfl rfl ?_)
  refine r_cons (s_extract (.int .i64 (natE (remB bs p))) #[.int .u64 (natU (remB bs p) : Int), .int .i64 (natE (remB bs p))] rfl rfl rfl ?_)
  refine r_cons (s_assign (.int .u64 (natU (remB bs p) : Int)) rfl rfl ?_)
  refine r_cons (s_assign (.int .i64 (natE (remB bs p))) rfl rfl ?_)
  refine r_nil ?_
  refine g_seq ?_
  refine g_region ?_
  refine r_cons (s_move (.pointer (some ⟨r, 0, none⟩)) rfl rfl ?_)
  refine r_cons (s_move (.int .i64 (natE (remB bs p))) rfl rfl ?_)
  refine r_cons (s_nilCheck (.pointer (some ⟨r, 0, none⟩)) rfl ⟨_, rfl⟩ rfl ?_)
  refine r_cons (s_fieldAddr 50 1 1 1 25 rfl fi_50_1 rfl rfl ?_)
  refine r_cons (s_store H2 0 (.int .i64 (natE (remB bs p))) rfl rfl rfl sz_25 rfl (Nat.le_of_ble_eq_true rfl) rfl (cs' := #[.pointer (some ⟨b, 0, none⟩), .int .i64 (natE (remB bs p))]) rfl ?_); intro w3 H4
  refine r_nil ?_
  refine g_seq ?_
  refine g_region ?_
  refine r_cons (s_move (.int .u64 (natU (remB bs p) : Int)) rfl rfl ?_)
  refine r_cons (s_assign (.int .u64 (natU (remB bs p) : Int)) rfl rfl ?_)
  refine r_nil ?_
  refine g_ret' [.int .u64 (natU (remB bs p) : Int)] Try.func30 Try.results30 ⟨rfl, trivial⟩ ?_
  have H5 : St W w3 (blk r (.cells #[.pointer (some ⟨b, 0, none⟩), .int .i64 (natE (remB bs p))] 50 (0, 0)) :: SrcA b bs (p + natN (remB bs p)) :: F) := ((H4.move 1 rfl).move 1 rfl)
  rcases Decidable.em (natE (remB bs p) = 0) with he | he
  · refine .inl ⟨he, rfl, p + natN (remB bs p), remB_drop bs p _ ▸ rfl, natN_pos hp, ?_⟩
    have hx := H5
    rw [he] at hx
    exact hx
  · refine .inr ⟨he, by rw [natU_no he]; rfl, ?_⟩
    have hx := H5
    rw [natN_no he] at hx
    exact hx
set_option maxHeartbeats 4000000 in
set_option maxRecDepth 100000 in
theorem rd_nat_no {W w : World} {F : List Atom} (r b : Nat) (e : Int) (he : ¬ e = 0) {i : Nat} (hi : F[i]? = some (blk r (.cells #[.pointer (some ⟨b, 0, none⟩), .int .i64 e] 50 (0, 0)))) (H : St W w F) : Calls Try.prog 30 #[.pointer (some ⟨r, 0, none⟩)] w (Ret fun v w' => v = .int .u64 0 ∧ St W w' F) := by
  have H0 := H.front hi
  refine calls_of_go (n := 23) Try.func30 rfl Try.ntmps30 rfl ?_
  refine g_seq ?_
  refine g_region ?_
  refine r_cons (s_assign (.int .u64 0) rfl rfl ?_)
  refine r_nil ?_
  refine g_seq ?_
  refine g_seq ?_
  refine g_region ?_
  refine r_cons (s_move (.pointer (some ⟨r, 0, none⟩)) rfl rfl ?_)
  refine r_cons (s_nilCheck (.pointer (some ⟨r, 0, none⟩)) rfl ⟨_, rfl⟩ rfl ?_)
  refine r_cons (s_fieldAddr 50 1 1 1 25 rfl fi_50_1 rfl rfl ?_)
  refine r_cons (s_load (.int .i64 e) ag_25 rfl (H0.blk_at (i := 0) rfl) rfl rfl ?_)
  refine r_cons (s_neq true rfl rfl (nfalse he) rfl ?_)
  refine r_nil ?_
  refine g_true rfl ?_
  refine g_seq ?_
  refine g_region ?_
  refine r_cons (s_assign (.int .u64 0) rfl rfl ?_)
  refine r_nil ?_
  refine g_ret' [.int .u64 0] Try.func30 Try.results30 ⟨rfl, trivial⟩ ?_
  have H1 : St W w (blk r (.cells #[.pointer (some ⟨b, 0, none⟩), .int .i64 e] 50 (0, 0)) :: (F.set i emp)) := H0
  exact ⟨rfl, St.back_same hi H1⟩
set_option maxHeartbeats 4000000 in
set_option maxRecDepth 100000 in
theorem rd_fails_e {W w : World} {F : List Atom} (r b : Nat) (e : Int) (he : ¬ e = 0) (x : Bool) {i : Nat} (hi : F[i]? = some (blk r (.cells #[.pointer (some ⟨b, 0, none⟩), .int .i64 e] 50 (0, 0)))) (H : St W w F) : Calls Try.prog 28 #[.pointer (some ⟨r, 0, none⟩), .bool x] w (Ret fun v w' => v = .tuple #[] ∧ St W w' F) := by
  have H0 := H.front hi
  refine calls_of_go (n := 15) Try.func28 rfl Try.ntmps28 rfl ?_
  refine g_seq ?_
  refine g_region ?_
  refine r_cons (s_move (.pointer (some ⟨r, 0, none⟩)) rfl rfl ?_)
  refine r_cons (s_nilCheck (.pointer (some ⟨r, 0, none⟩)) rfl ⟨_, rfl⟩ rfl ?_)
  refine r_cons (s_fieldAddr 50 1 1 1 25 rfl fi_50_1 rfl rfl ?_)
  refine r_cons (s_load (.int .i64 e) ag_25 rfl (H0.blk_at (i := 0) rfl) rfl rfl ?_)
  refine r_cons (s_eql false rfl rfl (dfalse he) rfl ?_)
  refine r_cons (s_move (.bool false) rfl rfl ?_)
  refine r_cons (r_pass rfl rfl rfl rfl rfl ?_)
  refine r_cons (s_pick_f (.bool false) rfl rfl rfl ?_)
  refine r_nil ?_
  refine g_false rfl ?_
  refine g_skip ?_
  refine g_end' [] Try.func28 Try.results28 trivial ?_
  have H1 : St W w (blk r (.cells #[.pointer (some ⟨b, 0, none⟩), .int .i64 e] 50 (0, 0)) :: (F.set i emp)) := H0
  exact ⟨rfl, St.back_same hi H1⟩
set_option maxHeartbeats 4000000 in
set_option maxRecDepth 100000 in
theorem rd_fails_f {W w : World} {F : List Atom} (r b : Nat) {i : Nat} (hi : F[i]? = some (blk r (.cells #[.pointer (some ⟨b, 0, none⟩), .int .i64 0] 50 (0, 0)))) (H : St W w F) : Calls Try.prog 28 #[.pointer (some ⟨r, 0, none⟩), .bool false] w (Ret fun v w' => v = .tuple #[] ∧ St W w' F) := by
  have H0 := H.front hi
  refine calls_of_go (n := 15) Try.func28 rfl Try.ntmps28 rfl ?_
  refine g_seq ?_
  refine g_region ?_
  refine r_cons (s_move (.pointer (some ⟨r, 0, none⟩)) rfl rfl ?_)
  refine r_cons (s_nilCheck (.pointer (some ⟨r, 0, none⟩)) rfl ⟨_, rfl⟩ rfl ?_)
  refine r_cons (s_fieldAddr 50 1 1 1 25 rfl fi_50_1 rfl rfl ?_)
  refine r_cons (s_load (.int .i64 0) ag_25 rfl (H0.blk_at (i := 0) rfl) rfl rfl ?_)
  refine r_cons (s_eql true rfl rfl (dtrue (by decide)) rfl ?_)
  refine r_cons (s_move (.bool true) rfl rfl ?_)
  refine r_cons (r_take rfl rfl ?_)
  refine s_move (.bool false) rfl rfl ?_
  refine r_cons (s_pick_t (.bool false) rfl rfl rfl ?_)
  refine r_nil ?_
  refine g_false rfl ?_
  refine g_skip ?_
  refine g_end' [] Try.func28 Try.results28 trivial ?_
  have H1 : St W w (blk r (.cells #[.pointer (some ⟨b, 0, none⟩), .int .i64 0] 50 (0, 0)) :: (F.set i emp)) := H0
  exact ⟨rfl, St.back_same hi H1⟩
set_option maxHeartbeats 4000000 in
set_option maxRecDepth 100000 in
theorem rd_fails_t {W w : World} {F : List Atom} (r b : Nat) {i : Nat} (hi : F[i]? = some (blk r (.cells #[.pointer (some ⟨b, 0, none⟩), .int .i64 0] 50 (0, 0)))) (H : St W w F) : Calls Try.prog 28 #[.pointer (some ⟨r, 0, none⟩), .bool true] w (Ret fun v w' => v = .tuple #[] ∧ St W w' (F.set i (blk r (.cells #[.pointer (some ⟨b, 0, none⟩), .int .i64 21] 50 (0, 0))))) := by
  have H0 := H.front hi
  refine calls_of_go (n := 15) Try.func28 rfl Try.ntmps28 rfl ?_
  refine g_seq ?_
  refine g_region ?_
  refine r_cons (s_move (.pointer (some ⟨r, 0, none⟩)) rfl rfl ?_)
  refine r_cons (s_nilCheck (.pointer (some ⟨r, 0, none⟩)) rfl ⟨_, rfl⟩ rfl ?_)
  refine r_cons (s_fieldAddr 50 1 1 1 25 rfl fi_50_1 rfl rfl ?_)
  refine r_cons (s_load (.int .i64 0) ag_25 rfl (H0.blk_at (i := 0) rfl) rfl rfl ?_)
  refine r_cons (s_eql true rfl rfl (dtrue (by decide)) rfl ?_)
  refine r_cons (s_move (.bool true) rfl rfl ?_)
  refine r_cons (r_take rfl rfl ?_)
  refine s_move (.bool true) rfl rfl ?_
  refine r_cons (s_pick_t (.bool true) rfl rfl rfl ?_)
  refine r_nil ?_
  refine g_true rfl ?_
  refine g_region ?_
  refine r_cons (s_move (.pointer (some ⟨r, 0, none⟩)) rfl rfl ?_)
  refine r_cons (s_nilCheck (.pointer (some ⟨r, 0, none⟩)) rfl ⟨_, rfl⟩ rfl ?_)
  refine r_cons (s_fieldAddr 50 1 1 1 25 rfl fi_50_1 rfl rfl ?_)
  refine r_cons (s_store H0 0 (.int .i64 21) rfl rfl rfl sz_25 rfl (Nat.le_of_ble_eq_true rfl) rfl (cs' := #[.pointer (some ⟨b, 0, none⟩), .int .i64 21]) rfl ?_); intro w1 H2
  refine r_nil ?_
  refine g_end' [] Try.func28 Try.results28 trivial ?_
  have H3 : St W w1 (blk r (.cells #[.pointer (some ⟨b, 0, none⟩), .int .i64 21] 50 (0, 0)) :: (F.set i emp)) := H2
  exact ⟨rfl, St.back hi H3⟩
set_option maxHeartbeats 4000000 in
set_option maxRecDepth 100000 in
theorem frame_clip {W w : World} {F : List Atom} (u : Nat) (hu : u < 18446744073709551616) (H : St W w F) : Calls Try.prog 29 #[.int .u64 (u : Int)] w (Ret fun v w' => v = .int .i64 (tmN u) ∧ St W w' F) := by
  refine calls_of_go (n := 7) Try.func29 rfl Try.ntmps29 rfl ?_
  refine g_seq ?_
  refine g_region ?_
  refine r_cons (s_assign (.int .i64 0) rfl rfl ?_)
  refine r_nil ?_
  refine g_seq ?_
  refine g_seq ?_
  refine g_region ?_
  refine r_cons (s_move (.int .u64 (u : Int)) rfl rfl ?_)
  by_cases hc1 : (1099511627776 : Int) < (u : Int)
  · skip
    refine r_cons (s_gtr true rfl rfl (dtrue hc1) rfl ?_)
    refine r_nil ?_
    refine g_true rfl ?_
    refine g_seq ?_
    refine g_region ?_
    refine r_cons (s_assign (.int .i64 (-1)) rfl rfl ?_)
    refine r_nil ?_
    refine g_ret' [.int .i64 (-1)] Try.func29 Try.results29 ⟨rfl, trivial⟩ ?_
    have H2 : St W w F := H
    exact ⟨vint (by unfold tmN; first | (rw [if_pos (by omega)]; done) | (rw [if_neg (by omega)]; done)), H2⟩
  · skip
    refine r_cons (s_gtr false rfl rfl (dfalse hc1) rfl ?_)
    refine r_nil ?_
    refine g_false rfl ?_
    refine g_skip ?_
    refine g_seq ?_
    refine g_region ?_
    refine r_cons (s_move (.int .u64 (u : Int)) rfl rfl ?_)
    refine r_cons (s_conv (u : Int) rfl us_54 ik_2 (wi64 (by omega)) rfl ?_)
    refine r_cons (s_assign (.int .i64 (u : Int)) rfl rfl ?_)
    refine r_nil ?_
    refine g_ret' [.int .i64 (u : Int)] Try.func29 Try.results29 ⟨rfl, trivial⟩ ?_
    have H3 : St W w F := H
    exact ⟨vint (by unfold tmN; first | (rw [if_pos (by omega)]; done) | (rw [if_neg (by omega)]; done)), H3⟩
set_option maxHeartbeats 4000000 in
set_option maxRecDepth 100000 in
theorem rd_body_ok {W w : World} {F : List Atom} (r b : Nat) (bs : List UInt8) (p : Nat) (hp : p ≤ 8 * bs.length) (hb : bs.length ≤ 140737488355328) (H : St W w (blk r (.cells #[.pointer (some ⟨b, 0, none⟩), .int .i64 0] 50 (0, 0)) :: SrcA b bs p :: F)) : Calls Try.prog 31 #[.pointer (some ⟨r, 0, none⟩)] w (Ret fun v w' => (bodyE (remB bs p) = 0 ∧ ∃ q c p', v = .slice q (natU (remB bs p)) c ∧ remB bs p' = (remB bs p).drop (textN (remB bs p)) ∧ p' ≤ 8 * bs.length ∧ St W w' (Row 5 1 (.slice q (natU (remB bs p)) c) (natU (remB bs p)) ((textBytes (remB bs p)).flatMap u8c) :: blk r (.cells #[.pointer (some ⟨b, 0, none⟩), .int .i64 0] 50 (0, 0)) :: SrcA b bs p' :: F)) ∨ (¬ bodyE (remB bs p) = 0 ∧ ∃ q n c, v = .slice q n c ∧ ∃ p', St W w' (blk r (.cells #[.pointer (some ⟨b, 0, none⟩), .int .i64 (bodyE (remB bs p))] 50 (0, 0)) :: SrcA b bs p' :: F))) := by
  refine calls_of_go (n := 31) Try.func31 rfl Try.ntmps31 rfl ?_
  refine g_seq ?_
  refine g_region ?_
  refine r_cons (s_assign (.slice none 0 0) rfl rfl ?_)
  refine r_nil ?_
  refine g_seq ?_
  refine g_region ?_
  refine r_cons (s_move (.pointer (some ⟨r, 0, none⟩)) rfl rfl ?_)
  have H1 : St W w (blk r (.cells #[.pointer (some ⟨b, 0, none⟩), .int .i64 0] 50 (0, 0)) :: SrcA b bs p :: F) := ((H.move 1 rfl).move 1 rfl)
  refine r_cons (s_call [.pointer (some ⟨r, 0, none⟩)] pl_30 rfl rfl (rd_nat_ok r b bs p (by first | omega | decide +kernel | (repeat (first | assumption | exact Nat.zero_le _ | refine natN_pos ?_ | refine srcN_pos ?_ | refine textN_pos ?_))) (by omega)  H1) ?_)
  rintro _ w7 (⟨he2, rfl, q4, hR5, hp6, H3⟩ | ⟨he2, rfl, H3⟩)
  · skip
    refine r_cons (s_assign (.int .u64 (natU (remB bs p) : Int)) rfl rfl ?_)
    refine r_nil ?_
    refine g_seq ?_
    refine g_region ?_
    refine r_cons (s_move (.pointer (some ⟨r, 0, none⟩)) rfl rfl ?_)
    refine r_cons (s_move (.int .u64 (natU (remB bs p) : Int)) rfl rfl ?_)
    by_cases hc8 : (16384 : Int) < (natU (remB bs p) : Int)
    · skip
      refine r_cons (s_gtr true rfl rfl (dtrue hc8) rfl ?_)
      refine r_cons (s_call [.pointer (some ⟨r, 0, none⟩), .bool true] pl_28 rfl rfl (rd_fails_t r b (i := 0) rfl H3) ?_)
      rintro _ w9 ⟨rfl, H10⟩
      refine r_nil ?_
      refine g_seq ?_
      refine g_region ?_
      refine r_cons (s_assign (.slice none 0 0) rfl rfl ?_)
      refine r_nil ?_
      refine g_seq ?_
      refine g_seq ?_
      refine g_region ?_
      refine r_cons (s_assign (.int .u64 0) rfl rfl ?_)
      refine r_nil ?_
      refine g_block ?_
      refine g_loop ?_
      refine g_seq ?_
      refine g_seq ?_
      refine g_region ?_
      refine r_cons (s_move (.int .u64 0) rfl rfl ?_)
      refine r_cons (s_move (.int .u64 (natU (remB bs p) : Int)) rfl rfl ?_)
      refine r_cons (s_lss true rfl rfl (dtrue (by omega)) rfl ?_)
      refine r_cons (s_move (.bool true) rfl rfl ?_)
      refine r_cons (r_take rfl rfl ?_)
      refine s_move (.pointer (some ⟨r, 0, none⟩)) rfl rfl ?_
      refine r_cons (r_take rfl rfl ?_)
      refine s_nilCheck (.pointer (some ⟨r, 0, none⟩)) rfl ⟨_, rfl⟩ rfl ?_
      refine r_cons (r_take rfl rfl ?_)
      refine s_fieldAddr 50 1 1 1 25 rfl fi_50_1 rfl rfl ?_
      refine r_cons (r_take rfl rfl ?_)
      refine s_load (.int .i64 21) ag_25 rfl (H10.blk_at (i := 0) rfl) rfl rfl ?_
      refine r_cons (r_take rfl rfl ?_)
      refine s_eql false rfl rfl (dfalse (by decide)) rfl ?_
      refine r_cons (s_pick_t (.bool false) rfl rfl rfl ?_)
      refine r_nil ?_
      refine g_false rfl ?_
      refine g_exit (by rfl) ?_
      refine g_seq ?_
      refine g_region ?_
      refine r_cons (s_move (.slice none 0 0) rfl rfl ?_)
      refine r_cons (s_assign (.slice none 0 0) rfl rfl ?_)
      refine r_nil ?_
      refine g_ret' [.slice none 0 0] Try.func31 Try.results31 ⟨rfl, trivial⟩ ?_
      have H11 : St W w9 (blk r (.cells #[.pointer (some ⟨b, 0, none⟩), .int .i64 21] 50 (0, 0)) :: SrcA b bs q4 :: F) := ((H10.move 1 rfl).move 1 rfl)
      have hB : bodyE (remB bs p) = 21 := bodyE_21 he2 (by omega)
      exact .inr ⟨by rw [hB]; decide, _, _, _, rfl, _, by rw [hB]; exact H11⟩
    · skip
      refine r_cons (s_gtr false rfl rfl (dfalse hc8) rfl ?_)
      refine r_cons (s_call [.pointer (some ⟨r, 0, none⟩), .bool false] pl_28 rfl rfl (rd_fails_f r b (i := 0) rfl H3) ?_)
      rintro _ w12 ⟨rfl, H13⟩
      refine r_nil ?_
      refine g_seq ?_
      refine g_region ?_
      refine r_cons (s_assign (.slice none 0 0) rfl rfl ?_)
      refine r_nil ?_
      refine g_seq ?_
      refine g_seq ?_
      refine g_region ?_
      refine r_cons (s_assign (.int .u64 0) rfl rfl ?_)
      refine r_nil ?_
      refine g_block ?_
      have hnE : natE (remB bs p) = 0 := he2
      have H14 := Row.nil_intro H13 5 1
      have H15 : St W w12 (Row 5 1 (.slice none 0 0) 0 [] :: blk r (.cells #[.pointer (some ⟨b, 0, none⟩), .int .i64 0] 50 (0, 0)) :: SrcA b bs q4 :: F) := (((H14.move 2 rfl).move 2 rfl).move 2 rfl)
      refine g_loop_inv (fun (x_ : Nat × Int × (List UInt8) × Nat × (Option Addr) × Nat) => match x_ with | (j, ee, L, pj, pq, cq) => [(0, .pointer (some ⟨r, 0, none⟩)), (2, .slice none 0 0), (3, .int .u64 (natU (remB bs p) : Int)), (4, .slice pq L.length cq), (5, .int .u64 (j : Int))]) (fun (x_ : Nat × Int × (List UInt8) × Nat × (Option Addr) × Nat) w => match x_ with | (j, ee, L, pj, pq, cq) => (j ≤ natU (remB bs p)) ∧ (bodyInv bs p j ee L pj) ∧ St W w (Row 5 1 (.slice pq L.length cq) L.length (L.flatMap u8c) :: blk r (.cells #[.pointer (some ⟨b, 0, none⟩), .int .i64 ee] 50 (0, 0)) :: SrcA b bs pj :: F)) (fun (x_ : Nat × Int × (List UInt8) × Nat × (Option Addr) × Nat) => match x_ with | (j, ee, L, pj, pq, cq) => natU (remB bs p) - j) (0, 0, [], q4, none, 0) ?_ ?_ ?_
      · exact ⟨by first | rfl | exact vint (by omega), by first | rfl | exact vint (by omega), by first | rfl | exact vint (by omega), by first | rfl | exact vint (by omega), by first | rfl | exact vint (by omega), trivial⟩
      · exact ⟨(by omega), (bodyInv_0 hR5 (by omega)), H15⟩
      · rintro ⟨j, ee, L, pj, pq, cq⟩ ρ16 w17 ⟨hj, hinv, H18⟩ nx19
        change Ends _ _ (upds ρ16 [(0, .pointer (some ⟨r, 0, none⟩)), (2, .slice none 0 0), (3, .int .u64 (natU (remB bs p) : Int)), (4, .slice pq L.length cq), (5, .int .u64 (j : Int))]) w17
        refine g_seq ?_
        refine g_seq ?_
        refine g_region ?_
        refine r_cons (s_move (.int .u64 (j : Int)) rfl rfl ?_)
        refine r_cons (s_move (.int .u64 (natU (remB bs p) : Int)) rfl rfl ?_)
        by_cases hc20 : (j : Int) < (natU (remB bs p) : Int)
        · skip
          refine r_cons (s_lss true rfl rfl (dtrue hc20) rfl ?_)
          refine r_cons (s_move (.bool true) rfl rfl ?_)
          refine r_cons (r_take rfl rfl ?_)
          refine s_move (.pointer (some ⟨r, 0, none⟩)) rfl rfl ?_
          refine r_cons (r_take rfl rfl ?_)
          refine s_nilCheck (.pointer (some ⟨r, 0, none⟩)) rfl ⟨_, rfl⟩ rfl ?_
          refine r_cons (r_take rfl rfl ?_)
          refine s_fieldAddr 50 1 1 1 25 rfl fi_50_1 rfl rfl ?_
          refine r_cons (r_take rfl rfl ?_)
          refine s_load (.int .i64 ee) ag_25 rfl (H18.blk_at (i := 1) rfl) rfl rfl ?_
          refine r_cons (r_take rfl rfl ?_)
          by_cases hc21 : ee = 0
          · skip
            refine s_eql true rfl rfl (dtrue hc21) rfl ?_
            refine r_cons (s_pick_t (.bool true) rfl rfl rfl ?_)
            refine r_nil ?_
            refine g_true rfl ?_
            refine g_skip ?_
            refine g_seq ?_
            refine g_block ?_
            refine g_region ?_
            have hee : ee = 0 := by assumption
            subst hee
            have H22 : St W w17 (Row 5 1 (.slice pq L.length cq) L.length (L.flatMap u8c) :: blk r (.cells #[.pointer (some ⟨b, 0, none⟩), .int .i64 0] 50 (0, 0)) :: SrcA b bs pj :: F) := H18
            have hpj : pj ≤ 8 * bs.length := by rcases hinv with h | h; exact h.2.2.2.2; exact absurd rfl h.1
            have hLl : L.length = j := by rcases hinv with h | h; rw [h.2.1]; simp; exact absurd rfl h.1
            refine r_cons (s_move (.slice pq L.length cq) rfl rfl ?_)
            refine r_cons (s_move (.pointer (some ⟨r, 0, none⟩)) rfl rfl ?_)
            have H23 : St W w17 (blk r (.cells #[.pointer (some ⟨b, 0, none⟩), .int .i64 0] 50 (0, 0)) :: SrcA b bs pj :: Row 5 1 (.slice pq L.length cq) L.length (L.flatMap u8c) :: F) := ((H22.move 2 rfl).move 2 rfl)
            refine r_cons (s_call [.pointer (some ⟨r, 0, none⟩), .int .i64 8] pl_27 rfl rfl (rd_bits_ok r b bs pj (by first | omega | decide +kernel | (repeat (first | assumption | exact Nat.zero_le _ | refine natN_pos ?_ | refine srcN_pos ?_ | refine textN_pos ?_))) (by omega) 8 (by decide) H23) ?_)
            rintro _ w29 (⟨he24, rfl, q26, hR27, hp28, H25⟩ | ⟨he24, rfl, H25⟩)
            · skip
              have hlt : srcU (remB bs pj) 8 < 256 := srcU_lt_pow (k := 8)
              refine r_cons (s_conv (srcU (remB bs pj) 8 : Int) rfl us_3 ik_5 (wu8 (by omega)) rfl ?_)
              refine r_cons (s_buildSlice H25 1 1 (cs := #[.int .u8 (srcU (remB bs pj) 8 : Int)]) #[.int .u8 0] el_22 ze_5 (by decide) (by decide) (by kernel_rfl) rfl ?_); intro bk30 w31 H32
              refine r_cons (s_append H32 3 rfl rfl rfl (rd_blk (H32.blk_at (i := 0) rfl) rfl (Nat.le_of_ble_eq_true rfl) (by simp [Value.oneCell'])) ap_22 (by decide) (by unfold maxLen; omega) (by omega) (n' := L.length + 1) (xs' := (L ++ [UInt8.ofNat (srcU (remB bs pj) 8)]).flatMap u8c) (by omega) (by rw [List.flatMap_append]; congr 1; show [Value.int .u8 _] = [Value.int .u8 ((UInt8.ofNat (srcU (remB bs pj) 8)).toNat : Int)]; rw [u8_nat hlt]) rfl ?_); intro vv33 w34 H35 hn36
              obtain ⟨pp37, cc38, rfl⟩ := Row.slice H35 (i := 3) rfl
              refine r_cons (s_assign (.slice pp37 (L.length + 1) cc38) rfl rfl ?_)
              refine r_nil ?_
              refine g_inBlock ?_
              refine g_region ?_
              refine r_cons (s_move (.int .u64 (j : Int)) rfl rfl ?_)
              refine r_cons (s_add ((j : Int) + 1) rfl rfl (wu64 (by omega)) rfl ?_)
              refine r_cons (s_assign (.int .u64 ((j : Int) + 1)) rfl rfl ?_)
              refine r_nil ?_
              have H39 : St W w34 (Row 5 1 (.slice pp37 (L.length + 1) cc38) (L.length + 1) ((L ++ [UInt8.ofNat (srcU (remB bs pj) 8)]).flatMap u8c) :: blk r (.cells #[.pointer (some ⟨b, 0, none⟩), .int .i64 0] 50 (0, 0)) :: SrcA b bs q26 :: F) := ((((H35.move 2 rfl).move 2 rfl).move 3 rfl).drop 3 rfl)
              have hln : (L ++ [UInt8.ofNat (srcU (remB bs pj) 8)]).length = L.length + 1 := by simp
              have H40 : St W w34 (Row 5 1 (.slice pp37 ((L ++ [UInt8.ofNat (srcU (remB bs pj) 8)]).length) cc38) ((L ++ [UInt8.ofNat (srcU (remB bs pj) 8)]).length) ((L ++ [UInt8.ofNat (srcU (remB bs pj) 8)]).flatMap u8c) :: blk r (.cells #[.pointer (some ⟨b, 0, none⟩), .int .i64 0] 50 (0, 0)) :: SrcA b bs q26 :: F) := by rw [hln]; exact H39
              exact nx19 (j + 1, 0, (L ++ [UInt8.ofNat (srcU (remB bs pj) 8)]), q26, pp37, cc38) _ _ ⟨(by omega), (bodyInv_step hnE (by omega) hinv he24 hR27 (by omega)), H40⟩ (by first | (dsimp only; omega) | omega) ⟨by first | rfl | exact vint (by omega), by first | rfl | exact vint (by omega), by first | rfl | exact vint (by omega), congrArg (fun z_ => Value.slice pp37 z_ cc38) hln.symm, by first | rfl | exact vint (by omega), trivial⟩
            · skip
              refine r_cons (s_conv 0 rfl us_3 ik_5 (wu8 (by omega)) rfl ?_)
              refine r_cons (s_buildSlice H25 1 1 (cs := #[.int .u8 0]) #[.int .u8 0] el_22 ze_5 (by decide) (by decide) (by kernel_rfl) rfl ?_); intro bk41 w42 H43
              refine r_cons (s_append H43 3 rfl rfl rfl (rd_blk (H43.blk_at (i := 0) rfl) rfl (Nat.le_of_ble_eq_true rfl) (by simp [Value.oneCell'])) ap_22 (by decide) (by unfold maxLen; omega) (by omega) (n' := L.length + 1) (xs' := (L ++ [0]).flatMap u8c) (by omega) (by rw [List.flatMap_append]; rfl) rfl ?_); intro vv44 w45 H46 hn47
              obtain ⟨pp48, cc49, rfl⟩ := Row.slice H46 (i := 3) rfl
              refine r_cons (s_assign (.slice pp48 (L.length + 1) cc49) rfl rfl ?_)
              refine r_nil ?_
              refine g_inBlock ?_
              refine g_region ?_
              refine r_cons (s_move (.int .u64 (j : Int)) rfl rfl ?_)
              refine r_cons (s_add ((j : Int) + 1) rfl rfl (wu64 (by omega)) rfl ?_)
              refine r_cons (s_assign (.int .u64 ((j : Int) + 1)) rfl rfl ?_)
              refine r_nil ?_
              have H50 : St W w45 (Row 5 1 (.slice pp48 (L.length + 1) cc49) (L.length + 1) ((L ++ [0]).flatMap u8c) :: blk r (.cells #[.pointer (some ⟨b, 0, none⟩), .int .i64 (srcE (remB bs pj) 8)] 50 (0, 0)) :: SrcA b bs pj :: F) := ((((H46.move 2 rfl).move 2 rfl).move 3 rfl).drop 3 rfl)
              have hln : (L ++ [0]).length = L.length + 1 := by simp
              have H51 : St W w45 (Row 5 1 (.slice pp48 ((L ++ [0]).length) cc49) ((L ++ [0]).length) ((L ++ [0]).flatMap u8c) :: blk r (.cells #[.pointer (some ⟨b, 0, none⟩), .int .i64 (srcE (remB bs pj) 8)] 50 (0, 0)) :: SrcA b bs pj :: F) := by rw [hln]; exact H50
              exact nx19 (j + 1, srcE (remB bs pj) 8, (L ++ [0]), pj, pp48, cc49) _ _ ⟨(by omega), (bodyInv_bad hnE (by omega) hinv he24), H51⟩ (by first | (dsimp only; omega) | omega) ⟨by first | rfl | exact vint (by omega), by first | rfl | exact vint (by omega), by first | rfl | exact vint (by omega), congrArg (fun z_ => Value.slice pp48 z_ cc49) hln.symm, by first | rfl | exact vint (by omega), trivial⟩
          · skip
            refine s_eql false rfl rfl (dfalse hc21) rfl ?_
            refine r_cons (s_pick_t (.bool false) rfl rfl rfl ?_)
            refine r_nil ?_
            refine g_false rfl ?_
            refine g_exit (by rfl) ?_
            refine g_seq ?_
            refine g_region ?_
            refine r_cons (s_move (.slice pq L.length cq) rfl rfl ?_)
            refine r_cons (s_assign (.slice pq L.length cq) rfl rfl ?_)
            refine r_nil ?_
            refine g_ret' [.slice pq L.length cq] Try.func31 Try.results31 ⟨rfl, trivial⟩ ?_
            have H52 : St W w17 (Row 5 1 (.slice pq L.length cq) L.length (L.flatMap u8c) :: blk r (.cells #[.pointer (some ⟨b, 0, none⟩), .int .i64 ee] 50 (0, 0)) :: SrcA b bs pj :: F) := (((H18.move 2 rfl).move 2 rfl).move 2 rfl)
            rcases bodyInv_end hnE (by omega) hj (by omega) hinv with ⟨g1, g2, g3, g4, g5, g6⟩ | ⟨g1, g2⟩
            · subst g2 g3
              rw [g4]
              refine .inl ⟨g1, _, _, pj, rfl, g5, g6, ?_⟩
              have hx := H52
              rw [g4] at hx
              exact hx
            · refine .inr ⟨g1, _, _, _, rfl, pj, ?_⟩
              rw [← g2]
              exact H52.drop 0 rfl
        · skip
          refine r_cons (s_lss false rfl rfl (dfalse hc20) rfl ?_)
          refine r_cons (s_move (.bool false) rfl rfl ?_)
          refine r_cons (r_pass rfl rfl rfl rfl rfl ?_)
          refine r_cons (r_pass rfl rfl rfl rfl rfl ?_)
          refine r_cons (r_pass rfl rfl rfl rfl rfl ?_)
          refine r_cons (r_pass rfl rfl rfl rfl rfl ?_)
          refine r_cons (r_pass rfl rfl rfl rfl rfl ?_)
          refine r_cons (s_pick_f (.bool false) rfl rfl rfl ?_)
          refine r_nil ?_
          refine g_false rfl ?_
          refine g_exit (by rfl) ?_
          refine g_seq ?_
          refine g_region ?_
          refine r_cons (s_move (.slice pq L.length cq) rfl rfl ?_)
          refine r_cons (s_assign (.slice pq L.length cq) rfl rfl ?_)
          refine r_nil ?_
          refine g_ret' [.slice pq L.length cq] Try.func31 Try.results31 ⟨rfl, trivial⟩ ?_
          have H53 : St W w17 (Row 5 1 (.slice pq L.length cq) L.length (L.flatMap u8c) :: blk r (.cells #[.pointer (some ⟨b, 0, none⟩), .int .i64 ee] 50 (0, 0)) :: SrcA b bs pj :: F) := (((H18.move 2 rfl).move 2 rfl).move 2 rfl)
          rcases bodyInv_end hnE (by omega) hj (by omega) hinv with ⟨g1, g2, g3, g4, g5, g6⟩ | ⟨g1, g2⟩
          · subst g2 g3
            rw [g4]
            refine .inl ⟨g1, _, _, pj, rfl, g5, g6, ?_⟩
            have hx := H53
            rw [g4] at hx
            exact hx
          · refine .inr ⟨g1, _, _, _, rfl, pj, ?_⟩
            rw [← g2]
            exact H53.drop 0 rfl
  · skip
    refine r_cons (s_assign (.int .u64 0) rfl rfl ?_)
    refine r_nil ?_
    refine g_seq ?_
    refine g_region ?_
    refine r_cons (s_move (.pointer (some ⟨r, 0, none⟩)) rfl rfl ?_)
    refine r_cons (s_move (.int .u64 0) rfl rfl ?_)
    refine r_cons (s_gtr false rfl rfl (dfalse (by decide)) rfl ?_)
    refine r_cons (s_call [.pointer (some ⟨r, 0, none⟩), .bool false] pl_28 rfl rfl (rd_fails_e r b (natE (remB bs p)) (by first | assumption | decide) false (i := 0) rfl H3) ?_)
    rintro _ w54 ⟨rfl, H55⟩
    refine r_nil ?_
    refine g_seq ?_
    refine g_region ?_
    refine r_cons (s_assign (.slice none 0 0) rfl rfl ?_)
    refine r_nil ?_
    refine g_seq ?_
    refine g_seq ?_
    refine g_region ?_
    refine r_cons (s_assign (.int .u64 0) rfl rfl ?_)
    refine r_nil ?_
    refine g_block ?_
    refine g_loop ?_
    refine g_seq ?_
    refine g_seq ?_
    refine g_region ?_
    refine r_cons (s_move (.int .u64 0) rfl rfl ?_)
    refine r_cons (s_move (.int .u64 0) rfl rfl ?_)
    refine r_cons (s_lss false rfl rfl (dfalse (by decide)) rfl ?_)
    refine r_cons (s_move (.bool false) rfl rfl ?_)
    refine r_cons (r_pass rfl rfl rfl rfl rfl ?_)
    refine r_cons (r_pass rfl rfl rfl rfl rfl ?_)
    refine r_cons (r_pass rfl rfl rfl rfl rfl ?_)
    refine r_cons (r_pass rfl rfl rfl rfl rfl ?_)
    refine r_cons (r_pass rfl rfl rfl rfl rfl ?_)
    refine r_cons (s_pick_f (.bool false) rfl rfl rfl ?_)
    refine r_nil ?_
    refine g_false rfl ?_
    refine g_exit (by rfl) ?_
    refine g_seq ?_
    refine g_region ?_
    refine r_cons (s_move (.slice none 0 0) rfl rfl ?_)
    refine r_cons (s_assign (.slice none 0 0) rfl rfl ?_)
    refine r_nil ?_
    refine g_ret' [.slice none 0 0] Try.func31 Try.results31 ⟨rfl, trivial⟩ ?_
    have H56 : St W w54 (blk r (.cells #[.pointer (some ⟨b, 0, none⟩), .int .i64 (natE (remB bs p))] 50 (0, 0)) :: SrcA b bs p :: F) := ((H55.move 1 rfl).move 1 rfl)
    have hB : bodyE (remB bs p) = natE (remB bs p) := bodyE_nat he2
    exact .inr ⟨by rw [hB]; exact he2, _, _, _, rfl, _, by rw [hB]; exact H56⟩
set_option maxHeartbeats 4000000 in
set_option maxRecDepth 100000 in
theorem rd_body_no {W w : World} {F : List Atom} (r b : Nat) (e : Int) (he : ¬ e = 0) {i : Nat} (hi : F[i]? = some (blk r (.cells #[.pointer (some ⟨b, 0, none⟩), .int .i64 e] 50 (0, 0)))) (H : St W w F) : Calls Try.prog 31 #[.pointer (some ⟨r, 0, none⟩)] w (Ret fun v w' => v = .slice none 0 0 ∧ St W w' F) := by
  have H0 := H.front hi
  refine calls_of_go (n := 31) Try.func31 rfl Try.ntmps31 rfl ?_
  refine g_seq ?_
  refine g_region ?_
  refine r_cons (s_assign (.slice none 0 0) rfl rfl ?_)
  refine r_nil ?_
  refine g_seq ?_
  refine g_region ?_
  refine r_cons (s_move (.pointer (some ⟨r, 0, none⟩)) rfl rfl ?_)
  refine r_cons (s_call [.pointer (some ⟨r, 0, none⟩)] pl_30 rfl rfl (rd_nat_no r b e (by first | assumption | decide)  (i := 0) rfl H0) ?_)
  rintro _ w1 ⟨rfl, H2⟩
  refine r_cons (s_assign (.int .u64 0) rfl rfl ?_)
  refine r_nil ?_
  refine g_seq ?_
  refine g_region ?_
  refine r_cons (s_move (.pointer (some ⟨r, 0, none⟩)) rfl rfl ?_)
  refine r_cons (s_move (.int .u64 0) rfl rfl ?_)
  refine r_cons (s_gtr false rfl rfl (dfalse (by decide)) rfl ?_)
  refine r_cons (s_call [.pointer (some ⟨r, 0, none⟩), .bool false] pl_28 rfl rfl (rd_fails_e r b e (by first | assumption | decide) false (i := 0) rfl H2) ?_)
  rintro _ w3 ⟨rfl, H4⟩
  refine r_nil ?_
  refine g_seq ?_
  refine g_region ?_
  refine r_cons (s_assign (.slice none 0 0) rfl rfl ?_)
  refine r_nil ?_
  refine g_seq ?_
  refine g_seq ?_
  refine g_region ?_
  refine r_cons (s_assign (.int .u64 0) rfl rfl ?_)
  refine r_nil ?_
  refine g_block ?_
  refine g_loop ?_
  refine g_seq ?_
  refine g_seq ?_
  refine g_region ?_
  refine r_cons (s_move (.int .u64 0) rfl rfl ?_)
  refine r_cons (s_move (.int .u64 0) rfl rfl ?_)
  refine r_cons (s_lss false rfl rfl (dfalse (by decide)) rfl ?_)
  refine r_cons (s_move (.bool false) rfl rfl ?_)
  refine r_cons (r_pass rfl rfl rfl rfl rfl ?_)
  refine r_cons (r_pass rfl rfl rfl rfl rfl ?_)
  refine r_cons (r_pass rfl rfl rfl rfl rfl ?_)
  refine r_cons (r_pass rfl rfl rfl rfl rfl ?_)
  refine r_cons (r_pass rfl rfl rfl rfl rfl ?_)
  refine r_cons (s_pick_f (.bool false) rfl rfl rfl ?_)
  refine r_nil ?_
  refine g_false rfl ?_
  refine g_exit (by rfl) ?_
  refine g_seq ?_
  refine g_region ?_
  refine r_cons (s_move (.slice none 0 0) rfl rfl ?_)
  refine r_cons (s_assign (.slice none 0 0) rfl rfl ?_)
  refine r_nil ?_
  refine g_ret' [.slice none 0 0] Try.func31 Try.results31 ⟨rfl, trivial⟩ ?_
  have H5 : St W w3 (blk r (.cells #[.pointer (some ⟨b, 0, none⟩), .int .i64 e] 50 (0, 0)) :: (F.set i emp)) := H4
  exact ⟨rfl, St.back_same hi H5⟩
end Sl
