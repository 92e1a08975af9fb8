/- Walks of the program's functions. Printed by a program of this claim's author. No condition. -/
import Derived.Test.YtlpbkclkhadnaaaSlBF
import Derived.Test.YtlpbkclkhadnaaaSlQ
import Derived.Test.YtlpbkclkhadnaaaProg
import Derived.Test.YtlpbkclkhadnaaaWalkPredTests0
namespace Sl
open _root_.Go _root_.Go.RowKit _root_.Go.Proofs
set_option linter.all false
set_option maxHeartbeats 4000000 in
set_option maxRecDepth 100000 in
theorem pred_Names {W w : World} {F : List Atom} (c : CondV) (H : St W w F) : Calls Try.prog 20 #[.agg #[.string c.left.var.v, .string c.left.attr.v, .int .i64 c.left.val.kind.v, .int .i64 c.left.val.n.v, .string c.left.val.s.v, .int .i64 c.rel.v, .string c.right.var.v, .string c.right.attr.v, .int .i64 c.right.val.kind.v, .int .i64 c.right.val.n.v, .string c.right.val.s.v]] w (Ret fun v w' => ∃ p q, v = .slice p (namesV c).length q ∧ St W w' (Im 1 (.slice p (namesV c).length q) (namesV c).length ((namesV c).flatMap strCell) :: F)) := by
  refine calls_of_go (n := 29) Try.func20 rfl Try.ntmps20 rfl ?_
  refine g_seq ?_
  refine g_region ?_
  refine r_cons (s_box H 27 (.agg #[.string c.left.var.v, .string c.left.attr.v, .int .i64 c.left.val.kind.v, .int .i64 c.left.val.n.v, .string c.left.val.s.v, .int .i64 c.rel.v, .string c.right.var.v, .string c.right.attr.v, .int .i64 c.right.val.kind.v, .int .i64 c.right.val.n.v, .string c.right.val.s.v]) rfl (cs := #[.string c.left.var.v, .string c.left.attr.v, .int .i64 c.left.val.kind.v, .int .i64 c.left.val.n.v, .string c.left.val.s.v, .int .i64 c.rel.v, .string c.right.var.v, .string c.right.attr.v, .int .i64 c.right.val.kind.v, .int .i64 c.right.val.n.v, .string c.right.val.s.v]) rfl rfl ?_); intro bk1 w2 H3
  refine r_cons (s_assign (.slice none 0 0) rfl rfl ?_)
  refine r_nil ?_
  refine g_seq ?_
  refine g_region ?_
  refine r_cons (s_assign (.slice none 0 0) rfl rfl ?_)
  refine r_nil ?_
  refine g_seq ?_
  refine g_seq ?_
  refine g_region ?_
  refine r_cons (s_fieldAddr 27 0 0 0 25 rfl fi_27_0 rfl rfl ?_)
  refine r_cons (s_loadAgg [.string c.left.var.v, .string c.left.attr.v, .int .i64 c.left.val.kind.v, .int .i64 c.left.val.n.v, .string c.left.val.s.v] 5 ag_25 rfl (H3.blk_at (i := 0) rfl) (Nat.le_of_ble_eq_true rfl) rfl rfl ?_)
  refine r_cons (s_fieldAddr 27 2 6 6 25 rfl fi_27_2 rfl rfl ?_)
  refine r_cons (s_loadAgg [.string c.right.var.v, .string c.right.attr.v, .int .i64 c.right.val.kind.v, .int .i64 c.right.val.n.v, .string c.right.val.s.v] 5 ag_25 rfl (H3.blk_at (i := 0) rfl) (Nat.le_of_ble_eq_true rfl) rfl rfl ?_)
  refine r_cons (s_buildSlice H3 5 2 (cs := #[.string c.left.var.v, .string c.left.attr.v, .int .i64 c.left.val.kind.v, .int .i64 c.left.val.n.v, .string c.left.val.s.v, .string c.right.var.v, .string c.right.attr.v, .int .i64 c.right.val.kind.v, .int .i64 c.right.val.n.v, .string c.right.val.s.v]) #[.string ByteArray.empty, .string ByteArray.empty, .int .i64 0, .int .i64 0, .string ByteArray.empty] el_44 ze_25 (by decide) (by decide) (by kernel_rfl) rfl ?_); intro bk4 w5 H6
  refine r_cons (s_len 2 rfl ⟨_, un_44⟩ rfl ?_)
  refine r_cons (s_move (.int .i64 0) rfl rfl ?_)
  refine r_nil ?_
  refine g_block ?_
  refine g_loop ?_
  refine g_seq ?_
  refine g_region ?_
  refine r_cons (s_lss true rfl rfl (dtrue (by decide)) rfl ?_)
  refine r_nil ?_
  refine g_seq ?_
  refine g_true rfl ?_
  refine g_skip ?_
  refine g_seq ?_
  refine g_block ?_
  refine g_seq ?_
  refine g_region ?_
  refine r_cons (s_indexAddr bk4 0 5 0 rfl rfl el_44 (by omega) rfl rfl ?_)
  refine r_cons (s_loadAgg [.string c.left.var.v, .string c.left.attr.v, .int .i64 c.left.val.kind.v, .int .i64 c.left.val.n.v, .string c.left.val.s.v] 5 ag_25 rfl (H6.blk_at (i := 0) rfl) (Nat.le_of_ble_eq_true rfl) rfl rfl ?_)
  refine r_cons (s_alloc H6 25 ze_25 rfl ?_); intro bk7 w8 H9
  refine r_cons (s_storeAgg H9 0 #[.string c.left.var.v, .string c.left.attr.v, .int .i64 c.left.val.kind.v, .int .i64 c.left.val.n.v, .string c.left.val.s.v] 5 rfl rfl rfl sz_25 rfl (by simp [Value.oneCell']) (Nat.le_of_ble_eq_true rfl) (fun o h1 h2 => by first | (simp; done) | (simp; omega)) (cs' := #[.string c.left.var.v, .string c.left.attr.v, .int .i64 c.left.val.kind.v, .int .i64 c.left.val.n.v, .string c.left.val.s.v]) rfl ?_); intro w10 H11
  refine r_nil ?_
  refine g_seq ?_
  refine g_region ?_
  refine r_cons (s_fieldAddr 25 1 1 1 9 rfl fi_25_1 rfl rfl ?_)
  refine r_cons (s_load (.string c.left.attr.v) ag_9 rfl (H11.blk_at (i := 0) rfl) rfl rfl ?_)
  by_cases hc12 : c.left.attr.v = ByteArray.empty
  · skip
    refine r_cons (s_sneq false rfl rfl (ntrue hc12) rfl ?_)
    refine r_nil ?_
    refine g_false rfl ?_
    refine g_skip ?_
    refine g_inBlock ?_
    refine g_region ?_
    refine r_cons (s_add 1 rfl rfl (wi64 (by omega)) rfl ?_)
    refine r_cons (s_move (.int .i64 1) rfl rfl ?_)
    refine r_nil ?_
    refine g_inLoop ?_
    refine g_seq ?_
    refine g_region ?_
    refine r_cons (s_lss true rfl rfl (dtrue (by decide)) rfl ?_)
    refine r_nil ?_
    refine g_seq ?_
    refine g_true rfl ?_
    refine g_skip ?_
    refine g_seq ?_
    refine g_block ?_
    refine g_seq ?_
    refine g_region ?_
    refine r_cons (s_indexAddr bk4 1 5 5 rfl rfl el_44 (by omega) rfl rfl ?_)
    refine r_cons (s_loadAgg [.string c.right.var.v, .string c.right.attr.v, .int .i64 c.right.val.kind.v, .int .i64 c.right.val.n.v, .string c.right.val.s.v] 5 ag_25 rfl (H11.blk_at (i := 1) rfl) (Nat.le_of_ble_eq_true rfl) rfl rfl ?_)
    refine r_cons (s_alloc H11 25 ze_25 rfl ?_); intro bk13 w14 H15
    refine r_cons (s_storeAgg H15 0 #[.string c.right.var.v, .string c.right.attr.v, .int .i64 c.right.val.kind.v, .int .i64 c.right.val.n.v, .string c.right.val.s.v] 5 rfl rfl rfl sz_25 rfl (by simp [Value.oneCell']) (Nat.le_of_ble_eq_true rfl) (fun o h1 h2 => by first | (simp; done) | (simp; omega)) (cs' := #[.string c.right.var.v, .string c.right.attr.v, .int .i64 c.right.val.kind.v, .int .i64 c.right.val.n.v, .string c.right.val.s.v]) rfl ?_); intro w16 H17
    refine r_nil ?_
    refine g_seq ?_
    refine g_region ?_
    refine r_cons (s_fieldAddr 25 1 1 1 9 rfl fi_25_1 rfl rfl ?_)
    refine r_cons (s_load (.string c.right.attr.v) ag_9 rfl (H17.blk_at (i := 0) rfl) rfl rfl ?_)
    by_cases hc18 : c.right.attr.v = ByteArray.empty
    · skip
      refine r_cons (s_sneq false rfl rfl (ntrue hc18) rfl ?_)
      refine r_nil ?_
      refine g_false rfl ?_
      refine g_skip ?_
      refine g_inBlock ?_
      refine g_region ?_
      refine r_cons (s_add 2 rfl rfl (wi64 (by omega)) rfl ?_)
      refine r_cons (s_move (.int .i64 2) rfl rfl ?_)
      refine r_nil ?_
      refine g_inLoop ?_
      refine g_seq ?_
      refine g_region ?_
      refine r_cons (s_lss false rfl rfl (dfalse (by decide)) rfl ?_)
      refine r_nil ?_
      refine g_seq ?_
      refine g_false rfl ?_
      refine g_exit (by rfl) ?_
      refine g_seq ?_
      refine g_region ?_
      refine r_cons (s_move (.slice none 0 0) rfl rfl ?_)
      refine r_cons (s_call [.slice none 0 0] pl_38 rfl rfl (sort_0 none 0 H17) ?_)
      rintro _ w19 ⟨rfl, H20⟩
      refine r_nil ?_
      refine g_seq ?_
      refine g_region ?_
      refine r_cons (s_move (.slice none 0 0) rfl rfl ?_)
      refine r_cons (s_call [.slice none 0 0] pl_39 rfl rfl (compact_0 none 0 H20) ?_)
      rintro _ w21 ⟨rfl, H22⟩
      refine r_cons (s_assign (.slice none 0 0) rfl rfl ?_)
      refine r_nil ?_
      refine g_ret' [.slice none 0 0] Try.func20 Try.results20 ⟨rfl, trivial⟩ ?_
      have H23 : St W w21 F := ((((H22.drop 0 rfl).drop 0 rfl).drop 0 rfl).drop 0 rfl)
      have hN := names_0 hc12 hc18
      exact ⟨none, 0, by rw [hN]; rfl, by rw [hN]; exact Row.im (Row.nil_intro H23 9 1) (i := 0) rfl⟩
    · skip
      refine r_cons (s_sneq true rfl rfl (nfalse hc18) rfl ?_)
      refine r_nil ?_
      refine g_true rfl ?_
      refine g_region ?_
      refine r_cons (s_move (.slice none 0 0) rfl rfl ?_)
      refine r_cons (s_fieldAddr 25 0 0 0 9 rfl fi_25_0 rfl rfl ?_)
      refine r_cons (s_load (.string c.right.var.v) ag_9 rfl (H17.blk_at (i := 0) rfl) rfl rfl ?_)
      refine r_cons (s_buildSlice H17 1 1 (cs := #[.string c.right.var.v]) #[.string ByteArray.empty] el_49 ze_9 (by decide) (by decide) (by kernel_rfl) rfl ?_); intro bk24 w25 H26
      have H27 := Row.nil_intro H26 9 1
      refine r_cons (s_append H27 0 rfl rfl rfl (rd_blk (H27.blk_at (i := 1) rfl) rfl (Nat.le_of_ble_eq_true rfl) (by simp [Value.oneCell'])) ap_49 (by decide) (by unfold maxLen; omega) (by omega) (n' := 1) (xs' := [.string c.right.var.v]) (by omega) (by first | rfl | simp) rfl ?_); intro vv28 w29 H30 hn31
      obtain ⟨pp32, cc33, rfl⟩ := Row.slice H30 (i := 0) rfl
      refine r_cons (s_assign (.slice pp32 1 cc33) rfl rfl ?_)
      refine r_nil ?_
      refine g_inBlock ?_
      refine g_region ?_
      refine r_cons (s_add 2 rfl rfl (wi64 (by omega)) rfl ?_)
      refine r_cons (s_move (.int .i64 2) rfl rfl ?_)
      refine r_nil ?_
      refine g_inLoop ?_
      refine g_seq ?_
      refine g_region ?_
      refine r_cons (s_lss false rfl rfl (dfalse (by decide)) rfl ?_)
      refine r_nil ?_
      refine g_seq ?_
      refine g_false rfl ?_
      refine g_exit (by rfl) ?_
      refine g_seq ?_
      refine g_region ?_
      refine r_cons (s_move (.slice pp32 1 cc33) rfl rfl ?_)
      refine r_cons (s_call [.slice pp32 1 cc33] pl_38 rfl rfl (sort_1 pp32 cc33 H30) ?_)
      rintro _ w34 ⟨rfl, H35⟩
      refine r_nil ?_
      refine g_seq ?_
      refine g_region ?_
      refine r_cons (s_move (.slice pp32 1 cc33) rfl rfl ?_)
      refine r_cons (s_call [.slice pp32 1 cc33] pl_39 rfl rfl (compact_1 pp32 cc33 H35) ?_)
      rintro _ w36 ⟨rfl, H37⟩
      refine r_cons (s_assign (.slice pp32 1 cc33) rfl rfl ?_)
      refine r_nil ?_
      refine g_ret' [.slice pp32 1 cc33] Try.func20 Try.results20 ⟨rfl, trivial⟩ ?_
      have hN := names_r hc12 hc18
      have H38 : St W w36 (Row 9 1 (.slice pp32 1 cc33) 1 [.string c.right.var.v] :: F) := (((((H37.drop 1 rfl).drop 1 rfl).drop 1 rfl).drop 1 rfl).drop 1 rfl)
      exact ⟨_, _, by rw [hN]; rfl, by rw [hN]; exact Row.im H38 (i := 0) rfl⟩
  · skip
    refine r_cons (s_sneq true rfl rfl (nfalse hc12) rfl ?_)
    refine r_nil ?_
    refine g_true rfl ?_
    refine g_region ?_
    refine r_cons (s_move (.slice none 0 0) rfl rfl ?_)
    refine r_cons (s_fieldAddr 25 0 0 0 9 rfl fi_25_0 rfl rfl ?_)
    refine r_cons (s_load (.string c.left.var.v) ag_9 rfl (H11.blk_at (i := 0) rfl) rfl rfl ?_)
    refine r_cons (s_buildSlice H11 1 1 (cs := #[.string c.left.var.v]) #[.string ByteArray.empty] el_49 ze_9 (by decide) (by decide) (by kernel_rfl) rfl ?_); intro bk39 w40 H41
    have H42 := Row.nil_intro H41 9 1
    refine r_cons (s_append H42 0 rfl rfl rfl (rd_blk (H42.blk_at (i := 1) rfl) rfl (Nat.le_of_ble_eq_true rfl) (by simp [Value.oneCell'])) ap_49 (by decide) (by unfold maxLen; omega) (by omega) (n' := 1) (xs' := [.string c.left.var.v]) (by omega) (by first | rfl | simp) rfl ?_); intro vv43 w44 H45 hn46
    obtain ⟨pp47, cc48, rfl⟩ := Row.slice H45 (i := 0) rfl
    refine r_cons (s_assign (.slice pp47 1 cc48) rfl rfl ?_)
    refine r_nil ?_
    refine g_inBlock ?_
    refine g_region ?_
    refine r_cons (s_add 1 rfl rfl (wi64 (by omega)) rfl ?_)
    refine r_cons (s_move (.int .i64 1) rfl rfl ?_)
    refine r_nil ?_
    refine g_inLoop ?_
    refine g_seq ?_
    refine g_region ?_
    refine r_cons (s_lss true rfl rfl (dtrue (by decide)) rfl ?_)
    refine r_nil ?_
    refine g_seq ?_
    refine g_true rfl ?_
    refine g_skip ?_
    refine g_seq ?_
    refine g_block ?_
    refine g_seq ?_
    refine g_region ?_
    refine r_cons (s_indexAddr bk4 1 5 5 rfl rfl el_44 (by omega) rfl rfl ?_)
    refine r_cons (s_loadAgg [.string c.right.var.v, .string c.right.attr.v, .int .i64 c.right.val.kind.v, .int .i64 c.right.val.n.v, .string c.right.val.s.v] 5 ag_25 rfl (H45.blk_at (i := 3) rfl) (Nat.le_of_ble_eq_true rfl) rfl rfl ?_)
    refine r_cons (s_alloc H45 25 ze_25 rfl ?_); intro bk49 w50 H51
    refine r_cons (s_storeAgg H51 0 #[.string c.right.var.v, .string c.right.attr.v, .int .i64 c.right.val.kind.v, .int .i64 c.right.val.n.v, .string c.right.val.s.v] 5 rfl rfl rfl sz_25 rfl (by simp [Value.oneCell']) (Nat.le_of_ble_eq_true rfl) (fun o h1 h2 => by first | (simp; done) | (simp; omega)) (cs' := #[.string c.right.var.v, .string c.right.attr.v, .int .i64 c.right.val.kind.v, .int .i64 c.right.val.n.v, .string c.right.val.s.v]) rfl ?_); intro w52 H53
    refine r_nil ?_
    refine g_seq ?_
    refine g_region ?_
    refine r_cons (s_fieldAddr 25 1 1 1 9 rfl fi_25_1 rfl rfl ?_)
    refine r_cons (s_load (.string c.right.attr.v) ag_9 rfl (H53.blk_at (i := 0) rfl) rfl rfl ?_)
    by_cases hc54 : c.right.attr.v = ByteArray.empty
    · skip
      refine r_cons (s_sneq false rfl rfl (ntrue hc54) rfl ?_)
      refine r_nil ?_
      refine g_false rfl ?_
      refine g_skip ?_
      refine g_inBlock ?_
      refine g_region ?_
      refine r_cons (s_add 2 rfl rfl (wi64 (by omega)) rfl ?_)
      refine r_cons (s_move (.int .i64 2) rfl rfl ?_)
      refine r_nil ?_
      refine g_inLoop ?_
      refine g_seq ?_
      refine g_region ?_
      refine r_cons (s_lss false rfl rfl (dfalse (by decide)) rfl ?_)
      refine r_nil ?_
      refine g_seq ?_
      refine g_false rfl ?_
      refine g_exit (by rfl) ?_
      refine g_seq ?_
      refine g_region ?_
      refine r_cons (s_move (.slice pp47 1 cc48) rfl rfl ?_)
      refine r_cons (s_call [.slice pp47 1 cc48] pl_38 rfl rfl (sort_1 pp47 cc48 H53) ?_)
      rintro _ w55 ⟨rfl, H56⟩
      refine r_nil ?_
      refine g_seq ?_
      refine g_region ?_
      refine r_cons (s_move (.slice pp47 1 cc48) rfl rfl ?_)
      refine r_cons (s_call [.slice pp47 1 cc48] pl_39 rfl rfl (compact_1 pp47 cc48 H56) ?_)
      rintro _ w57 ⟨rfl, H58⟩
      refine r_cons (s_assign (.slice pp47 1 cc48) rfl rfl ?_)
      refine r_nil ?_
      refine g_ret' [.slice pp47 1 cc48] Try.func20 Try.results20 ⟨rfl, trivial⟩ ?_
      have hN := names_l hc12 hc54
      have H59 : St W w57 (Row 9 1 (.slice pp47 1 cc48) 1 [.string c.left.var.v] :: F) := ((((((H58.move 1 rfl).drop 1 rfl).drop 1 rfl).drop 1 rfl).drop 1 rfl).drop 1 rfl)
      exact ⟨_, _, by rw [hN]; rfl, by rw [hN]; exact Row.im H59 (i := 0) rfl⟩
    · skip
      refine r_cons (s_sneq true rfl rfl (nfalse hc54) rfl ?_)
      refine r_nil ?_
      refine g_true rfl ?_
      refine g_region ?_
      refine r_cons (s_move (.slice pp47 1 cc48) rfl rfl ?_)
      refine r_cons (s_fieldAddr 25 0 0 0 9 rfl fi_25_0 rfl rfl ?_)
      refine r_cons (s_load (.string c.right.var.v) ag_9 rfl (H53.blk_at (i := 0) rfl) rfl rfl ?_)
      refine r_cons (s_buildSlice H53 1 1 (cs := #[.string c.right.var.v]) #[.string ByteArray.empty] el_49 ze_9 (by decide) (by decide) (by kernel_rfl) rfl ?_); intro bk60 w61 H62
      refine r_cons (s_append H62 2 rfl rfl rfl (rd_blk (H62.blk_at (i := 0) rfl) rfl (Nat.le_of_ble_eq_true rfl) (by simp [Value.oneCell'])) ap_49 (by decide) (by unfold maxLen; omega) (by omega) (n' := 2) (xs' := [.string c.left.var.v] ++ ([.string c.right.var.v] : List Value)) (by omega) (by first | rfl | simp) rfl ?_); intro vv63 w64 H65 hn66
      obtain ⟨pp67, cc68, rfl⟩ := Row.slice H65 (i := 2) rfl
      refine r_cons (s_assign (.slice pp67 2 cc68) rfl rfl ?_)
      refine r_nil ?_
      refine g_inBlock ?_
      refine g_region ?_
      refine r_cons (s_add 2 rfl rfl (wi64 (by omega)) rfl ?_)
      refine r_cons (s_move (.int .i64 2) rfl rfl ?_)
      refine r_nil ?_
      refine g_inLoop ?_
      refine g_seq ?_
      refine g_region ?_
      refine r_cons (s_lss false rfl rfl (dfalse (by decide)) rfl ?_)
      refine r_nil ?_
      refine g_seq ?_
      refine g_false rfl ?_
      refine g_exit (by rfl) ?_
      refine g_seq ?_
      refine g_region ?_
      refine r_cons (s_move (.slice pp67 2 cc68) rfl rfl ?_)
      refine r_cons (s_call [.slice pp67 2 cc68] pl_38 rfl rfl (sort_2 pp67 cc68 c.left.var c.right.var (i := 2) rfl H65) ?_)
      rintro _ w69 ⟨rfl, H70⟩
      by_cases hb71 : sLt c.right.var.v c.left.var.v = true
      · skip
        have H72 : St W w69 (blk bk60 (.cells #[.string c.right.var.v] 9 (0, 0)) :: blk bk49 (.cells #[.string c.right.var.v, .string c.right.attr.v, .int .i64 c.right.val.kind.v, .int .i64 c.right.val.n.v, .string c.right.val.s.v] 25 (0, 0)) :: Row 9 1 (.slice pp67 2 cc68) 2 ([c.right.var, c.left.var].flatMap strCell) :: blk bk39 (.cells #[.string c.left.var.v] 9 (0, 0)) :: blk bk7 (.cells #[.string c.left.var.v, .string c.left.attr.v, .int .i64 c.left.val.kind.v, .int .i64 c.left.val.n.v, .string c.left.val.s.v] 25 (0, 0)) :: blk bk4 (.cells #[.string c.left.var.v, .string c.left.attr.v, .int .i64 c.left.val.kind.v, .int .i64 c.left.val.n.v, .string c.left.val.s.v, .string c.right.var.v, .string c.right.attr.v, .int .i64 c.right.val.kind.v, .int .i64 c.right.val.n.v, .string c.right.val.s.v] 25 (0, 0)) :: blk bk1 (.cells #[.string c.left.var.v, .string c.left.attr.v, .int .i64 c.left.val.kind.v, .int .i64 c.left.val.n.v, .string c.left.val.s.v, .int .i64 c.rel.v, .string c.right.var.v, .string c.right.attr.v, .int .i64 c.right.val.kind.v, .int .i64 c.right.val.n.v, .string c.right.val.s.v] 27 (0, 0)) :: F) := by have hx := H70; rw [if_pos hb71] at hx; exact hx
        refine r_nil ?_
        refine g_seq ?_
        refine g_region ?_
        refine r_cons (s_move (.slice pp67 2 cc68) rfl rfl ?_)
        refine r_cons (s_call [.slice pp67 2 cc68] pl_39 rfl rfl (compact_2 pp67 cc68 c.right.var c.left.var (i := 2) rfl H72) ?_)
        rintro _ w75 (⟨he73, rfl, H74⟩ | ⟨he73, rfl, H74⟩)
        · skip
          refine r_cons (s_assign (.slice pp67 1 cc68) rfl rfl ?_)
          refine r_nil ?_
          refine g_ret' [.slice pp67 1 cc68] Try.func20 Try.results20 ⟨rfl, trivial⟩ ?_
          exact absurd he73.symm (sLt_ne hb71)
        · skip
          refine r_cons (s_assign (.slice pp67 2 cc68) rfl rfl ?_)
          refine r_nil ?_
          refine g_ret' [.slice pp67 2 cc68] Try.func20 Try.results20 ⟨rfl, trivial⟩ ?_
          have hN := names_gt hc12 hc54 hb71
          have H76 : St W w75 (Row 9 1 (.slice pp67 2 cc68) 2 ([c.right.var, c.left.var].flatMap strCell) :: F) := (((((((H74.move 2 rfl).drop 1 rfl).drop 1 rfl).drop 1 rfl).drop 1 rfl).drop 1 rfl).drop 1 rfl)
          exact ⟨_, _, by rw [hN]; rfl, by rw [hN]; exact Row.im H76 (i := 0) rfl⟩
      · skip
        have H77 : St W w69 (blk bk60 (.cells #[.string c.right.var.v] 9 (0, 0)) :: blk bk49 (.cells #[.string c.right.var.v, .string c.right.attr.v, .int .i64 c.right.val.kind.v, .int .i64 c.right.val.n.v, .string c.right.val.s.v] 25 (0, 0)) :: Row 9 1 (.slice pp67 2 cc68) 2 ([c.left.var, c.right.var].flatMap strCell) :: blk bk39 (.cells #[.string c.left.var.v] 9 (0, 0)) :: blk bk7 (.cells #[.string c.left.var.v, .string c.left.attr.v, .int .i64 c.left.val.kind.v, .int .i64 c.left.val.n.v, .string c.left.val.s.v] 25 (0, 0)) :: blk bk4 (.cells #[.string c.left.var.v, .string c.left.attr.v, .int .i64 c.left.val.kind.v, .int .i64 c.left.val.n.v, .string c.left.val.s.v, .string c.right.var.v, .string c.right.attr.v, .int .i64 c.right.val.kind.v, .int .i64 c.right.val.n.v, .string c.right.val.s.v] 25 (0, 0)) :: blk bk1 (.cells #[.string c.left.var.v, .string c.left.attr.v, .int .i64 c.left.val.kind.v, .int .i64 c.left.val.n.v, .string c.left.val.s.v, .int .i64 c.rel.v, .string c.right.var.v, .string c.right.attr.v, .int .i64 c.right.val.kind.v, .int .i64 c.right.val.n.v, .string c.right.val.s.v] 27 (0, 0)) :: F) := by have hx := H70; rw [if_neg hb71] at hx; exact hx
        refine r_nil ?_
        refine g_seq ?_
        refine g_region ?_
        refine r_cons (s_move (.slice pp67 2 cc68) rfl rfl ?_)
        refine r_cons (s_call [.slice pp67 2 cc68] pl_39 rfl rfl (compact_2 pp67 cc68 c.left.var c.right.var (i := 2) rfl H77) ?_)
        rintro _ w80 (⟨he78, rfl, H79⟩ | ⟨he78, rfl, H79⟩)
        · skip
          refine r_cons (s_assign (.slice pp67 1 cc68) rfl rfl ?_)
          refine r_nil ?_
          refine g_ret' [.slice pp67 1 cc68] Try.func20 Try.results20 ⟨rfl, trivial⟩ ?_
          have hN := names_e hc12 hc54 (by exact he78.symm)
          have H81 : St W w80 (Row 9 1 (.slice pp67 1 cc68) 1 ([c.left.var].flatMap strCell) :: F) := (((((((H79.move 2 rfl).drop 1 rfl).drop 1 rfl).drop 1 rfl).drop 1 rfl).drop 1 rfl).drop 1 rfl)
          exact ⟨_, _, by rw [hN]; rfl, by rw [hN]; exact Row.im H81 (i := 0) rfl⟩
        · skip
          refine r_cons (s_assign (.slice pp67 2 cc68) rfl rfl ?_)
          refine r_nil ?_
          refine g_ret' [.slice pp67 2 cc68] Try.func20 Try.results20 ⟨rfl, trivial⟩ ?_
          have hN := names_lt hc12 hc54 (by cases hq : sLt c.left.var.v c.right.var.v with | true => rfl | false => exact absurd (sLt_total hq (by simpa using hb71)).symm he78)
          have H82 : St W w80 (Row 9 1 (.slice pp67 2 cc68) 2 ([c.left.var, c.right.var].flatMap strCell) :: F) := (((((((H79.move 2 rfl).drop 1 rfl).drop 1 rfl).drop 1 rfl).drop 1 rfl).drop 1 rfl).drop 1 rfl)
          exact ⟨_, _, by rw [hN]; rfl, by rw [hN]; exact Row.im H82 (i := 0) rfl⟩
set_option maxHeartbeats 4000000 in
set_option maxRecDepth 100000 in
theorem Equal_str {W w : World} {F : List Atom} (L M : List Str) (lv mv : Value) {m : Nat} (hm : F[m]? = some (Im 1 lv L.length (L.flatMap strCell))) {n : Nat} (hn : F[n]? = some (Im 1 mv M.length (M.flatMap strCell))) (H : St W w F) : Calls Try.prog 19 #[lv, mv] w (Ret fun v w' => v = .bool (eqS L M) ∧ St W w' F) := by
  obtain ⟨pp1, cc2, rfl, hn3⟩ := Rd.shape (Im.rd H (i := m) hm)
  have H4 := H.dup (i := m + 0) (by exact hm) (Im_pers _ _ _ _)
  have H5 : St W w (Im 1 (.slice pp1 L.length cc2) L.length (L.flatMap strCell) :: F) := H4
  obtain ⟨pp6, cc7, rfl, hn8⟩ := Rd.shape (Im.rd H (i := n) hn)
  have H9 := H5.dup (i := n + 1) (by exact hn) (Im_pers _ _ _ _)
  have H10 : St W w (Im 1 (.slice pp6 M.length cc7) M.length (M.flatMap strCell) :: Im 1 (.slice pp1 L.length cc2) L.length (L.flatMap strCell) :: F) := H9
  refine calls_of_go (n := 26) Try.func19 rfl Try.ntmps19 rfl ?_
  refine g_seq ?_
  refine g_region ?_
  refine r_cons (s_assign (.bool false) rfl rfl ?_)
  refine r_nil ?_
  refine g_seq ?_
  refine g_seq ?_
  refine g_region ?_
  refine r_cons (s_move (.slice pp1 L.length cc2) rfl rfl ?_)
  refine r_cons (s_len L.length rfl ⟨_, un_49⟩ rfl ?_)
  refine r_cons (s_move (.slice pp6 M.length cc7) rfl rfl ?_)
  refine r_cons (s_len M.length rfl ⟨_, un_49⟩ rfl ?_)
  by_cases hc11 : (L.length : Int) = (M.length : Int)
  · skip
    refine r_cons (s_neq false rfl rfl (ntrue hc11) rfl ?_)
    refine r_nil ?_
    refine g_false rfl ?_
    refine g_skip ?_
    refine g_seq ?_
    refine g_seq ?_
    refine g_region ?_
    refine r_cons (s_move (.slice pp1 L.length cc2) rfl rfl ?_)
    refine r_cons (s_len L.length rfl ⟨_, un_49⟩ rfl ?_)
    refine r_cons (s_move (.int .i64 0) rfl rfl ?_)
    refine r_nil ?_
    refine g_block ?_
    obtain ⟨pA12, cA13, gA14, oA15, kA16, eA17, zA18, he24, hn19, hp20, hx21, hs22, hml, H23⟩ := Im.open_ H10 (i := 1) rfl
    obtain ⟨rfl, rfl⟩ : pp1 = pA12 ∧ cc2 = cA13 := by injection he24 with a_ b_ c_; exact ⟨a_, c_⟩
    obtain ⟨pA25, cA26, gA27, oA28, kA29, eA30, zA31, he37, hn32, hp33, hx34, hs35, hml, H36⟩ := Im.open_ H23 (i := 1) rfl
    obtain ⟨rfl, rfl⟩ : pp6 = pA25 ∧ cc7 = cA26 := by injection he37 with a_ b_ c_; exact ⟨a_, c_⟩
    have H38 : St W w (imi (0 < M.length) gA27 (.cells kA29 eA30 zA31) :: imi (0 < L.length) gA14 (.cells kA16 eA17 zA18) :: Im 1 (.slice pp6 M.length cc7) M.length (M.flatMap strCell) :: Im 1 (.slice pp1 L.length cc2) L.length (L.flatMap strCell) :: F) := ((((H36.move 3 rfl).move 3 rfl).move 3 rfl).move 3 rfl)
    refine g_loop_inv (fun (x_ : Nat) => match x_ with | j => [(0, .slice pp1 L.length cc2), (1, .slice pp6 M.length cc7), (4, .bool false), (12, .int .i64 (L.length : Int)), (13, .int .i64 (j : Int))]) (fun (x_ : Nat) w => match x_ with | j => (j ≤ L.length) ∧ (∀ q, q < j → (L.getD q default).v = (M.getD q default).v) ∧ St W w (imi (0 < M.length) gA27 (.cells kA29 eA30 zA31) :: imi (0 < L.length) gA14 (.cells kA16 eA17 zA18) :: Im 1 (.slice pp6 M.length cc7) M.length (M.flatMap strCell) :: Im 1 (.slice pp1 L.length cc2) L.length (L.flatMap strCell) :: F)) (fun (x_ : Nat) => match x_ with | j => L.length - j) (0) ?_ ?_ ?_
    · exact ⟨by first | rfl | exact vint (by omega), by first | rfl | exact vint (by omega), by first | rfl | exact vint (by omega), by first | rfl | exact vint (by omega), by first | rfl | exact vint (by omega), trivial⟩
    · exact ⟨(by omega), (fun q hq => by omega), H38⟩
    · rintro j ρ39 w40 ⟨hjn, hz, H41⟩ nx42
      change Ends _ _ (upds ρ39 [(0, .slice pp1 L.length cc2), (1, .slice pp6 M.length cc7), (4, .bool false), (12, .int .i64 (L.length : Int)), (13, .int .i64 (j : Int))]) w40
      refine g_seq ?_
      refine g_region ?_
      by_cases hc43 : (j : Int) < (L.length : Int)
      · skip
        refine r_cons (s_lss true rfl rfl (dtrue hc43) rfl ?_)
        refine r_nil ?_
        refine g_seq ?_
        refine g_true rfl ?_
        refine g_skip ?_
        refine g_seq ?_
        refine g_block ?_
        refine g_seq ?_
        refine g_region ?_
        refine r_cons (s_move (.int .i64 (j : Int)) rfl rfl ?_)
        refine r_cons (s_assign (.int .i64 (j : Int)) rfl rfl ?_)
        refine r_nil ?_
        refine g_seq ?_
        refine g_quiet (fun w' => St W w' (imi (0 < M.length) gA27 (.cells kA29 eA30 zA31) :: imi (0 < L.length) gA14 (.cells kA16 eA17 zA18) :: Im 1 (.slice pp6 M.length cc7) M.length (M.flatMap strCell) :: Im 1 (.slice pp1 L.length cc2) L.length (L.flatMap strCell) :: F)) mixed (by kernel_rfl) H41.drew ?_
        refine q_cons (q_val rfl rfl rfl (by intro w hw; exact x_move (.slice pp1 L.length cc2) rfl w) ?_)
        refine q_cons (q_val rfl rfl rfl (by intro w hw; exact x_move (.int .i64 (j : Int)) rfl w) ?_)
        refine q_cons (q_val rfl rfl rfl (by intro w hw; exact x_indexAddr gA14 (off := oA15) (j : Int) 1 (oA15 + j * 1) (by exact congrArg (fun z_ => Value.slice z_ L.length cc2) (hp20 (by omega))) rfl el_49 (by omega) rfl w) ?_)
        refine q_cons (q_val rfl rfl rfl (by intro w hw; exact x_load (.string ((L.getD j default).v)) ag_9 rfl (hw.imi_at (i := 1) rfl (by omega)) (elem_cell (L := L) (i := j) strCell_len (hx21 (by omega)) (by omega) default 0 (by decide) _ rfl)) ?_)
        refine q_cons (q_val rfl rfl rfl (by intro w hw; exact x_move (.slice pp6 M.length cc7) rfl w) ?_)
        refine q_cons (q_val rfl rfl rfl (by intro w hw; exact x_move (.int .i64 (j : Int)) rfl w) ?_)
        refine q_cons (q_val rfl rfl rfl (by intro w hw; exact x_indexAddr gA27 (off := oA28) (j : Int) 1 (oA28 + j * 1) (by exact congrArg (fun z_ => Value.slice z_ M.length cc7) (hp33 (by omega))) rfl el_49 (by omega) rfl w) ?_)
        refine q_cons (q_val rfl rfl rfl (by intro w hw; exact x_load (.string ((M.getD j default).v)) ag_9 rfl (hw.imi_at (i := 0) rfl (by omega)) (elem_cell (L := M) (i := j) strCell_len (hx34 (by omega)) (by omega) default 0 (by decide) _ rfl)) ?_)
        by_cases hc44 : (L.getD j default).v = (M.getD j default).v
        · skip
          refine q_cons (q_val rfl rfl rfl (by intro w hw; exact x_sneq false rfl rfl (ntrue hc44) w) ?_)
          refine q_nil ?_
          intro w45 H46
          refine g_false rfl ?_
          refine g_skip ?_
          refine g_inBlock ?_
          refine g_region ?_
          refine r_cons (s_add ((j : Int) + 1) rfl rfl (wi64 (by omega)) rfl ?_)
          refine r_cons (s_move (.int .i64 ((j : Int) + 1)) rfl rfl ?_)
          refine r_nil ?_
          have H47 : St W w45 (imi (0 < M.length) gA27 (.cells kA29 eA30 zA31) :: imi (0 < L.length) gA14 (.cells kA16 eA17 zA18) :: Im 1 (.slice pp6 M.length cc7) M.length (M.flatMap strCell) :: Im 1 (.slice pp1 L.length cc2) L.length (L.flatMap strCell) :: F) := ((((H46.move 3 rfl).move 3 rfl).move 3 rfl).move 3 rfl)
          exact nx42 (j + 1) _ _ ⟨(by omega), (fun q hq => (Nat.lt_or_ge q j).elim (hz q) (fun h => by rw [show q = j from by omega]; exact hc44)), H47⟩ (by first | (dsimp only; omega) | omega) ⟨by first | rfl | exact vint (by omega), by first | rfl | exact vint (by omega), by first | rfl | exact vint (by omega), by first | rfl | exact vint (by omega), by first | rfl | exact vint (by omega), trivial⟩
        · skip
          refine q_cons (q_val rfl rfl rfl (by intro w hw; exact x_sneq true rfl rfl (nfalse hc44) w) ?_)
          refine q_nil ?_
          intro w48 H49
          refine g_true rfl ?_
          refine g_seq ?_
          refine g_region ?_
          refine r_cons (s_assign (.bool false) rfl rfl ?_)
          refine r_nil ?_
          refine g_ret' [.bool false] Try.func19 Try.results19 ⟨rfl, trivial⟩ ?_
          have H50 : St W w48 F := ((((H49.drop 0 rfl).drop 0 rfl).drop 0 rfl).drop 0 rfl)
          exact ⟨congrArg Value.bool (eqS_at hc44).symm, H50⟩
      · skip
        refine r_cons (s_lss false rfl rfl (dfalse hc43) rfl ?_)
        refine r_nil ?_
        refine g_seq ?_
        refine g_false rfl ?_
        refine g_exit (by rfl) ?_
        refine g_seq ?_
        refine g_region ?_
        refine r_cons (s_assign (.bool true) rfl rfl ?_)
        refine r_nil ?_
        refine g_ret' [.bool true] Try.func19 Try.results19 ⟨rfl, trivial⟩ ?_
        have H51 : St W w40 F := ((((H41.drop 0 rfl).drop 0 rfl).drop 0 rfl).drop 0 rfl)
        exact ⟨congrArg Value.bool (eqS_all (by omega) (fun q hq => hz q (by omega))).symm, H51⟩
  · skip
    refine r_cons (s_neq true rfl rfl (nfalse hc11) rfl ?_)
    refine r_nil ?_
    refine g_true rfl ?_
    refine g_seq ?_
    refine g_region ?_
    refine r_cons (s_assign (.bool false) rfl rfl ?_)
    refine r_nil ?_
    refine g_ret' [.bool false] Try.func19 Try.results19 ⟨rfl, trivial⟩ ?_
    have H52 : St W w F := ((H10.drop 0 rfl).drop 0 rfl)
    exact ⟨congrArg Value.bool (eqS_len (by omega)).symm, H52⟩
set_option maxHeartbeats 4000000 in
set_option maxRecDepth 100000 in
theorem pred_live {W w : World} {F : List Atom}  (H : St W w F) : Calls Try.prog 8 #[] w (Ret fun v w' => v = .bool true ∧ St W w' F) := by
  refine calls_of_go (n := 33) Try.func8 rfl Try.ntmps8 rfl ?_
  refine g_seq ?_
  refine g_region ?_
  refine r_cons (s_assign (.bool false) rfl rfl ?_)
  refine r_nil ?_
  refine g_seq ?_
  refine g_region ?_
  refine r_cons (s_build (cs := #[.string ByteArray.empty, .string (⟨#[120]⟩), .int .i64 0, .int .i64 0, .string ByteArray.empty]) (by kernel_rfl) rfl ?_)
  refine r_cons (s_build (cs := #[.int .i64 1, .int .i64 3, .string ByteArray.empty]) (by kernel_rfl) rfl ?_)
  refine r_cons (s_build (cs := #[.string ByteArray.empty, .string ByteArray.empty, .int .i64 1, .int .i64 3, .string ByteArray.empty]) (by kernel_rfl) rfl ?_)
  refine r_cons (s_build (cs := #[.string ByteArray.empty, .string (⟨#[120]⟩), .int .i64 0, .int .i64 0, .string ByteArray.empty, .int .i64 5, .string ByteArray.empty, .string ByteArray.empty, .int .i64 1, .int .i64 3, .string ByteArray.empty]) (by kernel_rfl) rfl ?_)
  refine r_cons (s_alloc H 27 ze_27 rfl ?_); intro bk1 w2 H3
  refine r_cons (s_storeAgg H3 0 #[.string ByteArray.empty, .string (⟨#[120]⟩), .int .i64 0, .int .i64 0, .string ByteArray.empty, .int .i64 5, .string ByteArray.empty, .string ByteArray.empty, .int .i64 1, .int .i64 3, .string ByteArray.empty] 11 rfl rfl rfl sz_27 rfl (by simp [Value.oneCell']) (Nat.le_of_ble_eq_true rfl) (fun o h1 h2 => by first | (simp; done) | (simp; omega)) (cs' := #[.string ByteArray.empty, .string (⟨#[120]⟩), .int .i64 0, .int .i64 0, .string ByteArray.empty, .int .i64 5, .string ByteArray.empty, .string ByteArray.empty, .int .i64 1, .int .i64 3, .string ByteArray.empty]) (by kernel_rfl) ?_); intro w4 H5
  refine r_nil ?_
  refine g_seq ?_
  refine g_region ?_
  refine r_cons (s_build (cs := #[.int .i64 1, .int .i64 5, .string ByteArray.empty]) (by kernel_rfl) rfl ?_)
  refine r_cons (s_build (cs := #[.string (⟨#[120]⟩), .int .i64 1, .int .i64 5, .string ByteArray.empty]) (by kernel_rfl) rfl ?_)
  refine r_cons (s_buildSlice H5 4 1 (cs := #[.string (⟨#[120]⟩), .int .i64 1, .int .i64 5, .string ByteArray.empty]) #[.string ByteArray.empty, .int .i64 0, .int .i64 0, .string ByteArray.empty] el_34 ze_65 (by decide) (by decide) (by kernel_rfl) rfl ?_); intro bk6 w7 H8
  refine r_cons (s_build (cs := #[.int .i64 0, .int .i64 0, .int .i64 0, .string (⟨#[65]⟩), .slice (some ⟨bk6, 0, none⟩) 1 1]) (by kernel_rfl) rfl ?_)
  refine r_cons (s_alloc H8 36 ze_36 rfl ?_); intro bk9 w10 H11
  refine r_cons (s_storeAgg H11 0 #[.int .i64 0, .int .i64 0, .int .i64 0, .string (⟨#[65]⟩), .slice (some ⟨bk6, 0, none⟩) 1 1] 5 rfl rfl rfl sz_36 rfl (by simp [Value.oneCell']) (Nat.le_of_ble_eq_true rfl) (fun o h1 h2 => by first | (simp; done) | (simp; omega)) (cs' := #[.int .i64 0, .int .i64 0, .int .i64 0, .string (⟨#[65]⟩), .slice (some ⟨bk6, 0, none⟩) 1 1]) rfl ?_); intro w12 H13
  refine r_nil ?_
  refine g_seq ?_
  refine g_region ?_
  refine r_cons (s_loadAgg [.string ByteArray.empty, .string (⟨#[120]⟩), .int .i64 0, .int .i64 0, .string ByteArray.empty, .int .i64 5, .string ByteArray.empty, .string ByteArray.empty, .int .i64 1, .int .i64 3, .string ByteArray.empty] 11 ag_27 rfl (H13.blk_at (i := 2) rfl) (Nat.le_of_ble_eq_true rfl) rfl rfl ?_)
  refine r_cons (s_loadAgg [.int .i64 0, .int .i64 0, .int .i64 0, .string (⟨#[65]⟩), .slice (some ⟨bk6, 0, none⟩) 1 1] 5 ag_36 rfl (H13.blk_at (i := 0) rfl) (Nat.le_of_ble_eq_true rfl) rfl rfl ?_)
  have H14 := Row.cut (n := 0) (m := 1) (c := 1) (size := 4) (xs := [.string (⟨#[120]⟩), .int .i64 1, .int .i64 5, .string ByteArray.empty]) H13 (i := 1) rfl (by decide) (by decide +kernel) rfl rfl (by simp [Value.oneCell'])
  have H15 : St W w12 (blk bk9 (.cells #[.int .i64 0, .int .i64 0, .int .i64 0, .string (⟨#[65]⟩), .slice (some ⟨bk6, 0, none⟩) 1 1] 36 (0, 0)) :: Row 65 4 (.slice (some ⟨bk6, 0, none⟩) 1 1) 1 [.string (⟨#[120]⟩), .int .i64 1, .int .i64 5, .string ByteArray.empty] :: blk bk1 (.cells #[.string ByteArray.empty, .string (⟨#[120]⟩), .int .i64 0, .int .i64 0, .string ByteArray.empty, .int .i64 5, .string ByteArray.empty, .string ByteArray.empty, .int .i64 1, .int .i64 3, .string ByteArray.empty] 27 (0, 0)) :: F) := H14
  have H16 : St W w12 (blk bk9 (.cells #[.int .i64 0, .int .i64 0, .int .i64 0, .string (⟨#[65]⟩), .slice (some ⟨bk6, 0, none⟩) 1 1] 36 (0, 0)) :: Attrs (.slice (some ⟨bk6, 0, none⟩) 1 1) [(⟨(⟨⟨#[120]⟩, by decide⟩ : Str), (⟨1, by decide, by decide⟩ : I64), (⟨5, by decide, by decide⟩ : I64), Str.none⟩ : AttrV)] :: blk bk1 (.cells #[.string ByteArray.empty, .string (⟨#[120]⟩), .int .i64 0, .int .i64 0, .string ByteArray.empty, .int .i64 5, .string ByteArray.empty, .string ByteArray.empty, .int .i64 1, .int .i64 3, .string ByteArray.empty] 27 (0, 0)) :: F) := Row.im H15 (i := 1) rfl
  refine r_cons (s_call [.agg #[.string ByteArray.empty, .string (⟨#[120]⟩), .int .i64 0, .int .i64 0, .string ByteArray.empty, .int .i64 5, .string ByteArray.empty, .string ByteArray.empty, .int .i64 1, .int .i64 3, .string ByteArray.empty], .agg #[.int .i64 0, .int .i64 0, .int .i64 0, .string (⟨#[65]⟩), .slice (some ⟨bk6, 0, none⟩) 1 1]] pl_9 rfl rfl (pred_Test (⟨(⟨Str.none, (⟨⟨#[120]⟩, by decide⟩ : Str), (⟨(⟨0, by decide, by decide⟩ : I64), (⟨0, by decide, by decide⟩ : I64), Str.none⟩ : ValV)⟩ : OpdV), (⟨5, by decide, by decide⟩ : I64), (⟨Str.none, Str.none, (⟨(⟨1, by decide, by decide⟩ : I64), (⟨3, by decide, by decide⟩ : I64), Str.none⟩ : ValV)⟩ : OpdV)⟩ : CondV) (⟨(⟨0, by decide, by decide⟩ : I64), (⟨0, by decide, by decide⟩ : I64), (⟨0, by decide, by decide⟩ : I64), (⟨⟨#[65]⟩, by decide⟩ : Str), [(⟨(⟨⟨#[120]⟩, by decide⟩ : Str), (⟨1, by decide, by decide⟩ : I64), (⟨5, by decide, by decide⟩ : I64), Str.none⟩ : AttrV)]⟩ : EvM) (.slice (some ⟨bk6, 0, none⟩) 1 1) (j := 1) rfl H16) ?_)
  rintro _ w17 ⟨rfl, H18⟩
  refine r_cons (s_move (.bool (testB (⟨(⟨Str.none, (⟨⟨#[120]⟩, by decide⟩ : Str), (⟨(⟨0, by decide, by decide⟩ : I64), (⟨0, by decide, by decide⟩ : I64), Str.none⟩ : ValV)⟩ : OpdV), (⟨5, by decide, by decide⟩ : I64), (⟨Str.none, Str.none, (⟨(⟨1, by decide, by decide⟩ : I64), (⟨3, by decide, by decide⟩ : I64), Str.none⟩ : ValV)⟩ : OpdV)⟩ : CondV) (⟨(⟨0, by decide, by decide⟩ : I64), (⟨0, by decide, by decide⟩ : I64), (⟨0, by decide, by decide⟩ : I64), (⟨⟨#[65]⟩, by decide⟩ : Str), [(⟨(⟨⟨#[120]⟩, by decide⟩ : Str), (⟨1, by decide, by decide⟩ : I64), (⟨5, by decide, by decide⟩ : I64), Str.none⟩ : AttrV)]⟩ : EvM).attrs)) rfl rfl ?_)
  refine r_cons (r_take rfl (congrArg some (show (testB (⟨(⟨Str.none, (⟨⟨#[120]⟩, by decide⟩ : Str), (⟨(⟨0, by decide, by decide⟩ : I64), (⟨0, by decide, by decide⟩ : I64), Str.none⟩ : ValV)⟩ : OpdV), (⟨5, by decide, by decide⟩ : I64), (⟨Str.none, Str.none, (⟨(⟨1, by decide, by decide⟩ : I64), (⟨3, by decide, by decide⟩ : I64), Str.none⟩ : ValV)⟩ : OpdV)⟩ : CondV) (⟨(⟨0, by decide, by decide⟩ : I64), (⟨0, by decide, by decide⟩ : I64), (⟨0, by decide, by decide⟩ : I64), (⟨⟨#[65]⟩, by decide⟩ : Str), [(⟨(⟨⟨#[120]⟩, by decide⟩ : Str), (⟨1, by decide, by decide⟩ : I64), (⟨5, by decide, by decide⟩ : I64), Str.none⟩ : AttrV)]⟩ : EvM).attrs) = true from by decide +kernel)) ?_)
  refine s_loadAgg [.string ByteArray.empty, .string (⟨#[120]⟩), .int .i64 0, .int .i64 0, .string ByteArray.empty, .int .i64 5, .string ByteArray.empty, .string ByteArray.empty, .int .i64 1, .int .i64 3, .string ByteArray.empty] 11 ag_27 rfl (H18.blk_at (i := 2) rfl) (Nat.le_of_ble_eq_true rfl) rfl rfl ?_
  refine r_cons (r_take rfl (congrArg some (show (testB (⟨(⟨Str.none, (⟨⟨#[120]⟩, by decide⟩ : Str), (⟨(⟨0, by decide, by decide⟩ : I64), (⟨0, by decide, by decide⟩ : I64), Str.none⟩ : ValV)⟩ : OpdV), (⟨5, by decide, by decide⟩ : I64), (⟨Str.none, Str.none, (⟨(⟨1, by decide, by decide⟩ : I64), (⟨3, by decide, by decide⟩ : I64), Str.none⟩ : ValV)⟩ : OpdV)⟩ : CondV) (⟨(⟨0, by decide, by decide⟩ : I64), (⟨0, by decide, by decide⟩ : I64), (⟨0, by decide, by decide⟩ : I64), (⟨⟨#[65]⟩, by decide⟩ : Str), [(⟨(⟨⟨#[120]⟩, by decide⟩ : Str), (⟨1, by decide, by decide⟩ : I64), (⟨5, by decide, by decide⟩ : I64), Str.none⟩ : AttrV)]⟩ : EvM).attrs) = true from by decide +kernel)) ?_)
  refine s_build (cs := #[.int .i64 0, .int .i64 0, .int .i64 0, .string ByteArray.empty, .slice none 0 0]) (by kernel_rfl) rfl ?_
  refine r_cons (r_take rfl (congrArg some (show (testB (⟨(⟨Str.none, (⟨⟨#[120]⟩, by decide⟩ : Str), (⟨(⟨0, by decide, by decide⟩ : I64), (⟨0, by decide, by decide⟩ : I64), Str.none⟩ : ValV)⟩ : OpdV), (⟨5, by decide, by decide⟩ : I64), (⟨Str.none, Str.none, (⟨(⟨1, by decide, by decide⟩ : I64), (⟨3, by decide, by decide⟩ : I64), Str.none⟩ : ValV)⟩ : OpdV)⟩ : CondV) (⟨(⟨0, by decide, by decide⟩ : I64), (⟨0, by decide, by decide⟩ : I64), (⟨0, by decide, by decide⟩ : I64), (⟨⟨#[65]⟩, by decide⟩ : Str), [(⟨(⟨⟨#[120]⟩, by decide⟩ : Str), (⟨1, by decide, by decide⟩ : I64), (⟨5, by decide, by decide⟩ : I64), Str.none⟩ : AttrV)]⟩ : EvM).attrs) = true from by decide +kernel)) ?_)
  have H19 : St W w17 (Attrs (.slice none 0 0) [] :: blk bk9 (.cells #[.int .i64 0, .int .i64 0, .int .i64 0, .string (⟨#[65]⟩), .slice (some ⟨bk6, 0, none⟩) 1 1] 36 (0, 0)) :: Attrs (.slice (some ⟨bk6, 0, none⟩) 1 1) [(⟨(⟨⟨#[120]⟩, by decide⟩ : Str), (⟨1, by decide, by decide⟩ : I64), (⟨5, by decide, by decide⟩ : I64), Str.none⟩ : AttrV)] :: blk bk1 (.cells #[.string ByteArray.empty, .string (⟨#[120]⟩), .int .i64 0, .int .i64 0, .string ByteArray.empty, .int .i64 5, .string ByteArray.empty, .string ByteArray.empty, .int .i64 1, .int .i64 3, .string ByteArray.empty] 27 (0, 0)) :: F) := Row.im (Row.nil_intro H18 65 4) (i := 0) rfl
  refine s_call [.agg #[.string ByteArray.empty, .string (⟨#[120]⟩), .int .i64 0, .int .i64 0, .string ByteArray.empty, .int .i64 5, .string ByteArray.empty, .string ByteArray.empty, .int .i64 1, .int .i64 3, .string ByteArray.empty], .agg #[.int .i64 0, .int .i64 0, .int .i64 0, .string ByteArray.empty, .slice none 0 0]] pl_9 rfl rfl (pred_Test (⟨(⟨Str.none, (⟨⟨#[120]⟩, by decide⟩ : Str), (⟨(⟨0, by decide, by decide⟩ : I64), (⟨0, by decide, by decide⟩ : I64), Str.none⟩ : ValV)⟩ : OpdV), (⟨5, by decide, by decide⟩ : I64), (⟨Str.none, Str.none, (⟨(⟨1, by decide, by decide⟩ : I64), (⟨3, by decide, by decide⟩ : I64), Str.none⟩ : ValV)⟩ : OpdV)⟩ : CondV) (⟨(⟨0, by decide, by decide⟩ : I64), (⟨0, by decide, by decide⟩ : I64), (⟨0, by decide, by decide⟩ : I64), Str.none, []⟩ : EvM) (.slice none 0 0) (j := 0) rfl H19) ?_
  rintro _ w20 ⟨rfl, H21⟩
  refine r_cons (r_take rfl (congrArg some (show (testB (⟨(⟨Str.none, (⟨⟨#[120]⟩, by decide⟩ : Str), (⟨(⟨0, by decide, by decide⟩ : I64), (⟨0, by decide, by decide⟩ : I64), Str.none⟩ : ValV)⟩ : OpdV), (⟨5, by decide, by decide⟩ : I64), (⟨Str.none, Str.none, (⟨(⟨1, by decide, by decide⟩ : I64), (⟨3, by decide, by decide⟩ : I64), Str.none⟩ : ValV)⟩ : OpdV)⟩ : CondV) (⟨(⟨0, by decide, by decide⟩ : I64), (⟨0, by decide, by decide⟩ : I64), (⟨0, by decide, by decide⟩ : I64), (⟨⟨#[65]⟩, by decide⟩ : Str), [(⟨(⟨⟨#[120]⟩, by decide⟩ : Str), (⟨1, by decide, by decide⟩ : I64), (⟨5, by decide, by decide⟩ : I64), Str.none⟩ : AttrV)]⟩ : EvM).attrs) = true from by decide +kernel)) ?_)
  refine s_not (testB (⟨(⟨Str.none, (⟨⟨#[120]⟩, by decide⟩ : Str), (⟨(⟨0, by decide, by decide⟩ : I64), (⟨0, by decide, by decide⟩ : I64), Str.none⟩ : ValV)⟩ : OpdV), (⟨5, by decide, by decide⟩ : I64), (⟨Str.none, Str.none, (⟨(⟨1, by decide, by decide⟩ : I64), (⟨3, by decide, by decide⟩ : I64), Str.none⟩ : ValV)⟩ : OpdV)⟩ : CondV) (⟨(⟨0, by decide, by decide⟩ : I64), (⟨0, by decide, by decide⟩ : I64), (⟨0, by decide, by decide⟩ : I64), Str.none, []⟩ : EvM).attrs) rfl true (by rw [(show (testB (⟨(⟨Str.none, (⟨⟨#[120]⟩, by decide⟩ : Str), (⟨(⟨0, by decide, by decide⟩ : I64), (⟨0, by decide, by decide⟩ : I64), Str.none⟩ : ValV)⟩ : OpdV), (⟨5, by decide, by decide⟩ : I64), (⟨Str.none, Str.none, (⟨(⟨1, by decide, by decide⟩ : I64), (⟨3, by decide, by decide⟩ : I64), Str.none⟩ : ValV)⟩ : OpdV)⟩ : CondV) (⟨(⟨0, by decide, by decide⟩ : I64), (⟨0, by decide, by decide⟩ : I64), (⟨0, by decide, by decide⟩ : I64), Str.none, []⟩ : EvM).attrs) = false from by decide +kernel)]; rfl) rfl ?_
  refine r_cons (s_pick_t (.bool true) (by exact congrArg Value.bool (show (testB (⟨(⟨Str.none, (⟨⟨#[120]⟩, by decide⟩ : Str), (⟨(⟨0, by decide, by decide⟩ : I64), (⟨0, by decide, by decide⟩ : I64), Str.none⟩ : ValV)⟩ : OpdV), (⟨5, by decide, by decide⟩ : I64), (⟨Str.none, Str.none, (⟨(⟨1, by decide, by decide⟩ : I64), (⟨3, by decide, by decide⟩ : I64), Str.none⟩ : ValV)⟩ : OpdV)⟩ : CondV) (⟨(⟨0, by decide, by decide⟩ : I64), (⟨0, by decide, by decide⟩ : I64), (⟨0, by decide, by decide⟩ : I64), (⟨⟨#[65]⟩, by decide⟩ : Str), [(⟨(⟨⟨#[120]⟩, by decide⟩ : Str), (⟨1, by decide, by decide⟩ : I64), (⟨5, by decide, by decide⟩ : I64), Str.none⟩ : AttrV)]⟩ : EvM).attrs) = true from by decide +kernel)) rfl rfl ?_)
  refine r_cons (s_move (.bool true) rfl rfl ?_)
  refine r_cons (r_take rfl rfl ?_)
  refine s_loadAgg [.string ByteArray.empty, .string (⟨#[120]⟩), .int .i64 0, .int .i64 0, .string ByteArray.empty, .int .i64 5, .string ByteArray.empty, .string ByteArray.empty, .int .i64 1, .int .i64 3, .string ByteArray.empty] 11 ag_27 rfl (H21.blk_at (i := 3) rfl) (Nat.le_of_ble_eq_true rfl) rfl rfl ?_
  refine r_cons (r_take rfl rfl ?_)
  refine s_buildSlice H21 11 1 (cs := #[.string ByteArray.empty, .string (⟨#[120]⟩), .int .i64 0, .int .i64 0, .string ByteArray.empty, .int .i64 5, .string ByteArray.empty, .string ByteArray.empty, .int .i64 1, .int .i64 3, .string ByteArray.empty]) #[.string ByteArray.empty, .string ByteArray.empty, .int .i64 0, .int .i64 0, .string ByteArray.empty, .int .i64 0, .string ByteArray.empty, .string ByteArray.empty, .int .i64 0, .int .i64 0, .string ByteArray.empty] el_28 ze_27 (by decide) (by decide) (by kernel_rfl) rfl ?_; intro bk22 w23 H24
  refine r_cons (r_take rfl rfl ?_)
  refine s_build (cs := #[.int .i64 1, .string ByteArray.empty, .string (⟨#[65]⟩), .slice (some ⟨bk22, 0, none⟩) 1 1, .slice none 0 0]) (by kernel_rfl) rfl ?_
  refine r_cons (r_take rfl rfl ?_)
  refine s_loadAgg [.int .i64 0, .int .i64 0, .int .i64 0, .string (⟨#[65]⟩), .slice (some ⟨bk6, 0, none⟩) 1 1] 5 ag_36 rfl (H24.blk_at (i := 2) rfl) (Nat.le_of_ble_eq_true rfl) rfl rfl ?_
  refine r_cons (r_take rfl rfl ?_)
  have H25 := Row.cut (n := 0) (m := 1) (c := 1) (size := 11) (xs := [.string ByteArray.empty, .string (⟨#[120]⟩), .int .i64 0, .int .i64 0, .string ByteArray.empty, .int .i64 5, .string ByteArray.empty, .string ByteArray.empty, .int .i64 1, .int .i64 3, .string ByteArray.empty]) H24 (i := 0) rfl (by decide) (by decide +kernel) rfl rfl (by simp [Value.oneCell'])
  have H26 : St W w23 (Row 27 11 (.slice (some ⟨bk22, 0, none⟩) 1 1) 1 [.string ByteArray.empty, .string (⟨#[120]⟩), .int .i64 0, .int .i64 0, .string ByteArray.empty, .int .i64 5, .string ByteArray.empty, .string ByteArray.empty, .int .i64 1, .int .i64 3, .string ByteArray.empty] :: Attrs (.slice none 0 0) [] :: blk bk9 (.cells #[.int .i64 0, .int .i64 0, .int .i64 0, .string (⟨#[65]⟩), .slice (some ⟨bk6, 0, none⟩) 1 1] 36 (0, 0)) :: Attrs (.slice (some ⟨bk6, 0, none⟩) 1 1) [(⟨(⟨⟨#[120]⟩, by decide⟩ : Str), (⟨1, by decide, by decide⟩ : I64), (⟨5, by decide, by decide⟩ : I64), Str.none⟩ : AttrV)] :: blk bk1 (.cells #[.string ByteArray.empty, .string (⟨#[120]⟩), .int .i64 0, .int .i64 0, .string ByteArray.empty, .int .i64 5, .string ByteArray.empty, .string ByteArray.empty, .int .i64 1, .int .i64 3, .string ByteArray.empty] 27 (0, 0)) :: F) := H25
  have H27 : St W w23 (Im 11 (.slice (some ⟨bk22, 0, none⟩) 1 1) 1 ([(⟨(⟨Str.none, (⟨⟨#[120]⟩, by decide⟩ : Str), (⟨(⟨0, by decide, by decide⟩ : I64), (⟨0, by decide, by decide⟩ : I64), Str.none⟩ : ValV)⟩ : OpdV), (⟨5, by decide, by decide⟩ : I64), (⟨Str.none, Str.none, (⟨(⟨1, by decide, by decide⟩ : I64), (⟨3, by decide, by decide⟩ : I64), Str.none⟩ : ValV)⟩ : OpdV)⟩ : CondV)].flatMap condCell) :: Attrs (.slice none 0 0) [] :: blk bk9 (.cells #[.int .i64 0, .int .i64 0, .int .i64 0, .string (⟨#[65]⟩), .slice (some ⟨bk6, 0, none⟩) 1 1] 36 (0, 0)) :: Attrs (.slice (some ⟨bk6, 0, none⟩) 1 1) [(⟨(⟨⟨#[120]⟩, by decide⟩ : Str), (⟨1, by decide, by decide⟩ : I64), (⟨5, by decide, by decide⟩ : I64), Str.none⟩ : AttrV)] :: blk bk1 (.cells #[.string ByteArray.empty, .string (⟨#[120]⟩), .int .i64 0, .int .i64 0, .string ByteArray.empty, .int .i64 5, .string ByteArray.empty, .string ByteArray.empty, .int .i64 1, .int .i64 3, .string ByteArray.empty] 27 (0, 0)) :: F) := Row.im H26 (i := 0) rfl
  refine s_call [.agg #[.int .i64 1, .string ByteArray.empty, .string (⟨#[65]⟩), .slice (some ⟨bk22, 0, none⟩) 1 1, .slice none 0 0], .agg #[.int .i64 0, .int .i64 0, .int .i64 0, .string (⟨#[65]⟩), .slice (some ⟨bk6, 0, none⟩) 1 1]] pl_11 rfl rfl (pred_Term 1 ByteArray.empty (⟨#[65]⟩) (some ⟨bk22, 0, none⟩) 1 [(⟨(⟨Str.none, (⟨⟨#[120]⟩, by decide⟩ : Str), (⟨(⟨0, by decide, by decide⟩ : I64), (⟨0, by decide, by decide⟩ : I64), Str.none⟩ : ValV)⟩ : OpdV), (⟨5, by decide, by decide⟩ : I64), (⟨Str.none, Str.none, (⟨(⟨1, by decide, by decide⟩ : I64), (⟨3, by decide, by decide⟩ : I64), Str.none⟩ : ValV)⟩ : OpdV)⟩ : CondV)] (.slice none 0 0) (⟨(⟨0, by decide, by decide⟩ : I64), (⟨0, by decide, by decide⟩ : I64), (⟨0, by decide, by decide⟩ : I64), (⟨⟨#[65]⟩, by decide⟩ : Str), [(⟨(⟨⟨#[120]⟩, by decide⟩ : Str), (⟨1, by decide, by decide⟩ : I64), (⟨5, by decide, by decide⟩ : I64), Str.none⟩ : AttrV)]⟩ : EvM) (.slice (some ⟨bk6, 0, none⟩) 1 1) (m := 0) rfl (j := 3) rfl H27) ?_
  rintro _ w28 ⟨rfl, H29⟩
  refine r_cons (s_pick_t (.bool (termB 1 (⟨#[65]⟩) [(⟨(⟨Str.none, (⟨⟨#[120]⟩, by decide⟩ : Str), (⟨(⟨0, by decide, by decide⟩ : I64), (⟨0, by decide, by decide⟩ : I64), Str.none⟩ : ValV)⟩ : OpdV), (⟨5, by decide, by decide⟩ : I64), (⟨Str.none, Str.none, (⟨(⟨1, by decide, by decide⟩ : I64), (⟨3, by decide, by decide⟩ : I64), Str.none⟩ : ValV)⟩ : OpdV)⟩ : CondV)] (⟨(⟨0, by decide, by decide⟩ : I64), (⟨0, by decide, by decide⟩ : I64), (⟨0, by decide, by decide⟩ : I64), (⟨⟨#[65]⟩, by decide⟩ : Str), [(⟨(⟨⟨#[120]⟩, by decide⟩ : Str), (⟨1, by decide, by decide⟩ : I64), (⟨5, by decide, by decide⟩ : I64), Str.none⟩ : AttrV)]⟩ : EvM))) rfl rfl rfl ?_)
  refine r_cons (s_move (.bool (termB 1 (⟨#[65]⟩) [(⟨(⟨Str.none, (⟨⟨#[120]⟩, by decide⟩ : Str), (⟨(⟨0, by decide, by decide⟩ : I64), (⟨0, by decide, by decide⟩ : I64), Str.none⟩ : ValV)⟩ : OpdV), (⟨5, by decide, by decide⟩ : I64), (⟨Str.none, Str.none, (⟨(⟨1, by decide, by decide⟩ : I64), (⟨3, by decide, by decide⟩ : I64), Str.none⟩ : ValV)⟩ : OpdV)⟩ : CondV)] (⟨(⟨0, by decide, by decide⟩ : I64), (⟨0, by decide, by decide⟩ : I64), (⟨0, by decide, by decide⟩ : I64), (⟨⟨#[65]⟩, by decide⟩ : Str), [(⟨(⟨⟨#[120]⟩, by decide⟩ : Str), (⟨1, by decide, by decide⟩ : I64), (⟨5, by decide, by decide⟩ : I64), Str.none⟩ : AttrV)]⟩ : EvM))) rfl rfl ?_)
  refine r_cons (r_take rfl (congrArg some (show (termB 1 (⟨#[65]⟩) [(⟨(⟨Str.none, (⟨⟨#[120]⟩, by decide⟩ : Str), (⟨(⟨0, by decide, by decide⟩ : I64), (⟨0, by decide, by decide⟩ : I64), Str.none⟩ : ValV)⟩ : OpdV), (⟨5, by decide, by decide⟩ : I64), (⟨Str.none, Str.none, (⟨(⟨1, by decide, by decide⟩ : I64), (⟨3, by decide, by decide⟩ : I64), Str.none⟩ : ValV)⟩ : OpdV)⟩ : CondV)] (⟨(⟨0, by decide, by decide⟩ : I64), (⟨0, by decide, by decide⟩ : I64), (⟨0, by decide, by decide⟩ : I64), (⟨⟨#[65]⟩, by decide⟩ : Str), [(⟨(⟨⟨#[120]⟩, by decide⟩ : Str), (⟨1, by decide, by decide⟩ : I64), (⟨5, by decide, by decide⟩ : I64), Str.none⟩ : AttrV)]⟩ : EvM)) = true from by decide +kernel)) ?_)
  refine s_loadAgg [.string ByteArray.empty, .string (⟨#[120]⟩), .int .i64 0, .int .i64 0, .string ByteArray.empty, .int .i64 5, .string ByteArray.empty, .string ByteArray.empty, .int .i64 1, .int .i64 3, .string ByteArray.empty] 11 ag_27 rfl (H29.blk_at (i := 4) rfl) (Nat.le_of_ble_eq_true rfl) rfl rfl ?_
  refine r_cons (r_take rfl (congrArg some (show (termB 1 (⟨#[65]⟩) [(⟨(⟨Str.none, (⟨⟨#[120]⟩, by decide⟩ : Str), (⟨(⟨0, by decide, by decide⟩ : I64), (⟨0, by decide, by decide⟩ : I64), Str.none⟩ : ValV)⟩ : OpdV), (⟨5, by decide, by decide⟩ : I64), (⟨Str.none, Str.none, (⟨(⟨1, by decide, by decide⟩ : I64), (⟨3, by decide, by decide⟩ : I64), Str.none⟩ : ValV)⟩ : OpdV)⟩ : CondV)] (⟨(⟨0, by decide, by decide⟩ : I64), (⟨0, by decide, by decide⟩ : I64), (⟨0, by decide, by decide⟩ : I64), (⟨⟨#[65]⟩, by decide⟩ : Str), [(⟨(⟨⟨#[120]⟩, by decide⟩ : Str), (⟨1, by decide, by decide⟩ : I64), (⟨5, by decide, by decide⟩ : I64), Str.none⟩ : AttrV)]⟩ : EvM)) = true from by decide +kernel)) ?_)
  refine s_call [.agg #[.string ByteArray.empty, .string (⟨#[120]⟩), .int .i64 0, .int .i64 0, .string ByteArray.empty, .int .i64 5, .string ByteArray.empty, .string ByteArray.empty, .int .i64 1, .int .i64 3, .string ByteArray.empty]] pl_20 rfl rfl (pred_Names (⟨(⟨Str.none, (⟨⟨#[120]⟩, by decide⟩ : Str), (⟨(⟨0, by decide, by decide⟩ : I64), (⟨0, by decide, by decide⟩ : I64), Str.none⟩ : ValV)⟩ : OpdV), (⟨5, by decide, by decide⟩ : I64), (⟨Str.none, Str.none, (⟨(⟨1, by decide, by decide⟩ : I64), (⟨3, by decide, by decide⟩ : I64), Str.none⟩ : ValV)⟩ : OpdV)⟩ : CondV) H29) ?_
  rintro _ w32 ⟨pp30, cc31, rfl, H33⟩
  refine r_cons (r_take rfl (congrArg some (show (termB 1 (⟨#[65]⟩) [(⟨(⟨Str.none, (⟨⟨#[120]⟩, by decide⟩ : Str), (⟨(⟨0, by decide, by decide⟩ : I64), (⟨0, by decide, by decide⟩ : I64), Str.none⟩ : ValV)⟩ : OpdV), (⟨5, by decide, by decide⟩ : I64), (⟨Str.none, Str.none, (⟨(⟨1, by decide, by decide⟩ : I64), (⟨3, by decide, by decide⟩ : I64), Str.none⟩ : ValV)⟩ : OpdV)⟩ : CondV)] (⟨(⟨0, by decide, by decide⟩ : I64), (⟨0, by decide, by decide⟩ : I64), (⟨0, by decide, by decide⟩ : I64), (⟨⟨#[65]⟩, by decide⟩ : Str), [(⟨(⟨⟨#[120]⟩, by decide⟩ : Str), (⟨1, by decide, by decide⟩ : I64), (⟨5, by decide, by decide⟩ : I64), Str.none⟩ : AttrV)]⟩ : EvM)) = true from by decide +kernel)) ?_)
  refine s_buildSlice H33 1 1 (cs := #[.string ByteArray.empty]) #[.string ByteArray.empty] el_49 ze_9 (by decide) (by decide) (by kernel_rfl) rfl ?_; intro bk34 w35 H36
  refine r_cons (r_take rfl (congrArg some (show (termB 1 (⟨#[65]⟩) [(⟨(⟨Str.none, (⟨⟨#[120]⟩, by decide⟩ : Str), (⟨(⟨0, by decide, by decide⟩ : I64), (⟨0, by decide, by decide⟩ : I64), Str.none⟩ : ValV)⟩ : OpdV), (⟨5, by decide, by decide⟩ : I64), (⟨Str.none, Str.none, (⟨(⟨1, by decide, by decide⟩ : I64), (⟨3, by decide, by decide⟩ : I64), Str.none⟩ : ValV)⟩ : OpdV)⟩ : CondV)] (⟨(⟨0, by decide, by decide⟩ : I64), (⟨0, by decide, by decide⟩ : I64), (⟨0, by decide, by decide⟩ : I64), (⟨⟨#[65]⟩, by decide⟩ : Str), [(⟨(⟨⟨#[120]⟩, by decide⟩ : Str), (⟨1, by decide, by decide⟩ : I64), (⟨5, by decide, by decide⟩ : I64), Str.none⟩ : AttrV)]⟩ : EvM)) = true from by decide +kernel)) ?_)
  have H37 := Row.cut (n := 0) (m := 1) (c := 1) (size := 1) (xs := [.string ByteArray.empty]) H36 (i := 0) rfl (by decide) (by decide +kernel) rfl rfl (by simp [Value.oneCell'])
  have H38 : St W w35 (Row 9 1 (.slice (some ⟨bk34, 0, none⟩) 1 1) 1 [.string ByteArray.empty] :: Im 1 (.slice pp30 ((namesV (⟨(⟨Str.none, (⟨⟨#[120]⟩, by decide⟩ : Str), (⟨(⟨0, by decide, by decide⟩ : I64), (⟨0, by decide, by decide⟩ : I64), Str.none⟩ : ValV)⟩ : OpdV), (⟨5, by decide, by decide⟩ : I64), (⟨Str.none, Str.none, (⟨(⟨1, by decide, by decide⟩ : I64), (⟨3, by decide, by decide⟩ : I64), Str.none⟩ : ValV)⟩ : OpdV)⟩ : CondV)).length) cc31) ((namesV (⟨(⟨Str.none, (⟨⟨#[120]⟩, by decide⟩ : Str), (⟨(⟨0, by decide, by decide⟩ : I64), (⟨0, by decide, by decide⟩ : I64), Str.none⟩ : ValV)⟩ : OpdV), (⟨5, by decide, by decide⟩ : I64), (⟨Str.none, Str.none, (⟨(⟨1, by decide, by decide⟩ : I64), (⟨3, by decide, by decide⟩ : I64), Str.none⟩ : ValV)⟩ : OpdV)⟩ : CondV)).length) ((namesV (⟨(⟨Str.none, (⟨⟨#[120]⟩, by decide⟩ : Str), (⟨(⟨0, by decide, by decide⟩ : I64), (⟨0, by decide, by decide⟩ : I64), Str.none⟩ : ValV)⟩ : OpdV), (⟨5, by decide, by decide⟩ : I64), (⟨Str.none, Str.none, (⟨(⟨1, by decide, by decide⟩ : I64), (⟨3, by decide, by decide⟩ : I64), Str.none⟩ : ValV)⟩ : OpdV)⟩ : CondV)).flatMap strCell) :: Im 11 (.slice (some ⟨bk22, 0, none⟩) 1 1) 1 ([(⟨(⟨Str.none, (⟨⟨#[120]⟩, by decide⟩ : Str), (⟨(⟨0, by decide, by decide⟩ : I64), (⟨0, by decide, by decide⟩ : I64), Str.none⟩ : ValV)⟩ : OpdV), (⟨5, by decide, by decide⟩ : I64), (⟨Str.none, Str.none, (⟨(⟨1, by decide, by decide⟩ : I64), (⟨3, by decide, by decide⟩ : I64), Str.none⟩ : ValV)⟩ : OpdV)⟩ : CondV)].flatMap condCell) :: Attrs (.slice none 0 0) [] :: blk bk9 (.cells #[.int .i64 0, .int .i64 0, .int .i64 0, .string (⟨#[65]⟩), .slice (some ⟨bk6, 0, none⟩) 1 1] 36 (0, 0)) :: Attrs (.slice (some ⟨bk6, 0, none⟩) 1 1) [(⟨(⟨⟨#[120]⟩, by decide⟩ : Str), (⟨1, by decide, by decide⟩ : I64), (⟨5, by decide, by decide⟩ : I64), Str.none⟩ : AttrV)] :: blk bk1 (.cells #[.string ByteArray.empty, .string (⟨#[120]⟩), .int .i64 0, .int .i64 0, .string ByteArray.empty, .int .i64 5, .string ByteArray.empty, .string ByteArray.empty, .int .i64 1, .int .i64 3, .string ByteArray.empty] 27 (0, 0)) :: F) := H37
  have H39 : St W w35 (Im 1 (.slice (some ⟨bk34, 0, none⟩) 1 1) 1 ([Str.none].flatMap strCell) :: Im 1 (.slice pp30 ((namesV (⟨(⟨Str.none, (⟨⟨#[120]⟩, by decide⟩ : Str), (⟨(⟨0, by decide, by decide⟩ : I64), (⟨0, by decide, by decide⟩ : I64), Str.none⟩ : ValV)⟩ : OpdV), (⟨5, by decide, by decide⟩ : I64), (⟨Str.none, Str.none, (⟨(⟨1, by decide, by decide⟩ : I64), (⟨3, by decide, by decide⟩ : I64), Str.none⟩ : ValV)⟩ : OpdV)⟩ : CondV)).length) cc31) ((namesV (⟨(⟨Str.none, (⟨⟨#[120]⟩, by decide⟩ : Str), (⟨(⟨0, by decide, by decide⟩ : I64), (⟨0, by decide, by decide⟩ : I64), Str.none⟩ : ValV)⟩ : OpdV), (⟨5, by decide, by decide⟩ : I64), (⟨Str.none, Str.none, (⟨(⟨1, by decide, by decide⟩ : I64), (⟨3, by decide, by decide⟩ : I64), Str.none⟩ : ValV)⟩ : OpdV)⟩ : CondV)).length) ((namesV (⟨(⟨Str.none, (⟨⟨#[120]⟩, by decide⟩ : Str), (⟨(⟨0, by decide, by decide⟩ : I64), (⟨0, by decide, by decide⟩ : I64), Str.none⟩ : ValV)⟩ : OpdV), (⟨5, by decide, by decide⟩ : I64), (⟨Str.none, Str.none, (⟨(⟨1, by decide, by decide⟩ : I64), (⟨3, by decide, by decide⟩ : I64), Str.none⟩ : ValV)⟩ : OpdV)⟩ : CondV)).flatMap strCell) :: Im 11 (.slice (some ⟨bk22, 0, none⟩) 1 1) 1 ([(⟨(⟨Str.none, (⟨⟨#[120]⟩, by decide⟩ : Str), (⟨(⟨0, by decide, by decide⟩ : I64), (⟨0, by decide, by decide⟩ : I64), Str.none⟩ : ValV)⟩ : OpdV), (⟨5, by decide, by decide⟩ : I64), (⟨Str.none, Str.none, (⟨(⟨1, by decide, by decide⟩ : I64), (⟨3, by decide, by decide⟩ : I64), Str.none⟩ : ValV)⟩ : OpdV)⟩ : CondV)].flatMap condCell) :: Attrs (.slice none 0 0) [] :: blk bk9 (.cells #[.int .i64 0, .int .i64 0, .int .i64 0, .string (⟨#[65]⟩), .slice (some ⟨bk6, 0, none⟩) 1 1] 36 (0, 0)) :: Attrs (.slice (some ⟨bk6, 0, none⟩) 1 1) [(⟨(⟨⟨#[120]⟩, by decide⟩ : Str), (⟨1, by decide, by decide⟩ : I64), (⟨5, by decide, by decide⟩ : I64), Str.none⟩ : AttrV)] :: blk bk1 (.cells #[.string ByteArray.empty, .string (⟨#[120]⟩), .int .i64 0, .int .i64 0, .string ByteArray.empty, .int .i64 5, .string ByteArray.empty, .string ByteArray.empty, .int .i64 1, .int .i64 3, .string ByteArray.empty] 27 (0, 0)) :: F) := Row.im H38 (i := 0) rfl
  refine s_call [.slice pp30 ((namesV (⟨(⟨Str.none, (⟨⟨#[120]⟩, by decide⟩ : Str), (⟨(⟨0, by decide, by decide⟩ : I64), (⟨0, by decide, by decide⟩ : I64), Str.none⟩ : ValV)⟩ : OpdV), (⟨5, by decide, by decide⟩ : I64), (⟨Str.none, Str.none, (⟨(⟨1, by decide, by decide⟩ : I64), (⟨3, by decide, by decide⟩ : I64), Str.none⟩ : ValV)⟩ : OpdV)⟩ : CondV)).length) cc31, .slice (some ⟨bk34, 0, none⟩) 1 1] pl_19 rfl rfl (Equal_str (namesV (⟨(⟨Str.none, (⟨⟨#[120]⟩, by decide⟩ : Str), (⟨(⟨0, by decide, by decide⟩ : I64), (⟨0, by decide, by decide⟩ : I64), Str.none⟩ : ValV)⟩ : OpdV), (⟨5, by decide, by decide⟩ : I64), (⟨Str.none, Str.none, (⟨(⟨1, by decide, by decide⟩ : I64), (⟨3, by decide, by decide⟩ : I64), Str.none⟩ : ValV)⟩ : OpdV)⟩ : CondV)) [Str.none] (.slice pp30 ((namesV (⟨(⟨Str.none, (⟨⟨#[120]⟩, by decide⟩ : Str), (⟨(⟨0, by decide, by decide⟩ : I64), (⟨0, by decide, by decide⟩ : I64), Str.none⟩ : ValV)⟩ : OpdV), (⟨5, by decide, by decide⟩ : I64), (⟨Str.none, Str.none, (⟨(⟨1, by decide, by decide⟩ : I64), (⟨3, by decide, by decide⟩ : I64), Str.none⟩ : ValV)⟩ : OpdV)⟩ : CondV)).length) cc31) (.slice (some ⟨bk34, 0, none⟩) 1 1) (m := 1) rfl (n := 0) rfl H39) ?_
  rintro _ w40 ⟨rfl, H41⟩
  refine r_cons (s_pick_t (.bool (eqS (namesV (⟨(⟨Str.none, (⟨⟨#[120]⟩, by decide⟩ : Str), (⟨(⟨0, by decide, by decide⟩ : I64), (⟨0, by decide, by decide⟩ : I64), Str.none⟩ : ValV)⟩ : OpdV), (⟨5, by decide, by decide⟩ : I64), (⟨Str.none, Str.none, (⟨(⟨1, by decide, by decide⟩ : I64), (⟨3, by decide, by decide⟩ : I64), Str.none⟩ : ValV)⟩ : OpdV)⟩ : CondV)) [Str.none])) (by exact congrArg Value.bool (show (termB 1 (⟨#[65]⟩) [(⟨(⟨Str.none, (⟨⟨#[120]⟩, by decide⟩ : Str), (⟨(⟨0, by decide, by decide⟩ : I64), (⟨0, by decide, by decide⟩ : I64), Str.none⟩ : ValV)⟩ : OpdV), (⟨5, by decide, by decide⟩ : I64), (⟨Str.none, Str.none, (⟨(⟨1, by decide, by decide⟩ : I64), (⟨3, by decide, by decide⟩ : I64), Str.none⟩ : ValV)⟩ : OpdV)⟩ : CondV)] (⟨(⟨0, by decide, by decide⟩ : I64), (⟨0, by decide, by decide⟩ : I64), (⟨0, by decide, by decide⟩ : I64), (⟨⟨#[65]⟩, by decide⟩ : Str), [(⟨(⟨⟨#[120]⟩, by decide⟩ : Str), (⟨1, by decide, by decide⟩ : I64), (⟨5, by decide, by decide⟩ : I64), Str.none⟩ : AttrV)]⟩ : EvM)) = true from by decide +kernel)) rfl rfl ?_)
  refine r_cons (s_assign (.bool (eqS (namesV (⟨(⟨Str.none, (⟨⟨#[120]⟩, by decide⟩ : Str), (⟨(⟨0, by decide, by decide⟩ : I64), (⟨0, by decide, by decide⟩ : I64), Str.none⟩ : ValV)⟩ : OpdV), (⟨5, by decide, by decide⟩ : I64), (⟨Str.none, Str.none, (⟨(⟨1, by decide, by decide⟩ : I64), (⟨3, by decide, by decide⟩ : I64), Str.none⟩ : ValV)⟩ : OpdV)⟩ : CondV)) [Str.none])) rfl rfl ?_)
  refine r_nil ?_
  refine g_ret' [.bool (eqS (namesV (⟨(⟨Str.none, (⟨⟨#[120]⟩, by decide⟩ : Str), (⟨(⟨0, by decide, by decide⟩ : I64), (⟨0, by decide, by decide⟩ : I64), Str.none⟩ : ValV)⟩ : OpdV), (⟨5, by decide, by decide⟩ : I64), (⟨Str.none, Str.none, (⟨(⟨1, by decide, by decide⟩ : I64), (⟨3, by decide, by decide⟩ : I64), Str.none⟩ : ValV)⟩ : OpdV)⟩ : CondV)) [Str.none])] Try.func8 Try.results8 ⟨rfl, trivial⟩ ?_
  have H42 : St W w40 F := (((((((H41.drop 0 rfl).drop 0 rfl).drop 0 rfl).drop 0 rfl).drop 0 rfl).drop 0 rfl).drop 0 rfl)
  exact ⟨congrArg Value.bool (show eqS (namesV (⟨(⟨Str.none, (⟨⟨#[120]⟩, by decide⟩ : Str), (⟨(⟨0, by decide, by decide⟩ : I64), (⟨0, by decide, by decide⟩ : I64), Str.none⟩ : ValV)⟩ : OpdV), (⟨5, by decide, by decide⟩ : I64), (⟨Str.none, Str.none, (⟨(⟨1, by decide, by decide⟩ : I64), (⟨3, by decide, by decide⟩ : I64), Str.none⟩ : ValV)⟩ : OpdV)⟩ : CondV)) [Str.none] = true from by decide +kernel), H42⟩
set_option maxHeartbeats 4000000 in
set_option maxRecDepth 100000 in
theorem PredTests_ {W w : World} {F : List Atom} (c : CondV) (n : NodeD) (e : EvM) (p : Option Addr) (q : Nat) {j k : Nat} (hj : F[j]? = some (Attrs (.slice p e.attrs.length q) e.attrs)) (hk : F[k]? = some (NodeA n)) (H : St W w F) : Calls Try.prog 3 #[.agg #[.string c.left.var.v, .string c.left.attr.v, .int .i64 c.left.val.kind.v, .int .i64 c.left.val.n.v, .string c.left.val.s.v, .int .i64 c.rel.v, .string c.right.var.v, .string c.right.attr.v, .int .i64 c.right.val.kind.v, .int .i64 c.right.val.n.v, .string c.right.val.s.v], .agg #[.int .i64 n.kind.v, .string n.var.v, .string n.typ.v, .slice n.tp n.tests.length n.tc, .slice n.kp n.kids.length n.kc], .agg #[.int .i64 e.src.v, .int .i64 e.seq.v, .int .i64 e.time.v, .string e.typ.v, .slice p e.attrs.length q]] w (Ret fun v w' => v = .bool true ∧ St W w' F) := by
  have H1 := NodeA.tests (H.dup hj (Attrs_pers _ _)) (i := k + 1) (by exact hk)
  refine calls_of_go (n := 26) Try.func3 rfl Try.ntmps3 rfl ?_
  refine g_seq ?_
  refine g_region ?_
  refine r_cons (s_box H1 27 (.agg #[.string c.left.var.v, .string c.left.attr.v, .int .i64 c.left.val.kind.v, .int .i64 c.left.val.n.v, .string c.left.val.s.v, .int .i64 c.rel.v, .string c.right.var.v, .string c.right.attr.v, .int .i64 c.right.val.kind.v, .int .i64 c.right.val.n.v, .string c.right.val.s.v]) rfl (cs := #[.string c.left.var.v, .string c.left.attr.v, .int .i64 c.left.val.kind.v, .int .i64 c.left.val.n.v, .string c.left.val.s.v, .int .i64 c.rel.v, .string c.right.var.v, .string c.right.attr.v, .int .i64 c.right.val.kind.v, .int .i64 c.right.val.n.v, .string c.right.val.s.v]) rfl rfl ?_); intro bk2 w3 H4
  refine r_cons (s_box H4 31 (.agg #[.int .i64 n.kind.v, .string n.var.v, .string n.typ.v, .slice n.tp n.tests.length n.tc, .slice n.kp n.kids.length n.kc]) rfl (cs := #[.int .i64 n.kind.v, .string n.var.v, .string n.typ.v, .slice n.tp n.tests.length n.tc, .slice n.kp n.kids.length n.kc]) rfl rfl ?_); intro bk5 w6 H7
  refine r_cons (s_box H7 36 (.agg #[.int .i64 e.src.v, .int .i64 e.seq.v, .int .i64 e.time.v, .string e.typ.v, .slice p e.attrs.length q]) rfl (cs := #[.int .i64 e.src.v, .int .i64 e.seq.v, .int .i64 e.time.v, .string e.typ.v, .slice p e.attrs.length q]) rfl rfl ?_); intro bk8 w9 H10
  refine r_cons (s_assign (.bool false) rfl rfl ?_)
  refine r_nil ?_
  refine g_seq ?_
  refine g_quiet (fun w' => St W w' (blk bk8 (.cells #[.int .i64 e.src.v, .int .i64 e.seq.v, .int .i64 e.time.v, .string e.typ.v, .slice p e.attrs.length q] 36 (0, 0)) :: blk bk5 (.cells #[.int .i64 n.kind.v, .string n.var.v, .string n.typ.v, .slice n.tp n.tests.length n.tc, .slice n.kp n.kids.length n.kc] 31 (0, 0)) :: blk bk2 (.cells #[.string c.left.var.v, .string c.left.attr.v, .int .i64 c.left.val.kind.v, .int .i64 c.left.val.n.v, .string c.left.val.s.v, .int .i64 c.rel.v, .string c.right.var.v, .string c.right.attr.v, .int .i64 c.right.val.kind.v, .int .i64 c.right.val.n.v, .string c.right.val.s.v] 27 (0, 0)) :: Im 11 (.slice n.tp n.tests.length n.tc) n.tests.length (n.tests.flatMap condCell) :: Attrs (.slice p e.attrs.length q) e.attrs :: F)) mixed (by kernel_rfl) H10.drew ?_
  refine q_cons (q_enter (args := #[]) (v := .bool true) rfl rfl rfl (x_call pl_8 [] rfl) (fun w hw => pred_live hw) ?_)
  refine q_cons (q_val rfl rfl rfl (by intro w hw; exact x_move (.bool true) rfl w) ?_)
  refine q_cons (q_take rfl rfl ?_)
  refine q_val rfl rfl rfl (by intro w hw; exact x_loadAgg [.string c.left.var.v, .string c.left.attr.v, .int .i64 c.left.val.kind.v, .int .i64 c.left.val.n.v, .string c.left.val.s.v, .int .i64 c.rel.v, .string c.right.var.v, .string c.right.attr.v, .int .i64 c.right.val.kind.v, .int .i64 c.right.val.n.v, .string c.right.val.s.v] 11 ag_27 rfl (hw.blk_at (i := 2) rfl) (Nat.le_of_ble_eq_true rfl) rfl) ?_
  refine q_cons (q_take rfl rfl ?_)
  refine q_val rfl rfl rfl (by intro w hw; exact x_loadAgg [.int .i64 e.src.v, .int .i64 e.seq.v, .int .i64 e.time.v, .string e.typ.v, .slice p e.attrs.length q] 5 ag_36 rfl (hw.blk_at (i := 0) rfl) (Nat.le_of_ble_eq_true rfl) rfl) ?_
  refine q_cons (q_take rfl rfl ?_)
  refine q_enter (args := #[.agg #[.string c.left.var.v, .string c.left.attr.v, .int .i64 c.left.val.kind.v, .int .i64 c.left.val.n.v, .string c.left.val.s.v, .int .i64 c.rel.v, .string c.right.var.v, .string c.right.attr.v, .int .i64 c.right.val.kind.v, .int .i64 c.right.val.n.v, .string c.right.val.s.v], .agg #[.int .i64 e.src.v, .int .i64 e.seq.v, .int .i64 e.time.v, .string e.typ.v, .slice p e.attrs.length q]]) (v := .bool (testB c e.attrs)) rfl rfl rfl (x_call pl_9 [.agg #[.string c.left.var.v, .string c.left.attr.v, .int .i64 c.left.val.kind.v, .int .i64 c.left.val.n.v, .string c.left.val.s.v, .int .i64 c.rel.v, .string c.right.var.v, .string c.right.attr.v, .int .i64 c.right.val.kind.v, .int .i64 c.right.val.n.v, .string c.right.val.s.v], .agg #[.int .i64 e.src.v, .int .i64 e.seq.v, .int .i64 e.time.v, .string e.typ.v, .slice p e.attrs.length q]] rfl) (fun w hw => pred_Test c e (.slice p e.attrs.length q) (j := 4) rfl hw) ?_
  refine q_cons (q_take rfl rfl ?_)
  refine q_val rfl rfl rfl (by intro w hw; exact x_loadAgg [.string c.left.var.v, .string c.left.attr.v, .int .i64 c.left.val.kind.v, .int .i64 c.left.val.n.v, .string c.left.val.s.v, .int .i64 c.rel.v, .string c.right.var.v, .string c.right.attr.v, .int .i64 c.right.val.kind.v, .int .i64 c.right.val.n.v, .string c.right.val.s.v] 11 ag_27 rfl (hw.blk_at (i := 2) rfl) (Nat.le_of_ble_eq_true rfl) rfl) ?_
  refine q_cons (q_take rfl rfl ?_)
  refine q_val rfl rfl rfl (by intro w hw; exact x_loadAgg [.int .i64 e.src.v, .int .i64 e.seq.v, .int .i64 e.time.v, .string e.typ.v, .slice p e.attrs.length q] 5 ag_36 rfl (hw.blk_at (i := 0) rfl) (Nat.le_of_ble_eq_true rfl) rfl) ?_
  refine q_cons (q_take rfl rfl ?_)
  refine q_enter (args := #[.agg #[.string c.left.var.v, .string c.left.attr.v, .int .i64 c.left.val.kind.v, .int .i64 c.left.val.n.v, .string c.left.val.s.v, .int .i64 c.rel.v, .string c.right.var.v, .string c.right.attr.v, .int .i64 c.right.val.kind.v, .int .i64 c.right.val.n.v, .string c.right.val.s.v], .agg #[.int .i64 e.src.v, .int .i64 e.seq.v, .int .i64 e.time.v, .string e.typ.v, .slice p e.attrs.length q]]) (v := .bool (testB c e.attrs)) rfl rfl rfl (x_call pl_10 [.agg #[.string c.left.var.v, .string c.left.attr.v, .int .i64 c.left.val.kind.v, .int .i64 c.left.val.n.v, .string c.left.val.s.v, .int .i64 c.rel.v, .string c.right.var.v, .string c.right.attr.v, .int .i64 c.right.val.kind.v, .int .i64 c.right.val.n.v, .string c.right.val.s.v], .agg #[.int .i64 e.src.v, .int .i64 e.seq.v, .int .i64 e.time.v, .string e.typ.v, .slice p e.attrs.length q]] rfl) (fun w hw => ref09_Test c e (.slice p e.attrs.length q) (j := 4) rfl hw) ?_
  refine q_cons (q_take rfl rfl ?_)
  refine q_val rfl rfl rfl (by intro w hw; exact x_beql true un_4 rfl rfl (dtrue rfl) w) ?_
  refine q_cons (q_val rfl rfl rfl (by intro w hw; exact x_pick_t (.bool true) rfl rfl w) ?_)
  refine q_cons (q_val rfl rfl rfl (by intro w hw; exact x_move (.bool true) rfl w) ?_)
  refine q_cons (q_take rfl rfl ?_)
  refine q_val rfl rfl rfl (by intro w hw; exact x_loadAgg [.int .i64 n.kind.v, .string n.var.v, .string n.typ.v, .slice n.tp n.tests.length n.tc, .slice n.kp n.kids.length n.kc] 5 ag_31 rfl (hw.blk_at (i := 1) rfl) (Nat.le_of_ble_eq_true rfl) rfl) ?_
  refine q_cons (q_take rfl rfl ?_)
  refine q_val rfl rfl rfl (by intro w hw; exact x_loadAgg [.int .i64 e.src.v, .int .i64 e.seq.v, .int .i64 e.time.v, .string e.typ.v, .slice p e.attrs.length q] 5 ag_36 rfl (hw.blk_at (i := 0) rfl) (Nat.le_of_ble_eq_true rfl) rfl) ?_
  refine q_cons (q_take rfl rfl ?_)
  refine q_enter (args := #[.agg #[.int .i64 n.kind.v, .string n.var.v, .string n.typ.v, .slice n.tp n.tests.length n.tc, .slice n.kp n.kids.length n.kc], .agg #[.int .i64 e.src.v, .int .i64 e.seq.v, .int .i64 e.time.v, .string e.typ.v, .slice p e.attrs.length q]]) (v := .bool (termB n.kind.v n.typ.v n.tests e)) rfl rfl rfl (x_call pl_11 [.agg #[.int .i64 n.kind.v, .string n.var.v, .string n.typ.v, .slice n.tp n.tests.length n.tc, .slice n.kp n.kids.length n.kc], .agg #[.int .i64 e.src.v, .int .i64 e.seq.v, .int .i64 e.time.v, .string e.typ.v, .slice p e.attrs.length q]] rfl) (fun w hw => pred_Term n.kind.v n.var.v n.typ.v n.tp n.tc n.tests (.slice n.kp n.kids.length n.kc) e (.slice p e.attrs.length q) (m := 3) rfl (j := 4) rfl hw) ?_
  refine q_cons (q_take rfl rfl ?_)
  refine q_val rfl rfl rfl (by intro w hw; exact x_loadAgg [.int .i64 n.kind.v, .string n.var.v, .string n.typ.v, .slice n.tp n.tests.length n.tc, .slice n.kp n.kids.length n.kc] 5 ag_31 rfl (hw.blk_at (i := 1) rfl) (Nat.le_of_ble_eq_true rfl) rfl) ?_
  refine q_cons (q_take rfl rfl ?_)
  refine q_val rfl rfl rfl (by intro w hw; exact x_loadAgg [.int .i64 e.src.v, .int .i64 e.seq.v, .int .i64 e.time.v, .string e.typ.v, .slice p e.attrs.length q] 5 ag_36 rfl (hw.blk_at (i := 0) rfl) (Nat.le_of_ble_eq_true rfl) rfl) ?_
  refine q_cons (q_take rfl rfl ?_)
  refine q_enter (args := #[.agg #[.int .i64 n.kind.v, .string n.var.v, .string n.typ.v, .slice n.tp n.tests.length n.tc, .slice n.kp n.kids.length n.kc], .agg #[.int .i64 e.src.v, .int .i64 e.seq.v, .int .i64 e.time.v, .string e.typ.v, .slice p e.attrs.length q]]) (v := .bool (termB n.kind.v n.typ.v n.tests e)) rfl rfl rfl (x_call pl_12 [.agg #[.int .i64 n.kind.v, .string n.var.v, .string n.typ.v, .slice n.tp n.tests.length n.tc, .slice n.kp n.kids.length n.kc], .agg #[.int .i64 e.src.v, .int .i64 e.seq.v, .int .i64 e.time.v, .string e.typ.v, .slice p e.attrs.length q]] rfl) (fun w hw => ref09_Term n.kind.v n.var.v n.typ.v n.tp n.tc n.tests (.slice n.kp n.kids.length n.kc) e (.slice p e.attrs.length q) (m := 3) rfl (j := 4) rfl hw) ?_
  refine q_cons (q_take rfl rfl ?_)
  refine q_val rfl rfl rfl (by intro w hw; exact x_beql true un_4 rfl rfl (dtrue rfl) w) ?_
  refine q_cons (q_val rfl rfl rfl (by intro w hw; exact x_pick_t (.bool true) rfl rfl w) ?_)
  refine q_cons (q_val rfl rfl rfl (by intro w hw; exact x_assign (.bool true) rfl w) ?_)
  refine q_nil ?_
  intro w11 H12
  refine g_ret' [.bool true] Try.func3 Try.results3 ⟨rfl, trivial⟩ ?_
  have H13 : St W w11 F := (((((H12.drop 0 rfl).drop 0 rfl).drop 0 rfl).drop 0 rfl).drop 0 rfl)
  exact ⟨rfl, H13⟩
end Sl
