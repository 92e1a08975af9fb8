/- Walks of the program's functions. Printed by a program of this claim's author. No condition. -/
import Derived.Test.YtlpbkclkhadnaaaSlBF
import Derived.Test.YtlpbkclkhadnaaaSlQ
import Derived.Test.YtlpbkclkhadnaaaProg
import Derived.Test.YtlpbkclkhadnaaaWalkPredNames0
namespace Sl
open _root_.Go _root_.Go.RowKit _root_.Go.Proofs
set_option linter.all false
set_option maxHeartbeats 4000000 in
set_option maxRecDepth 100000 in
theorem ref09_Names {W w : World} {F : List Atom} (c : CondV) (H : St W w F) : Calls Try.prog 21 #[.agg #[.string c.left.var.v, .string c.left.attr.v, .int .i64 c.left.val.kind.v, .int .i64 c.left.val.n.v, .string c.left.val.s.v, .int .i64 c.rel.v, .string c.right.var.v, .string c.right.attr.v, .int .i64 c.right.val.kind.v, .int .i64 c.right.val.n.v, .string c.right.val.s.v]] w (Ret fun v w' => ∃ p q, v = .slice p (namesV c).length q ∧ St W w' (Im 1 (.slice p (namesV c).length q) (namesV c).length ((namesV c).flatMap strCell) :: F)) := by
  refine calls_of_go (n := 60) Try.func21 rfl Try.ntmps21 rfl ?_
  refine g_seq ?_
  refine g_region ?_
  refine r_cons (s_box H 27 (.agg #[.string c.left.var.v, .string c.left.attr.v, .int .i64 c.left.val.kind.v, .int .i64 c.left.val.n.v, .string c.left.val.s.v, .int .i64 c.rel.v, .string c.right.var.v, .string c.right.attr.v, .int .i64 c.right.val.kind.v, .int .i64 c.right.val.n.v, .string c.right.val.s.v]) rfl (cs := #[.string c.left.var.v, .string c.left.attr.v, .int .i64 c.left.val.kind.v, .int .i64 c.left.val.n.v, .string c.left.val.s.v, .int .i64 c.rel.v, .string c.right.var.v, .string c.right.attr.v, .int .i64 c.right.val.kind.v, .int .i64 c.right.val.n.v, .string c.right.val.s.v]) rfl rfl ?_); intro bk1 w2 H3
  refine r_cons (s_assign (.slice none 0 0) rfl rfl ?_)
  refine r_nil ?_
  refine g_seq ?_
  refine g_cut (fun (x : Nat × Nat) => match x with | (bk4, bk7) => [(2, .slice none 0 0), (3, .pointer (some ⟨bk4, 0, none⟩)), (4, .pointer (some ⟨bk7, 0, none⟩))]) (fun (x : Nat × Nat) w => match x with | (bk4, bk7) => St W w (blk bk7 (.cells #[.string c.right.var.v, .string c.right.attr.v, .int .i64 c.right.val.kind.v, .int .i64 c.right.val.n.v, .string c.right.val.s.v] 25 (0, 0)) :: blk bk4 (.cells #[.string c.left.var.v, .string c.left.attr.v, .int .i64 c.left.val.kind.v, .int .i64 c.left.val.n.v, .string c.left.val.s.v] 25 (0, 0)) :: blk bk1 (.cells #[.string c.left.var.v, .string c.left.attr.v, .int .i64 c.left.val.kind.v, .int .i64 c.left.val.n.v, .string c.left.val.s.v, .int .i64 c.rel.v, .string c.right.var.v, .string c.right.attr.v, .int .i64 c.right.val.kind.v, .int .i64 c.right.val.n.v, .string c.right.val.s.v] 27 (0, 0)) :: F)) ?_ ?_
  · rintro ⟨bk4, bk7⟩ ρ7 w5 H6
    change Ends _ _ (upds ρ7 [(2, .slice none 0 0), (3, .pointer (some ⟨bk4, 0, none⟩)), (4, .pointer (some ⟨bk7, 0, none⟩))]) w5
    refine g_seq ?_
    refine g_block ?_
    refine g_seq ?_
    refine g_region ?_
    refine r_cons (s_fieldAddr 25 1 1 1 9 rfl fi_25_1 rfl rfl ?_)
    refine r_cons (s_load (.string c.left.attr.v) ag_9 rfl (H6.blk_at (i := 1) rfl) rfl rfl ?_)
    by_cases hc8 : c.left.attr.v = ByteArray.empty
    · skip
      refine r_cons (s_seql true rfl rfl (dtrue hc8) rfl ?_)
      refine r_cons (s_move (.bool true) rfl rfl ?_)
      refine r_cons (r_take rfl rfl ?_)
      refine s_fieldAddr 25 1 1 1 9 rfl fi_25_1 rfl rfl ?_
      refine r_cons (r_take rfl rfl ?_)
      refine s_load (.string c.right.attr.v) ag_9 rfl (H6.blk_at (i := 0) rfl) rfl rfl ?_
      refine r_cons (r_take rfl rfl ?_)
      by_cases hc9 : c.right.attr.v = ByteArray.empty
      · skip
        refine s_seql true rfl rfl (dtrue hc9) rfl ?_
        refine r_cons (s_pick_t (.bool true) rfl rfl rfl ?_)
        refine r_cons (s_assign (.bool true) rfl rfl ?_)
        refine r_nil ?_
        refine g_true rfl ?_
        refine g_seq ?_
        refine g_region ?_
        refine r_cons (s_assign (.slice none 0 0) rfl rfl ?_)
        refine r_nil ?_
        refine g_ret' [.slice none 0 0] Try.func21 Try.results21 ⟨rfl, trivial⟩ ?_
        have H10 : St W w5 F := (((H6.drop 0 rfl).drop 0 rfl).drop 0 rfl)
        have hN := names_0 hc8 hc9
        exact ⟨none, 0, by rw [hN]; rfl, by rw [hN]; exact Row.im (Row.nil_intro H10 9 1) (i := 0) rfl⟩
      · skip
        refine s_seql false rfl rfl (dfalse hc9) rfl ?_
        refine r_cons (s_pick_t (.bool false) rfl rfl rfl ?_)
        refine r_cons (s_assign (.bool false) rfl rfl ?_)
        refine r_nil ?_
        refine g_false rfl ?_
        refine g_seq ?_
        refine g_region ?_
        refine r_cons (s_fieldAddr 25 1 1 1 9 rfl fi_25_1 rfl rfl ?_)
        refine r_cons (s_load (.string c.right.attr.v) ag_9 rfl (H6.blk_at (i := 0) rfl) rfl rfl ?_)
        refine r_cons (s_seql false rfl rfl (dfalse hc9) rfl ?_)
        refine r_cons (s_move (.bool false) rfl rfl ?_)
        refine r_cons (r_take rfl rfl ?_)
        refine s_fieldAddr 25 1 1 1 9 rfl fi_25_1 rfl rfl ?_
        refine r_cons (r_take rfl rfl ?_)
        refine s_load (.string c.left.attr.v) ag_9 rfl (H6.blk_at (i := 1) rfl) rfl rfl ?_
        refine r_cons (r_take rfl rfl ?_)
        refine s_sneq false rfl rfl (ntrue hc8) rfl ?_
        refine r_cons (r_take rfl rfl ?_)
        refine s_move (.bool false) rfl rfl ?_
        refine r_cons (r_pass rfl rfl rfl rfl rfl ?_)
        refine r_cons (r_pass rfl rfl rfl rfl rfl ?_)
        refine r_cons (r_pass rfl rfl rfl rfl rfl ?_)
        refine r_cons (r_pass rfl rfl rfl rfl rfl ?_)
        refine r_cons (r_pass rfl rfl rfl rfl rfl ?_)
        refine r_cons (r_take rfl rfl ?_)
        refine s_pick_f (.bool false) rfl rfl rfl ?_
        refine r_cons (s_pick_f (.bool false) rfl rfl rfl ?_)
        refine r_cons (s_assign (.bool false) rfl rfl ?_)
        refine r_nil ?_
        refine g_false rfl ?_
        refine g_seq ?_
        refine g_region ?_
        refine r_cons (s_fieldAddr 25 1 1 1 9 rfl fi_25_1 rfl rfl ?_)
        refine r_cons (s_load (.string c.left.attr.v) ag_9 rfl (H6.blk_at (i := 1) rfl) rfl rfl ?_)
        refine r_cons (s_seql true rfl rfl (dtrue hc8) rfl ?_)
        refine r_cons (s_assign (.bool true) rfl rfl ?_)
        refine r_nil ?_
        refine g_true rfl ?_
        refine g_seq ?_
        refine g_region ?_
        refine r_cons (s_fieldAddr 25 0 0 0 9 rfl fi_25_0 rfl rfl ?_)
        refine r_cons (s_load (.string c.right.var.v) ag_9 rfl (H6.blk_at (i := 0) rfl) rfl rfl ?_)
        refine r_cons (s_buildSlice H6 1 1 (cs := #[.string c.right.var.v]) #[.string ByteArray.empty] el_49 ze_9 (by decide) (by decide) (by kernel_rfl) rfl ?_); intro bk11 w12 H13
        refine r_cons (s_assign (.slice (some ⟨bk11, 0, none⟩) 1 1) rfl rfl ?_)
        refine r_nil ?_
        refine g_ret' [.slice (some ⟨bk11, 0, none⟩) 1 1] Try.func21 Try.results21 ⟨rfl, trivial⟩ ?_
        have H14 := Row.cut (n := 0) (m := 1) (c := 1) (size := 1) (xs := [.string c.right.var.v]) H13 (i := 0) rfl (by decide) (by decide +kernel) rfl rfl (by simp [Value.oneCell'])
        have H15 : St W w12 (Row 9 1 (.slice (some ⟨bk11, 0, none⟩) 1 1) 1 [.string c.right.var.v] :: blk bk7 (.cells #[.string c.right.var.v, .string c.right.attr.v, .int .i64 c.right.val.kind.v, .int .i64 c.right.val.n.v, .string c.right.val.s.v] 25 (0, 0)) :: blk bk4 (.cells #[.string c.left.var.v, .string c.left.attr.v, .int .i64 c.left.val.kind.v, .int .i64 c.left.val.n.v, .string c.left.val.s.v] 25 (0, 0)) :: blk bk1 (.cells #[.string c.left.var.v, .string c.left.attr.v, .int .i64 c.left.val.kind.v, .int .i64 c.left.val.n.v, .string c.left.val.s.v, .int .i64 c.rel.v, .string c.right.var.v, .string c.right.attr.v, .int .i64 c.right.val.kind.v, .int .i64 c.right.val.n.v, .string c.right.val.s.v] 27 (0, 0)) :: F) := H14
        have hN := names_r hc8 hc9
        have H16 : St W w12 (Row 9 1 (.slice (some ⟨bk11, 0, none⟩) 1 1) 1 [.string c.right.var.v] :: F) := (((H15.drop 1 rfl).drop 1 rfl).drop 1 rfl)
        exact ⟨_, _, by rw [hN]; rfl, by rw [hN]; exact Row.im H16 (i := 0) rfl⟩
    · skip
      refine r_cons (s_seql false rfl rfl (dfalse hc8) rfl ?_)
      refine r_cons (s_move (.bool false) rfl rfl ?_)
      refine r_cons (r_pass rfl rfl rfl rfl rfl ?_)
      refine r_cons (r_pass rfl rfl rfl rfl rfl ?_)
      refine r_cons (r_pass rfl rfl rfl rfl rfl ?_)
      refine r_cons (s_pick_f (.bool false) rfl rfl rfl ?_)
      refine r_cons (s_assign (.bool false) rfl rfl ?_)
      refine r_nil ?_
      refine g_false rfl ?_
      refine g_seq ?_
      refine g_region ?_
      refine r_cons (s_fieldAddr 25 1 1 1 9 rfl fi_25_1 rfl rfl ?_)
      refine r_cons (s_load (.string c.right.attr.v) ag_9 rfl (H6.blk_at (i := 0) rfl) rfl rfl ?_)
      by_cases hc17 : c.right.attr.v = ByteArray.empty
      · skip
        refine r_cons (s_seql true rfl rfl (dtrue hc17) rfl ?_)
        refine r_cons (s_move (.bool true) rfl rfl ?_)
        refine r_cons (r_pass rfl rfl rfl rfl rfl ?_)
        refine r_cons (r_pass rfl rfl rfl rfl rfl ?_)
        refine r_cons (r_pass rfl rfl rfl rfl rfl ?_)
        refine r_cons (r_pass rfl rfl rfl rfl rfl ?_)
        refine r_cons (r_passN rfl rfl rfl rfl ?_)
        refine r_cons (r_passN rfl rfl rfl rfl ?_)
        refine r_cons (r_passN rfl rfl rfl rfl ?_)
        refine r_cons (r_passN rfl rfl rfl rfl ?_)
        refine r_cons (r_passN rfl rfl rfl rfl ?_)
        refine r_cons (r_pass rfl rfl rfl rfl rfl ?_)
        refine r_cons (s_pick_t (.bool true) rfl rfl rfl ?_)
        refine r_cons (s_assign (.bool true) rfl rfl ?_)
        refine r_nil ?_
        refine g_true rfl ?_
        refine g_seq ?_
        refine g_region ?_
        refine r_cons (s_fieldAddr 25 0 0 0 9 rfl fi_25_0 rfl rfl ?_)
        refine r_cons (s_load (.string c.left.var.v) ag_9 rfl (H6.blk_at (i := 1) rfl) rfl rfl ?_)
        refine r_cons (s_buildSlice H6 1 1 (cs := #[.string c.left.var.v]) #[.string ByteArray.empty] el_49 ze_9 (by decide) (by decide) (by kernel_rfl) rfl ?_); intro bk18 w19 H20
        refine r_cons (s_assign (.slice (some ⟨bk18, 0, none⟩) 1 1) rfl rfl ?_)
        refine r_nil ?_
        refine g_ret' [.slice (some ⟨bk18, 0, none⟩) 1 1] Try.func21 Try.results21 ⟨rfl, trivial⟩ ?_
        have H21 := Row.cut (n := 0) (m := 1) (c := 1) (size := 1) (xs := [.string c.left.var.v]) H20 (i := 0) rfl (by decide) (by decide +kernel) rfl rfl (by simp [Value.oneCell'])
        have H22 : St W w19 (Row 9 1 (.slice (some ⟨bk18, 0, none⟩) 1 1) 1 [.string c.left.var.v] :: blk bk7 (.cells #[.string c.right.var.v, .string c.right.attr.v, .int .i64 c.right.val.kind.v, .int .i64 c.right.val.n.v, .string c.right.val.s.v] 25 (0, 0)) :: blk bk4 (.cells #[.string c.left.var.v, .string c.left.attr.v, .int .i64 c.left.val.kind.v, .int .i64 c.left.val.n.v, .string c.left.val.s.v] 25 (0, 0)) :: blk bk1 (.cells #[.string c.left.var.v, .string c.left.attr.v, .int .i64 c.left.val.kind.v, .int .i64 c.left.val.n.v, .string c.left.val.s.v, .int .i64 c.rel.v, .string c.right.var.v, .string c.right.attr.v, .int .i64 c.right.val.kind.v, .int .i64 c.right.val.n.v, .string c.right.val.s.v] 27 (0, 0)) :: F) := H21
        have hN := names_l hc8 hc17
        have H23 : St W w19 (Row 9 1 (.slice (some ⟨bk18, 0, none⟩) 1 1) 1 [.string c.left.var.v] :: F) := (((H22.drop 1 rfl).drop 1 rfl).drop 1 rfl)
        exact ⟨_, _, by rw [hN]; rfl, by rw [hN]; exact Row.im H23 (i := 0) rfl⟩
      · skip
        refine r_cons (s_seql false rfl rfl (dfalse hc17) rfl ?_)
        refine r_cons (s_move (.bool false) rfl rfl ?_)
        refine r_cons (r_take rfl rfl ?_)
        refine s_fieldAddr 25 1 1 1 9 rfl fi_25_1 rfl rfl ?_
        refine r_cons (r_take rfl rfl ?_)
        refine s_load (.string c.left.attr.v) ag_9 rfl (H6.blk_at (i := 1) rfl) rfl rfl ?_
        refine r_cons (r_take rfl rfl ?_)
        refine s_sneq true rfl rfl (nfalse hc8) rfl ?_
        refine r_cons (r_take rfl rfl ?_)
        refine s_move (.bool true) rfl rfl ?_
        refine r_cons (r_take rfl rfl ?_)
        refine s_fieldAddr 25 0 0 0 9 rfl fi_25_0 rfl rfl ?_
        refine r_cons (r_take rfl rfl ?_)
        refine s_load (.string c.left.var.v) ag_9 rfl (H6.blk_at (i := 1) rfl) rfl rfl ?_
        refine r_cons (r_take rfl rfl ?_)
        refine s_fieldAddr 25 0 0 0 9 rfl fi_25_0 rfl rfl ?_
        refine r_cons (r_take rfl rfl ?_)
        refine s_load (.string c.right.var.v) ag_9 rfl (H6.blk_at (i := 0) rfl) rfl rfl ?_
        refine r_cons (r_take rfl rfl ?_)
        by_cases hc24 : c.left.var.v = c.right.var.v
        · skip
          refine s_seql true rfl rfl (dtrue hc24) rfl ?_
          refine r_cons (r_take rfl rfl ?_)
          refine s_pick_t (.bool true) rfl rfl rfl ?_
          refine r_cons (s_pick_f (.bool true) rfl rfl rfl ?_)
          refine r_cons (s_assign (.bool true) rfl rfl ?_)
          refine r_nil ?_
          refine g_true rfl ?_
          refine g_seq ?_
          refine g_region ?_
          refine r_cons (s_fieldAddr 25 0 0 0 9 rfl fi_25_0 rfl rfl ?_)
          refine r_cons (s_load (.string c.left.var.v) ag_9 rfl (H6.blk_at (i := 1) rfl) rfl rfl ?_)
          refine r_cons (s_buildSlice H6 1 1 (cs := #[.string c.left.var.v]) #[.string ByteArray.empty] el_49 ze_9 (by decide) (by decide) (by kernel_rfl) rfl ?_); intro bk25 w26 H27
          refine r_cons (s_assign (.slice (some ⟨bk25, 0, none⟩) 1 1) rfl rfl ?_)
          refine r_nil ?_
          refine g_ret' [.slice (some ⟨bk25, 0, none⟩) 1 1] Try.func21 Try.results21 ⟨rfl, trivial⟩ ?_
          have H28 := Row.cut (n := 0) (m := 1) (c := 1) (size := 1) (xs := [.string c.left.var.v]) H27 (i := 0) rfl (by decide) (by decide +kernel) rfl rfl (by simp [Value.oneCell'])
          have H29 : St W w26 (Row 9 1 (.slice (some ⟨bk25, 0, none⟩) 1 1) 1 [.string c.left.var.v] :: blk bk7 (.cells #[.string c.right.var.v, .string c.right.attr.v, .int .i64 c.right.val.kind.v, .int .i64 c.right.val.n.v, .string c.right.val.s.v] 25 (0, 0)) :: blk bk4 (.cells #[.string c.left.var.v, .string c.left.attr.v, .int .i64 c.left.val.kind.v, .int .i64 c.left.val.n.v, .string c.left.val.s.v] 25 (0, 0)) :: blk bk1 (.cells #[.string c.left.var.v, .string c.left.attr.v, .int .i64 c.left.val.kind.v, .int .i64 c.left.val.n.v, .string c.left.val.s.v, .int .i64 c.rel.v, .string c.right.var.v, .string c.right.attr.v, .int .i64 c.right.val.kind.v, .int .i64 c.right.val.n.v, .string c.right.val.s.v] 27 (0, 0)) :: F) := H28
          have hN := names_e hc8 hc17 hc24
          have H30 : St W w26 (Row 9 1 (.slice (some ⟨bk25, 0, none⟩) 1 1) 1 [.string c.left.var.v] :: F) := (((H29.drop 1 rfl).drop 1 rfl).drop 1 rfl)
          exact ⟨_, _, by rw [hN]; rfl, by rw [hN]; exact Row.im H30 (i := 0) rfl⟩
        · skip
          refine s_seql false rfl rfl (dfalse hc24) rfl ?_
          refine r_cons (r_take rfl rfl ?_)
          refine s_pick_t (.bool false) rfl rfl rfl ?_
          refine r_cons (s_pick_f (.bool false) rfl rfl rfl ?_)
          refine r_cons (s_assign (.bool false) rfl rfl ?_)
          refine r_nil ?_
          refine g_false rfl ?_
          refine g_seq ?_
          refine g_region ?_
          refine r_cons (s_fieldAddr 25 1 1 1 9 rfl fi_25_1 rfl rfl ?_)
          refine r_cons (s_load (.string c.left.attr.v) ag_9 rfl (H6.blk_at (i := 1) rfl) rfl rfl ?_)
          refine r_cons (s_seql false rfl rfl (dfalse hc8) rfl ?_)
          refine r_cons (s_assign (.bool false) rfl rfl ?_)
          refine r_nil ?_
          refine g_false rfl ?_
          refine g_seq ?_
          refine g_region ?_
          refine r_cons (s_fieldAddr 25 0 0 0 9 rfl fi_25_0 rfl rfl ?_)
          refine r_cons (s_load (.string c.left.var.v) ag_9 rfl (H6.blk_at (i := 1) rfl) rfl rfl ?_)
          refine r_cons (s_fieldAddr 25 0 0 0 9 rfl fi_25_0 rfl rfl ?_)
          refine r_cons (s_load (.string c.right.var.v) ag_9 rfl (H6.blk_at (i := 0) rfl) rfl rfl ?_)
          refine r_cons (s_slss (sLt c.left.var.v c.right.var.v) rfl rfl rfl rfl ?_)
          refine r_cons (s_assign (.bool (sLt c.left.var.v c.right.var.v)) rfl rfl ?_)
          refine r_nil ?_
          by_cases hb31 : (sLt c.left.var.v c.right.var.v) = true
          · skip
            refine g_true (congrArg Value.bool hb31) ?_
            refine g_seq ?_
            refine g_region ?_
            refine r_cons (s_fieldAddr 25 0 0 0 9 rfl fi_25_0 rfl rfl ?_)
            refine r_cons (s_load (.string c.left.var.v) ag_9 rfl (H6.blk_at (i := 1) rfl) rfl rfl ?_)
            refine r_cons (s_fieldAddr 25 0 0 0 9 rfl fi_25_0 rfl rfl ?_)
            refine r_cons (s_load (.string c.right.var.v) ag_9 rfl (H6.blk_at (i := 0) rfl) rfl rfl ?_)
            refine r_cons (s_buildSlice H6 1 2 (cs := #[.string c.left.var.v, .string c.right.var.v]) #[.string ByteArray.empty] el_49 ze_9 (by decide) (by decide) (by kernel_rfl) rfl ?_); intro bk32 w33 H34
            refine r_cons (s_assign (.slice (some ⟨bk32, 0, none⟩) 2 2) rfl rfl ?_)
            refine r_nil ?_
            refine g_ret' [.slice (some ⟨bk32, 0, none⟩) 2 2] Try.func21 Try.results21 ⟨rfl, trivial⟩ ?_
            have H35 := Row.cut (n := 0) (m := 2) (c := 2) (size := 1) (xs := [.string c.left.var.v, .string c.right.var.v]) H34 (i := 0) rfl (by decide) (by decide +kernel) rfl rfl (by simp [Value.oneCell'])
            have H36 : St W w33 (Row 9 1 (.slice (some ⟨bk32, 0, none⟩) 2 2) 2 [.string c.left.var.v, .string c.right.var.v] :: blk bk7 (.cells #[.string c.right.var.v, .string c.right.attr.v, .int .i64 c.right.val.kind.v, .int .i64 c.right.val.n.v, .string c.right.val.s.v] 25 (0, 0)) :: blk bk4 (.cells #[.string c.left.var.v, .string c.left.attr.v, .int .i64 c.left.val.kind.v, .int .i64 c.left.val.n.v, .string c.left.val.s.v] 25 (0, 0)) :: blk bk1 (.cells #[.string c.left.var.v, .string c.left.attr.v, .int .i64 c.left.val.kind.v, .int .i64 c.left.val.n.v, .string c.left.val.s.v, .int .i64 c.rel.v, .string c.right.var.v, .string c.right.attr.v, .int .i64 c.right.val.kind.v, .int .i64 c.right.val.n.v, .string c.right.val.s.v] 27 (0, 0)) :: F) := H35
            have hN := names_lt hc8 hc17 hb31
            have H37 : St W w33 (Row 9 1 (.slice (some ⟨bk32, 0, none⟩) 2 2) 2 [.string c.left.var.v, .string c.right.var.v] :: F) := (((H36.drop 1 rfl).drop 1 rfl).drop 1 rfl)
            exact ⟨_, _, by rw [hN]; rfl, by rw [hN]; exact Row.im H37 (i := 0) rfl⟩
          · have hb31 := eq_false_of_ne_true hb31
            refine g_false (congrArg Value.bool hb31) ?_
            refine g_skip ?_
            refine g_inBlock ?_
            refine g_seq ?_
            refine g_region ?_
            refine r_cons (s_fieldAddr 25 0 0 0 9 rfl fi_25_0 rfl rfl ?_)
            refine r_cons (s_load (.string c.right.var.v) ag_9 rfl (H6.blk_at (i := 0) rfl) rfl rfl ?_)
            refine r_cons (s_fieldAddr 25 0 0 0 9 rfl fi_25_0 rfl rfl ?_)
            refine r_cons (s_load (.string c.left.var.v) ag_9 rfl (H6.blk_at (i := 1) rfl) rfl rfl ?_)
            refine r_cons (s_buildSlice H6 1 2 (cs := #[.string c.right.var.v, .string c.left.var.v]) #[.string ByteArray.empty] el_49 ze_9 (by decide) (by decide) (by kernel_rfl) rfl ?_); intro bk38 w39 H40
            refine r_cons (s_assign (.slice (some ⟨bk38, 0, none⟩) 2 2) rfl rfl ?_)
            refine r_nil ?_
            refine g_ret' [.slice (some ⟨bk38, 0, none⟩) 2 2] Try.func21 Try.results21 ⟨rfl, trivial⟩ ?_
            have H41 := Row.cut (n := 0) (m := 2) (c := 2) (size := 1) (xs := [.string c.right.var.v, .string c.left.var.v]) H40 (i := 0) rfl (by decide) (by decide +kernel) rfl rfl (by simp [Value.oneCell'])
            have H42 : St W w39 (Row 9 1 (.slice (some ⟨bk38, 0, none⟩) 2 2) 2 [.string c.right.var.v, .string c.left.var.v] :: blk bk7 (.cells #[.string c.right.var.v, .string c.right.attr.v, .int .i64 c.right.val.kind.v, .int .i64 c.right.val.n.v, .string c.right.val.s.v] 25 (0, 0)) :: blk bk4 (.cells #[.string c.left.var.v, .string c.left.attr.v, .int .i64 c.left.val.kind.v, .int .i64 c.left.val.n.v, .string c.left.val.s.v] 25 (0, 0)) :: blk bk1 (.cells #[.string c.left.var.v, .string c.left.attr.v, .int .i64 c.left.val.kind.v, .int .i64 c.left.val.n.v, .string c.left.val.s.v, .int .i64 c.rel.v, .string c.right.var.v, .string c.right.attr.v, .int .i64 c.right.val.kind.v, .int .i64 c.right.val.n.v, .string c.right.val.s.v] 27 (0, 0)) :: F) := H41
            have hN := names_ge hc8 hc17 hc24 hb31
            have H43 : St W w39 (Row 9 1 (.slice (some ⟨bk38, 0, none⟩) 2 2) 2 [.string c.right.var.v, .string c.left.var.v] :: F) := (((H42.drop 1 rfl).drop 1 rfl).drop 1 rfl)
            exact ⟨_, _, by rw [hN]; rfl, by rw [hN]; exact Row.im H43 (i := 0) rfl⟩
  · intro join4
    refine g_any mixed 8 rfl ?_
    intro w44 hw45
    have H46 := H3.drew
    rw [← hw45] at H46
    clear hw45
    refine a_take 0 (listed' := #[true, false, false, false, false, false, false, false]) rfl (by kernel_rfl) (by kernel_rfl) (by kernel_rfl) rfl rfl rfl rfl (fun w => x_fieldAddr 27 0 0 0 25 rfl fi_27_0 rfl w) ?_
    refine a_take 2 (listed' := #[true, false, true, false, false, false, false, false]) rfl (by kernel_rfl) (by kernel_rfl) (by kernel_rfl) rfl rfl rfl rfl (fun w => x_fieldAddr 27 2 6 6 25 rfl fi_27_2 rfl w) ?_
    refine a_all (rs := [1, 3, 4, 5]) (by kernel_rfl) (by simp) ?_
    refine a_cons ⟨_, rfl, ?_⟩ (a_cons ⟨_, rfl, ?_⟩ (a_cons ⟨_, rfl, ?_⟩ (a_cons ⟨_, rfl, ?_⟩ (fun x hx => absurd hx (by simp)))))
    · skip
      refine s_loadAgg [.string c.left.var.v, .string c.left.attr.v, .int .i64 c.left.val.kind.v, .int .i64 c.left.val.n.v, .string c.left.val.s.v] 5 ag_25 rfl (H46.blk_at (i := 0) rfl) (Nat.le_of_ble_eq_true rfl) rfl rfl ?_
      change AnyG _ _ _ _ #[true, true, true, false, false, false, false, false] _ _
      refine a_all (rs := [3, 4, 5]) (by kernel_rfl) (by simp) ?_
      refine a_cons ⟨_, rfl, ?_⟩ (a_cons ⟨_, rfl, ?_⟩ (a_cons ⟨_, rfl, ?_⟩ (fun x hx => absurd hx (by simp))))
      · skip
        refine s_loadAgg [.string c.right.var.v, .string c.right.attr.v, .int .i64 c.right.val.kind.v, .int .i64 c.right.val.n.v, .string c.right.val.s.v] 5 ag_25 rfl (H46.blk_at (i := 0) rfl) (Nat.le_of_ble_eq_true rfl) rfl rfl ?_
        change AnyG _ _ _ _ #[true, true, true, true, false, false, false, false] _ _
        refine a_all (rs := [4, 5]) (by kernel_rfl) (by simp) ?_
        refine a_cons ⟨_, rfl, ?_⟩ (a_cons ⟨_, rfl, ?_⟩ (fun x hx => absurd hx (by simp)))
        · skip
          refine s_alloc H46 25 ze_25 rfl ?_; intro bk47 w48 H49
          change AnyG _ _ _ _ #[true, true, true, true, true, false, false, false] _ _
          refine a_all (rs := [5]) (by kernel_rfl) (by simp) ?_
          refine a_cons ⟨_, rfl, ?_⟩ (fun x hx => absurd hx (by simp))
          refine s_alloc H49 25 ze_25 rfl ?_; intro bk50 w51 H52
          change AnyG _ _ _ _ #[true, true, true, true, true, true, false, false] _ _
          refine a_all (rs := [6]) (by kernel_rfl) (by simp) ?_
          refine a_cons ⟨_, rfl, ?_⟩ (fun x hx => absurd hx (by simp))
          refine s_storeAgg H52 1 #[.string c.left.var.v, .string c.left.attr.v, .int .i64 c.left.val.kind.v, .int .i64 c.left.val.n.v, .string c.left.val.s.v] 5 rfl rfl rfl sz_25 rfl (by simp [Value.oneCell']) (Nat.le_of_ble_eq_true rfl) (fun o h1 h2 => by first | (simp; done) | (simp; omega)) (cs' := #[.string c.left.var.v, .string c.left.attr.v, .int .i64 c.left.val.kind.v, .int .i64 c.left.val.n.v, .string c.left.val.s.v]) rfl ?_; intro w53 H54
          change AnyG _ _ _ _ #[true, true, true, true, true, true, true, false] _ _
          refine a_all (rs := [7]) (by kernel_rfl) (by simp) ?_
          refine a_cons ⟨_, rfl, ?_⟩ (fun x hx => absurd hx (by simp))
          refine s_storeAgg H54 0 #[.string c.right.var.v, .string c.right.attr.v, .int .i64 c.right.val.kind.v, .int .i64 c.right.val.n.v, .string c.right.val.s.v] 5 rfl rfl rfl sz_25 rfl (by simp [Value.oneCell']) (Nat.le_of_ble_eq_true rfl) (fun o h1 h2 => by first | (simp; done) | (simp; omega)) (cs' := #[.string c.right.var.v, .string c.right.attr.v, .int .i64 c.right.val.kind.v, .int .i64 c.right.val.n.v, .string c.right.val.s.v]) rfl ?_; intro w55 H56
          change AnyG _ _ _ _ #[true, true, true, true, true, true, true, true] _ _
          refine a_done (by kernel_rfl) ?_
          exact join4 (bk47, bk50) _ _ H56 ⟨rfl, rfl, rfl, trivial⟩
        · skip
          refine s_alloc H46 25 ze_25 rfl ?_; intro bk57 w58 H59
          change AnyG _ _ _ _ #[true, true, true, true, false, true, false, false] _ _
          refine a_all (rs := [4]) (by kernel_rfl) (by simp) ?_
          refine a_cons ⟨_, rfl, ?_⟩ (fun x hx => absurd hx (by simp))
          refine s_alloc H59 25 ze_25 rfl ?_; intro bk60 w61 H62
          change AnyG _ _ _ _ #[true, true, true, true, true, true, false, false] _ _
          refine a_all (rs := [6]) (by kernel_rfl) (by simp) ?_
          refine a_cons ⟨_, rfl, ?_⟩ (fun x hx => absurd hx (by simp))
          refine s_storeAgg H62 0 #[.string c.left.var.v, .string c.left.attr.v, .int .i64 c.left.val.kind.v, .int .i64 c.left.val.n.v, .string c.left.val.s.v] 5 rfl rfl rfl sz_25 rfl (by simp [Value.oneCell']) (Nat.le_of_ble_eq_true rfl) (fun o h1 h2 => by first | (simp; done) | (simp; omega)) (cs' := #[.string c.left.var.v, .string c.left.attr.v, .int .i64 c.left.val.kind.v, .int .i64 c.left.val.n.v, .string c.left.val.s.v]) rfl ?_; intro w63 H64
          change AnyG _ _ _ _ #[true, true, true, true, true, true, true, false] _ _
          refine a_all (rs := [7]) (by kernel_rfl) (by simp) ?_
          refine a_cons ⟨_, rfl, ?_⟩ (fun x hx => absurd hx (by simp))
          refine s_storeAgg H64 1 #[.string c.right.var.v, .string c.right.attr.v, .int .i64 c.right.val.kind.v, .int .i64 c.right.val.n.v, .string c.right.val.s.v] 5 rfl rfl rfl sz_25 rfl (by simp [Value.oneCell']) (Nat.le_of_ble_eq_true rfl) (fun o h1 h2 => by first | (simp; done) | (simp; omega)) (cs' := #[.string c.right.var.v, .string c.right.attr.v, .int .i64 c.right.val.kind.v, .int .i64 c.right.val.n.v, .string c.right.val.s.v]) rfl ?_; intro w65 H66
          change AnyG _ _ _ _ #[true, true, true, true, true, true, true, true] _ _
          refine a_done (by kernel_rfl) ?_
          have H67 : St W w65 (blk bk57 (.cells #[.string c.right.var.v, .string c.right.attr.v, .int .i64 c.right.val.kind.v, .int .i64 c.right.val.n.v, .string c.right.val.s.v] 25 (0, 0)) :: blk bk60 (.cells #[.string c.left.var.v, .string c.left.attr.v, .int .i64 c.left.val.kind.v, .int .i64 c.left.val.n.v, .string c.left.val.s.v] 25 (0, 0)) :: blk bk1 (.cells #[.string c.left.var.v, .string c.left.attr.v, .int .i64 c.left.val.kind.v, .int .i64 c.left.val.n.v, .string c.left.val.s.v, .int .i64 c.rel.v, .string c.right.var.v, .string c.right.attr.v, .int .i64 c.right.val.kind.v, .int .i64 c.right.val.n.v, .string c.right.val.s.v] 27 (0, 0)) :: F) := (((H66.move 2 rfl).move 1 rfl).move 2 rfl)
          exact join4 (bk60, bk57) _ _ H67 ⟨rfl, rfl, rfl, trivial⟩
      · skip
        refine s_alloc H46 25 ze_25 rfl ?_; intro bk68 w69 H70
        change AnyG _ _ _ _ #[true, true, true, false, true, false, false, false] _ _
        refine a_all (rs := [3, 5]) (by kernel_rfl) (by simp) ?_
        refine a_cons ⟨_, rfl, ?_⟩ (a_cons ⟨_, rfl, ?_⟩ (fun x hx => absurd hx (by simp)))
        · skip
          refine s_loadAgg [.string c.right.var.v, .string c.right.attr.v, .int .i64 c.right.val.kind.v, .int .i64 c.right.val.n.v, .string c.right.val.s.v] 5 ag_25 rfl (H70.blk_at (i := 1) rfl) (Nat.le_of_ble_eq_true rfl) rfl rfl ?_
          change AnyG _ _ _ _ #[true, true, true, true, true, false, false, false] _ _
          refine a_all (rs := [5]) (by kernel_rfl) (by simp) ?_
          refine a_cons ⟨_, rfl, ?_⟩ (fun x hx => absurd hx (by simp))
          refine s_alloc H70 25 ze_25 rfl ?_; intro bk71 w72 H73
          change AnyG _ _ _ _ #[true, true, true, true, true, true, false, false] _ _
          refine a_all (rs := [6]) (by kernel_rfl) (by simp) ?_
          refine a_cons ⟨_, rfl, ?_⟩ (fun x hx => absurd hx (by simp))
          refine s_storeAgg H73 1 #[.string c.left.var.v, .string c.left.attr.v, .int .i64 c.left.val.kind.v, .int .i64 c.left.val.n.v, .string c.left.val.s.v] 5 rfl rfl rfl sz_25 rfl (by simp [Value.oneCell']) (Nat.le_of_ble_eq_true rfl) (fun o h1 h2 => by first | (simp; done) | (simp; omega)) (cs' := #[.string c.left.var.v, .string c.left.attr.v, .int .i64 c.left.val.kind.v, .int .i64 c.left.val.n.v, .string c.left.val.s.v]) rfl ?_; intro w74 H75
          change AnyG _ _ _ _ #[true, true, true, true, true, true, true, false] _ _
          refine a_all (rs := [7]) (by kernel_rfl) (by simp) ?_
          refine a_cons ⟨_, rfl, ?_⟩ (fun x hx => absurd hx (by simp))
          refine s_storeAgg H75 0 #[.string c.right.var.v, .string c.right.attr.v, .int .i64 c.right.val.kind.v, .int .i64 c.right.val.n.v, .string c.right.val.s.v] 5 rfl rfl rfl sz_25 rfl (by simp [Value.oneCell']) (Nat.le_of_ble_eq_true rfl) (fun o h1 h2 => by first | (simp; done) | (simp; omega)) (cs' := #[.string c.right.var.v, .string c.right.attr.v, .int .i64 c.right.val.kind.v, .int .i64 c.right.val.n.v, .string c.right.val.s.v]) rfl ?_; intro w76 H77
          change AnyG _ _ _ _ #[true, true, true, true, true, true, true, true] _ _
          refine a_done (by kernel_rfl) ?_
          exact join4 (bk68, bk71) _ _ H77 ⟨rfl, rfl, rfl, trivial⟩
        · skip
          refine s_alloc H70 25 ze_25 rfl ?_; intro bk78 w79 H80
          change AnyG _ _ _ _ #[true, true, true, false, true, true, false, false] _ _
          refine a_all (rs := [3, 6]) (by kernel_rfl) (by simp) ?_
          refine a_cons ⟨_, rfl, ?_⟩ (a_cons ⟨_, rfl, ?_⟩ (fun x hx => absurd hx (by simp)))
          · skip
            refine s_loadAgg [.string c.right.var.v, .string c.right.attr.v, .int .i64 c.right.val.kind.v, .int .i64 c.right.val.n.v, .string c.right.val.s.v] 5 ag_25 rfl (H80.blk_at (i := 2) rfl) (Nat.le_of_ble_eq_true rfl) rfl rfl ?_
            change AnyG _ _ _ _ #[true, true, true, true, true, true, false, false] _ _
            refine a_all (rs := [6]) (by kernel_rfl) (by simp) ?_
            refine a_cons ⟨_, rfl, ?_⟩ (fun x hx => absurd hx (by simp))
            refine s_storeAgg H80 1 #[.string c.left.var.v, .string c.left.attr.v, .int .i64 c.left.val.kind.v, .int .i64 c.left.val.n.v, .string c.left.val.s.v] 5 rfl rfl rfl sz_25 rfl (by simp [Value.oneCell']) (Nat.le_of_ble_eq_true rfl) (fun o h1 h2 => by first | (simp; done) | (simp; omega)) (cs' := #[.string c.left.var.v, .string c.left.attr.v, .int .i64 c.left.val.kind.v, .int .i64 c.left.val.n.v, .string c.left.val.s.v]) rfl ?_; intro w81 H82
            change AnyG _ _ _ _ #[true, true, true, true, true, true, true, false] _ _
            refine a_all (rs := [7]) (by kernel_rfl) (by simp) ?_
            refine a_cons ⟨_, rfl, ?_⟩ (fun x hx => absurd hx (by simp))
            refine s_storeAgg H82 0 #[.string c.right.var.v, .string c.right.attr.v, .int .i64 c.right.val.kind.v, .int .i64 c.right.val.n.v, .string c.right.val.s.v] 5 rfl rfl rfl sz_25 rfl (by simp [Value.oneCell']) (Nat.le_of_ble_eq_true rfl) (fun o h1 h2 => by first | (simp; done) | (simp; omega)) (cs' := #[.string c.right.var.v, .string c.right.attr.v, .int .i64 c.right.val.kind.v, .int .i64 c.right.val.n.v, .string c.right.val.s.v]) rfl ?_; intro w83 H84
            change AnyG _ _ _ _ #[true, true, true, true, true, true, true, true] _ _
            refine a_done (by kernel_rfl) ?_
            exact join4 (bk68, bk78) _ _ H84 ⟨rfl, rfl, rfl, trivial⟩
          · skip
            refine s_storeAgg H80 1 #[.string c.left.var.v, .string c.left.attr.v, .int .i64 c.left.val.kind.v, .int .i64 c.left.val.n.v, .string c.left.val.s.v] 5 rfl rfl rfl sz_25 rfl (by simp [Value.oneCell']) (Nat.le_of_ble_eq_true rfl) (fun o h1 h2 => by first | (simp; done) | (simp; omega)) (cs' := #[.string c.left.var.v, .string c.left.attr.v, .int .i64 c.left.val.kind.v, .int .i64 c.left.val.n.v, .string c.left.val.s.v]) rfl ?_; intro w85 H86
            change AnyG _ _ _ _ #[true, true, true, false, true, true, true, false] _ _
            refine a_all (rs := [3]) (by kernel_rfl) (by simp) ?_
            refine a_cons ⟨_, rfl, ?_⟩ (fun x hx => absurd hx (by simp))
            refine s_loadAgg [.string c.right.var.v, .string c.right.attr.v, .int .i64 c.right.val.kind.v, .int .i64 c.right.val.n.v, .string c.right.val.s.v] 5 ag_25 rfl (H86.blk_at (i := 2) rfl) (Nat.le_of_ble_eq_true rfl) rfl rfl ?_
            change AnyG _ _ _ _ #[true, true, true, true, true, true, true, false] _ _
            refine a_all (rs := [7]) (by kernel_rfl) (by simp) ?_
            refine a_cons ⟨_, rfl, ?_⟩ (fun x hx => absurd hx (by simp))
            refine s_storeAgg H86 0 #[.string c.right.var.v, .string c.right.attr.v, .int .i64 c.right.val.kind.v, .int .i64 c.right.val.n.v, .string c.right.val.s.v] 5 rfl rfl rfl sz_25 rfl (by simp [Value.oneCell']) (Nat.le_of_ble_eq_true rfl) (fun o h1 h2 => by first | (simp; done) | (simp; omega)) (cs' := #[.string c.right.var.v, .string c.right.attr.v, .int .i64 c.right.val.kind.v, .int .i64 c.right.val.n.v, .string c.right.val.s.v]) rfl ?_; intro w87 H88
            change AnyG _ _ _ _ #[true, true, true, true, true, true, true, true] _ _
            refine a_done (by kernel_rfl) ?_
            exact join4 (bk68, bk78) _ _ H88 ⟨rfl, rfl, rfl, trivial⟩
      · skip
        refine s_alloc H46 25 ze_25 rfl ?_; intro bk89 w90 H91
        change AnyG _ _ _ _ #[true, true, true, false, false, true, false, false] _ _
        refine a_all (rs := [3, 4]) (by kernel_rfl) (by simp) ?_
        refine a_cons ⟨_, rfl, ?_⟩ (a_cons ⟨_, rfl, ?_⟩ (fun x hx => absurd hx (by simp)))
        · skip
          refine s_loadAgg [.string c.right.var.v, .string c.right.attr.v, .int .i64 c.right.val.kind.v, .int .i64 c.right.val.n.v, .string c.right.val.s.v] 5 ag_25 rfl (H91.blk_at (i := 1) rfl) (Nat.le_of_ble_eq_true rfl) rfl rfl ?_
          change AnyG _ _ _ _ #[true, true, true, true, false, true, false, false] _ _
          refine a_all (rs := [4]) (by kernel_rfl) (by simp) ?_
          refine a_cons ⟨_, rfl, ?_⟩ (fun x hx => absurd hx (by simp))
          refine s_alloc H91 25 ze_25 rfl ?_; intro bk92 w93 H94
          change AnyG _ _ _ _ #[true, true, true, true, true, true, false, false] _ _
          refine a_all (rs := [6]) (by kernel_rfl) (by simp) ?_
          refine a_cons ⟨_, rfl, ?_⟩ (fun x hx => absurd hx (by simp))
          refine s_storeAgg H94 0 #[.string c.left.var.v, .string c.left.attr.v, .int .i64 c.left.val.kind.v, .int .i64 c.left.val.n.v, .string c.left.val.s.v] 5 rfl rfl rfl sz_25 rfl (by simp [Value.oneCell']) (Nat.le_of_ble_eq_true rfl) (fun o h1 h2 => by first | (simp; done) | (simp; omega)) (cs' := #[.string c.left.var.v, .string c.left.attr.v, .int .i64 c.left.val.kind.v, .int .i64 c.left.val.n.v, .string c.left.val.s.v]) rfl ?_; intro w95 H96
          change AnyG _ _ _ _ #[true, true, true, true, true, true, true, false] _ _
          refine a_all (rs := [7]) (by kernel_rfl) (by simp) ?_
          refine a_cons ⟨_, rfl, ?_⟩ (fun x hx => absurd hx (by simp))
          refine s_storeAgg H96 1 #[.string c.right.var.v, .string c.right.attr.v, .int .i64 c.right.val.kind.v, .int .i64 c.right.val.n.v, .string c.right.val.s.v] 5 rfl rfl rfl sz_25 rfl (by simp [Value.oneCell']) (Nat.le_of_ble_eq_true rfl) (fun o h1 h2 => by first | (simp; done) | (simp; omega)) (cs' := #[.string c.right.var.v, .string c.right.attr.v, .int .i64 c.right.val.kind.v, .int .i64 c.right.val.n.v, .string c.right.val.s.v]) rfl ?_; intro w97 H98
          change AnyG _ _ _ _ #[true, true, true, true, true, true, true, true] _ _
          refine a_done (by kernel_rfl) ?_
          have H99 : St W w97 (blk bk89 (.cells #[.string c.right.var.v, .string c.right.attr.v, .int .i64 c.right.val.kind.v, .int .i64 c.right.val.n.v, .string c.right.val.s.v] 25 (0, 0)) :: blk bk92 (.cells #[.string c.left.var.v, .string c.left.attr.v, .int .i64 c.left.val.kind.v, .int .i64 c.left.val.n.v, .string c.left.val.s.v] 25 (0, 0)) :: blk bk1 (.cells #[.string c.left.var.v, .string c.left.attr.v, .int .i64 c.left.val.kind.v, .int .i64 c.left.val.n.v, .string c.left.val.s.v, .int .i64 c.rel.v, .string c.right.var.v, .string c.right.attr.v, .int .i64 c.right.val.kind.v, .int .i64 c.right.val.n.v, .string c.right.val.s.v] 27 (0, 0)) :: F) := (((H98.move 2 rfl).move 1 rfl).move 2 rfl)
          exact join4 (bk92, bk89) _ _ H99 ⟨rfl, rfl, rfl, trivial⟩
        · skip
          refine s_alloc H91 25 ze_25 rfl ?_; intro bk100 w101 H102
          change AnyG _ _ _ _ #[true, true, true, false, true, true, false, false] _ _
          refine a_all (rs := [3, 6]) (by kernel_rfl) (by simp) ?_
          refine a_cons ⟨_, rfl, ?_⟩ (a_cons ⟨_, rfl, ?_⟩ (fun x hx => absurd hx (by simp)))
          · skip
            refine s_loadAgg [.string c.right.var.v, .string c.right.attr.v, .int .i64 c.right.val.kind.v, .int .i64 c.right.val.n.v, .string c.right.val.s.v] 5 ag_25 rfl (H102.blk_at (i := 2) rfl) (Nat.le_of_ble_eq_true rfl) rfl rfl ?_
            change AnyG _ _ _ _ #[true, true, true, true, true, true, false, false] _ _
            refine a_all (rs := [6]) (by kernel_rfl) (by simp) ?_
            refine a_cons ⟨_, rfl, ?_⟩ (fun x hx => absurd hx (by simp))
            refine s_storeAgg H102 0 #[.string c.left.var.v, .string c.left.attr.v, .int .i64 c.left.val.kind.v, .int .i64 c.left.val.n.v, .string c.left.val.s.v] 5 rfl rfl rfl sz_25 rfl (by simp [Value.oneCell']) (Nat.le_of_ble_eq_true rfl) (fun o h1 h2 => by first | (simp; done) | (simp; omega)) (cs' := #[.string c.left.var.v, .string c.left.attr.v, .int .i64 c.left.val.kind.v, .int .i64 c.left.val.n.v, .string c.left.val.s.v]) rfl ?_; intro w103 H104
            change AnyG _ _ _ _ #[true, true, true, true, true, true, true, false] _ _
            refine a_all (rs := [7]) (by kernel_rfl) (by simp) ?_
            refine a_cons ⟨_, rfl, ?_⟩ (fun x hx => absurd hx (by simp))
            refine s_storeAgg H104 1 #[.string c.right.var.v, .string c.right.attr.v, .int .i64 c.right.val.kind.v, .int .i64 c.right.val.n.v, .string c.right.val.s.v] 5 rfl rfl rfl sz_25 rfl (by simp [Value.oneCell']) (Nat.le_of_ble_eq_true rfl) (fun o h1 h2 => by first | (simp; done) | (simp; omega)) (cs' := #[.string c.right.var.v, .string c.right.attr.v, .int .i64 c.right.val.kind.v, .int .i64 c.right.val.n.v, .string c.right.val.s.v]) rfl ?_; intro w105 H106
            change AnyG _ _ _ _ #[true, true, true, true, true, true, true, true] _ _
            refine a_done (by kernel_rfl) ?_
            have H107 : St W w105 (blk bk89 (.cells #[.string c.right.var.v, .string c.right.attr.v, .int .i64 c.right.val.kind.v, .int .i64 c.right.val.n.v, .string c.right.val.s.v] 25 (0, 0)) :: blk bk100 (.cells #[.string c.left.var.v, .string c.left.attr.v, .int .i64 c.left.val.kind.v, .int .i64 c.left.val.n.v, .string c.left.val.s.v] 25 (0, 0)) :: blk bk1 (.cells #[.string c.left.var.v, .string c.left.attr.v, .int .i64 c.left.val.kind.v, .int .i64 c.left.val.n.v, .string c.left.val.s.v, .int .i64 c.rel.v, .string c.right.var.v, .string c.right.attr.v, .int .i64 c.right.val.kind.v, .int .i64 c.right.val.n.v, .string c.right.val.s.v] 27 (0, 0)) :: F) := (((H106.move 2 rfl).move 1 rfl).move 2 rfl)
            exact join4 (bk100, bk89) _ _ H107 ⟨rfl, rfl, rfl, trivial⟩
          · skip
            refine s_storeAgg H102 0 #[.string c.left.var.v, .string c.left.attr.v, .int .i64 c.left.val.kind.v, .int .i64 c.left.val.n.v, .string c.left.val.s.v] 5 rfl rfl rfl sz_25 rfl (by simp [Value.oneCell']) (Nat.le_of_ble_eq_true rfl) (fun o h1 h2 => by first | (simp; done) | (simp; omega)) (cs' := #[.string c.left.var.v, .string c.left.attr.v, .int .i64 c.left.val.kind.v, .int .i64 c.left.val.n.v, .string c.left.val.s.v]) rfl ?_; intro w108 H109
            change AnyG _ _ _ _ #[true, true, true, false, true, true, true, false] _ _
            refine a_all (rs := [3]) (by kernel_rfl) (by simp) ?_
            refine a_cons ⟨_, rfl, ?_⟩ (fun x hx => absurd hx (by simp))
            refine s_loadAgg [.string c.right.var.v, .string c.right.attr.v, .int .i64 c.right.val.kind.v, .int .i64 c.right.val.n.v, .string c.right.val.s.v] 5 ag_25 rfl (H109.blk_at (i := 2) rfl) (Nat.le_of_ble_eq_true rfl) rfl rfl ?_
            change AnyG _ _ _ _ #[true, true, true, true, true, true, true, false] _ _
            refine a_all (rs := [7]) (by kernel_rfl) (by simp) ?_
            refine a_cons ⟨_, rfl, ?_⟩ (fun x hx => absurd hx (by simp))
            refine s_storeAgg H109 1 #[.string c.right.var.v, .string c.right.attr.v, .int .i64 c.right.val.kind.v, .int .i64 c.right.val.n.v, .string c.right.val.s.v] 5 rfl rfl rfl sz_25 rfl (by simp [Value.oneCell']) (Nat.le_of_ble_eq_true rfl) (fun o h1 h2 => by first | (simp; done) | (simp; omega)) (cs' := #[.string c.right.var.v, .string c.right.attr.v, .int .i64 c.right.val.kind.v, .int .i64 c.right.val.n.v, .string c.right.val.s.v]) rfl ?_; intro w110 H111
            change AnyG _ _ _ _ #[true, true, true, true, true, true, true, true] _ _
            refine a_done (by kernel_rfl) ?_
            have H112 : St W w110 (blk bk89 (.cells #[.string c.right.var.v, .string c.right.attr.v, .int .i64 c.right.val.kind.v, .int .i64 c.right.val.n.v, .string c.right.val.s.v] 25 (0, 0)) :: blk bk100 (.cells #[.string c.left.var.v, .string c.left.attr.v, .int .i64 c.left.val.kind.v, .int .i64 c.left.val.n.v, .string c.left.val.s.v] 25 (0, 0)) :: blk bk1 (.cells #[.string c.left.var.v, .string c.left.attr.v, .int .i64 c.left.val.kind.v, .int .i64 c.left.val.n.v, .string c.left.val.s.v, .int .i64 c.rel.v, .string c.right.var.v, .string c.right.attr.v, .int .i64 c.right.val.kind.v, .int .i64 c.right.val.n.v, .string c.right.val.s.v] 27 (0, 0)) :: F) := (((H111.move 2 rfl).move 1 rfl).move 2 rfl)
            exact join4 (bk100, bk89) _ _ H112 ⟨rfl, rfl, rfl, trivial⟩
    · skip
      refine s_loadAgg [.string c.right.var.v, .string c.right.attr.v, .int .i64 c.right.val.kind.v, .int .i64 c.right.val.n.v, .string c.right.val.s.v] 5 ag_25 rfl (H46.blk_at (i := 0) rfl) (Nat.le_of_ble_eq_true rfl) rfl rfl ?_
      change AnyG _ _ _ _ #[true, false, true, true, false, false, false, false] _ _
      refine a_all (rs := [1, 4, 5]) (by kernel_rfl) (by simp) ?_
      refine a_cons ⟨_, rfl, ?_⟩ (a_cons ⟨_, rfl, ?_⟩ (a_cons ⟨_, rfl, ?_⟩ (fun x hx => absurd hx (by simp))))
      · skip
        refine s_loadAgg [.string c.left.var.v, .string c.left.attr.v, .int .i64 c.left.val.kind.v, .int .i64 c.left.val.n.v, .string c.left.val.s.v] 5 ag_25 rfl (H46.blk_at (i := 0) rfl) (Nat.le_of_ble_eq_true rfl) rfl rfl ?_
        change AnyG _ _ _ _ #[true, true, true, true, false, false, false, false] _ _
        refine a_all (rs := [4, 5]) (by kernel_rfl) (by simp) ?_
        refine a_cons ⟨_, rfl, ?_⟩ (a_cons ⟨_, rfl, ?_⟩ (fun x hx => absurd hx (by simp)))
        · skip
          refine s_alloc H46 25 ze_25 rfl ?_; intro bk113 w114 H115
          change AnyG _ _ _ _ #[true, true, true, true, true, false, false, false] _ _
          refine a_all (rs := [5]) (by kernel_rfl) (by simp) ?_
          refine a_cons ⟨_, rfl, ?_⟩ (fun x hx => absurd hx (by simp))
          refine s_alloc H115 25 ze_25 rfl ?_; intro bk116 w117 H118
          change AnyG _ _ _ _ #[true, true, true, true, true, true, false, false] _ _
          refine a_all (rs := [6]) (by kernel_rfl) (by simp) ?_
          refine a_cons ⟨_, rfl, ?_⟩ (fun x hx => absurd hx (by simp))
          refine s_storeAgg H118 1 #[.string c.left.var.v, .string c.left.attr.v, .int .i64 c.left.val.kind.v, .int .i64 c.left.val.n.v, .string c.left.val.s.v] 5 rfl rfl rfl sz_25 rfl (by simp [Value.oneCell']) (Nat.le_of_ble_eq_true rfl) (fun o h1 h2 => by first | (simp; done) | (simp; omega)) (cs' := #[.string c.left.var.v, .string c.left.attr.v, .int .i64 c.left.val.kind.v, .int .i64 c.left.val.n.v, .string c.left.val.s.v]) rfl ?_; intro w119 H120
          change AnyG _ _ _ _ #[true, true, true, true, true, true, true, false] _ _
          refine a_all (rs := [7]) (by kernel_rfl) (by simp) ?_
          refine a_cons ⟨_, rfl, ?_⟩ (fun x hx => absurd hx (by simp))
          refine s_storeAgg H120 0 #[.string c.right.var.v, .string c.right.attr.v, .int .i64 c.right.val.kind.v, .int .i64 c.right.val.n.v, .string c.right.val.s.v] 5 rfl rfl rfl sz_25 rfl (by simp [Value.oneCell']) (Nat.le_of_ble_eq_true rfl) (fun o h1 h2 => by first | (simp; done) | (simp; omega)) (cs' := #[.string c.right.var.v, .string c.right.attr.v, .int .i64 c.right.val.kind.v, .int .i64 c.right.val.n.v, .string c.right.val.s.v]) rfl ?_; intro w121 H122
          change AnyG _ _ _ _ #[true, true, true, true, true, true, true, true] _ _
          refine a_done (by kernel_rfl) ?_
          exact join4 (bk113, bk116) _ _ H122 ⟨rfl, rfl, rfl, trivial⟩
        · skip
          refine s_alloc H46 25 ze_25 rfl ?_; intro bk123 w124 H125
          change AnyG _ _ _ _ #[true, true, true, true, false, true, false, false] _ _
          refine a_all (rs := [4]) (by kernel_rfl) (by simp) ?_
          refine a_cons ⟨_, rfl, ?_⟩ (fun x hx => absurd hx (by simp))
          refine s_alloc H125 25 ze_25 rfl ?_; intro bk126 w127 H128
          change AnyG _ _ _ _ #[true, true, true, true, true, true, false, false] _ _
          refine a_all (rs := [6]) (by kernel_rfl) (by simp) ?_
          refine a_cons ⟨_, rfl, ?_⟩ (fun x hx => absurd hx (by simp))
          refine s_storeAgg H128 0 #[.string c.left.var.v, .string c.left.attr.v, .int .i64 c.left.val.kind.v, .int .i64 c.left.val.n.v, .string c.left.val.s.v] 5 rfl rfl rfl sz_25 rfl (by simp [Value.oneCell']) (Nat.le_of_ble_eq_true rfl) (fun o h1 h2 => by first | (simp; done) | (simp; omega)) (cs' := #[.string c.left.var.v, .string c.left.attr.v, .int .i64 c.left.val.kind.v, .int .i64 c.left.val.n.v, .string c.left.val.s.v]) rfl ?_; intro w129 H130
          change AnyG _ _ _ _ #[true, true, true, true, true, true, true, false] _ _
          refine a_all (rs := [7]) (by kernel_rfl) (by simp) ?_
          refine a_cons ⟨_, rfl, ?_⟩ (fun x hx => absurd hx (by simp))
          refine s_storeAgg H130 1 #[.string c.right.var.v, .string c.right.attr.v, .int .i64 c.right.val.kind.v, .int .i64 c.right.val.n.v, .string c.right.val.s.v] 5 rfl rfl rfl sz_25 rfl (by simp [Value.oneCell']) (Nat.le_of_ble_eq_true rfl) (fun o h1 h2 => by first | (simp; done) | (simp; omega)) (cs' := #[.string c.right.var.v, .string c.right.attr.v, .int .i64 c.right.val.kind.v, .int .i64 c.right.val.n.v, .string c.right.val.s.v]) rfl ?_; intro w131 H132
          change AnyG _ _ _ _ #[true, true, true, true, true, true, true, true] _ _
          refine a_done (by kernel_rfl) ?_
          have H133 : St W w131 (blk bk123 (.cells #[.string c.right.var.v, .string c.right.attr.v, .int .i64 c.right.val.kind.v, .int .i64 c.right.val.n.v, .string c.right.val.s.v] 25 (0, 0)) :: blk bk126 (.cells #[.string c.left.var.v, .string c.left.attr.v, .int .i64 c.left.val.kind.v, .int .i64 c.left.val.n.v, .string c.left.val.s.v] 25 (0, 0)) :: blk bk1 (.cells #[.string c.left.var.v, .string c.left.attr.v, .int .i64 c.left.val.kind.v, .int .i64 c.left.val.n.v, .string c.left.val.s.v, .int .i64 c.rel.v, .string c.right.var.v, .string c.right.attr.v, .int .i64 c.right.val.kind.v, .int .i64 c.right.val.n.v, .string c.right.val.s.v] 27 (0, 0)) :: F) := (((H132.move 2 rfl).move 1 rfl).move 2 rfl)
          exact join4 (bk126, bk123) _ _ H133 ⟨rfl, rfl, rfl, trivial⟩
      · skip
        refine s_alloc H46 25 ze_25 rfl ?_; intro bk134 w135 H136
        change AnyG _ _ _ _ #[true, false, true, true, true, false, false, false] _ _
        refine a_all (rs := [1, 5]) (by kernel_rfl) (by simp) ?_
        refine a_cons ⟨_, rfl, ?_⟩ (a_cons ⟨_, rfl, ?_⟩ (fun x hx => absurd hx (by simp)))
        · skip
          refine s_loadAgg [.string c.left.var.v, .string c.left.attr.v, .int .i64 c.left.val.kind.v, .int .i64 c.left.val.n.v, .string c.left.val.s.v] 5 ag_25 rfl (H136.blk_at (i := 1) rfl) (Nat.le_of_ble_eq_true rfl) rfl rfl ?_
          change AnyG _ _ _ _ #[true, true, true, true, true, false, false, false] _ _
          refine a_all (rs := [5]) (by kernel_rfl) (by simp) ?_
          refine a_cons ⟨_, rfl, ?_⟩ (fun x hx => absurd hx (by simp))
          refine s_alloc H136 25 ze_25 rfl ?_; intro bk137 w138 H139
          change AnyG _ _ _ _ #[true, true, true, true, true, true, false, false] _ _
          refine a_all (rs := [6]) (by kernel_rfl) (by simp) ?_
          refine a_cons ⟨_, rfl, ?_⟩ (fun x hx => absurd hx (by simp))
          refine s_storeAgg H139 1 #[.string c.left.var.v, .string c.left.attr.v, .int .i64 c.left.val.kind.v, .int .i64 c.left.val.n.v, .string c.left.val.s.v] 5 rfl rfl rfl sz_25 rfl (by simp [Value.oneCell']) (Nat.le_of_ble_eq_true rfl) (fun o h1 h2 => by first | (simp; done) | (simp; omega)) (cs' := #[.string c.left.var.v, .string c.left.attr.v, .int .i64 c.left.val.kind.v, .int .i64 c.left.val.n.v, .string c.left.val.s.v]) rfl ?_; intro w140 H141
          change AnyG _ _ _ _ #[true, true, true, true, true, true, true, false] _ _
          refine a_all (rs := [7]) (by kernel_rfl) (by simp) ?_
          refine a_cons ⟨_, rfl, ?_⟩ (fun x hx => absurd hx (by simp))
          refine s_storeAgg H141 0 #[.string c.right.var.v, .string c.right.attr.v, .int .i64 c.right.val.kind.v, .int .i64 c.right.val.n.v, .string c.right.val.s.v] 5 rfl rfl rfl sz_25 rfl (by simp [Value.oneCell']) (Nat.le_of_ble_eq_true rfl) (fun o h1 h2 => by first | (simp; done) | (simp; omega)) (cs' := #[.string c.right.var.v, .string c.right.attr.v, .int .i64 c.right.val.kind.v, .int .i64 c.right.val.n.v, .string c.right.val.s.v]) rfl ?_; intro w142 H143
          change AnyG _ _ _ _ #[true, true, true, true, true, true, true, true] _ _
          refine a_done (by kernel_rfl) ?_
          exact join4 (bk134, bk137) _ _ H143 ⟨rfl, rfl, rfl, trivial⟩
        · skip
          refine s_alloc H136 25 ze_25 rfl ?_; intro bk144 w145 H146
          change AnyG _ _ _ _ #[true, false, true, true, true, true, false, false] _ _
          refine a_all (rs := [1]) (by kernel_rfl) (by simp) ?_
          refine a_cons ⟨_, rfl, ?_⟩ (fun x hx => absurd hx (by simp))
          refine s_loadAgg [.string c.left.var.v, .string c.left.attr.v, .int .i64 c.left.val.kind.v, .int .i64 c.left.val.n.v, .string c.left.val.s.v] 5 ag_25 rfl (H146.blk_at (i := 2) rfl) (Nat.le_of_ble_eq_true rfl) rfl rfl ?_
          change AnyG _ _ _ _ #[true, true, true, true, true, true, false, false] _ _
          refine a_all (rs := [6]) (by kernel_rfl) (by simp) ?_
          refine a_cons ⟨_, rfl, ?_⟩ (fun x hx => absurd hx (by simp))
          refine s_storeAgg H146 1 #[.string c.left.var.v, .string c.left.attr.v, .int .i64 c.left.val.kind.v, .int .i64 c.left.val.n.v, .string c.left.val.s.v] 5 rfl rfl rfl sz_25 rfl (by simp [Value.oneCell']) (Nat.le_of_ble_eq_true rfl) (fun o h1 h2 => by first | (simp; done) | (simp; omega)) (cs' := #[.string c.left.var.v, .string c.left.attr.v, .int .i64 c.left.val.kind.v, .int .i64 c.left.val.n.v, .string c.left.val.s.v]) rfl ?_; intro w147 H148
          change AnyG _ _ _ _ #[true, true, true, true, true, true, true, false] _ _
          refine a_all (rs := [7]) (by kernel_rfl) (by simp) ?_
          refine a_cons ⟨_, rfl, ?_⟩ (fun x hx => absurd hx (by simp))
          refine s_storeAgg H148 0 #[.string c.right.var.v, .string c.right.attr.v, .int .i64 c.right.val.kind.v, .int .i64 c.right.val.n.v, .string c.right.val.s.v] 5 rfl rfl rfl sz_25 rfl (by simp [Value.oneCell']) (Nat.le_of_ble_eq_true rfl) (fun o h1 h2 => by first | (simp; done) | (simp; omega)) (cs' := #[.string c.right.var.v, .string c.right.attr.v, .int .i64 c.right.val.kind.v, .int .i64 c.right.val.n.v, .string c.right.val.s.v]) rfl ?_; intro w149 H150
          change AnyG _ _ _ _ #[true, true, true, true, true, true, true, true] _ _
          refine a_done (by kernel_rfl) ?_
          exact join4 (bk134, bk144) _ _ H150 ⟨rfl, rfl, rfl, trivial⟩
      · skip
        refine s_alloc H46 25 ze_25 rfl ?_; intro bk151 w152 H153
        change AnyG _ _ _ _ #[true, false, true, true, false, true, false, false] _ _
        refine a_all (rs := [1, 4]) (by kernel_rfl) (by simp) ?_
        refine a_cons ⟨_, rfl, ?_⟩ (a_cons ⟨_, rfl, ?_⟩ (fun x hx => absurd hx (by simp)))
        · skip
          refine s_loadAgg [.string c.left.var.v, .string c.left.attr.v, .int .i64 c.left.val.kind.v, .int .i64 c.left.val.n.v, .string c.left.val.s.v] 5 ag_25 rfl (H153.blk_at (i := 1) rfl) (Nat.le_of_ble_eq_true rfl) rfl rfl ?_
          change AnyG _ _ _ _ #[true, true, true, true, false, true, false, false] _ _
          refine a_all (rs := [4]) (by kernel_rfl) (by simp) ?_
          refine a_cons ⟨_, rfl, ?_⟩ (fun x hx => absurd hx (by simp))
          refine s_alloc H153 25 ze_25 rfl ?_; intro bk154 w155 H156
          change AnyG _ _ _ _ #[true, true, true, true, true, true, false, false] _ _
          refine a_all (rs := [6]) (by kernel_rfl) (by simp) ?_
          refine a_cons ⟨_, rfl, ?_⟩ (fun x hx => absurd hx (by simp))
          refine s_storeAgg H156 0 #[.string c.left.var.v, .string c.left.attr.v, .int .i64 c.left.val.kind.v, .int .i64 c.left.val.n.v, .string c.left.val.s.v] 5 rfl rfl rfl sz_25 rfl (by simp [Value.oneCell']) (Nat.le_of_ble_eq_true rfl) (fun o h1 h2 => by first | (simp; done) | (simp; omega)) (cs' := #[.string c.left.var.v, .string c.left.attr.v, .int .i64 c.left.val.kind.v, .int .i64 c.left.val.n.v, .string c.left.val.s.v]) rfl ?_; intro w157 H158
          change AnyG _ _ _ _ #[true, true, true, true, true, true, true, false] _ _
          refine a_all (rs := [7]) (by kernel_rfl) (by simp) ?_
          refine a_cons ⟨_, rfl, ?_⟩ (fun x hx => absurd hx (by simp))
          refine s_storeAgg H158 1 #[.string c.right.var.v, .string c.right.attr.v, .int .i64 c.right.val.kind.v, .int .i64 c.right.val.n.v, .string c.right.val.s.v] 5 rfl rfl rfl sz_25 rfl (by simp [Value.oneCell']) (Nat.le_of_ble_eq_true rfl) (fun o h1 h2 => by first | (simp; done) | (simp; omega)) (cs' := #[.string c.right.var.v, .string c.right.attr.v, .int .i64 c.right.val.kind.v, .int .i64 c.right.val.n.v, .string c.right.val.s.v]) rfl ?_; intro w159 H160
          change AnyG _ _ _ _ #[true, true, true, true, true, true, true, true] _ _
          refine a_done (by kernel_rfl) ?_
          have H161 : St W w159 (blk bk151 (.cells #[.string c.right.var.v, .string c.right.attr.v, .int .i64 c.right.val.kind.v, .int .i64 c.right.val.n.v, .string c.right.val.s.v] 25 (0, 0)) :: blk bk154 (.cells #[.string c.left.var.v, .string c.left.attr.v, .int .i64 c.left.val.kind.v, .int .i64 c.left.val.n.v, .string c.left.val.s.v] 25 (0, 0)) :: blk bk1 (.cells #[.string c.left.var.v, .string c.left.attr.v, .int .i64 c.left.val.kind.v, .int .i64 c.left.val.n.v, .string c.left.val.s.v, .int .i64 c.rel.v, .string c.right.var.v, .string c.right.attr.v, .int .i64 c.right.val.kind.v, .int .i64 c.right.val.n.v, .string c.right.val.s.v] 27 (0, 0)) :: F) := (((H160.move 2 rfl).move 1 rfl).move 2 rfl)
          exact join4 (bk154, bk151) _ _ H161 ⟨rfl, rfl, rfl, trivial⟩
        · skip
          refine s_alloc H153 25 ze_25 rfl ?_; intro bk162 w163 H164
          change AnyG _ _ _ _ #[true, false, true, true, true, true, false, false] _ _
          refine a_all (rs := [1]) (by kernel_rfl) (by simp) ?_
          refine a_cons ⟨_, rfl, ?_⟩ (fun x hx => absurd hx (by simp))
          refine s_loadAgg [.string c.left.var.v, .string c.left.attr.v, .int .i64 c.left.val.kind.v, .int .i64 c.left.val.n.v, .string c.left.val.s.v] 5 ag_25 rfl (H164.blk_at (i := 2) rfl) (Nat.le_of_ble_eq_true rfl) rfl rfl ?_
          change AnyG _ _ _ _ #[true, true, true, true, true, true, false, false] _ _
          refine a_all (rs := [6]) (by kernel_rfl) (by simp) ?_
          refine a_cons ⟨_, rfl, ?_⟩ (fun x hx => absurd hx (by simp))
          refine s_storeAgg H164 0 #[.string c.left.var.v, .string c.left.attr.v, .int .i64 c.left.val.kind.v, .int .i64 c.left.val.n.v, .string c.left.val.s.v] 5 rfl rfl rfl sz_25 rfl (by simp [Value.oneCell']) (Nat.le_of_ble_eq_true rfl) (fun o h1 h2 => by first | (simp; done) | (simp; omega)) (cs' := #[.string c.left.var.v, .string c.left.attr.v, .int .i64 c.left.val.kind.v, .int .i64 c.left.val.n.v, .string c.left.val.s.v]) rfl ?_; intro w165 H166
          change AnyG _ _ _ _ #[true, true, true, true, true, true, true, false] _ _
          refine a_all (rs := [7]) (by kernel_rfl) (by simp) ?_
          refine a_cons ⟨_, rfl, ?_⟩ (fun x hx => absurd hx (by simp))
          refine s_storeAgg H166 1 #[.string c.right.var.v, .string c.right.attr.v, .int .i64 c.right.val.kind.v, .int .i64 c.right.val.n.v, .string c.right.val.s.v] 5 rfl rfl rfl sz_25 rfl (by simp [Value.oneCell']) (Nat.le_of_ble_eq_true rfl) (fun o h1 h2 => by first | (simp; done) | (simp; omega)) (cs' := #[.string c.right.var.v, .string c.right.attr.v, .int .i64 c.right.val.kind.v, .int .i64 c.right.val.n.v, .string c.right.val.s.v]) rfl ?_; intro w167 H168
          change AnyG _ _ _ _ #[true, true, true, true, true, true, true, true] _ _
          refine a_done (by kernel_rfl) ?_
          have H169 : St W w167 (blk bk151 (.cells #[.string c.right.var.v, .string c.right.attr.v, .int .i64 c.right.val.kind.v, .int .i64 c.right.val.n.v, .string c.right.val.s.v] 25 (0, 0)) :: blk bk162 (.cells #[.string c.left.var.v, .string c.left.attr.v, .int .i64 c.left.val.kind.v, .int .i64 c.left.val.n.v, .string c.left.val.s.v] 25 (0, 0)) :: blk bk1 (.cells #[.string c.left.var.v, .string c.left.attr.v, .int .i64 c.left.val.kind.v, .int .i64 c.left.val.n.v, .string c.left.val.s.v, .int .i64 c.rel.v, .string c.right.var.v, .string c.right.attr.v, .int .i64 c.right.val.kind.v, .int .i64 c.right.val.n.v, .string c.right.val.s.v] 27 (0, 0)) :: F) := (((H168.move 2 rfl).move 1 rfl).move 2 rfl)
          exact join4 (bk162, bk151) _ _ H169 ⟨rfl, rfl, rfl, trivial⟩
    · skip
      refine s_alloc H46 25 ze_25 rfl ?_; intro bk170 w171 H172
      change AnyG _ _ _ _ #[true, false, true, false, true, false, false, false] _ _
      refine a_all (rs := [1, 3, 5]) (by kernel_rfl) (by simp) ?_
      refine a_cons ⟨_, rfl, ?_⟩ (a_cons ⟨_, rfl, ?_⟩ (a_cons ⟨_, rfl, ?_⟩ (fun x hx => absurd hx (by simp))))
      · skip
        refine s_loadAgg [.string c.left.var.v, .string c.left.attr.v, .int .i64 c.left.val.kind.v, .int .i64 c.left.val.n.v, .string c.left.val.s.v] 5 ag_25 rfl (H172.blk_at (i := 1) rfl) (Nat.le_of_ble_eq_true rfl) rfl rfl ?_
        change AnyG _ _ _ _ #[true, true, true, false, true, false, false, false] _ _
        refine a_all (rs := [3, 5]) (by kernel_rfl) (by simp) ?_
        refine a_cons ⟨_, rfl, ?_⟩ (a_cons ⟨_, rfl, ?_⟩ (fun x hx => absurd hx (by simp)))
        · skip
          refine s_loadAgg [.string c.right.var.v, .string c.right.attr.v, .int .i64 c.right.val.kind.v, .int .i64 c.right.val.n.v, .string c.right.val.s.v] 5 ag_25 rfl (H172.blk_at (i := 1) rfl) (Nat.le_of_ble_eq_true rfl) rfl rfl ?_
          change AnyG _ _ _ _ #[true, true, true, true, true, false, false, false] _ _
          refine a_all (rs := [5]) (by kernel_rfl) (by simp) ?_
          refine a_cons ⟨_, rfl, ?_⟩ (fun x hx => absurd hx (by simp))
          refine s_alloc H172 25 ze_25 rfl ?_; intro bk173 w174 H175
          change AnyG _ _ _ _ #[true, true, true, true, true, true, false, false] _ _
          refine a_all (rs := [6]) (by kernel_rfl) (by simp) ?_
          refine a_cons ⟨_, rfl, ?_⟩ (fun x hx => absurd hx (by simp))
          refine s_storeAgg H175 1 #[.string c.left.var.v, .string c.left.attr.v, .int .i64 c.left.val.kind.v, .int .i64 c.left.val.n.v, .string c.left.val.s.v] 5 rfl rfl rfl sz_25 rfl (by simp [Value.oneCell']) (Nat.le_of_ble_eq_true rfl) (fun o h1 h2 => by first | (simp; done) | (simp; omega)) (cs' := #[.string c.left.var.v, .string c.left.attr.v, .int .i64 c.left.val.kind.v, .int .i64 c.left.val.n.v, .string c.left.val.s.v]) rfl ?_; intro w176 H177
          change AnyG _ _ _ _ #[true, true, true, true, true, true, true, false] _ _
          refine a_all (rs := [7]) (by kernel_rfl) (by simp) ?_
          refine a_cons ⟨_, rfl, ?_⟩ (fun x hx => absurd hx (by simp))
          refine s_storeAgg H177 0 #[.string c.right.var.v, .string c.right.attr.v, .int .i64 c.right.val.kind.v, .int .i64 c.right.val.n.v, .string c.right.val.s.v] 5 rfl rfl rfl sz_25 rfl (by simp [Value.oneCell']) (Nat.le_of_ble_eq_true rfl) (fun o h1 h2 => by first | (simp; done) | (simp; omega)) (cs' := #[.string c.right.var.v, .string c.right.attr.v, .int .i64 c.right.val.kind.v, .int .i64 c.right.val.n.v, .string c.right.val.s.v]) rfl ?_; intro w178 H179
          change AnyG _ _ _ _ #[true, true, true, true, true, true, true, true] _ _
          refine a_done (by kernel_rfl) ?_
          exact join4 (bk170, bk173) _ _ H179 ⟨rfl, rfl, rfl, trivial⟩
        · skip
          refine s_alloc H172 25 ze_25 rfl ?_; intro bk180 w181 H182
          change AnyG _ _ _ _ #[true, true, true, false, true, true, false, false] _ _
          refine a_all (rs := [3, 6]) (by kernel_rfl) (by simp) ?_
          refine a_cons ⟨_, rfl, ?_⟩ (a_cons ⟨_, rfl, ?_⟩ (fun x hx => absurd hx (by simp)))
          · skip
            refine s_loadAgg [.string c.right.var.v, .string c.right.attr.v, .int .i64 c.right.val.kind.v, .int .i64 c.right.val.n.v, .string c.right.val.s.v] 5 ag_25 rfl (H182.blk_at (i := 2) rfl) (Nat.le_of_ble_eq_true rfl) rfl rfl ?_
            change AnyG _ _ _ _ #[true, true, true, true, true, true, false, false] _ _
            refine a_all (rs := [6]) (by kernel_rfl) (by simp) ?_
            refine a_cons ⟨_, rfl, ?_⟩ (fun x hx => absurd hx (by simp))
            refine s_storeAgg H182 1 #[.string c.left.var.v, .string c.left.attr.v, .int .i64 c.left.val.kind.v, .int .i64 c.left.val.n.v, .string c.left.val.s.v] 5 rfl rfl rfl sz_25 rfl (by simp [Value.oneCell']) (Nat.le_of_ble_eq_true rfl) (fun o h1 h2 => by first | (simp; done) | (simp; omega)) (cs' := #[.string c.left.var.v, .string c.left.attr.v, .int .i64 c.left.val.kind.v, .int .i64 c.left.val.n.v, .string c.left.val.s.v]) rfl ?_; intro w183 H184
            change AnyG _ _ _ _ #[true, true, true, true, true, true, true, false] _ _
            refine a_all (rs := [7]) (by kernel_rfl) (by simp) ?_
            refine a_cons ⟨_, rfl, ?_⟩ (fun x hx => absurd hx (by simp))
            refine s_storeAgg H184 0 #[.string c.right.var.v, .string c.right.attr.v, .int .i64 c.right.val.kind.v, .int .i64 c.right.val.n.v, .string c.right.val.s.v] 5 rfl rfl rfl sz_25 rfl (by simp [Value.oneCell']) (Nat.le_of_ble_eq_true rfl) (fun o h1 h2 => by first | (simp; done) | (simp; omega)) (cs' := #[.string c.right.var.v, .string c.right.attr.v, .int .i64 c.right.val.kind.v, .int .i64 c.right.val.n.v, .string c.right.val.s.v]) rfl ?_; intro w185 H186
            change AnyG _ _ _ _ #[true, true, true, true, true, true, true, true] _ _
            refine a_done (by kernel_rfl) ?_
            exact join4 (bk170, bk180) _ _ H186 ⟨rfl, rfl, rfl, trivial⟩
          · skip
            refine s_storeAgg H182 1 #[.string c.left.var.v, .string c.left.attr.v, .int .i64 c.left.val.kind.v, .int .i64 c.left.val.n.v, .string c.left.val.s.v] 5 rfl rfl rfl sz_25 rfl (by simp [Value.oneCell']) (Nat.le_of_ble_eq_true rfl) (fun o h1 h2 => by first | (simp; done) | (simp; omega)) (cs' := #[.string c.left.var.v, .string c.left.attr.v, .int .i64 c.left.val.kind.v, .int .i64 c.left.val.n.v, .string c.left.val.s.v]) rfl ?_; intro w187 H188
            change AnyG _ _ _ _ #[true, true, true, false, true, true, true, false] _ _
            refine a_all (rs := [3]) (by kernel_rfl) (by simp) ?_
            refine a_cons ⟨_, rfl, ?_⟩ (fun x hx => absurd hx (by simp))
            refine s_loadAgg [.string c.right.var.v, .string c.right.attr.v, .int .i64 c.right.val.kind.v, .int .i64 c.right.val.n.v, .string c.right.val.s.v] 5 ag_25 rfl (H188.blk_at (i := 2) rfl) (Nat.le_of_ble_eq_true rfl) rfl rfl ?_
            change AnyG _ _ _ _ #[true, true, true, true, true, true, true, false] _ _
            refine a_all (rs := [7]) (by kernel_rfl) (by simp) ?_
            refine a_cons ⟨_, rfl, ?_⟩ (fun x hx => absurd hx (by simp))
            refine s_storeAgg H188 0 #[.string c.right.var.v, .string c.right.attr.v, .int .i64 c.right.val.kind.v, .int .i64 c.right.val.n.v, .string c.right.val.s.v] 5 rfl rfl rfl sz_25 rfl (by simp [Value.oneCell']) (Nat.le_of_ble_eq_true rfl) (fun o h1 h2 => by first | (simp; done) | (simp; omega)) (cs' := #[.string c.right.var.v, .string c.right.attr.v, .int .i64 c.right.val.kind.v, .int .i64 c.right.val.n.v, .string c.right.val.s.v]) rfl ?_; intro w189 H190
            change AnyG _ _ _ _ #[true, true, true, true, true, true, true, true] _ _
            refine a_done (by kernel_rfl) ?_
            exact join4 (bk170, bk180) _ _ H190 ⟨rfl, rfl, rfl, trivial⟩
      · skip
        refine s_loadAgg [.string c.right.var.v, .string c.right.attr.v, .int .i64 c.right.val.kind.v, .int .i64 c.right.val.n.v, .string c.right.val.s.v] 5 ag_25 rfl (H172.blk_at (i := 1) rfl) (Nat.le_of_ble_eq_true rfl) rfl rfl ?_
        change AnyG _ _ _ _ #[true, false, true, true, true, false, false, false] _ _
        refine a_all (rs := [1, 5]) (by kernel_rfl) (by simp) ?_
        refine a_cons ⟨_, rfl, ?_⟩ (a_cons ⟨_, rfl, ?_⟩ (fun x hx => absurd hx (by simp)))
        · skip
          refine s_loadAgg [.string c.left.var.v, .string c.left.attr.v, .int .i64 c.left.val.kind.v, .int .i64 c.left.val.n.v, .string c.left.val.s.v] 5 ag_25 rfl (H172.blk_at (i := 1) rfl) (Nat.le_of_ble_eq_true rfl) rfl rfl ?_
          change AnyG _ _ _ _ #[true, true, true, true, true, false, false, false] _ _
          refine a_all (rs := [5]) (by kernel_rfl) (by simp) ?_
          refine a_cons ⟨_, rfl, ?_⟩ (fun x hx => absurd hx (by simp))
          refine s_alloc H172 25 ze_25 rfl ?_; intro bk191 w192 H193
          change AnyG _ _ _ _ #[true, true, true, true, true, true, false, false] _ _
          refine a_all (rs := [6]) (by kernel_rfl) (by simp) ?_
          refine a_cons ⟨_, rfl, ?_⟩ (fun x hx => absurd hx (by simp))
          refine s_storeAgg H193 1 #[.string c.left.var.v, .string c.left.attr.v, .int .i64 c.left.val.kind.v, .int .i64 c.left.val.n.v, .string c.left.val.s.v] 5 rfl rfl rfl sz_25 rfl (by simp [Value.oneCell']) (Nat.le_of_ble_eq_true rfl) (fun o h1 h2 => by first | (simp; done) | (simp; omega)) (cs' := #[.string c.left.var.v, .string c.left.attr.v, .int .i64 c.left.val.kind.v, .int .i64 c.left.val.n.v, .string c.left.val.s.v]) rfl ?_; intro w194 H195
          change AnyG _ _ _ _ #[true, true, true, true, true, true, true, false] _ _
          refine a_all (rs := [7]) (by kernel_rfl) (by simp) ?_
          refine a_cons ⟨_, rfl, ?_⟩ (fun x hx => absurd hx (by simp))
          refine s_storeAgg H195 0 #[.string c.right.var.v, .string c.right.attr.v, .int .i64 c.right.val.kind.v, .int .i64 c.right.val.n.v, .string c.right.val.s.v] 5 rfl rfl rfl sz_25 rfl (by simp [Value.oneCell']) (Nat.le_of_ble_eq_true rfl) (fun o h1 h2 => by first | (simp; done) | (simp; omega)) (cs' := #[.string c.right.var.v, .string c.right.attr.v, .int .i64 c.right.val.kind.v, .int .i64 c.right.val.n.v, .string c.right.val.s.v]) rfl ?_; intro w196 H197
          change AnyG _ _ _ _ #[true, true, true, true, true, true, true, true] _ _
          refine a_done (by kernel_rfl) ?_
          exact join4 (bk170, bk191) _ _ H197 ⟨rfl, rfl, rfl, trivial⟩
        · skip
          refine s_alloc H172 25 ze_25 rfl ?_; intro bk198 w199 H200
          change AnyG _ _ _ _ #[true, false, true, true, true, true, false, false] _ _
          refine a_all (rs := [1]) (by kernel_rfl) (by simp) ?_
          refine a_cons ⟨_, rfl, ?_⟩ (fun x hx => absurd hx (by simp))
          refine s_loadAgg [.string c.left.var.v, .string c.left.attr.v, .int .i64 c.left.val.kind.v, .int .i64 c.left.val.n.v, .string c.left.val.s.v] 5 ag_25 rfl (H200.blk_at (i := 2) rfl) (Nat.le_of_ble_eq_true rfl) rfl rfl ?_
          change AnyG _ _ _ _ #[true, true, true, true, true, true, false, false] _ _
          refine a_all (rs := [6]) (by kernel_rfl) (by simp) ?_
          refine a_cons ⟨_, rfl, ?_⟩ (fun x hx => absurd hx (by simp))
          refine s_storeAgg H200 1 #[.string c.left.var.v, .string c.left.attr.v, .int .i64 c.left.val.kind.v, .int .i64 c.left.val.n.v, .string c.left.val.s.v] 5 rfl rfl rfl sz_25 rfl (by simp [Value.oneCell']) (Nat.le_of_ble_eq_true rfl) (fun o h1 h2 => by first | (simp; done) | (simp; omega)) (cs' := #[.string c.left.var.v, .string c.left.attr.v, .int .i64 c.left.val.kind.v, .int .i64 c.left.val.n.v, .string c.left.val.s.v]) rfl ?_; intro w201 H202
          change AnyG _ _ _ _ #[true, true, true, true, true, true, true, false] _ _
          refine a_all (rs := [7]) (by kernel_rfl) (by simp) ?_
          refine a_cons ⟨_, rfl, ?_⟩ (fun x hx => absurd hx (by simp))
          refine s_storeAgg H202 0 #[.string c.right.var.v, .string c.right.attr.v, .int .i64 c.right.val.kind.v, .int .i64 c.right.val.n.v, .string c.right.val.s.v] 5 rfl rfl rfl sz_25 rfl (by simp [Value.oneCell']) (Nat.le_of_ble_eq_true rfl) (fun o h1 h2 => by first | (simp; done) | (simp; omega)) (cs' := #[.string c.right.var.v, .string c.right.attr.v, .int .i64 c.right.val.kind.v, .int .i64 c.right.val.n.v, .string c.right.val.s.v]) rfl ?_; intro w203 H204
          change AnyG _ _ _ _ #[true, true, true, true, true, true, true, true] _ _
          refine a_done (by kernel_rfl) ?_
          exact join4 (bk170, bk198) _ _ H204 ⟨rfl, rfl, rfl, trivial⟩
      · skip
        refine s_alloc H172 25 ze_25 rfl ?_; intro bk205 w206 H207
        change AnyG _ _ _ _ #[true, false, true, false, true, true, false, false] _ _
        refine a_all (rs := [1, 3]) (by kernel_rfl) (by simp) ?_
        refine a_cons ⟨_, rfl, ?_⟩ (a_cons ⟨_, rfl, ?_⟩ (fun x hx => absurd hx (by simp)))
        · skip
          refine s_loadAgg [.string c.left.var.v, .string c.left.attr.v, .int .i64 c.left.val.kind.v, .int .i64 c.left.val.n.v, .string c.left.val.s.v] 5 ag_25 rfl (H207.blk_at (i := 2) rfl) (Nat.le_of_ble_eq_true rfl) rfl rfl ?_
          change AnyG _ _ _ _ #[true, true, true, false, true, true, false, false] _ _
          refine a_all (rs := [3, 6]) (by kernel_rfl) (by simp) ?_
          refine a_cons ⟨_, rfl, ?_⟩ (a_cons ⟨_, rfl, ?_⟩ (fun x hx => absurd hx (by simp)))
          · skip
            refine s_loadAgg [.string c.right.var.v, .string c.right.attr.v, .int .i64 c.right.val.kind.v, .int .i64 c.right.val.n.v, .string c.right.val.s.v] 5 ag_25 rfl (H207.blk_at (i := 2) rfl) (Nat.le_of_ble_eq_true rfl) rfl rfl ?_
            change AnyG _ _ _ _ #[true, true, true, true, true, true, false, false] _ _
            refine a_all (rs := [6]) (by kernel_rfl) (by simp) ?_
            refine a_cons ⟨_, rfl, ?_⟩ (fun x hx => absurd hx (by simp))
            refine s_storeAgg H207 1 #[.string c.left.var.v, .string c.left.attr.v, .int .i64 c.left.val.kind.v, .int .i64 c.left.val.n.v, .string c.left.val.s.v] 5 rfl rfl rfl sz_25 rfl (by simp [Value.oneCell']) (Nat.le_of_ble_eq_true rfl) (fun o h1 h2 => by first | (simp; done) | (simp; omega)) (cs' := #[.string c.left.var.v, .string c.left.attr.v, .int .i64 c.left.val.kind.v, .int .i64 c.left.val.n.v, .string c.left.val.s.v]) rfl ?_; intro w208 H209
            change AnyG _ _ _ _ #[true, true, true, true, true, true, true, false] _ _
            refine a_all (rs := [7]) (by kernel_rfl) (by simp) ?_
            refine a_cons ⟨_, rfl, ?_⟩ (fun x hx => absurd hx (by simp))
            refine s_storeAgg H209 0 #[.string c.right.var.v, .string c.right.attr.v, .int .i64 c.right.val.kind.v, .int .i64 c.right.val.n.v, .string c.right.val.s.v] 5 rfl rfl rfl sz_25 rfl (by simp [Value.oneCell']) (Nat.le_of_ble_eq_true rfl) (fun o h1 h2 => by first | (simp; done) | (simp; omega)) (cs' := #[.string c.right.var.v, .string c.right.attr.v, .int .i64 c.right.val.kind.v, .int .i64 c.right.val.n.v, .string c.right.val.s.v]) rfl ?_; intro w210 H211
            change AnyG _ _ _ _ #[true, true, true, true, true, true, true, true] _ _
            refine a_done (by kernel_rfl) ?_
            exact join4 (bk170, bk205) _ _ H211 ⟨rfl, rfl, rfl, trivial⟩
          · skip
            refine s_storeAgg H207 1 #[.string c.left.var.v, .string c.left.attr.v, .int .i64 c.left.val.kind.v, .int .i64 c.left.val.n.v, .string c.left.val.s.v] 5 rfl rfl rfl sz_25 rfl (by simp [Value.oneCell']) (Nat.le_of_ble_eq_true rfl) (fun o h1 h2 => by first | (simp; done) | (simp; omega)) (cs' := #[.string c.left.var.v, .string c.left.attr.v, .int .i64 c.left.val.kind.v, .int .i64 c.left.val.n.v, .string c.left.val.s.v]) rfl ?_; intro w212 H213
            change AnyG _ _ _ _ #[true, true, true, false, true, true, true, false] _ _
            refine a_all (rs := [3]) (by kernel_rfl) (by simp) ?_
            refine a_cons ⟨_, rfl, ?_⟩ (fun x hx => absurd hx (by simp))
            refine s_loadAgg [.string c.right.var.v, .string c.right.attr.v, .int .i64 c.right.val.kind.v, .int .i64 c.right.val.n.v, .string c.right.val.s.v] 5 ag_25 rfl (H213.blk_at (i := 2) rfl) (Nat.le_of_ble_eq_true rfl) rfl rfl ?_
            change AnyG _ _ _ _ #[true, true, true, true, true, true, true, false] _ _
            refine a_all (rs := [7]) (by kernel_rfl) (by simp) ?_
            refine a_cons ⟨_, rfl, ?_⟩ (fun x hx => absurd hx (by simp))
            refine s_storeAgg H213 0 #[.string c.right.var.v, .string c.right.attr.v, .int .i64 c.right.val.kind.v, .int .i64 c.right.val.n.v, .string c.right.val.s.v] 5 rfl rfl rfl sz_25 rfl (by simp [Value.oneCell']) (Nat.le_of_ble_eq_true rfl) (fun o h1 h2 => by first | (simp; done) | (simp; omega)) (cs' := #[.string c.right.var.v, .string c.right.attr.v, .int .i64 c.right.val.kind.v, .int .i64 c.right.val.n.v, .string c.right.val.s.v]) rfl ?_; intro w214 H215
            change AnyG _ _ _ _ #[true, true, true, true, true, true, true, true] _ _
            refine a_done (by kernel_rfl) ?_
            exact join4 (bk170, bk205) _ _ H215 ⟨rfl, rfl, rfl, trivial⟩
        · skip
          refine s_loadAgg [.string c.right.var.v, .string c.right.attr.v, .int .i64 c.right.val.kind.v, .int .i64 c.right.val.n.v, .string c.right.val.s.v] 5 ag_25 rfl (H207.blk_at (i := 2) rfl) (Nat.le_of_ble_eq_true rfl) rfl rfl ?_
          change AnyG _ _ _ _ #[true, false, true, true, true, true, false, false] _ _
          refine a_all (rs := [1]) (by kernel_rfl) (by simp) ?_
          refine a_cons ⟨_, rfl, ?_⟩ (fun x hx => absurd hx (by simp))
          refine s_loadAgg [.string c.left.var.v, .string c.left.attr.v, .int .i64 c.left.val.kind.v, .int .i64 c.left.val.n.v, .string c.left.val.s.v] 5 ag_25 rfl (H207.blk_at (i := 2) rfl) (Nat.le_of_ble_eq_true rfl) rfl rfl ?_
          change AnyG _ _ _ _ #[true, true, true, true, true, true, false, false] _ _
          refine a_all (rs := [6]) (by kernel_rfl) (by simp) ?_
          refine a_cons ⟨_, rfl, ?_⟩ (fun x hx => absurd hx (by simp))
          refine s_storeAgg H207 1 #[.string c.left.var.v, .string c.left.attr.v, .int .i64 c.left.val.kind.v, .int .i64 c.left.val.n.v, .string c.left.val.s.v] 5 rfl rfl rfl sz_25 rfl (by simp [Value.oneCell']) (Nat.le_of_ble_eq_true rfl) (fun o h1 h2 => by first | (simp; done) | (simp; omega)) (cs' := #[.string c.left.var.v, .string c.left.attr.v, .int .i64 c.left.val.kind.v, .int .i64 c.left.val.n.v, .string c.left.val.s.v]) rfl ?_; intro w216 H217
          change AnyG _ _ _ _ #[true, true, true, true, true, true, true, false] _ _
          refine a_all (rs := [7]) (by kernel_rfl) (by simp) ?_
          refine a_cons ⟨_, rfl, ?_⟩ (fun x hx => absurd hx (by simp))
          refine s_storeAgg H217 0 #[.string c.right.var.v, .string c.right.attr.v, .int .i64 c.right.val.kind.v, .int .i64 c.right.val.n.v, .string c.right.val.s.v] 5 rfl rfl rfl sz_25 rfl (by simp [Value.oneCell']) (Nat.le_of_ble_eq_true rfl) (fun o h1 h2 => by first | (simp; done) | (simp; omega)) (cs' := #[.string c.right.var.v, .string c.right.attr.v, .int .i64 c.right.val.kind.v, .int .i64 c.right.val.n.v, .string c.right.val.s.v]) rfl ?_; intro w218 H219
          change AnyG _ _ _ _ #[true, true, true, true, true, true, true, true] _ _
          refine a_done (by kernel_rfl) ?_
          exact join4 (bk170, bk205) _ _ H219 ⟨rfl, rfl, rfl, trivial⟩
    · skip
      refine s_alloc H46 25 ze_25 rfl ?_; intro bk220 w221 H222
      change AnyG _ _ _ _ #[true, false, true, false, false, true, false, false] _ _
      refine a_all (rs := [1, 3, 4]) (by kernel_rfl) (by simp) ?_
      refine a_cons ⟨_, rfl, ?_⟩ (a_cons ⟨_, rfl, ?_⟩ (a_cons ⟨_, rfl, ?_⟩ (fun x hx => absurd hx (by simp))))
      · skip
        refine s_loadAgg [.string c.left.var.v, .string c.left.attr.v, .int .i64 c.left.val.kind.v, .int .i64 c.left.val.n.v, .string c.left.val.s.v] 5 ag_25 rfl (H222.blk_at (i := 1) rfl) (Nat.le_of_ble_eq_true rfl) rfl rfl ?_
        change AnyG _ _ _ _ #[true, true, true, false, false, true, false, false] _ _
        refine a_all (rs := [3, 4]) (by kernel_rfl) (by simp) ?_
        refine a_cons ⟨_, rfl, ?_⟩ (a_cons ⟨_, rfl, ?_⟩ (fun x hx => absurd hx (by simp)))
        · skip
          refine s_loadAgg [.string c.right.var.v, .string c.right.attr.v, .int .i64 c.right.val.kind.v, .int .i64 c.right.val.n.v, .string c.right.val.s.v] 5 ag_25 rfl (H222.blk_at (i := 1) rfl) (Nat.le_of_ble_eq_true rfl) rfl rfl ?_
          change AnyG _ _ _ _ #[true, true, true, true, false, true, false, false] _ _
          refine a_all (rs := [4]) (by kernel_rfl) (by simp) ?_
          refine a_cons ⟨_, rfl, ?_⟩ (fun x hx => absurd hx (by simp))
          refine s_alloc H222 25 ze_25 rfl ?_; intro bk223 w224 H225
          change AnyG _ _ _ _ #[true, true, true, true, true, true, false, false] _ _
          refine a_all (rs := [6]) (by kernel_rfl) (by simp) ?_
          refine a_cons ⟨_, rfl, ?_⟩ (fun x hx => absurd hx (by simp))
          refine s_storeAgg H225 0 #[.string c.left.var.v, .string c.left.attr.v, .int .i64 c.left.val.kind.v, .int .i64 c.left.val.n.v, .string c.left.val.s.v] 5 rfl rfl rfl sz_25 rfl (by simp [Value.oneCell']) (Nat.le_of_ble_eq_true rfl) (fun o h1 h2 => by first | (simp; done) | (simp; omega)) (cs' := #[.string c.left.var.v, .string c.left.attr.v, .int .i64 c.left.val.kind.v, .int .i64 c.left.val.n.v, .string c.left.val.s.v]) rfl ?_; intro w226 H227
          change AnyG _ _ _ _ #[true, true, true, true, true, true, true, false] _ _
          refine a_all (rs := [7]) (by kernel_rfl) (by simp) ?_
          refine a_cons ⟨_, rfl, ?_⟩ (fun x hx => absurd hx (by simp))
          refine s_storeAgg H227 1 #[.string c.right.var.v, .string c.right.attr.v, .int .i64 c.right.val.kind.v, .int .i64 c.right.val.n.v, .string c.right.val.s.v] 5 rfl rfl rfl sz_25 rfl (by simp [Value.oneCell']) (Nat.le_of_ble_eq_true rfl) (fun o h1 h2 => by first | (simp; done) | (simp; omega)) (cs' := #[.string c.right.var.v, .string c.right.attr.v, .int .i64 c.right.val.kind.v, .int .i64 c.right.val.n.v, .string c.right.val.s.v]) rfl ?_; intro w228 H229
          change AnyG _ _ _ _ #[true, true, true, true, true, true, true, true] _ _
          refine a_done (by kernel_rfl) ?_
          have H230 : St W w228 (blk bk220 (.cells #[.string c.right.var.v, .string c.right.attr.v, .int .i64 c.right.val.kind.v, .int .i64 c.right.val.n.v, .string c.right.val.s.v] 25 (0, 0)) :: blk bk223 (.cells #[.string c.left.var.v, .string c.left.attr.v, .int .i64 c.left.val.kind.v, .int .i64 c.left.val.n.v, .string c.left.val.s.v] 25 (0, 0)) :: blk bk1 (.cells #[.string c.left.var.v, .string c.left.attr.v, .int .i64 c.left.val.kind.v, .int .i64 c.left.val.n.v, .string c.left.val.s.v, .int .i64 c.rel.v, .string c.right.var.v, .string c.right.attr.v, .int .i64 c.right.val.kind.v, .int .i64 c.right.val.n.v, .string c.right.val.s.v] 27 (0, 0)) :: F) := (((H229.move 2 rfl).move 1 rfl).move 2 rfl)
          exact join4 (bk223, bk220) _ _ H230 ⟨rfl, rfl, rfl, trivial⟩
        · skip
          refine s_alloc H222 25 ze_25 rfl ?_; intro bk231 w232 H233
          change AnyG _ _ _ _ #[true, true, true, false, true, true, false, false] _ _
          refine a_all (rs := [3, 6]) (by kernel_rfl) (by simp) ?_
          refine a_cons ⟨_, rfl, ?_⟩ (a_cons ⟨_, rfl, ?_⟩ (fun x hx => absurd hx (by simp)))
          · skip
            refine s_loadAgg [.string c.right.var.v, .string c.right.attr.v, .int .i64 c.right.val.kind.v, .int .i64 c.right.val.n.v, .string c.right.val.s.v] 5 ag_25 rfl (H233.blk_at (i := 2) rfl) (Nat.le_of_ble_eq_true rfl) rfl rfl ?_
            change AnyG _ _ _ _ #[true, true, true, true, true, true, false, false] _ _
            refine a_all (rs := [6]) (by kernel_rfl) (by simp) ?_
            refine a_cons ⟨_, rfl, ?_⟩ (fun x hx => absurd hx (by simp))
            refine s_storeAgg H233 0 #[.string c.left.var.v, .string c.left.attr.v, .int .i64 c.left.val.kind.v, .int .i64 c.left.val.n.v, .string c.left.val.s.v] 5 rfl rfl rfl sz_25 rfl (by simp [Value.oneCell']) (Nat.le_of_ble_eq_true rfl) (fun o h1 h2 => by first | (simp; done) | (simp; omega)) (cs' := #[.string c.left.var.v, .string c.left.attr.v, .int .i64 c.left.val.kind.v, .int .i64 c.left.val.n.v, .string c.left.val.s.v]) rfl ?_; intro w234 H235
            change AnyG _ _ _ _ #[true, true, true, true, true, true, true, false] _ _
            refine a_all (rs := [7]) (by kernel_rfl) (by simp) ?_
            refine a_cons ⟨_, rfl, ?_⟩ (fun x hx => absurd hx (by simp))
            refine s_storeAgg H235 1 #[.string c.right.var.v, .string c.right.attr.v, .int .i64 c.right.val.kind.v, .int .i64 c.right.val.n.v, .string c.right.val.s.v] 5 rfl rfl rfl sz_25 rfl (by simp [Value.oneCell']) (Nat.le_of_ble_eq_true rfl) (fun o h1 h2 => by first | (simp; done) | (simp; omega)) (cs' := #[.string c.right.var.v, .string c.right.attr.v, .int .i64 c.right.val.kind.v, .int .i64 c.right.val.n.v, .string c.right.val.s.v]) rfl ?_; intro w236 H237
            change AnyG _ _ _ _ #[true, true, true, true, true, true, true, true] _ _
            refine a_done (by kernel_rfl) ?_
            have H238 : St W w236 (blk bk220 (.cells #[.string c.right.var.v, .string c.right.attr.v, .int .i64 c.right.val.kind.v, .int .i64 c.right.val.n.v, .string c.right.val.s.v] 25 (0, 0)) :: blk bk231 (.cells #[.string c.left.var.v, .string c.left.attr.v, .int .i64 c.left.val.kind.v, .int .i64 c.left.val.n.v, .string c.left.val.s.v] 25 (0, 0)) :: blk bk1 (.cells #[.string c.left.var.v, .string c.left.attr.v, .int .i64 c.left.val.kind.v, .int .i64 c.left.val.n.v, .string c.left.val.s.v, .int .i64 c.rel.v, .string c.right.var.v, .string c.right.attr.v, .int .i64 c.right.val.kind.v, .int .i64 c.right.val.n.v, .string c.right.val.s.v] 27 (0, 0)) :: F) := (((H237.move 2 rfl).move 1 rfl).move 2 rfl)
            exact join4 (bk231, bk220) _ _ H238 ⟨rfl, rfl, rfl, trivial⟩
          · skip
            refine s_storeAgg H233 0 #[.string c.left.var.v, .string c.left.attr.v, .int .i64 c.left.val.kind.v, .int .i64 c.left.val.n.v, .string c.left.val.s.v] 5 rfl rfl rfl sz_25 rfl (by simp [Value.oneCell']) (Nat.le_of_ble_eq_true rfl) (fun o h1 h2 => by first | (simp; done) | (simp; omega)) (cs' := #[.string c.left.var.v, .string c.left.attr.v, .int .i64 c.left.val.kind.v, .int .i64 c.left.val.n.v, .string c.left.val.s.v]) rfl ?_; intro w239 H240
            change AnyG _ _ _ _ #[true, true, true, false, true, true, true, false] _ _
            refine a_all (rs := [3]) (by kernel_rfl) (by simp) ?_
            refine a_cons ⟨_, rfl, ?_⟩ (fun x hx => absurd hx (by simp))
            refine s_loadAgg [.string c.right.var.v, .string c.right.attr.v, .int .i64 c.right.val.kind.v, .int .i64 c.right.val.n.v, .string c.right.val.s.v] 5 ag_25 rfl (H240.blk_at (i := 2) rfl) (Nat.le_of_ble_eq_true rfl) rfl rfl ?_
            change AnyG _ _ _ _ #[true, true, true, true, true, true, true, false] _ _
            refine a_all (rs := [7]) (by kernel_rfl) (by simp) ?_
            refine a_cons ⟨_, rfl, ?_⟩ (fun x hx => absurd hx (by simp))
            refine s_storeAgg H240 1 #[.string c.right.var.v, .string c.right.attr.v, .int .i64 c.right.val.kind.v, .int .i64 c.right.val.n.v, .string c.right.val.s.v] 5 rfl rfl rfl sz_25 rfl (by simp [Value.oneCell']) (Nat.le_of_ble_eq_true rfl) (fun o h1 h2 => by first | (simp; done) | (simp; omega)) (cs' := #[.string c.right.var.v, .string c.right.attr.v, .int .i64 c.right.val.kind.v, .int .i64 c.right.val.n.v, .string c.right.val.s.v]) rfl ?_; intro w241 H242
            change AnyG _ _ _ _ #[true, true, true, true, true, true, true, true] _ _
            refine a_done (by kernel_rfl) ?_
            have H243 : St W w241 (blk bk220 (.cells #[.string c.right.var.v, .string c.right.attr.v, .int .i64 c.right.val.kind.v, .int .i64 c.right.val.n.v, .string c.right.val.s.v] 25 (0, 0)) :: blk bk231 (.cells #[.string c.left.var.v, .string c.left.attr.v, .int .i64 c.left.val.kind.v, .int .i64 c.left.val.n.v, .string c.left.val.s.v] 25 (0, 0)) :: blk bk1 (.cells #[.string c.left.var.v, .string c.left.attr.v, .int .i64 c.left.val.kind.v, .int .i64 c.left.val.n.v, .string c.left.val.s.v, .int .i64 c.rel.v, .string c.right.var.v, .string c.right.attr.v, .int .i64 c.right.val.kind.v, .int .i64 c.right.val.n.v, .string c.right.val.s.v] 27 (0, 0)) :: F) := (((H242.move 2 rfl).move 1 rfl).move 2 rfl)
            exact join4 (bk231, bk220) _ _ H243 ⟨rfl, rfl, rfl, trivial⟩
      · skip
        refine s_loadAgg [.string c.right.var.v, .string c.right.attr.v, .int .i64 c.right.val.kind.v, .int .i64 c.right.val.n.v, .string c.right.val.s.v] 5 ag_25 rfl (H222.blk_at (i := 1) rfl) (Nat.le_of_ble_eq_true rfl) rfl rfl ?_
        change AnyG _ _ _ _ #[true, false, true, true, false, true, false, false] _ _
        refine a_all (rs := [1, 4]) (by kernel_rfl) (by simp) ?_
        refine a_cons ⟨_, rfl, ?_⟩ (a_cons ⟨_, rfl, ?_⟩ (fun x hx => absurd hx (by simp)))
        · skip
          refine s_loadAgg [.string c.left.var.v, .string c.left.attr.v, .int .i64 c.left.val.kind.v, .int .i64 c.left.val.n.v, .string c.left.val.s.v] 5 ag_25 rfl (H222.blk_at (i := 1) rfl) (Nat.le_of_ble_eq_true rfl) rfl rfl ?_
          change AnyG _ _ _ _ #[true, true, true, true, false, true, false, false] _ _
          refine a_all (rs := [4]) (by kernel_rfl) (by simp) ?_
          refine a_cons ⟨_, rfl, ?_⟩ (fun x hx => absurd hx (by simp))
          refine s_alloc H222 25 ze_25 rfl ?_; intro bk244 w245 H246
          change AnyG _ _ _ _ #[true, true, true, true, true, true, false, false] _ _
          refine a_all (rs := [6]) (by kernel_rfl) (by simp) ?_
          refine a_cons ⟨_, rfl, ?_⟩ (fun x hx => absurd hx (by simp))
          refine s_storeAgg H246 0 #[.string c.left.var.v, .string c.left.attr.v, .int .i64 c.left.val.kind.v, .int .i64 c.left.val.n.v, .string c.left.val.s.v] 5 rfl rfl rfl sz_25 rfl (by simp [Value.oneCell']) (Nat.le_of_ble_eq_true rfl) (fun o h1 h2 => by first | (simp; done) | (simp; omega)) (cs' := #[.string c.left.var.v, .string c.left.attr.v, .int .i64 c.left.val.kind.v, .int .i64 c.left.val.n.v, .string c.left.val.s.v]) rfl ?_; intro w247 H248
          change AnyG _ _ _ _ #[true, true, true, true, true, true, true, false] _ _
          refine a_all (rs := [7]) (by kernel_rfl) (by simp) ?_
          refine a_cons ⟨_, rfl, ?_⟩ (fun x hx => absurd hx (by simp))
          refine s_storeAgg H248 1 #[.string c.right.var.v, .string c.right.attr.v, .int .i64 c.right.val.kind.v, .int .i64 c.right.val.n.v, .string c.right.val.s.v] 5 rfl rfl rfl sz_25 rfl (by simp [Value.oneCell']) (Nat.le_of_ble_eq_true rfl) (fun o h1 h2 => by first | (simp; done) | (simp; omega)) (cs' := #[.string c.right.var.v, .string c.right.attr.v, .int .i64 c.right.val.kind.v, .int .i64 c.right.val.n.v, .string c.right.val.s.v]) rfl ?_; intro w249 H250
          change AnyG _ _ _ _ #[true, true, true, true, true, true, true, true] _ _
          refine a_done (by kernel_rfl) ?_
          have H251 : St W w249 (blk bk220 (.cells #[.string c.right.var.v, .string c.right.attr.v, .int .i64 c.right.val.kind.v, .int .i64 c.right.val.n.v, .string c.right.val.s.v] 25 (0, 0)) :: blk bk244 (.cells #[.string c.left.var.v, .string c.left.attr.v, .int .i64 c.left.val.kind.v, .int .i64 c.left.val.n.v, .string c.left.val.s.v] 25 (0, 0)) :: blk bk1 (.cells #[.string c.left.var.v, .string c.left.attr.v, .int .i64 c.left.val.kind.v, .int .i64 c.left.val.n.v, .string c.left.val.s.v, .int .i64 c.rel.v, .string c.right.var.v, .string c.right.attr.v, .int .i64 c.right.val.kind.v, .int .i64 c.right.val.n.v, .string c.right.val.s.v] 27 (0, 0)) :: F) := (((H250.move 2 rfl).move 1 rfl).move 2 rfl)
          exact join4 (bk244, bk220) _ _ H251 ⟨rfl, rfl, rfl, trivial⟩
        · skip
          refine s_alloc H222 25 ze_25 rfl ?_; intro bk252 w253 H254
          change AnyG _ _ _ _ #[true, false, true, true, true, true, false, false] _ _
          refine a_all (rs := [1]) (by kernel_rfl) (by simp) ?_
          refine a_cons ⟨_, rfl, ?_⟩ (fun x hx => absurd hx (by simp))
          refine s_loadAgg [.string c.left.var.v, .string c.left.attr.v, .int .i64 c.left.val.kind.v, .int .i64 c.left.val.n.v, .string c.left.val.s.v] 5 ag_25 rfl (H254.blk_at (i := 2) rfl) (Nat.le_of_ble_eq_true rfl) rfl rfl ?_
          change AnyG _ _ _ _ #[true, true, true, true, true, true, false, false] _ _
          refine a_all (rs := [6]) (by kernel_rfl) (by simp) ?_
          refine a_cons ⟨_, rfl, ?_⟩ (fun x hx => absurd hx (by simp))
          refine s_storeAgg H254 0 #[.string c.left.var.v, .string c.left.attr.v, .int .i64 c.left.val.kind.v, .int .i64 c.left.val.n.v, .string c.left.val.s.v] 5 rfl rfl rfl sz_25 rfl (by simp [Value.oneCell']) (Nat.le_of_ble_eq_true rfl) (fun o h1 h2 => by first | (simp; done) | (simp; omega)) (cs' := #[.string c.left.var.v, .string c.left.attr.v, .int .i64 c.left.val.kind.v, .int .i64 c.left.val.n.v, .string c.left.val.s.v]) rfl ?_; intro w255 H256
          change AnyG _ _ _ _ #[true, true, true, true, true, true, true, false] _ _
          refine a_all (rs := [7]) (by kernel_rfl) (by simp) ?_
          refine a_cons ⟨_, rfl, ?_⟩ (fun x hx => absurd hx (by simp))
          refine s_storeAgg H256 1 #[.string c.right.var.v, .string c.right.attr.v, .int .i64 c.right.val.kind.v, .int .i64 c.right.val.n.v, .string c.right.val.s.v] 5 rfl rfl rfl sz_25 rfl (by simp [Value.oneCell']) (Nat.le_of_ble_eq_true rfl) (fun o h1 h2 => by first | (simp; done) | (simp; omega)) (cs' := #[.string c.right.var.v, .string c.right.attr.v, .int .i64 c.right.val.kind.v, .int .i64 c.right.val.n.v, .string c.right.val.s.v]) rfl ?_; intro w257 H258
          change AnyG _ _ _ _ #[true, true, true, true, true, true, true, true] _ _
          refine a_done (by kernel_rfl) ?_
          have H259 : St W w257 (blk bk220 (.cells #[.string c.right.var.v, .string c.right.attr.v, .int .i64 c.right.val.kind.v, .int .i64 c.right.val.n.v, .string c.right.val.s.v] 25 (0, 0)) :: blk bk252 (.cells #[.string c.left.var.v, .string c.left.attr.v, .int .i64 c.left.val.kind.v, .int .i64 c.left.val.n.v, .string c.left.val.s.v] 25 (0, 0)) :: blk bk1 (.cells #[.string c.left.var.v, .string c.left.attr.v, .int .i64 c.left.val.kind.v, .int .i64 c.left.val.n.v, .string c.left.val.s.v, .int .i64 c.rel.v, .string c.right.var.v, .string c.right.attr.v, .int .i64 c.right.val.kind.v, .int .i64 c.right.val.n.v, .string c.right.val.s.v] 27 (0, 0)) :: F) := (((H258.move 2 rfl).move 1 rfl).move 2 rfl)
          exact join4 (bk252, bk220) _ _ H259 ⟨rfl, rfl, rfl, trivial⟩
      · skip
        refine s_alloc H222 25 ze_25 rfl ?_; intro bk260 w261 H262
        change AnyG _ _ _ _ #[true, false, true, false, true, true, false, false] _ _
        refine a_all (rs := [1, 3]) (by kernel_rfl) (by simp) ?_
        refine a_cons ⟨_, rfl, ?_⟩ (a_cons ⟨_, rfl, ?_⟩ (fun x hx => absurd hx (by simp)))
        · skip
          refine s_loadAgg [.string c.left.var.v, .string c.left.attr.v, .int .i64 c.left.val.kind.v, .int .i64 c.left.val.n.v, .string c.left.val.s.v] 5 ag_25 rfl (H262.blk_at (i := 2) rfl) (Nat.le_of_ble_eq_true rfl) rfl rfl ?_
          change AnyG _ _ _ _ #[true, true, true, false, true, true, false, false] _ _
          refine a_all (rs := [3, 6]) (by kernel_rfl) (by simp) ?_
          refine a_cons ⟨_, rfl, ?_⟩ (a_cons ⟨_, rfl, ?_⟩ (fun x hx => absurd hx (by simp)))
          · skip
            refine s_loadAgg [.string c.right.var.v, .string c.right.attr.v, .int .i64 c.right.val.kind.v, .int .i64 c.right.val.n.v, .string c.right.val.s.v] 5 ag_25 rfl (H262.blk_at (i := 2) rfl) (Nat.le_of_ble_eq_true rfl) rfl rfl ?_
            change AnyG _ _ _ _ #[true, true, true, true, true, true, false, false] _ _
            refine a_all (rs := [6]) (by kernel_rfl) (by simp) ?_
            refine a_cons ⟨_, rfl, ?_⟩ (fun x hx => absurd hx (by simp))
            refine s_storeAgg H262 0 #[.string c.left.var.v, .string c.left.attr.v, .int .i64 c.left.val.kind.v, .int .i64 c.left.val.n.v, .string c.left.val.s.v] 5 rfl rfl rfl sz_25 rfl (by simp [Value.oneCell']) (Nat.le_of_ble_eq_true rfl) (fun o h1 h2 => by first | (simp; done) | (simp; omega)) (cs' := #[.string c.left.var.v, .string c.left.attr.v, .int .i64 c.left.val.kind.v, .int .i64 c.left.val.n.v, .string c.left.val.s.v]) rfl ?_; intro w263 H264
            change AnyG _ _ _ _ #[true, true, true, true, true, true, true, false] _ _
            refine a_all (rs := [7]) (by kernel_rfl) (by simp) ?_
            refine a_cons ⟨_, rfl, ?_⟩ (fun x hx => absurd hx (by simp))
            refine s_storeAgg H264 1 #[.string c.right.var.v, .string c.right.attr.v, .int .i64 c.right.val.kind.v, .int .i64 c.right.val.n.v, .string c.right.val.s.v] 5 rfl rfl rfl sz_25 rfl (by simp [Value.oneCell']) (Nat.le_of_ble_eq_true rfl) (fun o h1 h2 => by first | (simp; done) | (simp; omega)) (cs' := #[.string c.right.var.v, .string c.right.attr.v, .int .i64 c.right.val.kind.v, .int .i64 c.right.val.n.v, .string c.right.val.s.v]) rfl ?_; intro w265 H266
            change AnyG _ _ _ _ #[true, true, true, true, true, true, true, true] _ _
            refine a_done (by kernel_rfl) ?_
            have H267 : St W w265 (blk bk220 (.cells #[.string c.right.var.v, .string c.right.attr.v, .int .i64 c.right.val.kind.v, .int .i64 c.right.val.n.v, .string c.right.val.s.v] 25 (0, 0)) :: blk bk260 (.cells #[.string c.left.var.v, .string c.left.attr.v, .int .i64 c.left.val.kind.v, .int .i64 c.left.val.n.v, .string c.left.val.s.v] 25 (0, 0)) :: blk bk1 (.cells #[.string c.left.var.v, .string c.left.attr.v, .int .i64 c.left.val.kind.v, .int .i64 c.left.val.n.v, .string c.left.val.s.v, .int .i64 c.rel.v, .string c.right.var.v, .string c.right.attr.v, .int .i64 c.right.val.kind.v, .int .i64 c.right.val.n.v, .string c.right.val.s.v] 27 (0, 0)) :: F) := (((H266.move 2 rfl).move 1 rfl).move 2 rfl)
            exact join4 (bk260, bk220) _ _ H267 ⟨rfl, rfl, rfl, trivial⟩
          · skip
            refine s_storeAgg H262 0 #[.string c.left.var.v, .string c.left.attr.v, .int .i64 c.left.val.kind.v, .int .i64 c.left.val.n.v, .string c.left.val.s.v] 5 rfl rfl rfl sz_25 rfl (by simp [Value.oneCell']) (Nat.le_of_ble_eq_true rfl) (fun o h1 h2 => by first | (simp; done) | (simp; omega)) (cs' := #[.string c.left.var.v, .string c.left.attr.v, .int .i64 c.left.val.kind.v, .int .i64 c.left.val.n.v, .string c.left.val.s.v]) rfl ?_; intro w268 H269
            change AnyG _ _ _ _ #[true, true, true, false, true, true, true, false] _ _
            refine a_all (rs := [3]) (by kernel_rfl) (by simp) ?_
            refine a_cons ⟨_, rfl, ?_⟩ (fun x hx => absurd hx (by simp))
            refine s_loadAgg [.string c.right.var.v, .string c.right.attr.v, .int .i64 c.right.val.kind.v, .int .i64 c.right.val.n.v, .string c.right.val.s.v] 5 ag_25 rfl (H269.blk_at (i := 2) rfl) (Nat.le_of_ble_eq_true rfl) rfl rfl ?_
            change AnyG _ _ _ _ #[true, true, true, true, true, true, true, false] _ _
            refine a_all (rs := [7]) (by kernel_rfl) (by simp) ?_
            refine a_cons ⟨_, rfl, ?_⟩ (fun x hx => absurd hx (by simp))
            refine s_storeAgg H269 1 #[.string c.right.var.v, .string c.right.attr.v, .int .i64 c.right.val.kind.v, .int .i64 c.right.val.n.v, .string c.right.val.s.v] 5 rfl rfl rfl sz_25 rfl (by simp [Value.oneCell']) (Nat.le_of_ble_eq_true rfl) (fun o h1 h2 => by first | (simp; done) | (simp; omega)) (cs' := #[.string c.right.var.v, .string c.right.attr.v, .int .i64 c.right.val.kind.v, .int .i64 c.right.val.n.v, .string c.right.val.s.v]) rfl ?_; intro w270 H271
            change AnyG _ _ _ _ #[true, true, true, true, true, true, true, true] _ _
            refine a_done (by kernel_rfl) ?_
            have H272 : St W w270 (blk bk220 (.cells #[.string c.right.var.v, .string c.right.attr.v, .int .i64 c.right.val.kind.v, .int .i64 c.right.val.n.v, .string c.right.val.s.v] 25 (0, 0)) :: blk bk260 (.cells #[.string c.left.var.v, .string c.left.attr.v, .int .i64 c.left.val.kind.v, .int .i64 c.left.val.n.v, .string c.left.val.s.v] 25 (0, 0)) :: blk bk1 (.cells #[.string c.left.var.v, .string c.left.attr.v, .int .i64 c.left.val.kind.v, .int .i64 c.left.val.n.v, .string c.left.val.s.v, .int .i64 c.rel.v, .string c.right.var.v, .string c.right.attr.v, .int .i64 c.right.val.kind.v, .int .i64 c.right.val.n.v, .string c.right.val.s.v] 27 (0, 0)) :: F) := (((H271.move 2 rfl).move 1 rfl).move 2 rfl)
            exact join4 (bk260, bk220) _ _ H272 ⟨rfl, rfl, rfl, trivial⟩
        · skip
          refine s_loadAgg [.string c.right.var.v, .string c.right.attr.v, .int .i64 c.right.val.kind.v, .int .i64 c.right.val.n.v, .string c.right.val.s.v] 5 ag_25 rfl (H262.blk_at (i := 2) rfl) (Nat.le_of_ble_eq_true rfl) rfl rfl ?_
          change AnyG _ _ _ _ #[true, false, true, true, true, true, false, false] _ _
          refine a_all (rs := [1]) (by kernel_rfl) (by simp) ?_
          refine a_cons ⟨_, rfl, ?_⟩ (fun x hx => absurd hx (by simp))
          refine s_loadAgg [.string c.left.var.v, .string c.left.attr.v, .int .i64 c.left.val.kind.v, .int .i64 c.left.val.n.v, .string c.left.val.s.v] 5 ag_25 rfl (H262.blk_at (i := 2) rfl) (Nat.le_of_ble_eq_true rfl) rfl rfl ?_
          change AnyG _ _ _ _ #[true, true, true, true, true, true, false, false] _ _
          refine a_all (rs := [6]) (by kernel_rfl) (by simp) ?_
          refine a_cons ⟨_, rfl, ?_⟩ (fun x hx => absurd hx (by simp))
          refine s_storeAgg H262 0 #[.string c.left.var.v, .string c.left.attr.v, .int .i64 c.left.val.kind.v, .int .i64 c.left.val.n.v, .string c.left.val.s.v] 5 rfl rfl rfl sz_25 rfl (by simp [Value.oneCell']) (Nat.le_of_ble_eq_true rfl) (fun o h1 h2 => by first | (simp; done) | (simp; omega)) (cs' := #[.string c.left.var.v, .string c.left.attr.v, .int .i64 c.left.val.kind.v, .int .i64 c.left.val.n.v, .string c.left.val.s.v]) rfl ?_; intro w273 H274
          change AnyG _ _ _ _ #[true, true, true, true, true, true, true, false] _ _
          refine a_all (rs := [7]) (by kernel_rfl) (by simp) ?_
          refine a_cons ⟨_, rfl, ?_⟩ (fun x hx => absurd hx (by simp))
          refine s_storeAgg H274 1 #[.string c.right.var.v, .string c.right.attr.v, .int .i64 c.right.val.kind.v, .int .i64 c.right.val.n.v, .string c.right.val.s.v] 5 rfl rfl rfl sz_25 rfl (by simp [Value.oneCell']) (Nat.le_of_ble_eq_true rfl) (fun o h1 h2 => by first | (simp; done) | (simp; omega)) (cs' := #[.string c.right.var.v, .string c.right.attr.v, .int .i64 c.right.val.kind.v, .int .i64 c.right.val.n.v, .string c.right.val.s.v]) rfl ?_; intro w275 H276
          change AnyG _ _ _ _ #[true, true, true, true, true, true, true, true] _ _
          refine a_done (by kernel_rfl) ?_
          have H277 : St W w275 (blk bk220 (.cells #[.string c.right.var.v, .string c.right.attr.v, .int .i64 c.right.val.kind.v, .int .i64 c.right.val.n.v, .string c.right.val.s.v] 25 (0, 0)) :: blk bk260 (.cells #[.string c.left.var.v, .string c.left.attr.v, .int .i64 c.left.val.kind.v, .int .i64 c.left.val.n.v, .string c.left.val.s.v] 25 (0, 0)) :: blk bk1 (.cells #[.string c.left.var.v, .string c.left.attr.v, .int .i64 c.left.val.kind.v, .int .i64 c.left.val.n.v, .string c.left.val.s.v, .int .i64 c.rel.v, .string c.right.var.v, .string c.right.attr.v, .int .i64 c.right.val.kind.v, .int .i64 c.right.val.n.v, .string c.right.val.s.v] 27 (0, 0)) :: F) := (((H276.move 2 rfl).move 1 rfl).move 2 rfl)
          exact join4 (bk260, bk220) _ _ H277 ⟨rfl, rfl, rfl, trivial⟩
set_option maxHeartbeats 4000000 in
set_option maxRecDepth 100000 in
theorem ref09_Ready {W w : World} {F : List Atom} (c : CondV) (vars : List Str) (vv : Value) {jv : Nat} (hv : F[jv]? = some (Im 1 vv vars.length (vars.flatMap strCell))) (H : St W w F) : Calls Try.prog 23 #[.agg #[.string c.left.var.v, .string c.left.attr.v, .int .i64 c.left.val.kind.v, .int .i64 c.left.val.n.v, .string c.left.val.s.v, .int .i64 c.rel.v, .string c.right.var.v, .string c.right.attr.v, .int .i64 c.right.val.kind.v, .int .i64 c.right.val.n.v, .string c.right.val.s.v], vv] w (Ret fun v w' => v = .bool (readyB c vars) ∧ St W w' F) := by
  obtain ⟨pp1, cc2, rfl, hn3⟩ := Rd.shape (Im.rd H (i := jv) hv)
  have H4 := H.dup (i := jv + 0) (by exact hv) (Im_pers _ _ _ _)
  have H5 : St W w (Im 1 (.slice pp1 vars.length cc2) vars.length (vars.flatMap strCell) :: F) := H4
  refine calls_of_go (n := 22) Try.func23 rfl Try.ntmps23 rfl ?_
  refine g_seq ?_
  refine g_region ?_
  refine r_cons (s_box H5 27 (.agg #[.string c.left.var.v, .string c.left.attr.v, .int .i64 c.left.val.kind.v, .int .i64 c.left.val.n.v, .string c.left.val.s.v, .int .i64 c.rel.v, .string c.right.var.v, .string c.right.attr.v, .int .i64 c.right.val.kind.v, .int .i64 c.right.val.n.v, .string c.right.val.s.v]) rfl (cs := #[.string c.left.var.v, .string c.left.attr.v, .int .i64 c.left.val.kind.v, .int .i64 c.left.val.n.v, .string c.left.val.s.v, .int .i64 c.rel.v, .string c.right.var.v, .string c.right.attr.v, .int .i64 c.right.val.kind.v, .int .i64 c.right.val.n.v, .string c.right.val.s.v]) rfl rfl ?_); intro bk6 w7 H8
  refine r_cons (s_assign (.bool false) rfl rfl ?_)
  refine r_nil ?_
  refine g_seq ?_
  refine g_region ?_
  refine r_cons (s_loadAgg [.string c.left.var.v, .string c.left.attr.v, .int .i64 c.left.val.kind.v, .int .i64 c.left.val.n.v, .string c.left.val.s.v, .int .i64 c.rel.v, .string c.right.var.v, .string c.right.attr.v, .int .i64 c.right.val.kind.v, .int .i64 c.right.val.n.v, .string c.right.val.s.v] 11 ag_27 rfl (H8.blk_at (i := 0) rfl) (Nat.le_of_ble_eq_true rfl) rfl rfl ?_)
  refine r_cons (s_call [.agg #[.string c.left.var.v, .string c.left.attr.v, .int .i64 c.left.val.kind.v, .int .i64 c.left.val.n.v, .string c.left.val.s.v, .int .i64 c.rel.v, .string c.right.var.v, .string c.right.attr.v, .int .i64 c.right.val.kind.v, .int .i64 c.right.val.n.v, .string c.right.val.s.v]] pl_21 rfl rfl (ref09_Names c H8) ?_)
  rintro _ w11 ⟨pp9, cc10, rfl, H12⟩
  refine r_cons (s_assign (.slice pp9 ((namesV c).length) cc10) rfl rfl ?_)
  refine r_nil ?_
  refine g_seq ?_
  refine g_seq ?_
  refine g_region ?_
  refine r_cons (s_assign (.int .i64 0) rfl rfl ?_)
  refine r_nil ?_
  refine g_block ?_
  obtain ⟨pA13, cA14, gA15, oA16, kA17, eA18, zA19, he25, hn20, hp21, hx22, hs23, hml, H24⟩ := Im.open_ H12 (i := 0) rfl
  obtain ⟨rfl, rfl⟩ : pp9 = pA13 ∧ cc10 = cA14 := by injection he25 with a_ b_ c_; exact ⟨a_, c_⟩
  have H26 : St W w11 (imi (0 < (namesV c).length) gA15 (.cells kA17 eA18 zA19) :: Im 1 (.slice pp9 ((namesV c).length) cc10) ((namesV c).length) ((namesV c).flatMap strCell) :: blk bk6 (.cells #[.string c.left.var.v, .string c.left.attr.v, .int .i64 c.left.val.kind.v, .int .i64 c.left.val.n.v, .string c.left.val.s.v, .int .i64 c.rel.v, .string c.right.var.v, .string c.right.attr.v, .int .i64 c.right.val.kind.v, .int .i64 c.right.val.n.v, .string c.right.val.s.v] 27 (0, 0)) :: Im 1 (.slice pp1 vars.length cc2) vars.length (vars.flatMap strCell) :: F) := ((((H24.move 3 rfl).move 3 rfl).move 3 rfl).move 3 rfl)
  refine g_loop_inv (fun (x_ : Nat) => match x_ with | j => [(1, .slice pp1 vars.length cc2), (4, .bool false), (5, .slice pp9 ((namesV c).length) cc10), (6, .int .i64 (j : Int))]) (fun (x_ : Nat) w => match x_ with | j => (j ≤ (namesV c).length) ∧ (∀ q, q < j → (!hasS vars ((namesV c).getD q default).v) = false) ∧ St W w (imi (0 < (namesV c).length) gA15 (.cells kA17 eA18 zA19) :: Im 1 (.slice pp9 ((namesV c).length) cc10) ((namesV c).length) ((namesV c).flatMap strCell) :: blk bk6 (.cells #[.string c.left.var.v, .string c.left.attr.v, .int .i64 c.left.val.kind.v, .int .i64 c.left.val.n.v, .string c.left.val.s.v, .int .i64 c.rel.v, .string c.right.var.v, .string c.right.attr.v, .int .i64 c.right.val.kind.v, .int .i64 c.right.val.n.v, .string c.right.val.s.v] 27 (0, 0)) :: Im 1 (.slice pp1 vars.length cc2) vars.length (vars.flatMap strCell) :: F)) (fun (x_ : Nat) => match x_ with | j => (namesV c).length - j) (0) ?_ ?_ ?_
  · exact ⟨by first | rfl | exact vint (by omega), by first | rfl | exact vint (by omega), by first | rfl | exact vint (by omega), by first | rfl | exact vint (by omega), trivial⟩
  · exact ⟨(by omega), (fun q hq => by omega), H26⟩
  · rintro j ρ27 w28 ⟨hjn, hz, H29⟩ nx30
    change Ends _ _ (upds ρ27 [(1, .slice pp1 vars.length cc2), (4, .bool false), (5, .slice pp9 ((namesV c).length) cc10), (6, .int .i64 (j : Int))]) w28
    refine g_seq ?_
    refine g_seq ?_
    refine g_region ?_
    refine r_cons (s_move (.int .i64 (j : Int)) rfl rfl ?_)
    refine r_cons (s_move (.slice pp9 ((namesV c).length) cc10) rfl rfl ?_)
    refine r_cons (s_len ((namesV c).length) rfl ⟨_, un_49⟩ rfl ?_)
    by_cases hc31 : (j : Int) < ((namesV c).length : Int)
    · skip
      refine r_cons (s_lss true rfl rfl (dtrue hc31) rfl ?_)
      refine r_nil ?_
      refine g_true rfl ?_
      refine g_skip ?_
      refine g_seq ?_
      refine g_block ?_
      refine g_seq ?_
      refine g_region ?_
      refine r_cons (s_move (.slice pp1 vars.length cc2) rfl rfl ?_)
      refine r_cons (s_move (.slice pp9 ((namesV c).length) cc10) rfl rfl ?_)
      refine r_cons (s_move (.int .i64 (j : Int)) rfl rfl ?_)
      refine r_cons (s_indexAddr gA15 (off := oA16) (j : Int) 1 (oA16 + j * 1) (by exact congrArg (fun z_ => Value.slice z_ ((namesV c).length) cc10) (hp21 (by omega))) rfl el_49 (by omega) rfl rfl ?_)
      refine r_cons (s_load (.string (((namesV c).getD j default).v)) ag_9 rfl (H29.imi_at (i := 0) rfl (by omega)) (elem_cell (L := (namesV c)) (i := j) strCell_len (hx22 (by omega)) (by omega) default 0 (by decide) _ rfl) rfl ?_)
      refine r_cons (s_call [.slice pp1 vars.length cc2, .string (((namesV c).getD j default).v)] pl_43 rfl rfl (ref07_Has vars (.slice pp1 vars.length cc2) (((namesV c).getD j default).v) (m := 3) rfl H29) ?_)
      rintro _ w32 ⟨rfl, H33⟩
      refine r_cons (s_not (hasS vars (((namesV c).getD j default).v)) rfl (!(hasS vars (((namesV c).getD j default).v))) rfl rfl ?_)
      refine r_nil ?_
      by_cases hb34 : (!(hasS vars (((namesV c).getD j default).v))) = true
      · skip
        refine g_true (congrArg Value.bool hb34) ?_
        refine g_seq ?_
        refine g_region ?_
        refine r_cons (s_assign (.bool false) rfl rfl ?_)
        refine r_nil ?_
        refine g_ret' [.bool false] Try.func23 Try.results23 ⟨rfl, trivial⟩ ?_
        have H35 : St W w32 F := ((((H33.drop 0 rfl).drop 0 rfl).drop 0 rfl).drop 0 rfl)
        exact ⟨congrArg Value.bool (ready_no (any_at (p := fun x : Str => !hasS vars x.v) hz (by omega) (by rw [hb34]))).symm, H35⟩
      · have hb34 := eq_false_of_ne_true hb34
        refine g_false (congrArg Value.bool hb34) ?_
        refine g_skip ?_
        refine g_inBlock ?_
        refine g_region ?_
        refine r_cons (s_move (.int .i64 (j : Int)) rfl rfl ?_)
        refine r_cons (s_add ((j : Int) + 1) rfl rfl (wi64 (by omega)) rfl ?_)
        refine r_cons (s_assign (.int .i64 ((j : Int) + 1)) rfl rfl ?_)
        refine r_nil ?_
        have H36 : St W w32 (imi (0 < (namesV c).length) gA15 (.cells kA17 eA18 zA19) :: Im 1 (.slice pp9 ((namesV c).length) cc10) ((namesV c).length) ((namesV c).flatMap strCell) :: blk bk6 (.cells #[.string c.left.var.v, .string c.left.attr.v, .int .i64 c.left.val.kind.v, .int .i64 c.left.val.n.v, .string c.left.val.s.v, .int .i64 c.rel.v, .string c.right.var.v, .string c.right.attr.v, .int .i64 c.right.val.kind.v, .int .i64 c.right.val.n.v, .string c.right.val.s.v] 27 (0, 0)) :: Im 1 (.slice pp1 vars.length cc2) vars.length (vars.flatMap strCell) :: F) := ((((H33.move 3 rfl).move 3 rfl).move 3 rfl).move 3 rfl)
        exact nx30 (j + 1) _ _ ⟨(by omega), (fun q hq => (Nat.lt_or_ge q j).elim (hz q) (fun h => by rw [show q = j from by omega]; exact by rw [hb34])), H36⟩ (by first | (dsimp only; omega) | omega) ⟨by first | rfl | exact vint (by omega), by first | rfl | exact vint (by omega), by first | rfl | exact vint (by omega), by first | rfl | exact vint (by omega), trivial⟩
    · skip
      refine r_cons (s_lss false rfl rfl (dfalse hc31) rfl ?_)
      refine r_nil ?_
      refine g_false rfl ?_
      refine g_exit (by rfl) ?_
      refine g_seq ?_
      refine g_region ?_
      refine r_cons (s_assign (.bool true) rfl rfl ?_)
      refine r_nil ?_
      refine g_ret' [.bool true] Try.func23 Try.results23 ⟨rfl, trivial⟩ ?_
      have H37 : St W w28 F := ((((H29.drop 0 rfl).drop 0 rfl).drop 0 rfl).drop 0 rfl)
      exact ⟨congrArg Value.bool (ready_yes (any_none (p := fun x : Str => !hasS vars x.v) (fun q hq => hz q (by omega)))).symm, H37⟩
set_option maxHeartbeats 4000000 in
set_option maxRecDepth 100000 in
theorem pred_Split1 {W w : World} {F : List Atom} (is : Bool) (g1 g2 : Nat) (l : List CondV) (lv : Value) (vars : List Str) (vv : Value) {i1 i2 : Nat} (h1 : F[i1]? = some (imm g1 (.cells #[lv] 28 (0, 0)))) (h2 : F[i2]? = some (imm g2 (.cells #[vv] 49 (0, 0)))) {m : Nat} (hm : F[m]? = some (Im 11 lv l.length (l.flatMap condCell))) {jv : Nat} (hv : F[jv]? = some (Im 1 vv vars.length (vars.flatMap strCell))) (hb : l.length * 136 ≤ 140737488355328) (H : St W w F) : Calls Try.prog 44 #[.bool is, .pointer (some ⟨g1, 0, none⟩), .pointer (some ⟨g2, 0, none⟩)] w (Ret fun v w' => ∃ p q, v = .slice p (pickB l vars is).length q ∧ St W w' (Im 11 (.slice p (pickB l vars is).length q) (pickB l vars is).length ((pickB l vars is).flatMap condCell) :: F)) := by
  obtain ⟨pp1, cc2, rfl, hn3⟩ := Rd.shape (Im.rd H (i := m) hm)
  have H4 := H.dup (i := m + 0) (by exact hm) (Im_pers _ _ _ _)
  have H5 : St W w (Im 11 (.slice pp1 l.length cc2) l.length (l.flatMap condCell) :: F) := H4
  obtain ⟨pp6, cc7, rfl, hn8⟩ := Rd.shape (Im.rd H (i := jv) hv)
  have H9 := H5.dup (i := jv + 1) (by exact hv) (Im_pers _ _ _ _)
  have H10 : St W w (Im 1 (.slice pp6 vars.length cc7) vars.length (vars.flatMap strCell) :: Im 11 (.slice pp1 l.length cc2) l.length (l.flatMap condCell) :: F) := H9
  have H11 := H10.dup (i := i1 + 2) (by exact h1) (imm_pers _ _)
  have H12 : St W w (imm g1 (.cells #[.slice pp1 l.length cc2] 28 (0, 0)) :: Im 1 (.slice pp6 vars.length cc7) vars.length (vars.flatMap strCell) :: Im 11 (.slice pp1 l.length cc2) l.length (l.flatMap condCell) :: F) := H11
  have H13 := H12.dup (i := i2 + 3) (by exact h2) (imm_pers _ _)
  have H14 : St W w (imm g2 (.cells #[.slice pp6 vars.length cc7] 49 (0, 0)) :: imm g1 (.cells #[.slice pp1 l.length cc2] 28 (0, 0)) :: Im 1 (.slice pp6 vars.length cc7) vars.length (vars.flatMap strCell) :: Im 11 (.slice pp1 l.length cc2) l.length (l.flatMap condCell) :: F) := H13
  refine calls_of_go (n := 25) Try.func44 rfl Try.ntmps44 rfl ?_
  refine g_seq ?_
  refine g_region ?_
  refine r_cons (s_assign (.slice none 0 0) rfl rfl ?_)
  refine r_nil ?_
  refine g_seq ?_
  refine g_region ?_
  refine r_cons (s_assign (.slice none 0 0) rfl rfl ?_)
  refine r_nil ?_
  refine g_seq ?_
  refine g_seq ?_
  refine g_region ?_
  refine r_cons (s_load (.slice pp1 l.length cc2) ag_28 rfl (H14.imm_at (i := 1) rfl) rfl rfl ?_)
  refine r_cons (s_len l.length rfl ⟨_, un_28⟩ rfl ?_)
  refine r_cons (s_move (.int .i64 0) rfl rfl ?_)
  refine r_nil ?_
  refine g_block ?_
  obtain ⟨pA15, cA16, gA17, oA18, kA19, eA20, zA21, he27, hn22, hp23, hx24, hs25, hml, H26⟩ := Im.open_ H14 (i := 3) rfl
  obtain ⟨rfl, rfl⟩ : pp1 = pA15 ∧ cc2 = cA16 := by injection he27 with a_ b_ c_; exact ⟨a_, c_⟩
  have H28 := Row.nil_intro H26 27 11
  have H29 : St W w (Row 27 11 (.slice none 0 0) 0 ((pickB (l.take 0) vars is).flatMap condCell) :: imi (0 < l.length) gA17 (.cells kA19 eA20 zA21) :: imm g2 (.cells #[.slice pp6 vars.length cc7] 49 (0, 0)) :: imm g1 (.cells #[.slice pp1 l.length cc2] 28 (0, 0)) :: Im 1 (.slice pp6 vars.length cc7) vars.length (vars.flatMap strCell) :: Im 11 (.slice pp1 l.length cc2) l.length (l.flatMap condCell) :: F) := H28
  have H30 : St W w (Row 27 11 (.slice none 0 0) 0 ((pickB (l.take 0) vars is).flatMap condCell) :: imi (0 < l.length) gA17 (.cells kA19 eA20 zA21) :: imm g2 (.cells #[.slice pp6 vars.length cc7] 49 (0, 0)) :: imm g1 (.cells #[.slice pp1 l.length cc2] 28 (0, 0)) :: Im 1 (.slice pp6 vars.length cc7) vars.length (vars.flatMap strCell) :: Im 11 (.slice pp1 l.length cc2) l.length (l.flatMap condCell) :: F) := ((((((H29.move 5 rfl).move 5 rfl).move 5 rfl).move 5 rfl).move 5 rfl).move 5 rfl)
  refine g_loop_inv (fun (x_ : Nat × Nat × (Option Addr) × Nat) => match x_ with | (j, n, p, c) => [(0, .bool is), (2, .pointer (some ⟨g2, 0, none⟩)), (4, .slice none 0 0), (5, .slice p n c), (8, .slice pp1 l.length cc2), (9, .int .i64 (l.length : Int)), (10, .int .i64 (j : Int))]) (fun (x_ : Nat × Nat × (Option Addr) × Nat) w => match x_ with | (j, n, p, c) => (j ≤ l.length) ∧ (n ≤ j) ∧ (n = (pickB (l.take j) vars is).length) ∧ St W w (Row 27 11 (.slice p n c) n ((pickB (l.take j) vars is).flatMap condCell) :: imi (0 < l.length) gA17 (.cells kA19 eA20 zA21) :: imm g2 (.cells #[.slice pp6 vars.length cc7] 49 (0, 0)) :: imm g1 (.cells #[.slice pp1 l.length cc2] 28 (0, 0)) :: Im 1 (.slice pp6 vars.length cc7) vars.length (vars.flatMap strCell) :: Im 11 (.slice pp1 l.length cc2) l.length (l.flatMap condCell) :: F)) (fun (x_ : Nat × Nat × (Option Addr) × Nat) => match x_ with | (j, n, p, c) => l.length - j) (0, 0, none, 0) ?_ ?_ ?_
  · exact ⟨by first | rfl | exact vint (by omega), by first | rfl | exact vint (by omega), by first | rfl | exact vint (by omega), by first | rfl | exact vint (by omega), by first | rfl | exact vint (by omega), by first | rfl | exact vint (by omega), by first | rfl | exact vint (by omega), trivial⟩
  · exact ⟨(by omega), (by omega), rfl, H30⟩
  · rintro ⟨j, n, p, c⟩ ρ31 w32 ⟨hjl, hnjn, hnln, H33⟩ nx34
    change Ends _ _ (upds ρ31 [(0, .bool is), (2, .pointer (some ⟨g2, 0, none⟩)), (4, .slice none 0 0), (5, .slice p n c), (8, .slice pp1 l.length cc2), (9, .int .i64 (l.length : Int)), (10, .int .i64 (j : Int))]) w32
    refine g_seq ?_
    refine g_region ?_
    by_cases hc35 : (j : Int) < (l.length : Int)
    · skip
      refine r_cons (s_lss true rfl rfl (dtrue hc35) rfl ?_)
      refine r_nil ?_
      refine g_seq ?_
      refine g_true rfl ?_
      refine g_skip ?_
      refine g_seq ?_
      refine g_block ?_
      refine g_seq ?_
      refine g_region ?_
      refine r_cons (s_indexAddr gA17 (off := oA18) (j : Int) 11 (oA18 + j * 11) (by exact congrArg (fun z_ => Value.slice z_ l.length cc2) (hp23 (by omega))) rfl el_28 (by omega) rfl rfl ?_)
      refine r_cons (s_loadAgg [.string ((l.getD j default).left.var.v), .string ((l.getD j default).left.attr.v), .int .i64 ((l.getD j default).left.val.kind.v), .int .i64 ((l.getD j default).left.val.n.v), .string ((l.getD j default).left.val.s.v), .int .i64 ((l.getD j default).rel.v), .string ((l.getD j default).right.var.v), .string ((l.getD j default).right.attr.v), .int .i64 ((l.getD j default).right.val.kind.v), .int .i64 ((l.getD j default).right.val.n.v), .string ((l.getD j default).right.val.s.v)] 11 ag_27 rfl (H33.imi_at (i := 1) rfl (by omega)) (by have := elem_size (i := j) (s := 11) (hs25 (by omega)) (by omega); omega) (elem_take condCell_len (hx24 (by omega)) (by omega) default) rfl ?_)
      refine r_cons (s_alloc H33 27 ze_27 rfl ?_); intro bk36 w37 H38
      refine r_cons (s_storeAgg H38 0 #[.string ((l.getD j default).left.var.v), .string ((l.getD j default).left.attr.v), .int .i64 ((l.getD j default).left.val.kind.v), .int .i64 ((l.getD j default).left.val.n.v), .string ((l.getD j default).left.val.s.v), .int .i64 ((l.getD j default).rel.v), .string ((l.getD j default).right.var.v), .string ((l.getD j default).right.attr.v), .int .i64 ((l.getD j default).right.val.kind.v), .int .i64 ((l.getD j default).right.val.n.v), .string ((l.getD j default).right.val.s.v)] 11 rfl rfl rfl sz_27 rfl (by simp [Value.oneCell']) (Nat.le_of_ble_eq_true rfl) (fun o h1 h2 => by first | (simp; done) | (simp; omega)) (cs' := #[.string ((l.getD j default).left.var.v), .string ((l.getD j default).left.attr.v), .int .i64 ((l.getD j default).left.val.kind.v), .int .i64 ((l.getD j default).left.val.n.v), .string ((l.getD j default).left.val.s.v), .int .i64 ((l.getD j default).rel.v), .string ((l.getD j default).right.var.v), .string ((l.getD j default).right.attr.v), .int .i64 ((l.getD j default).right.val.kind.v), .int .i64 ((l.getD j default).right.val.n.v), .string ((l.getD j default).right.val.s.v)]) (by kernel_rfl) ?_); intro w39 H40
      refine r_nil ?_
      refine g_seq ?_
      refine g_region ?_
      refine r_cons (s_loadAgg [.string ((l.getD j default).left.var.v), .string ((l.getD j default).left.attr.v), .int .i64 ((l.getD j default).left.val.kind.v), .int .i64 ((l.getD j default).left.val.n.v), .string ((l.getD j default).left.val.s.v), .int .i64 ((l.getD j default).rel.v), .string ((l.getD j default).right.var.v), .string ((l.getD j default).right.attr.v), .int .i64 ((l.getD j default).right.val.kind.v), .int .i64 ((l.getD j default).right.val.n.v), .string ((l.getD j default).right.val.s.v)] 11 ag_27 rfl (H40.blk_at (i := 0) rfl) (Nat.le_of_ble_eq_true rfl) rfl rfl ?_)
      refine r_cons (s_load (.slice pp6 vars.length cc7) ag_49 rfl (H40.imm_at (i := 3) rfl) rfl rfl ?_)
      refine r_cons (s_call [.agg #[.string ((l.getD j default).left.var.v), .string ((l.getD j default).left.attr.v), .int .i64 ((l.getD j default).left.val.kind.v), .int .i64 ((l.getD j default).left.val.n.v), .string ((l.getD j default).left.val.s.v), .int .i64 ((l.getD j default).rel.v), .string ((l.getD j default).right.var.v), .string ((l.getD j default).right.attr.v), .int .i64 ((l.getD j default).right.val.kind.v), .int .i64 ((l.getD j default).right.val.n.v), .string ((l.getD j default).right.val.s.v)], .slice pp6 vars.length cc7] pl_22 rfl rfl (pred_Ready (l.getD j default) vars (.slice pp6 vars.length cc7) (jv := 5) rfl H40) ?_)
      rintro _ w41 ⟨rfl, H42⟩
      refine r_cons (s_move (.bool is) rfl rfl ?_)
      refine r_cons (s_beql (decide (readyB (l.getD j default) vars = is)) un_4 rfl rfl rfl rfl ?_)
      refine r_nil ?_
      by_cases hb43 : (decide (readyB (l.getD j default) vars = is)) = true
      · skip
        refine g_true (congrArg Value.bool hb43) ?_
        refine g_region ?_
        refine r_cons (s_move (.slice p n c) rfl rfl ?_)
        refine r_cons (s_loadAgg [.string ((l.getD j default).left.var.v), .string ((l.getD j default).left.attr.v), .int .i64 ((l.getD j default).left.val.kind.v), .int .i64 ((l.getD j default).left.val.n.v), .string ((l.getD j default).left.val.s.v), .int .i64 ((l.getD j default).rel.v), .string ((l.getD j default).right.var.v), .string ((l.getD j default).right.attr.v), .int .i64 ((l.getD j default).right.val.kind.v), .int .i64 ((l.getD j default).right.val.n.v), .string ((l.getD j default).right.val.s.v)] 11 ag_27 rfl (H42.blk_at (i := 0) rfl) (Nat.le_of_ble_eq_true rfl) rfl rfl ?_)
        refine r_cons (s_buildSlice H42 11 1 (cs := #[.string ((l.getD j default).left.var.v), .string ((l.getD j default).left.attr.v), .int .i64 ((l.getD j default).left.val.kind.v), .int .i64 ((l.getD j default).left.val.n.v), .string ((l.getD j default).left.val.s.v), .int .i64 ((l.getD j default).rel.v), .string ((l.getD j default).right.var.v), .string ((l.getD j default).right.attr.v), .int .i64 ((l.getD j default).right.val.kind.v), .int .i64 ((l.getD j default).right.val.n.v), .string ((l.getD j default).right.val.s.v)]) #[.string ByteArray.empty, .string ByteArray.empty, .int .i64 0, .int .i64 0, .string ByteArray.empty, .int .i64 0, .string ByteArray.empty, .string ByteArray.empty, .int .i64 0, .int .i64 0, .string ByteArray.empty] el_28 ze_27 (by decide) (by decide) (by kernel_rfl) rfl ?_); intro bk44 w45 H46
        refine r_cons (s_append H46 2 rfl rfl rfl (rd_blk (H46.blk_at (i := 0) rfl) rfl (Nat.le_of_ble_eq_true rfl) (by simp [Value.oneCell'])) ap_28 (by decide) (by unfold maxLen; omega) (by omega) (n' := n + 1) (xs' := (pickB (l.take j) vars is).flatMap condCell ++ ([.string ((l.getD j default).left.var.v), .string ((l.getD j default).left.attr.v), .int .i64 ((l.getD j default).left.val.kind.v), .int .i64 ((l.getD j default).left.val.n.v), .string ((l.getD j default).left.val.s.v), .int .i64 ((l.getD j default).rel.v), .string ((l.getD j default).right.var.v), .string ((l.getD j default).right.attr.v), .int .i64 ((l.getD j default).right.val.kind.v), .int .i64 ((l.getD j default).right.val.n.v), .string ((l.getD j default).right.val.s.v)] : List Value)) (by omega) (by first | rfl | simp) rfl ?_); intro vv47 w48 H49 hn50
        obtain ⟨pp51, cc52, rfl⟩ := Row.slice H49 (i := 2) rfl
        refine r_cons (s_assign (.slice pp51 (n + 1) cc52) rfl rfl ?_)
        refine r_nil ?_
        refine g_inBlock ?_
        refine g_region ?_
        refine r_cons (s_add ((j : Int) + 1) rfl rfl (wi64 (by omega)) rfl ?_)
        refine r_cons (s_move (.int .i64 ((j : Int) + 1)) rfl rfl ?_)
        refine r_nil ?_
        have hpkn : (pickB (l.take (j + 1)) vars is) = (pickB (l.take j) vars is) ++ [(l.getD j default)] := pick_yes (by omega) (of_decide_eq_true hb43)
        have H53 : St W w48 (blk bk44 (.cells #[.string ((l.getD j default).left.var.v), .string ((l.getD j default).left.attr.v), .int .i64 ((l.getD j default).left.val.kind.v), .int .i64 ((l.getD j default).left.val.n.v), .string ((l.getD j default).left.val.s.v), .int .i64 ((l.getD j default).rel.v), .string ((l.getD j default).right.var.v), .string ((l.getD j default).right.attr.v), .int .i64 ((l.getD j default).right.val.kind.v), .int .i64 ((l.getD j default).right.val.n.v), .string ((l.getD j default).right.val.s.v)] 27 (0, 0)) :: blk bk36 (.cells #[.string ((l.getD j default).left.var.v), .string ((l.getD j default).left.attr.v), .int .i64 ((l.getD j default).left.val.kind.v), .int .i64 ((l.getD j default).left.val.n.v), .string ((l.getD j default).left.val.s.v), .int .i64 ((l.getD j default).rel.v), .string ((l.getD j default).right.var.v), .string ((l.getD j default).right.attr.v), .int .i64 ((l.getD j default).right.val.kind.v), .int .i64 ((l.getD j default).right.val.n.v), .string ((l.getD j default).right.val.s.v)] 27 (0, 0)) :: Row 27 11 (.slice pp51 (n + 1) cc52) (n + 1) ((pickB (l.take (j + 1)) vars is).flatMap condCell) :: imi (0 < l.length) gA17 (.cells kA19 eA20 zA21) :: imm g2 (.cells #[.slice pp6 vars.length cc7] 49 (0, 0)) :: imm g1 (.cells #[.slice pp1 l.length cc2] 28 (0, 0)) :: Im 1 (.slice pp6 vars.length cc7) vars.length (vars.flatMap strCell) :: Im 11 (.slice pp1 l.length cc2) l.length (l.flatMap condCell) :: F) := by rw [hpkn, List.flatMap_append]; exact H49
        have H54 : St W w48 (Row 27 11 (.slice pp51 (n + 1) cc52) (n + 1) ((pickB (l.take (j + 1)) vars is).flatMap condCell) :: imi (0 < l.length) gA17 (.cells kA19 eA20 zA21) :: imm g2 (.cells #[.slice pp6 vars.length cc7] 49 (0, 0)) :: imm g1 (.cells #[.slice pp1 l.length cc2] 28 (0, 0)) :: Im 1 (.slice pp6 vars.length cc7) vars.length (vars.flatMap strCell) :: Im 11 (.slice pp1 l.length cc2) l.length (l.flatMap condCell) :: F) := ((((((((H53.move 7 rfl).move 7 rfl).move 7 rfl).move 7 rfl).move 7 rfl).move 7 rfl).drop 6 rfl).drop 6 rfl)
        exact nx34 (j + 1, n + 1, pp51, cc52) _ _ ⟨(by omega), (by omega), (by rw [hpkn, List.length_append, List.length_singleton]; omega), H54⟩ (by first | (dsimp only; omega) | omega) ⟨by first | rfl | exact vint (by omega), by first | rfl | exact vint (by omega), by first | rfl | exact vint (by omega), by first | rfl | exact vint (by omega), by first | rfl | exact vint (by omega), by first | rfl | exact vint (by omega), by first | rfl | exact vint (by omega), trivial⟩
      · have hb43 := eq_false_of_ne_true hb43
        refine g_false (congrArg Value.bool hb43) ?_
        refine g_skip ?_
        refine g_inBlock ?_
        refine g_region ?_
        refine r_cons (s_add ((j : Int) + 1) rfl rfl (wi64 (by omega)) rfl ?_)
        refine r_cons (s_move (.int .i64 ((j : Int) + 1)) rfl rfl ?_)
        refine r_nil ?_
        have hpkn : (pickB (l.take (j + 1)) vars is) = (pickB (l.take j) vars is) := pick_no (by omega) (of_decide_eq_false hb43)
        have H55 : St W w41 (blk bk36 (.cells #[.string ((l.getD j default).left.var.v), .string ((l.getD j default).left.attr.v), .int .i64 ((l.getD j default).left.val.kind.v), .int .i64 ((l.getD j default).left.val.n.v), .string ((l.getD j default).left.val.s.v), .int .i64 ((l.getD j default).rel.v), .string ((l.getD j default).right.var.v), .string ((l.getD j default).right.attr.v), .int .i64 ((l.getD j default).right.val.kind.v), .int .i64 ((l.getD j default).right.val.n.v), .string ((l.getD j default).right.val.s.v)] 27 (0, 0)) :: Row 27 11 (.slice p n c) n ((pickB (l.take (j + 1)) vars is).flatMap condCell) :: imi (0 < l.length) gA17 (.cells kA19 eA20 zA21) :: imm g2 (.cells #[.slice pp6 vars.length cc7] 49 (0, 0)) :: imm g1 (.cells #[.slice pp1 l.length cc2] 28 (0, 0)) :: Im 1 (.slice pp6 vars.length cc7) vars.length (vars.flatMap strCell) :: Im 11 (.slice pp1 l.length cc2) l.length (l.flatMap condCell) :: F) := by rw [hpkn]; exact H42
        have H56 : St W w41 (Row 27 11 (.slice p n c) n ((pickB (l.take (j + 1)) vars is).flatMap condCell) :: imi (0 < l.length) gA17 (.cells kA19 eA20 zA21) :: imm g2 (.cells #[.slice pp6 vars.length cc7] 49 (0, 0)) :: imm g1 (.cells #[.slice pp1 l.length cc2] 28 (0, 0)) :: Im 1 (.slice pp6 vars.length cc7) vars.length (vars.flatMap strCell) :: Im 11 (.slice pp1 l.length cc2) l.length (l.flatMap condCell) :: F) := (((((((H55.move 6 rfl).move 6 rfl).move 6 rfl).move 6 rfl).move 6 rfl).move 6 rfl).drop 6 rfl)
        exact nx34 (j + 1, n, p, c) _ _ ⟨(by omega), (by omega), (by rw [hpkn]; omega), H56⟩ (by first | (dsimp only; omega) | omega) ⟨by first | rfl | exact vint (by omega), by first | rfl | exact vint (by omega), by first | rfl | exact vint (by omega), by first | rfl | exact vint (by omega), by first | rfl | exact vint (by omega), by first | rfl | exact vint (by omega), by first | rfl | exact vint (by omega), trivial⟩
    · skip
      refine r_cons (s_lss false rfl rfl (dfalse hc35) rfl ?_)
      refine r_nil ?_
      refine g_seq ?_
      refine g_false rfl ?_
      refine g_exit (by rfl) ?_
      refine g_seq ?_
      refine g_region ?_
      refine r_cons (s_move (.slice p n c) rfl rfl ?_)
      refine r_cons (s_assign (.slice p n c) rfl rfl ?_)
      refine r_nil ?_
      refine g_ret' [.slice p n c] Try.func44 Try.results44 ⟨rfl, trivial⟩ ?_
      have H57 : St W w32 (Row 27 11 (.slice p n c) n ((pickB (l.take j) vars is).flatMap condCell) :: F) := (((((H33.drop 1 rfl).drop 1 rfl).drop 1 rfl).drop 1 rfl).drop 1 rfl)
      have he : (pickB (l.take j) vars is) = (pickB l vars is) := pick_all (by omega)
      have hH := H57
      rw [he] at hH hnln
      subst hnln
      exact ⟨_, _, rfl, Row.im hH (i := 0) rfl⟩
set_option maxHeartbeats 4000000 in
set_option maxRecDepth 100000 in
theorem pred_Split {W w : World} {F : List Atom} (l : List CondV) (lv : Value) (vars : List Str) (vv : Value) {m : Nat} (hm : F[m]? = some (Im 11 lv l.length (l.flatMap condCell))) {jv : Nat} (hv : F[jv]? = some (Im 1 vv vars.length (vars.flatMap strCell))) (hb : l.length * 136 ≤ 140737488355328) (H : St W w F) : Calls Try.prog 24 #[lv, vv] w (Ret fun v w' => ∃ p q p2 q2, v = .tuple #[.slice p (pickB l vars true).length q, .slice p2 (pickB l vars false).length q2] ∧ St W w' (Im 11 (.slice p (pickB l vars true).length q) (pickB l vars true).length ((pickB l vars true).flatMap condCell) :: Im 11 (.slice p2 (pickB l vars false).length q2) (pickB l vars false).length ((pickB l vars false).flatMap condCell) :: F)) := by
  obtain ⟨pp1, cc2, rfl, hn3⟩ := Rd.shape (Im.rd H (i := m) hm)
  have H4 := H.dup (i := m + 0) (by exact hm) (Im_pers _ _ _ _)
  have H5 : St W w (Im 11 (.slice pp1 l.length cc2) l.length (l.flatMap condCell) :: F) := H4
  obtain ⟨pp6, cc7, rfl, hn8⟩ := Rd.shape (Im.rd H (i := jv) hv)
  have H9 := H5.dup (i := jv + 1) (by exact hv) (Im_pers _ _ _ _)
  have H10 : St W w (Im 1 (.slice pp6 vars.length cc7) vars.length (vars.flatMap strCell) :: Im 11 (.slice pp1 l.length cc2) l.length (l.flatMap condCell) :: F) := H9
  refine calls_of_go (n := 12) Try.func24 rfl Try.ntmps24 rfl ?_
  refine g_seq ?_
  refine g_region ?_
  refine r_cons (s_box H10 28 (.slice pp1 l.length cc2) rfl (cs := #[.slice pp1 l.length cc2]) rfl rfl ?_); intro bk11 w12 H13
  refine r_cons (s_box H13 49 (.slice pp6 vars.length cc7) rfl (cs := #[.slice pp6 vars.length cc7]) rfl rfl ?_); intro bk14 w15 H16
  refine r_cons (s_assign (.slice none 0 0) rfl rfl ?_)
  refine r_cons (s_assign (.slice none 0 0) rfl rfl ?_)
  refine r_nil ?_
  refine g_seq ?_
  refine g_region ?_
  refine r_cons (s_makeFunc (.func (.func 44) #[] #[.pointer (some ⟨bk11, 0, none⟩), .pointer (some ⟨bk14, 0, none⟩)]) rfl rfl ?_)
  refine r_cons (s_assign (.func (.func 44) #[] #[.pointer (some ⟨bk11, 0, none⟩), .pointer (some ⟨bk14, 0, none⟩)]) rfl rfl ?_)
  refine r_nil ?_
  refine g_seq ?_
  refine g_region ?_
  refine r_cons (s_move (.func (.func 44) #[] #[.pointer (some ⟨bk11, 0, none⟩), .pointer (some ⟨bk14, 0, none⟩)]) rfl rfl ?_)
  have H17 : St W w15 (blk bk14 (.cells #[.slice pp6 vars.length cc7] 49 (0, 0)) :: imm bk11 (.cells #[.slice pp1 l.length cc2] 28 (0, 0)) :: Im 1 (.slice pp6 vars.length cc7) vars.length (vars.flatMap strCell) :: Im 11 (.slice pp1 l.length cc2) l.length (l.flatMap condCell) :: F) := blk_imm H16 (i := 1) rfl
  have H18 : St W w15 (imm bk14 (.cells #[.slice pp6 vars.length cc7] 49 (0, 0)) :: imm bk11 (.cells #[.slice pp1 l.length cc2] 28 (0, 0)) :: Im 1 (.slice pp6 vars.length cc7) vars.length (vars.flatMap strCell) :: Im 11 (.slice pp1 l.length cc2) l.length (l.flatMap condCell) :: F) := blk_imm H17 (i := 0) rfl
  refine r_cons (s_callv [.pointer (some ⟨bk11, 0, none⟩), .pointer (some ⟨bk14, 0, none⟩)] [.bool true, .pointer (some ⟨bk11, 0, none⟩), .pointer (some ⟨bk14, 0, none⟩)] rfl pl_44 rfl rfl (pred_Split1 true bk11 bk14 l (.slice pp1 l.length cc2) vars (.slice pp6 vars.length cc7) (i1 := 1) (i2 := 0) rfl rfl (m := 3) rfl (jv := 2) rfl hb H18) ?_)
  rintro _ w21 ⟨pp19, cc20, rfl, H22⟩
  refine r_cons (s_move (.func (.func 44) #[] #[.pointer (some ⟨bk11, 0, none⟩), .pointer (some ⟨bk14, 0, none⟩)]) rfl rfl ?_)
  refine r_cons (s_callv [.pointer (some ⟨bk11, 0, none⟩), .pointer (some ⟨bk14, 0, none⟩)] [.bool false, .pointer (some ⟨bk11, 0, none⟩), .pointer (some ⟨bk14, 0, none⟩)] rfl pl_44 rfl rfl (pred_Split1 false bk11 bk14 l (.slice pp1 l.length cc2) vars (.slice pp6 vars.length cc7) (i1 := 2) (i2 := 1) rfl rfl (m := 4) rfl (jv := 3) rfl hb H22) ?_)
  rintro _ w25 ⟨pp23, cc24, rfl, H26⟩
  refine r_cons (s_assign (.slice pp19 ((pickB l vars true).length) cc20) rfl rfl ?_)
  refine r_cons (s_assign (.slice pp23 ((pickB l vars false).length) cc24) rfl rfl ?_)
  refine r_nil ?_
  refine g_ret' [.slice pp19 ((pickB l vars true).length) cc20, .slice pp23 ((pickB l vars false).length) cc24] Try.func24 Try.results24 ⟨rfl, rfl, trivial⟩ ?_
  have H27 : St W w25 (Im 11 (.slice pp19 ((pickB l vars true).length) cc20) ((pickB l vars true).length) ((pickB l vars true).flatMap condCell) :: Im 11 (.slice pp23 ((pickB l vars false).length) cc24) ((pickB l vars false).length) ((pickB l vars false).flatMap condCell) :: F) := (((((H26.move 1 rfl).drop 2 rfl).drop 2 rfl).drop 2 rfl).drop 2 rfl)
  exact ⟨_, _, _, _, rfl, H27⟩
set_option maxHeartbeats 4000000 in
set_option maxRecDepth 100000 in
theorem ref09_Split {W w : World} {F : List Atom} (l : List CondV) (lv : Value) (vars : List Str) (vv : Value) {m : Nat} (hm : F[m]? = some (Im 11 lv l.length (l.flatMap condCell))) {jv : Nat} (hv : F[jv]? = some (Im 1 vv vars.length (vars.flatMap strCell))) (hb : l.length * 136 ≤ 140737488355328) (H : St W w F) : Calls Try.prog 25 #[lv, vv] w (Ret fun v w' => ∃ p q p2 q2, v = .tuple #[.slice p (pickB l vars true).length q, .slice p2 (pickB l vars false).length q2] ∧ St W w' (Im 11 (.slice p (pickB l vars true).length q) (pickB l vars true).length ((pickB l vars true).flatMap condCell) :: Im 11 (.slice p2 (pickB l vars false).length q2) (pickB l vars false).length ((pickB l vars false).flatMap condCell) :: F)) := by
  obtain ⟨pp1, cc2, rfl, hn3⟩ := Rd.shape (Im.rd H (i := m) hm)
  have H4 := H.dup (i := m + 0) (by exact hm) (Im_pers _ _ _ _)
  have H5 : St W w (Im 11 (.slice pp1 l.length cc2) l.length (l.flatMap condCell) :: F) := H4
  obtain ⟨pp6, cc7, rfl, hn8⟩ := Rd.shape (Im.rd H (i := jv) hv)
  have H9 := H5.dup (i := jv + 1) (by exact hv) (Im_pers _ _ _ _)
  have H10 : St W w (Im 1 (.slice pp6 vars.length cc7) vars.length (vars.flatMap strCell) :: Im 11 (.slice pp1 l.length cc2) l.length (l.flatMap condCell) :: F) := H9
  refine calls_of_go (n := 37) Try.func25 rfl Try.ntmps25 rfl ?_
  refine g_seq ?_
  refine g_region ?_
  refine r_cons (s_assign (.slice none 0 0) rfl rfl ?_)
  refine r_cons (s_assign (.slice none 0 0) rfl rfl ?_)
  refine r_nil ?_
  refine g_seq ?_
  refine g_region ?_
  refine r_cons (s_assign (.slice none 0 0) rfl rfl ?_)
  refine r_cons (s_assign (.slice none 0 0) rfl rfl ?_)
  refine r_nil ?_
  refine g_seq ?_
  refine g_seq ?_
  refine g_region ?_
  refine r_cons (s_assign (.int .i64 0) rfl rfl ?_)
  refine r_nil ?_
  refine g_block ?_
  obtain ⟨pA11, cA12, gA13, oA14, kA15, eA16, zA17, he23, hn18, hp19, hx20, hs21, hml, H22⟩ := Im.open_ H10 (i := 1) rfl
  obtain ⟨rfl, rfl⟩ : pp1 = pA11 ∧ cc2 = cA12 := by injection he23 with a_ b_ c_; exact ⟨a_, c_⟩
  have H24 := Row.nil_intro H22 27 11
  have H25 := Row.nil_intro H24 27 11
  have H26 : St W w (Row 27 11 (.slice none 0 0) 0 ((pickB (l.take 0) vars false).flatMap condCell) :: Row 27 11 (.slice none 0 0) 0 ((pickB (l.take 0) vars true).flatMap condCell) :: imi (0 < l.length) gA13 (.cells kA15 eA16 zA17) :: Im 1 (.slice pp6 vars.length cc7) vars.length (vars.flatMap strCell) :: Im 11 (.slice pp1 l.length cc2) l.length (l.flatMap condCell) :: F) := H25
  have H27 : St W w (Row 27 11 (.slice none 0 0) 0 ((pickB (l.take 0) vars false).flatMap condCell) :: Row 27 11 (.slice none 0 0) 0 ((pickB (l.take 0) vars true).flatMap condCell) :: imi (0 < l.length) gA13 (.cells kA15 eA16 zA17) :: Im 1 (.slice pp6 vars.length cc7) vars.length (vars.flatMap strCell) :: Im 11 (.slice pp1 l.length cc2) l.length (l.flatMap condCell) :: F) := (((((H26.move 4 rfl).move 4 rfl).move 4 rfl).move 4 rfl).move 4 rfl)
  refine g_loop_inv (fun (x_ : Nat × Nat × (Option Addr) × Nat × Nat × (Option Addr) × Nat) => match x_ with | (j, n, p, c, n2, p2, c2) => [(0, .slice pp1 l.length cc2), (1, .slice pp6 vars.length cc7), (4, .slice none 0 0), (5, .slice none 0 0), (6, .slice p n c), (7, .slice p2 n2 c2), (8, .int .i64 (j : Int))]) (fun (x_ : Nat × Nat × (Option Addr) × Nat × Nat × (Option Addr) × Nat) w => match x_ with | (j, n, p, c, n2, p2, c2) => (j ≤ l.length) ∧ (n ≤ j) ∧ (n = (pickB (l.take j) vars true).length) ∧ (n2 ≤ j) ∧ (n2 = (pickB (l.take j) vars false).length) ∧ St W w (Row 27 11 (.slice p2 n2 c2) n2 ((pickB (l.take j) vars false).flatMap condCell) :: Row 27 11 (.slice p n c) n ((pickB (l.take j) vars true).flatMap condCell) :: imi (0 < l.length) gA13 (.cells kA15 eA16 zA17) :: Im 1 (.slice pp6 vars.length cc7) vars.length (vars.flatMap strCell) :: Im 11 (.slice pp1 l.length cc2) l.length (l.flatMap condCell) :: F)) (fun (x_ : Nat × Nat × (Option Addr) × Nat × Nat × (Option Addr) × Nat) => match x_ with | (j, n, p, c, n2, p2, c2) => l.length - j) (0, 0, none, 0, 0, none, 0) ?_ ?_ ?_
  · exact ⟨by first | rfl | exact vint (by omega), by first | rfl | exact vint (by omega), by first | rfl | exact vint (by omega), by first | rfl | exact vint (by omega), by first | rfl | exact vint (by omega), by first | rfl | exact vint (by omega), by first | rfl | exact vint (by omega), trivial⟩
  · exact ⟨(by omega), (by omega), rfl, (by omega), rfl, H27⟩
  · rintro ⟨j, n, p, c, n2, p2, c2⟩ ρ28 w29 ⟨hjl, hnjn, hnln, hnjn2, hnln2, H30⟩ nx31
    change Ends _ _ (upds ρ28 [(0, .slice pp1 l.length cc2), (1, .slice pp6 vars.length cc7), (4, .slice none 0 0), (5, .slice none 0 0), (6, .slice p n c), (7, .slice p2 n2 c2), (8, .int .i64 (j : Int))]) w29
    refine g_seq ?_
    refine g_seq ?_
    refine g_region ?_
    refine r_cons (s_move (.int .i64 (j : Int)) rfl rfl ?_)
    refine r_cons (s_move (.slice pp1 l.length cc2) rfl rfl ?_)
    refine r_cons (s_len l.length rfl ⟨_, un_28⟩ rfl ?_)
    by_cases hc32 : (j : Int) < (l.length : Int)
    · skip
      refine r_cons (s_lss true rfl rfl (dtrue hc32) rfl ?_)
      refine r_nil ?_
      refine g_true rfl ?_
      refine g_skip ?_
      refine g_seq ?_
      refine g_block ?_
      refine g_seq ?_
      refine g_region ?_
      refine r_cons (s_move (.slice pp1 l.length cc2) rfl rfl ?_)
      refine r_cons (s_move (.int .i64 (j : Int)) rfl rfl ?_)
      refine r_cons (s_indexAddr gA13 (off := oA14) (j : Int) 11 (oA14 + j * 11) (by exact congrArg (fun z_ => Value.slice z_ l.length cc2) (hp19 (by omega))) rfl el_28 (by omega) rfl rfl ?_)
      refine r_cons (s_loadAgg [.string ((l.getD j default).left.var.v), .string ((l.getD j default).left.attr.v), .int .i64 ((l.getD j default).left.val.kind.v), .int .i64 ((l.getD j default).left.val.n.v), .string ((l.getD j default).left.val.s.v), .int .i64 ((l.getD j default).rel.v), .string ((l.getD j default).right.var.v), .string ((l.getD j default).right.attr.v), .int .i64 ((l.getD j default).right.val.kind.v), .int .i64 ((l.getD j default).right.val.n.v), .string ((l.getD j default).right.val.s.v)] 11 ag_27 rfl (H30.imi_at (i := 2) rfl (by omega)) (by have := elem_size (i := j) (s := 11) (hs21 (by omega)) (by omega); omega) (elem_take condCell_len (hx20 (by omega)) (by omega) default) rfl ?_)
      refine r_cons (s_move (.slice pp6 vars.length cc7) rfl rfl ?_)
      refine r_cons (s_call [.agg #[.string ((l.getD j default).left.var.v), .string ((l.getD j default).left.attr.v), .int .i64 ((l.getD j default).left.val.kind.v), .int .i64 ((l.getD j default).left.val.n.v), .string ((l.getD j default).left.val.s.v), .int .i64 ((l.getD j default).rel.v), .string ((l.getD j default).right.var.v), .string ((l.getD j default).right.attr.v), .int .i64 ((l.getD j default).right.val.kind.v), .int .i64 ((l.getD j default).right.val.n.v), .string ((l.getD j default).right.val.s.v)], .slice pp6 vars.length cc7] pl_23 rfl rfl (ref09_Ready (l.getD j default) vars (.slice pp6 vars.length cc7) (jv := 3) rfl H30) ?_)
      rintro _ w33 ⟨rfl, H34⟩
      refine r_nil ?_
      by_cases hb35 : (readyB (l.getD j default) vars) = true
      · skip
        refine g_true (congrArg Value.bool hb35) ?_
        refine g_region ?_
        refine r_cons (s_move (.slice p n c) rfl rfl ?_)
        refine r_cons (s_move (.slice pp1 l.length cc2) rfl rfl ?_)
        refine r_cons (s_move (.int .i64 (j : Int)) rfl rfl ?_)
        refine r_cons (s_indexAddr gA13 (off := oA14) (j : Int) 11 (oA14 + j * 11) (by exact congrArg (fun z_ => Value.slice z_ l.length cc2) (hp19 (by omega))) rfl el_28 (by omega) rfl rfl ?_)
        refine r_cons (s_loadAgg [.string ((l.getD j default).left.var.v), .string ((l.getD j default).left.attr.v), .int .i64 ((l.getD j default).left.val.kind.v), .int .i64 ((l.getD j default).left.val.n.v), .string ((l.getD j default).left.val.s.v), .int .i64 ((l.getD j default).rel.v), .string ((l.getD j default).right.var.v), .string ((l.getD j default).right.attr.v), .int .i64 ((l.getD j default).right.val.kind.v), .int .i64 ((l.getD j default).right.val.n.v), .string ((l.getD j default).right.val.s.v)] 11 ag_27 rfl (H34.imi_at (i := 2) rfl (by omega)) (by have := elem_size (i := j) (s := 11) (hs21 (by omega)) (by omega); omega) (elem_take condCell_len (hx20 (by omega)) (by omega) default) rfl ?_)
        refine r_cons (s_buildSlice H34 11 1 (cs := #[.string ((l.getD j default).left.var.v), .string ((l.getD j default).left.attr.v), .int .i64 ((l.getD j default).left.val.kind.v), .int .i64 ((l.getD j default).left.val.n.v), .string ((l.getD j default).left.val.s.v), .int .i64 ((l.getD j default).rel.v), .string ((l.getD j default).right.var.v), .string ((l.getD j default).right.attr.v), .int .i64 ((l.getD j default).right.val.kind.v), .int .i64 ((l.getD j default).right.val.n.v), .string ((l.getD j default).right.val.s.v)]) #[.string ByteArray.empty, .string ByteArray.empty, .int .i64 0, .int .i64 0, .string ByteArray.empty, .int .i64 0, .string ByteArray.empty, .string ByteArray.empty, .int .i64 0, .int .i64 0, .string ByteArray.empty] el_28 ze_27 (by decide) (by decide) (by kernel_rfl) rfl ?_); intro bk36 w37 H38
        refine r_cons (s_append H38 2 rfl rfl rfl (rd_blk (H38.blk_at (i := 0) rfl) rfl (Nat.le_of_ble_eq_true rfl) (by simp [Value.oneCell'])) ap_28 (by decide) (by unfold maxLen; omega) (by omega) (n' := n + 1) (xs' := (pickB (l.take j) vars true).flatMap condCell ++ ([.string ((l.getD j default).left.var.v), .string ((l.getD j default).left.attr.v), .int .i64 ((l.getD j default).left.val.kind.v), .int .i64 ((l.getD j default).left.val.n.v), .string ((l.getD j default).left.val.s.v), .int .i64 ((l.getD j default).rel.v), .string ((l.getD j default).right.var.v), .string ((l.getD j default).right.attr.v), .int .i64 ((l.getD j default).right.val.kind.v), .int .i64 ((l.getD j default).right.val.n.v), .string ((l.getD j default).right.val.s.v)] : List Value)) (by omega) (by first | rfl | simp) rfl ?_); intro vv39 w40 H41 hn42
        obtain ⟨pp43, cc44, rfl⟩ := Row.slice H41 (i := 2) rfl
        refine r_cons (s_assign (.slice pp43 (n + 1) cc44) rfl rfl ?_)
        refine r_nil ?_
        refine g_inBlock ?_
        refine g_region ?_
        refine r_cons (s_move (.int .i64 (j : Int)) rfl rfl ?_)
        refine r_cons (s_add ((j : Int) + 1) rfl rfl (wi64 (by omega)) rfl ?_)
        refine r_cons (s_assign (.int .i64 ((j : Int) + 1)) rfl rfl ?_)
        refine r_nil ?_
        have hpkn : (pickB (l.take (j + 1)) vars true) = (pickB (l.take j) vars true) ++ [(l.getD j default)] := pick_yes (by omega) (by rw [hb35])
        have H45 : St W w40 (blk bk36 (.cells #[.string ((l.getD j default).left.var.v), .string ((l.getD j default).left.attr.v), .int .i64 ((l.getD j default).left.val.kind.v), .int .i64 ((l.getD j default).left.val.n.v), .string ((l.getD j default).left.val.s.v), .int .i64 ((l.getD j default).rel.v), .string ((l.getD j default).right.var.v), .string ((l.getD j default).right.attr.v), .int .i64 ((l.getD j default).right.val.kind.v), .int .i64 ((l.getD j default).right.val.n.v), .string ((l.getD j default).right.val.s.v)] 27 (0, 0)) :: Row 27 11 (.slice p2 n2 c2) n2 ((pickB (l.take j) vars false).flatMap condCell) :: Row 27 11 (.slice pp43 (n + 1) cc44) (n + 1) ((pickB (l.take (j + 1)) vars true).flatMap condCell) :: imi (0 < l.length) gA13 (.cells kA15 eA16 zA17) :: Im 1 (.slice pp6 vars.length cc7) vars.length (vars.flatMap strCell) :: Im 11 (.slice pp1 l.length cc2) l.length (l.flatMap condCell) :: F) := by rw [hpkn, List.flatMap_append]; exact H41
        have hpkn2 : (pickB (l.take (j + 1)) vars false) = (pickB (l.take j) vars false) := pick_no (by omega) (by rw [hb35]; decide)
        have H46 : St W w40 (blk bk36 (.cells #[.string ((l.getD j default).left.var.v), .string ((l.getD j default).left.attr.v), .int .i64 ((l.getD j default).left.val.kind.v), .int .i64 ((l.getD j default).left.val.n.v), .string ((l.getD j default).left.val.s.v), .int .i64 ((l.getD j default).rel.v), .string ((l.getD j default).right.var.v), .string ((l.getD j default).right.attr.v), .int .i64 ((l.getD j default).right.val.kind.v), .int .i64 ((l.getD j default).right.val.n.v), .string ((l.getD j default).right.val.s.v)] 27 (0, 0)) :: Row 27 11 (.slice p2 n2 c2) n2 ((pickB (l.take (j + 1)) vars false).flatMap condCell) :: Row 27 11 (.slice pp43 (n + 1) cc44) (n + 1) ((pickB (l.take (j + 1)) vars true).flatMap condCell) :: imi (0 < l.length) gA13 (.cells kA15 eA16 zA17) :: Im 1 (.slice pp6 vars.length cc7) vars.length (vars.flatMap strCell) :: Im 11 (.slice pp1 l.length cc2) l.length (l.flatMap condCell) :: F) := by rw [hpkn2]; exact H45
        have H47 : St W w40 (Row 27 11 (.slice p2 n2 c2) n2 ((pickB (l.take (j + 1)) vars false).flatMap condCell) :: Row 27 11 (.slice pp43 (n + 1) cc44) (n + 1) ((pickB (l.take (j + 1)) vars true).flatMap condCell) :: imi (0 < l.length) gA13 (.cells kA15 eA16 zA17) :: Im 1 (.slice pp6 vars.length cc7) vars.length (vars.flatMap strCell) :: Im 11 (.slice pp1 l.length cc2) l.length (l.flatMap condCell) :: F) := ((((((H46.move 5 rfl).move 5 rfl).move 5 rfl).move 5 rfl).move 5 rfl).drop 5 rfl)
        exact nx31 (j + 1, n + 1, pp43, cc44, n2, p2, c2) _ _ ⟨(by omega), (by omega), (by rw [hpkn, List.length_append, List.length_singleton]; omega), (by omega), (by rw [hpkn2]; omega), H47⟩ (by first | (dsimp only; omega) | omega) ⟨by first | rfl | exact vint (by omega), by first | rfl | exact vint (by omega), by first | rfl | exact vint (by omega), by first | rfl | exact vint (by omega), by first | rfl | exact vint (by omega), by first | rfl | exact vint (by omega), by first | rfl | exact vint (by omega), trivial⟩
      · have hb35 := eq_false_of_ne_true hb35
        refine g_false (congrArg Value.bool hb35) ?_
        refine g_region ?_
        refine r_cons (s_move (.slice p2 n2 c2) rfl rfl ?_)
        refine r_cons (s_move (.slice pp1 l.length cc2) rfl rfl ?_)
        refine r_cons (s_move (.int .i64 (j : Int)) rfl rfl ?_)
        refine r_cons (s_indexAddr gA13 (off := oA14) (j : Int) 11 (oA14 + j * 11) (by exact congrArg (fun z_ => Value.slice z_ l.length cc2) (hp19 (by omega))) rfl el_28 (by omega) rfl rfl ?_)
        refine r_cons (s_loadAgg [.string ((l.getD j default).left.var.v), .string ((l.getD j default).left.attr.v), .int .i64 ((l.getD j default).left.val.kind.v), .int .i64 ((l.getD j default).left.val.n.v), .string ((l.getD j default).left.val.s.v), .int .i64 ((l.getD j default).rel.v), .string ((l.getD j default).right.var.v), .string ((l.getD j default).right.attr.v), .int .i64 ((l.getD j default).right.val.kind.v), .int .i64 ((l.getD j default).right.val.n.v), .string ((l.getD j default).right.val.s.v)] 11 ag_27 rfl (H34.imi_at (i := 2) rfl (by omega)) (by have := elem_size (i := j) (s := 11) (hs21 (by omega)) (by omega); omega) (elem_take condCell_len (hx20 (by omega)) (by omega) default) rfl ?_)
        refine r_cons (s_buildSlice H34 11 1 (cs := #[.string ((l.getD j default).left.var.v), .string ((l.getD j default).left.attr.v), .int .i64 ((l.getD j default).left.val.kind.v), .int .i64 ((l.getD j default).left.val.n.v), .string ((l.getD j default).left.val.s.v), .int .i64 ((l.getD j default).rel.v), .string ((l.getD j default).right.var.v), .string ((l.getD j default).right.attr.v), .int .i64 ((l.getD j default).right.val.kind.v), .int .i64 ((l.getD j default).right.val.n.v), .string ((l.getD j default).right.val.s.v)]) #[.string ByteArray.empty, .string ByteArray.empty, .int .i64 0, .int .i64 0, .string ByteArray.empty, .int .i64 0, .string ByteArray.empty, .string ByteArray.empty, .int .i64 0, .int .i64 0, .string ByteArray.empty] el_28 ze_27 (by decide) (by decide) (by kernel_rfl) rfl ?_); intro bk48 w49 H50
        refine r_cons (s_append H50 1 rfl rfl rfl (rd_blk (H50.blk_at (i := 0) rfl) rfl (Nat.le_of_ble_eq_true rfl) (by simp [Value.oneCell'])) ap_28 (by decide) (by unfold maxLen; omega) (by omega) (n' := n2 + 1) (xs' := (pickB (l.take j) vars false).flatMap condCell ++ ([.string ((l.getD j default).left.var.v), .string ((l.getD j default).left.attr.v), .int .i64 ((l.getD j default).left.val.kind.v), .int .i64 ((l.getD j default).left.val.n.v), .string ((l.getD j default).left.val.s.v), .int .i64 ((l.getD j default).rel.v), .string ((l.getD j default).right.var.v), .string ((l.getD j default).right.attr.v), .int .i64 ((l.getD j default).right.val.kind.v), .int .i64 ((l.getD j default).right.val.n.v), .string ((l.getD j default).right.val.s.v)] : List Value)) (by omega) (by first | rfl | simp) rfl ?_); intro vv51 w52 H53 hn54
        obtain ⟨pp55, cc56, rfl⟩ := Row.slice H53 (i := 1) rfl
        refine r_cons (s_assign (.slice pp55 (n2 + 1) cc56) rfl rfl ?_)
        refine r_nil ?_
        refine g_inBlock ?_
        refine g_region ?_
        refine r_cons (s_move (.int .i64 (j : Int)) rfl rfl ?_)
        refine r_cons (s_add ((j : Int) + 1) rfl rfl (wi64 (by omega)) rfl ?_)
        refine r_cons (s_assign (.int .i64 ((j : Int) + 1)) rfl rfl ?_)
        refine r_nil ?_
        have hpkn : (pickB (l.take (j + 1)) vars true) = (pickB (l.take j) vars true) := pick_no (by omega) (by rw [hb35]; decide)
        have H57 : St W w52 (blk bk48 (.cells #[.string ((l.getD j default).left.var.v), .string ((l.getD j default).left.attr.v), .int .i64 ((l.getD j default).left.val.kind.v), .int .i64 ((l.getD j default).left.val.n.v), .string ((l.getD j default).left.val.s.v), .int .i64 ((l.getD j default).rel.v), .string ((l.getD j default).right.var.v), .string ((l.getD j default).right.attr.v), .int .i64 ((l.getD j default).right.val.kind.v), .int .i64 ((l.getD j default).right.val.n.v), .string ((l.getD j default).right.val.s.v)] 27 (0, 0)) :: Row 27 11 (.slice pp55 (n2 + 1) cc56) (n2 + 1) ((pickB (l.take j) vars false).flatMap condCell ++ ([.string ((l.getD j default).left.var.v), .string ((l.getD j default).left.attr.v), .int .i64 ((l.getD j default).left.val.kind.v), .int .i64 ((l.getD j default).left.val.n.v), .string ((l.getD j default).left.val.s.v), .int .i64 ((l.getD j default).rel.v), .string ((l.getD j default).right.var.v), .string ((l.getD j default).right.attr.v), .int .i64 ((l.getD j default).right.val.kind.v), .int .i64 ((l.getD j default).right.val.n.v), .string ((l.getD j default).right.val.s.v)] : List Value)) :: Row 27 11 (.slice p n c) n ((pickB (l.take (j + 1)) vars true).flatMap condCell) :: imi (0 < l.length) gA13 (.cells kA15 eA16 zA17) :: Im 1 (.slice pp6 vars.length cc7) vars.length (vars.flatMap strCell) :: Im 11 (.slice pp1 l.length cc2) l.length (l.flatMap condCell) :: F) := by rw [hpkn]; exact H53
        have hpkn2 : (pickB (l.take (j + 1)) vars false) = (pickB (l.take j) vars false) ++ [(l.getD j default)] := pick_yes (by omega) (by rw [hb35])
        have H58 : St W w52 (blk bk48 (.cells #[.string ((l.getD j default).left.var.v), .string ((l.getD j default).left.attr.v), .int .i64 ((l.getD j default).left.val.kind.v), .int .i64 ((l.getD j default).left.val.n.v), .string ((l.getD j default).left.val.s.v), .int .i64 ((l.getD j default).rel.v), .string ((l.getD j default).right.var.v), .string ((l.getD j default).right.attr.v), .int .i64 ((l.getD j default).right.val.kind.v), .int .i64 ((l.getD j default).right.val.n.v), .string ((l.getD j default).right.val.s.v)] 27 (0, 0)) :: Row 27 11 (.slice pp55 (n2 + 1) cc56) (n2 + 1) ((pickB (l.take (j + 1)) vars false).flatMap condCell) :: Row 27 11 (.slice p n c) n ((pickB (l.take (j + 1)) vars true).flatMap condCell) :: imi (0 < l.length) gA13 (.cells kA15 eA16 zA17) :: Im 1 (.slice pp6 vars.length cc7) vars.length (vars.flatMap strCell) :: Im 11 (.slice pp1 l.length cc2) l.length (l.flatMap condCell) :: F) := by rw [hpkn2, List.flatMap_append]; exact H57
        have H59 : St W w52 (Row 27 11 (.slice pp55 (n2 + 1) cc56) (n2 + 1) ((pickB (l.take (j + 1)) vars false).flatMap condCell) :: Row 27 11 (.slice p n c) n ((pickB (l.take (j + 1)) vars true).flatMap condCell) :: imi (0 < l.length) gA13 (.cells kA15 eA16 zA17) :: Im 1 (.slice pp6 vars.length cc7) vars.length (vars.flatMap strCell) :: Im 11 (.slice pp1 l.length cc2) l.length (l.flatMap condCell) :: F) := ((((((H58.move 5 rfl).move 5 rfl).move 5 rfl).move 5 rfl).move 5 rfl).drop 5 rfl)
        exact nx31 (j + 1, n, p, c, n2 + 1, pp55, cc56) _ _ ⟨(by omega), (by omega), (by rw [hpkn]; omega), (by omega), (by rw [hpkn2, List.length_append, List.length_singleton]; omega), H59⟩ (by first | (dsimp only; omega) | omega) ⟨by first | rfl | exact vint (by omega), by first | rfl | exact vint (by omega), by first | rfl | exact vint (by omega), by first | rfl | exact vint (by omega), by first | rfl | exact vint (by omega), by first | rfl | exact vint (by omega), by first | rfl | exact vint (by omega), trivial⟩
    · skip
      refine r_cons (s_lss false rfl rfl (dfalse hc32) rfl ?_)
      refine r_nil ?_
      refine g_false rfl ?_
      refine g_exit (by rfl) ?_
      refine g_seq ?_
      refine g_region ?_
      refine r_cons (s_move (.slice p n c) rfl rfl ?_)
      refine r_cons (s_move (.slice p2 n2 c2) rfl rfl ?_)
      refine r_cons (s_assign (.slice p n c) rfl rfl ?_)
      refine r_cons (s_assign (.slice p2 n2 c2) rfl rfl ?_)
      refine r_nil ?_
      refine g_ret' [.slice p n c, .slice p2 n2 c2] Try.func25 Try.results25 ⟨rfl, rfl, trivial⟩ ?_
      have H60 : St W w29 (Row 27 11 (.slice p n c) n ((pickB (l.take j) vars true).flatMap condCell) :: Row 27 11 (.slice p2 n2 c2) n2 ((pickB (l.take j) vars false).flatMap condCell) :: F) := ((((H30.move 1 rfl).drop 2 rfl).drop 2 rfl).drop 2 rfl)
      have he : (pickB (l.take j) vars true) = (pickB l vars true) := pick_all (by omega)
      have he2 : (pickB (l.take j) vars false) = (pickB l vars false) := pick_all (by omega)
      have hH := H60
      rw [he, he2] at hH
      rw [he] at hnln
      rw [he2] at hnln2
      subst hnln hnln2
      exact ⟨_, _, _, _, rfl, Row.im (Row.im hH (i := 0) rfl) (i := 1) rfl⟩
set_option maxHeartbeats 4000000 in
set_option maxRecDepth 100000 in
theorem ref07_SameConds {W w : World} {F : List Atom} (l : List CondV) (lv mv : Value) {m : Nat} (hm : F[m]? = some (Im 11 lv l.length (l.flatMap condCell))) {n : Nat} (hn : F[n]? = some (Im 11 mv l.length (l.flatMap condCell))) (H : St W w F) : Calls Try.prog 26 #[lv, mv] w (Ret fun v w' => v = .bool true ∧ St W w' F) := by
  obtain ⟨pp1, cc2, rfl, hn3⟩ := Rd.shape (Im.rd H (i := m) hm)
  have H4 := H.dup (i := m + 0) (by exact hm) (Im_pers _ _ _ _)
  have H5 : St W w (Im 11 (.slice pp1 l.length cc2) l.length (l.flatMap condCell) :: F) := H4
  obtain ⟨pp6, cc7, rfl, hn8⟩ := Rd.shape (Im.rd H (i := n) hn)
  have H9 := H5.dup (i := n + 1) (by exact hn) (Im_pers _ _ _ _)
  have H10 : St W w (Im 11 (.slice pp6 l.length cc7) l.length (l.flatMap condCell) :: Im 11 (.slice pp1 l.length cc2) l.length (l.flatMap condCell) :: F) := H9
  refine calls_of_go (n := 26) Try.func26 rfl Try.ntmps26 rfl ?_
  refine g_seq ?_
  refine g_region ?_
  refine r_cons (s_assign (.bool false) rfl rfl ?_)
  refine r_nil ?_
  refine g_seq ?_
  refine g_seq ?_
  refine g_region ?_
  refine r_cons (s_move (.slice pp1 l.length cc2) rfl rfl ?_)
  refine r_cons (s_len l.length rfl ⟨_, un_28⟩ rfl ?_)
  refine r_cons (s_move (.slice pp6 l.length cc7) rfl rfl ?_)
  refine r_cons (s_len l.length rfl ⟨_, un_28⟩ rfl ?_)
  refine r_cons (s_neq false rfl rfl (ntrue rfl) rfl ?_)
  refine r_nil ?_
  refine g_false rfl ?_
  refine g_skip ?_
  refine g_seq ?_
  refine g_seq ?_
  refine g_region ?_
  refine r_cons (s_assign (.int .i64 0) rfl rfl ?_)
  refine r_nil ?_
  refine g_block ?_
  obtain ⟨pA11, cA12, gA13, oA14, kA15, eA16, zA17, he23, hn18, hp19, hx20, hs21, hml, H22⟩ := Im.open_ H10 (i := 1) rfl
  obtain ⟨rfl, rfl⟩ : pp1 = pA11 ∧ cc2 = cA12 := by injection he23 with a_ b_ c_; exact ⟨a_, c_⟩
  obtain ⟨pA24, cA25, gA26, oA27, kA28, eA29, zA30, he36, hn31, hp32, hx33, hs34, hml, H35⟩ := Im.open_ H22 (i := 1) rfl
  obtain ⟨rfl, rfl⟩ : pp6 = pA24 ∧ cc7 = cA25 := by injection he36 with a_ b_ c_; exact ⟨a_, c_⟩
  have H37 : St W w (imi (0 < l.length) gA26 (.cells kA28 eA29 zA30) :: imi (0 < l.length) gA13 (.cells kA15 eA16 zA17) :: Im 11 (.slice pp6 l.length cc7) l.length (l.flatMap condCell) :: Im 11 (.slice pp1 l.length cc2) l.length (l.flatMap condCell) :: F) := ((((H35.move 3 rfl).move 3 rfl).move 3 rfl).move 3 rfl)
  refine g_loop_inv (fun (x_ : Nat) => match x_ with | j => [(0, .slice pp1 l.length cc2), (1, .slice pp6 l.length cc7), (4, .bool false), (5, .int .i64 (j : Int))]) (fun (x_ : Nat) w => match x_ with | j => (j ≤ l.length) ∧ (∀ q, q < j → sameCd (l.getD q default) (l.getD q default) = true) ∧ St W w (imi (0 < l.length) gA26 (.cells kA28 eA29 zA30) :: imi (0 < l.length) gA13 (.cells kA15 eA16 zA17) :: Im 11 (.slice pp6 l.length cc7) l.length (l.flatMap condCell) :: Im 11 (.slice pp1 l.length cc2) l.length (l.flatMap condCell) :: F)) (fun (x_ : Nat) => match x_ with | j => l.length - j) (0) ?_ ?_ ?_
  · exact ⟨by first | rfl | exact vint (by omega), by first | rfl | exact vint (by omega), by first | rfl | exact vint (by omega), by first | rfl | exact vint (by omega), trivial⟩
  · exact ⟨(by omega), (fun q hq => by omega), H37⟩
  · rintro j ρ38 w39 ⟨hjn, hz, H40⟩ nx41
    change Ends _ _ (upds ρ38 [(0, .slice pp1 l.length cc2), (1, .slice pp6 l.length cc7), (4, .bool false), (5, .int .i64 (j : Int))]) w39
    refine g_seq ?_
    refine g_seq ?_
    refine g_region ?_
    refine r_cons (s_move (.int .i64 (j : Int)) rfl rfl ?_)
    refine r_cons (s_move (.slice pp1 l.length cc2) rfl rfl ?_)
    refine r_cons (s_len l.length rfl ⟨_, un_28⟩ rfl ?_)
    by_cases hc42 : (j : Int) < (l.length : Int)
    · skip
      refine r_cons (s_lss true rfl rfl (dtrue hc42) rfl ?_)
      refine r_nil ?_
      refine g_true rfl ?_
      refine g_skip ?_
      refine g_seq ?_
      refine g_block ?_
      refine g_seq ?_
      refine g_quiet (fun w' => St W w' (imi (0 < l.length) gA26 (.cells kA28 eA29 zA30) :: imi (0 < l.length) gA13 (.cells kA15 eA16 zA17) :: Im 11 (.slice pp6 l.length cc7) l.length (l.flatMap condCell) :: Im 11 (.slice pp1 l.length cc2) l.length (l.flatMap condCell) :: F)) mixed (by kernel_rfl) H40.drew ?_
      refine q_cons (q_val rfl rfl rfl (by intro w hw; exact x_move (.slice pp1 l.length cc2) rfl w) ?_)
      refine q_cons (q_val rfl rfl rfl (by intro w hw; exact x_move (.int .i64 (j : Int)) rfl w) ?_)
      refine q_cons (q_val rfl rfl rfl (by intro w hw; exact x_indexAddr gA13 (off := oA14) (j : Int) 11 (oA14 + j * 11) (by exact congrArg (fun z_ => Value.slice z_ l.length cc2) (hp19 (by omega))) rfl el_28 (by omega) rfl w) ?_)
      refine q_cons (q_val rfl rfl rfl (by intro w hw; exact x_loadAgg [.string ((l.getD j default).left.var.v), .string ((l.getD j default).left.attr.v), .int .i64 ((l.getD j default).left.val.kind.v), .int .i64 ((l.getD j default).left.val.n.v), .string ((l.getD j default).left.val.s.v), .int .i64 ((l.getD j default).rel.v), .string ((l.getD j default).right.var.v), .string ((l.getD j default).right.attr.v), .int .i64 ((l.getD j default).right.val.kind.v), .int .i64 ((l.getD j default).right.val.n.v), .string ((l.getD j default).right.val.s.v)] 11 ag_27 rfl (hw.imi_at (i := 1) rfl (by omega)) (by have := elem_size (i := j) (s := 11) (hs21 (by omega)) (by omega); omega) (elem_take condCell_len (hx20 (by omega)) (by omega) default)) ?_)
      refine q_cons (q_val rfl rfl rfl (by intro w hw; exact x_move (.slice pp6 l.length cc7) rfl w) ?_)
      refine q_cons (q_val rfl rfl rfl (by intro w hw; exact x_move (.int .i64 (j : Int)) rfl w) ?_)
      refine q_cons (q_val rfl rfl rfl (by intro w hw; exact x_indexAddr gA26 (off := oA27) (j : Int) 11 (oA27 + j * 11) (by exact congrArg (fun z_ => Value.slice z_ l.length cc7) (hp32 (by omega))) rfl el_28 (by omega) rfl w) ?_)
      refine q_cons (q_val rfl rfl rfl (by intro w hw; exact x_loadAgg [.string ((l.getD j default).left.var.v), .string ((l.getD j default).left.attr.v), .int .i64 ((l.getD j default).left.val.kind.v), .int .i64 ((l.getD j default).left.val.n.v), .string ((l.getD j default).left.val.s.v), .int .i64 ((l.getD j default).rel.v), .string ((l.getD j default).right.var.v), .string ((l.getD j default).right.attr.v), .int .i64 ((l.getD j default).right.val.kind.v), .int .i64 ((l.getD j default).right.val.n.v), .string ((l.getD j default).right.val.s.v)] 11 ag_27 rfl (hw.imi_at (i := 0) rfl (by omega)) (by have := elem_size (i := j) (s := 11) (hs34 (by omega)) (by omega); omega) (elem_take condCell_len (hx33 (by omega)) (by omega) default)) ?_)
      refine q_cons (q_val rfl rfl rfl (by intro w hw; exact x_aneq (!(sameCd (l.getD j default) (l.getD j default))) gd_27 ev_27 rfl rfl rfl w) ?_)
      refine q_nil ?_
      intro w43 H44
      by_cases hb45 : (!(sameCd (l.getD j default) (l.getD j default))) = true
      · skip
        refine g_true (congrArg Value.bool hb45) ?_
        refine g_seq ?_
        refine g_region ?_
        refine r_cons (s_assign (.bool false) rfl rfl ?_)
        refine r_nil ?_
        refine g_ret' [.bool false] Try.func26 Try.results26 ⟨rfl, trivial⟩ ?_
        have H46 : St W w43 F := ((((H44.drop 0 rfl).drop 0 rfl).drop 0 rfl).drop 0 rfl)
        exact absurd hb45 (by rw [sameCd_refl]; simp)
      · have hb45 := eq_false_of_ne_true hb45
        refine g_false (congrArg Value.bool hb45) ?_
        refine g_skip ?_
        refine g_inBlock ?_
        refine g_region ?_
        refine r_cons (s_move (.int .i64 (j : Int)) rfl rfl ?_)
        refine r_cons (s_add ((j : Int) + 1) rfl rfl (wi64 (by omega)) rfl ?_)
        refine r_cons (s_assign (.int .i64 ((j : Int) + 1)) rfl rfl ?_)
        refine r_nil ?_
        have H47 : St W w43 (imi (0 < l.length) gA26 (.cells kA28 eA29 zA30) :: imi (0 < l.length) gA13 (.cells kA15 eA16 zA17) :: Im 11 (.slice pp6 l.length cc7) l.length (l.flatMap condCell) :: Im 11 (.slice pp1 l.length cc2) l.length (l.flatMap condCell) :: F) := ((((H44.move 3 rfl).move 3 rfl).move 3 rfl).move 3 rfl)
        exact nx41 (j + 1) _ _ ⟨(by omega), (fun q hq => (Nat.lt_or_ge q j).elim (hz q) (fun h => by rw [show q = j from by omega]; exact sameCd_refl _)), H47⟩ (by first | (dsimp only; omega) | omega) ⟨by first | rfl | exact vint (by omega), by first | rfl | exact vint (by omega), by first | rfl | exact vint (by omega), by first | rfl | exact vint (by omega), trivial⟩
    · skip
      refine r_cons (s_lss false rfl rfl (dfalse hc42) rfl ?_)
      refine r_nil ?_
      refine g_false rfl ?_
      refine g_exit (by rfl) ?_
      refine g_seq ?_
      refine g_region ?_
      refine r_cons (s_assign (.bool true) rfl rfl ?_)
      refine r_nil ?_
      refine g_ret' [.bool true] Try.func26 Try.results26 ⟨rfl, trivial⟩ ?_
      have H48 : St W w39 F := ((((H40.drop 0 rfl).drop 0 rfl).drop 0 rfl).drop 0 rfl)
      exact ⟨rfl, H48⟩
set_option maxHeartbeats 4000000 in
set_option maxRecDepth 100000 in
theorem pred_live {W w : World} {F : List Atom}  (H : St W w F) : Calls Try.prog 8 #[] w (Ret fun v w' => v = .bool true ∧ St W w' F) := by
  refine calls_of_go (n := 33) Try.func8 rfl Try.ntmps8 rfl ?_
  refine g_seq ?_
  refine g_region ?_
  refine r_cons (s_assign (.bool false) rfl rfl ?_)
  refine r_nil ?_
  refine g_seq ?_
  refine g_region ?_
  refine r_cons (s_build (cs := #[.string ByteArray.empty, .string (⟨#[120]⟩), .int .i64 0, .int .i64 0, .string ByteArray.empty]) (by kernel_rfl) rfl ?_)
  refine r_cons (s_build (cs := #[.int .i64 1, .int .i64 3, .string ByteArray.empty]) (by kernel_rfl) rfl ?_)
  refine r_cons (s_build (cs := #[.string ByteArray.empty, .string ByteArray.empty, .int .i64 1, .int .i64 3, .string ByteArray.empty]) (by kernel_rfl) rfl ?_)
  refine r_cons (s_build (cs := #[.string ByteArray.empty, .string (⟨#[120]⟩), .int .i64 0, .int .i64 0, .string ByteArray.empty, .int .i64 5, .string ByteArray.empty, .string ByteArray.empty, .int .i64 1, .int .i64 3, .string ByteArray.empty]) (by kernel_rfl) rfl ?_)
  refine r_cons (s_alloc H 27 ze_27 rfl ?_); intro bk1 w2 H3
  refine r_cons (s_storeAgg H3 0 #[.string ByteArray.empty, .string (⟨#[120]⟩), .int .i64 0, .int .i64 0, .string ByteArray.empty, .int .i64 5, .string ByteArray.empty, .string ByteArray.empty, .int .i64 1, .int .i64 3, .string ByteArray.empty] 11 rfl rfl rfl sz_27 rfl (by simp [Value.oneCell']) (Nat.le_of_ble_eq_true rfl) (fun o h1 h2 => by first | (simp; done) | (simp; omega)) (cs' := #[.string ByteArray.empty, .string (⟨#[120]⟩), .int .i64 0, .int .i64 0, .string ByteArray.empty, .int .i64 5, .string ByteArray.empty, .string ByteArray.empty, .int .i64 1, .int .i64 3, .string ByteArray.empty]) (by kernel_rfl) ?_); intro w4 H5
  refine r_nil ?_
  refine g_seq ?_
  refine g_region ?_
  refine r_cons (s_build (cs := #[.int .i64 1, .int .i64 5, .string ByteArray.empty]) (by kernel_rfl) rfl ?_)
  refine r_cons (s_build (cs := #[.string (⟨#[120]⟩), .int .i64 1, .int .i64 5, .string ByteArray.empty]) (by kernel_rfl) rfl ?_)
  refine r_cons (s_buildSlice H5 4 1 (cs := #[.string (⟨#[120]⟩), .int .i64 1, .int .i64 5, .string ByteArray.empty]) #[.string ByteArray.empty, .int .i64 0, .int .i64 0, .string ByteArray.empty] el_34 ze_65 (by decide) (by decide) (by kernel_rfl) rfl ?_); intro bk6 w7 H8
  refine r_cons (s_build (cs := #[.int .i64 0, .int .i64 0, .int .i64 0, .string (⟨#[65]⟩), .slice (some ⟨bk6, 0, none⟩) 1 1]) (by kernel_rfl) rfl ?_)
  refine r_cons (s_alloc H8 36 ze_36 rfl ?_); intro bk9 w10 H11
  refine r_cons (s_storeAgg H11 0 #[.int .i64 0, .int .i64 0, .int .i64 0, .string (⟨#[65]⟩), .slice (some ⟨bk6, 0, none⟩) 1 1] 5 rfl rfl rfl sz_36 rfl (by simp [Value.oneCell']) (Nat.le_of_ble_eq_true rfl) (fun o h1 h2 => by first | (simp; done) | (simp; omega)) (cs' := #[.int .i64 0, .int .i64 0, .int .i64 0, .string (⟨#[65]⟩), .slice (some ⟨bk6, 0, none⟩) 1 1]) rfl ?_); intro w12 H13
  refine r_nil ?_
  refine g_seq ?_
  refine g_region ?_
  refine r_cons (s_loadAgg [.string ByteArray.empty, .string (⟨#[120]⟩), .int .i64 0, .int .i64 0, .string ByteArray.empty, .int .i64 5, .string ByteArray.empty, .string ByteArray.empty, .int .i64 1, .int .i64 3, .string ByteArray.empty] 11 ag_27 rfl (H13.blk_at (i := 2) rfl) (Nat.le_of_ble_eq_true rfl) rfl rfl ?_)
  refine r_cons (s_loadAgg [.int .i64 0, .int .i64 0, .int .i64 0, .string (⟨#[65]⟩), .slice (some ⟨bk6, 0, none⟩) 1 1] 5 ag_36 rfl (H13.blk_at (i := 0) rfl) (Nat.le_of_ble_eq_true rfl) rfl rfl ?_)
  have H14 := Row.cut (n := 0) (m := 1) (c := 1) (size := 4) (xs := [.string (⟨#[120]⟩), .int .i64 1, .int .i64 5, .string ByteArray.empty]) H13 (i := 1) rfl (by decide) (by decide +kernel) rfl rfl (by simp [Value.oneCell'])
  have H15 : St W w12 (blk bk9 (.cells #[.int .i64 0, .int .i64 0, .int .i64 0, .string (⟨#[65]⟩), .slice (some ⟨bk6, 0, none⟩) 1 1] 36 (0, 0)) :: Row 65 4 (.slice (some ⟨bk6, 0, none⟩) 1 1) 1 [.string (⟨#[120]⟩), .int .i64 1, .int .i64 5, .string ByteArray.empty] :: blk bk1 (.cells #[.string ByteArray.empty, .string (⟨#[120]⟩), .int .i64 0, .int .i64 0, .string ByteArray.empty, .int .i64 5, .string ByteArray.empty, .string ByteArray.empty, .int .i64 1, .int .i64 3, .string ByteArray.empty] 27 (0, 0)) :: F) := H14
  have H16 : St W w12 (blk bk9 (.cells #[.int .i64 0, .int .i64 0, .int .i64 0, .string (⟨#[65]⟩), .slice (some ⟨bk6, 0, none⟩) 1 1] 36 (0, 0)) :: Attrs (.slice (some ⟨bk6, 0, none⟩) 1 1) [(⟨(⟨⟨#[120]⟩, by decide⟩ : Str), (⟨1, by decide, by decide⟩ : I64), (⟨5, by decide, by decide⟩ : I64), Str.none⟩ : AttrV)] :: blk bk1 (.cells #[.string ByteArray.empty, .string (⟨#[120]⟩), .int .i64 0, .int .i64 0, .string ByteArray.empty, .int .i64 5, .string ByteArray.empty, .string ByteArray.empty, .int .i64 1, .int .i64 3, .string ByteArray.empty] 27 (0, 0)) :: F) := Row.im H15 (i := 1) rfl
  refine r_cons (s_call [.agg #[.string ByteArray.empty, .string (⟨#[120]⟩), .int .i64 0, .int .i64 0, .string ByteArray.empty, .int .i64 5, .string ByteArray.empty, .string ByteArray.empty, .int .i64 1, .int .i64 3, .string ByteArray.empty], .agg #[.int .i64 0, .int .i64 0, .int .i64 0, .string (⟨#[65]⟩), .slice (some ⟨bk6, 0, none⟩) 1 1]] pl_9 rfl rfl (pred_Test (⟨(⟨Str.none, (⟨⟨#[120]⟩, by decide⟩ : Str), (⟨(⟨0, by decide, by decide⟩ : I64), (⟨0, by decide, by decide⟩ : I64), Str.none⟩ : ValV)⟩ : OpdV), (⟨5, by decide, by decide⟩ : I64), (⟨Str.none, Str.none, (⟨(⟨1, by decide, by decide⟩ : I64), (⟨3, by decide, by decide⟩ : I64), Str.none⟩ : ValV)⟩ : OpdV)⟩ : CondV) (⟨(⟨0, by decide, by decide⟩ : I64), (⟨0, by decide, by decide⟩ : I64), (⟨0, by decide, by decide⟩ : I64), (⟨⟨#[65]⟩, by decide⟩ : Str), [(⟨(⟨⟨#[120]⟩, by decide⟩ : Str), (⟨1, by decide, by decide⟩ : I64), (⟨5, by decide, by decide⟩ : I64), Str.none⟩ : AttrV)]⟩ : EvM) (.slice (some ⟨bk6, 0, none⟩) 1 1) (j := 1) rfl H16) ?_)
  rintro _ w17 ⟨rfl, H18⟩
  refine r_cons (s_move (.bool (testB (⟨(⟨Str.none, (⟨⟨#[120]⟩, by decide⟩ : Str), (⟨(⟨0, by decide, by decide⟩ : I64), (⟨0, by decide, by decide⟩ : I64), Str.none⟩ : ValV)⟩ : OpdV), (⟨5, by decide, by decide⟩ : I64), (⟨Str.none, Str.none, (⟨(⟨1, by decide, by decide⟩ : I64), (⟨3, by decide, by decide⟩ : I64), Str.none⟩ : ValV)⟩ : OpdV)⟩ : CondV) (⟨(⟨0, by decide, by decide⟩ : I64), (⟨0, by decide, by decide⟩ : I64), (⟨0, by decide, by decide⟩ : I64), (⟨⟨#[65]⟩, by decide⟩ : Str), [(⟨(⟨⟨#[120]⟩, by decide⟩ : Str), (⟨1, by decide, by decide⟩ : I64), (⟨5, by decide, by decide⟩ : I64), Str.none⟩ : AttrV)]⟩ : EvM).attrs)) rfl rfl ?_)
  refine r_cons (r_take rfl (congrArg some (show (testB (⟨(⟨Str.none, (⟨⟨#[120]⟩, by decide⟩ : Str), (⟨(⟨0, by decide, by decide⟩ : I64), (⟨0, by decide, by decide⟩ : I64), Str.none⟩ : ValV)⟩ : OpdV), (⟨5, by decide, by decide⟩ : I64), (⟨Str.none, Str.none, (⟨(⟨1, by decide, by decide⟩ : I64), (⟨3, by decide, by decide⟩ : I64), Str.none⟩ : ValV)⟩ : OpdV)⟩ : CondV) (⟨(⟨0, by decide, by decide⟩ : I64), (⟨0, by decide, by decide⟩ : I64), (⟨0, by decide, by decide⟩ : I64), (⟨⟨#[65]⟩, by decide⟩ : Str), [(⟨(⟨⟨#[120]⟩, by decide⟩ : Str), (⟨1, by decide, by decide⟩ : I64), (⟨5, by decide, by decide⟩ : I64), Str.none⟩ : AttrV)]⟩ : EvM).attrs) = true from by decide +kernel)) ?_)
  refine s_loadAgg [.string ByteArray.empty, .string (⟨#[120]⟩), .int .i64 0, .int .i64 0, .string ByteArray.empty, .int .i64 5, .string ByteArray.empty, .string ByteArray.empty, .int .i64 1, .int .i64 3, .string ByteArray.empty] 11 ag_27 rfl (H18.blk_at (i := 2) rfl) (Nat.le_of_ble_eq_true rfl) rfl rfl ?_
  refine r_cons (r_take rfl (congrArg some (show (testB (⟨(⟨Str.none, (⟨⟨#[120]⟩, by decide⟩ : Str), (⟨(⟨0, by decide, by decide⟩ : I64), (⟨0, by decide, by decide⟩ : I64), Str.none⟩ : ValV)⟩ : OpdV), (⟨5, by decide, by decide⟩ : I64), (⟨Str.none, Str.none, (⟨(⟨1, by decide, by decide⟩ : I64), (⟨3, by decide, by decide⟩ : I64), Str.none⟩ : ValV)⟩ : OpdV)⟩ : CondV) (⟨(⟨0, by decide, by decide⟩ : I64), (⟨0, by decide, by decide⟩ : I64), (⟨0, by decide, by decide⟩ : I64), (⟨⟨#[65]⟩, by decide⟩ : Str), [(⟨(⟨⟨#[120]⟩, by decide⟩ : Str), (⟨1, by decide, by decide⟩ : I64), (⟨5, by decide, by decide⟩ : I64), Str.none⟩ : AttrV)]⟩ : EvM).attrs) = true from by decide +kernel)) ?_)
  refine s_build (cs := #[.int .i64 0, .int .i64 0, .int .i64 0, .string ByteArray.empty, .slice none 0 0]) (by kernel_rfl) rfl ?_
  refine r_cons (r_take rfl (congrArg some (show (testB (⟨(⟨Str.none, (⟨⟨#[120]⟩, by decide⟩ : Str), (⟨(⟨0, by decide, by decide⟩ : I64), (⟨0, by decide, by decide⟩ : I64), Str.none⟩ : ValV)⟩ : OpdV), (⟨5, by decide, by decide⟩ : I64), (⟨Str.none, Str.none, (⟨(⟨1, by decide, by decide⟩ : I64), (⟨3, by decide, by decide⟩ : I64), Str.none⟩ : ValV)⟩ : OpdV)⟩ : CondV) (⟨(⟨0, by decide, by decide⟩ : I64), (⟨0, by decide, by decide⟩ : I64), (⟨0, by decide, by decide⟩ : I64), (⟨⟨#[65]⟩, by decide⟩ : Str), [(⟨(⟨⟨#[120]⟩, by decide⟩ : Str), (⟨1, by decide, by decide⟩ : I64), (⟨5, by decide, by decide⟩ : I64), Str.none⟩ : AttrV)]⟩ : EvM).attrs) = true from by decide +kernel)) ?_)
  have H19 : St W w17 (Attrs (.slice none 0 0) [] :: blk bk9 (.cells #[.int .i64 0, .int .i64 0, .int .i64 0, .string (⟨#[65]⟩), .slice (some ⟨bk6, 0, none⟩) 1 1] 36 (0, 0)) :: Attrs (.slice (some ⟨bk6, 0, none⟩) 1 1) [(⟨(⟨⟨#[120]⟩, by decide⟩ : Str), (⟨1, by decide, by decide⟩ : I64), (⟨5, by decide, by decide⟩ : I64), Str.none⟩ : AttrV)] :: blk bk1 (.cells #[.string ByteArray.empty, .string (⟨#[120]⟩), .int .i64 0, .int .i64 0, .string ByteArray.empty, .int .i64 5, .string ByteArray.empty, .string ByteArray.empty, .int .i64 1, .int .i64 3, .string ByteArray.empty] 27 (0, 0)) :: F) := Row.im (Row.nil_intro H18 65 4) (i := 0) rfl
  refine s_call [.agg #[.string ByteArray.empty, .string (⟨#[120]⟩), .int .i64 0, .int .i64 0, .string ByteArray.empty, .int .i64 5, .string ByteArray.empty, .string ByteArray.empty, .int .i64 1, .int .i64 3, .string ByteArray.empty], .agg #[.int .i64 0, .int .i64 0, .int .i64 0, .string ByteArray.empty, .slice none 0 0]] pl_9 rfl rfl (pred_Test (⟨(⟨Str.none, (⟨⟨#[120]⟩, by decide⟩ : Str), (⟨(⟨0, by decide, by decide⟩ : I64), (⟨0, by decide, by decide⟩ : I64), Str.none⟩ : ValV)⟩ : OpdV), (⟨5, by decide, by decide⟩ : I64), (⟨Str.none, Str.none, (⟨(⟨1, by decide, by decide⟩ : I64), (⟨3, by decide, by decide⟩ : I64), Str.none⟩ : ValV)⟩ : OpdV)⟩ : CondV) (⟨(⟨0, by decide, by decide⟩ : I64), (⟨0, by decide, by decide⟩ : I64), (⟨0, by decide, by decide⟩ : I64), Str.none, []⟩ : EvM) (.slice none 0 0) (j := 0) rfl H19) ?_
  rintro _ w20 ⟨rfl, H21⟩
  refine r_cons (r_take rfl (congrArg some (show (testB (⟨(⟨Str.none, (⟨⟨#[120]⟩, by decide⟩ : Str), (⟨(⟨0, by decide, by decide⟩ : I64), (⟨0, by decide, by decide⟩ : I64), Str.none⟩ : ValV)⟩ : OpdV), (⟨5, by decide, by decide⟩ : I64), (⟨Str.none, Str.none, (⟨(⟨1, by decide, by decide⟩ : I64), (⟨3, by decide, by decide⟩ : I64), Str.none⟩ : ValV)⟩ : OpdV)⟩ : CondV) (⟨(⟨0, by decide, by decide⟩ : I64), (⟨0, by decide, by decide⟩ : I64), (⟨0, by decide, by decide⟩ : I64), (⟨⟨#[65]⟩, by decide⟩ : Str), [(⟨(⟨⟨#[120]⟩, by decide⟩ : Str), (⟨1, by decide, by decide⟩ : I64), (⟨5, by decide, by decide⟩ : I64), Str.none⟩ : AttrV)]⟩ : EvM).attrs) = true from by decide +kernel)) ?_)
  refine s_not (testB (⟨(⟨Str.none, (⟨⟨#[120]⟩, by decide⟩ : Str), (⟨(⟨0, by decide, by decide⟩ : I64), (⟨0, by decide, by decide⟩ : I64), Str.none⟩ : ValV)⟩ : OpdV), (⟨5, by decide, by decide⟩ : I64), (⟨Str.none, Str.none, (⟨(⟨1, by decide, by decide⟩ : I64), (⟨3, by decide, by decide⟩ : I64), Str.none⟩ : ValV)⟩ : OpdV)⟩ : CondV) (⟨(⟨0, by decide, by decide⟩ : I64), (⟨0, by decide, by decide⟩ : I64), (⟨0, by decide, by decide⟩ : I64), Str.none, []⟩ : EvM).attrs) rfl true (by rw [(show (testB (⟨(⟨Str.none, (⟨⟨#[120]⟩, by decide⟩ : Str), (⟨(⟨0, by decide, by decide⟩ : I64), (⟨0, by decide, by decide⟩ : I64), Str.none⟩ : ValV)⟩ : OpdV), (⟨5, by decide, by decide⟩ : I64), (⟨Str.none, Str.none, (⟨(⟨1, by decide, by decide⟩ : I64), (⟨3, by decide, by decide⟩ : I64), Str.none⟩ : ValV)⟩ : OpdV)⟩ : CondV) (⟨(⟨0, by decide, by decide⟩ : I64), (⟨0, by decide, by decide⟩ : I64), (⟨0, by decide, by decide⟩ : I64), Str.none, []⟩ : EvM).attrs) = false from by decide +kernel)]; rfl) rfl ?_
  refine r_cons (s_pick_t (.bool true) (by exact congrArg Value.bool (show (testB (⟨(⟨Str.none, (⟨⟨#[120]⟩, by decide⟩ : Str), (⟨(⟨0, by decide, by decide⟩ : I64), (⟨0, by decide, by decide⟩ : I64), Str.none⟩ : ValV)⟩ : OpdV), (⟨5, by decide, by decide⟩ : I64), (⟨Str.none, Str.none, (⟨(⟨1, by decide, by decide⟩ : I64), (⟨3, by decide, by decide⟩ : I64), Str.none⟩ : ValV)⟩ : OpdV)⟩ : CondV) (⟨(⟨0, by decide, by decide⟩ : I64), (⟨0, by decide, by decide⟩ : I64), (⟨0, by decide, by decide⟩ : I64), (⟨⟨#[65]⟩, by decide⟩ : Str), [(⟨(⟨⟨#[120]⟩, by decide⟩ : Str), (⟨1, by decide, by decide⟩ : I64), (⟨5, by decide, by decide⟩ : I64), Str.none⟩ : AttrV)]⟩ : EvM).attrs) = true from by decide +kernel)) rfl rfl ?_)
  refine r_cons (s_move (.bool true) rfl rfl ?_)
  refine r_cons (r_take rfl rfl ?_)
  refine s_loadAgg [.string ByteArray.empty, .string (⟨#[120]⟩), .int .i64 0, .int .i64 0, .string ByteArray.empty, .int .i64 5, .string ByteArray.empty, .string ByteArray.empty, .int .i64 1, .int .i64 3, .string ByteArray.empty] 11 ag_27 rfl (H21.blk_at (i := 3) rfl) (Nat.le_of_ble_eq_true rfl) rfl rfl ?_
  refine r_cons (r_take rfl rfl ?_)
  refine s_buildSlice H21 11 1 (cs := #[.string ByteArray.empty, .string (⟨#[120]⟩), .int .i64 0, .int .i64 0, .string ByteArray.empty, .int .i64 5, .string ByteArray.empty, .string ByteArray.empty, .int .i64 1, .int .i64 3, .string ByteArray.empty]) #[.string ByteArray.empty, .string ByteArray.empty, .int .i64 0, .int .i64 0, .string ByteArray.empty, .int .i64 0, .string ByteArray.empty, .string ByteArray.empty, .int .i64 0, .int .i64 0, .string ByteArray.empty] el_28 ze_27 (by decide) (by decide) (by kernel_rfl) rfl ?_; intro bk22 w23 H24
  refine r_cons (r_take rfl rfl ?_)
  refine s_build (cs := #[.int .i64 1, .string ByteArray.empty, .string (⟨#[65]⟩), .slice (some ⟨bk22, 0, none⟩) 1 1, .slice none 0 0]) (by kernel_rfl) rfl ?_
  refine r_cons (r_take rfl rfl ?_)
  refine s_loadAgg [.int .i64 0, .int .i64 0, .int .i64 0, .string (⟨#[65]⟩), .slice (some ⟨bk6, 0, none⟩) 1 1] 5 ag_36 rfl (H24.blk_at (i := 2) rfl) (Nat.le_of_ble_eq_true rfl) rfl rfl ?_
  refine r_cons (r_take rfl rfl ?_)
  have H25 := Row.cut (n := 0) (m := 1) (c := 1) (size := 11) (xs := [.string ByteArray.empty, .string (⟨#[120]⟩), .int .i64 0, .int .i64 0, .string ByteArray.empty, .int .i64 5, .string ByteArray.empty, .string ByteArray.empty, .int .i64 1, .int .i64 3, .string ByteArray.empty]) H24 (i := 0) rfl (by decide) (by decide +kernel) rfl rfl (by simp [Value.oneCell'])
  have H26 : St W w23 (Row 27 11 (.slice (some ⟨bk22, 0, none⟩) 1 1) 1 [.string ByteArray.empty, .string (⟨#[120]⟩), .int .i64 0, .int .i64 0, .string ByteArray.empty, .int .i64 5, .string ByteArray.empty, .string ByteArray.empty, .int .i64 1, .int .i64 3, .string ByteArray.empty] :: Attrs (.slice none 0 0) [] :: blk bk9 (.cells #[.int .i64 0, .int .i64 0, .int .i64 0, .string (⟨#[65]⟩), .slice (some ⟨bk6, 0, none⟩) 1 1] 36 (0, 0)) :: Attrs (.slice (some ⟨bk6, 0, none⟩) 1 1) [(⟨(⟨⟨#[120]⟩, by decide⟩ : Str), (⟨1, by decide, by decide⟩ : I64), (⟨5, by decide, by decide⟩ : I64), Str.none⟩ : AttrV)] :: blk bk1 (.cells #[.string ByteArray.empty, .string (⟨#[120]⟩), .int .i64 0, .int .i64 0, .string ByteArray.empty, .int .i64 5, .string ByteArray.empty, .string ByteArray.empty, .int .i64 1, .int .i64 3, .string ByteArray.empty] 27 (0, 0)) :: F) := H25
  have H27 : St W w23 (Im 11 (.slice (some ⟨bk22, 0, none⟩) 1 1) 1 ([(⟨(⟨Str.none, (⟨⟨#[120]⟩, by decide⟩ : Str), (⟨(⟨0, by decide, by decide⟩ : I64), (⟨0, by decide, by decide⟩ : I64), Str.none⟩ : ValV)⟩ : OpdV), (⟨5, by decide, by decide⟩ : I64), (⟨Str.none, Str.none, (⟨(⟨1, by decide, by decide⟩ : I64), (⟨3, by decide, by decide⟩ : I64), Str.none⟩ : ValV)⟩ : OpdV)⟩ : CondV)].flatMap condCell) :: Attrs (.slice none 0 0) [] :: blk bk9 (.cells #[.int .i64 0, .int .i64 0, .int .i64 0, .string (⟨#[65]⟩), .slice (some ⟨bk6, 0, none⟩) 1 1] 36 (0, 0)) :: Attrs (.slice (some ⟨bk6, 0, none⟩) 1 1) [(⟨(⟨⟨#[120]⟩, by decide⟩ : Str), (⟨1, by decide, by decide⟩ : I64), (⟨5, by decide, by decide⟩ : I64), Str.none⟩ : AttrV)] :: blk bk1 (.cells #[.string ByteArray.empty, .string (⟨#[120]⟩), .int .i64 0, .int .i64 0, .string ByteArray.empty, .int .i64 5, .string ByteArray.empty, .string ByteArray.empty, .int .i64 1, .int .i64 3, .string ByteArray.empty] 27 (0, 0)) :: F) := Row.im H26 (i := 0) rfl
  refine s_call [.agg #[.int .i64 1, .string ByteArray.empty, .string (⟨#[65]⟩), .slice (some ⟨bk22, 0, none⟩) 1 1, .slice none 0 0], .agg #[.int .i64 0, .int .i64 0, .int .i64 0, .string (⟨#[65]⟩), .slice (some ⟨bk6, 0, none⟩) 1 1]] pl_11 rfl rfl (pred_Term 1 ByteArray.empty (⟨#[65]⟩) (some ⟨bk22, 0, none⟩) 1 [(⟨(⟨Str.none, (⟨⟨#[120]⟩, by decide⟩ : Str), (⟨(⟨0, by decide, by decide⟩ : I64), (⟨0, by decide, by decide⟩ : I64), Str.none⟩ : ValV)⟩ : OpdV), (⟨5, by decide, by decide⟩ : I64), (⟨Str.none, Str.none, (⟨(⟨1, by decide, by decide⟩ : I64), (⟨3, by decide, by decide⟩ : I64), Str.none⟩ : ValV)⟩ : OpdV)⟩ : CondV)] (.slice none 0 0) (⟨(⟨0, by decide, by decide⟩ : I64), (⟨0, by decide, by decide⟩ : I64), (⟨0, by decide, by decide⟩ : I64), (⟨⟨#[65]⟩, by decide⟩ : Str), [(⟨(⟨⟨#[120]⟩, by decide⟩ : Str), (⟨1, by decide, by decide⟩ : I64), (⟨5, by decide, by decide⟩ : I64), Str.none⟩ : AttrV)]⟩ : EvM) (.slice (some ⟨bk6, 0, none⟩) 1 1) (m := 0) rfl (j := 3) rfl H27) ?_
  rintro _ w28 ⟨rfl, H29⟩
  refine r_cons (s_pick_t (.bool (termB 1 (⟨#[65]⟩) [(⟨(⟨Str.none, (⟨⟨#[120]⟩, by decide⟩ : Str), (⟨(⟨0, by decide, by decide⟩ : I64), (⟨0, by decide, by decide⟩ : I64), Str.none⟩ : ValV)⟩ : OpdV), (⟨5, by decide, by decide⟩ : I64), (⟨Str.none, Str.none, (⟨(⟨1, by decide, by decide⟩ : I64), (⟨3, by decide, by decide⟩ : I64), Str.none⟩ : ValV)⟩ : OpdV)⟩ : CondV)] (⟨(⟨0, by decide, by decide⟩ : I64), (⟨0, by decide, by decide⟩ : I64), (⟨0, by decide, by decide⟩ : I64), (⟨⟨#[65]⟩, by decide⟩ : Str), [(⟨(⟨⟨#[120]⟩, by decide⟩ : Str), (⟨1, by decide, by decide⟩ : I64), (⟨5, by decide, by decide⟩ : I64), Str.none⟩ : AttrV)]⟩ : EvM))) rfl rfl rfl ?_)
  refine r_cons (s_move (.bool (termB 1 (⟨#[65]⟩) [(⟨(⟨Str.none, (⟨⟨#[120]⟩, by decide⟩ : Str), (⟨(⟨0, by decide, by decide⟩ : I64), (⟨0, by decide, by decide⟩ : I64), Str.none⟩ : ValV)⟩ : OpdV), (⟨5, by decide, by decide⟩ : I64), (⟨Str.none, Str.none, (⟨(⟨1, by decide, by decide⟩ : I64), (⟨3, by decide, by decide⟩ : I64), Str.none⟩ : ValV)⟩ : OpdV)⟩ : CondV)] (⟨(⟨0, by decide, by decide⟩ : I64), (⟨0, by decide, by decide⟩ : I64), (⟨0, by decide, by decide⟩ : I64), (⟨⟨#[65]⟩, by decide⟩ : Str), [(⟨(⟨⟨#[120]⟩, by decide⟩ : Str), (⟨1, by decide, by decide⟩ : I64), (⟨5, by decide, by decide⟩ : I64), Str.none⟩ : AttrV)]⟩ : EvM))) rfl rfl ?_)
  refine r_cons (r_take rfl (congrArg some (show (termB 1 (⟨#[65]⟩) [(⟨(⟨Str.none, (⟨⟨#[120]⟩, by decide⟩ : Str), (⟨(⟨0, by decide, by decide⟩ : I64), (⟨0, by decide, by decide⟩ : I64), Str.none⟩ : ValV)⟩ : OpdV), (⟨5, by decide, by decide⟩ : I64), (⟨Str.none, Str.none, (⟨(⟨1, by decide, by decide⟩ : I64), (⟨3, by decide, by decide⟩ : I64), Str.none⟩ : ValV)⟩ : OpdV)⟩ : CondV)] (⟨(⟨0, by decide, by decide⟩ : I64), (⟨0, by decide, by decide⟩ : I64), (⟨0, by decide, by decide⟩ : I64), (⟨⟨#[65]⟩, by decide⟩ : Str), [(⟨(⟨⟨#[120]⟩, by decide⟩ : Str), (⟨1, by decide, by decide⟩ : I64), (⟨5, by decide, by decide⟩ : I64), Str.none⟩ : AttrV)]⟩ : EvM)) = true from by decide +kernel)) ?_)
  refine s_loadAgg [.string ByteArray.empty, .string (⟨#[120]⟩), .int .i64 0, .int .i64 0, .string ByteArray.empty, .int .i64 5, .string ByteArray.empty, .string ByteArray.empty, .int .i64 1, .int .i64 3, .string ByteArray.empty] 11 ag_27 rfl (H29.blk_at (i := 4) rfl) (Nat.le_of_ble_eq_true rfl) rfl rfl ?_
  refine r_cons (r_take rfl (congrArg some (show (termB 1 (⟨#[65]⟩) [(⟨(⟨Str.none, (⟨⟨#[120]⟩, by decide⟩ : Str), (⟨(⟨0, by decide, by decide⟩ : I64), (⟨0, by decide, by decide⟩ : I64), Str.none⟩ : ValV)⟩ : OpdV), (⟨5, by decide, by decide⟩ : I64), (⟨Str.none, Str.none, (⟨(⟨1, by decide, by decide⟩ : I64), (⟨3, by decide, by decide⟩ : I64), Str.none⟩ : ValV)⟩ : OpdV)⟩ : CondV)] (⟨(⟨0, by decide, by decide⟩ : I64), (⟨0, by decide, by decide⟩ : I64), (⟨0, by decide, by decide⟩ : I64), (⟨⟨#[65]⟩, by decide⟩ : Str), [(⟨(⟨⟨#[120]⟩, by decide⟩ : Str), (⟨1, by decide, by decide⟩ : I64), (⟨5, by decide, by decide⟩ : I64), Str.none⟩ : AttrV)]⟩ : EvM)) = true from by decide +kernel)) ?_)
  refine s_call [.agg #[.string ByteArray.empty, .string (⟨#[120]⟩), .int .i64 0, .int .i64 0, .string ByteArray.empty, .int .i64 5, .string ByteArray.empty, .string ByteArray.empty, .int .i64 1, .int .i64 3, .string ByteArray.empty]] pl_20 rfl rfl (pred_Names (⟨(⟨Str.none, (⟨⟨#[120]⟩, by decide⟩ : Str), (⟨(⟨0, by decide, by decide⟩ : I64), (⟨0, by decide, by decide⟩ : I64), Str.none⟩ : ValV)⟩ : OpdV), (⟨5, by decide, by decide⟩ : I64), (⟨Str.none, Str.none, (⟨(⟨1, by decide, by decide⟩ : I64), (⟨3, by decide, by decide⟩ : I64), Str.none⟩ : ValV)⟩ : OpdV)⟩ : CondV) H29) ?_
  rintro _ w32 ⟨pp30, cc31, rfl, H33⟩
  refine r_cons (r_take rfl (congrArg some (show (termB 1 (⟨#[65]⟩) [(⟨(⟨Str.none, (⟨⟨#[120]⟩, by decide⟩ : Str), (⟨(⟨0, by decide, by decide⟩ : I64), (⟨0, by decide, by decide⟩ : I64), Str.none⟩ : ValV)⟩ : OpdV), (⟨5, by decide, by decide⟩ : I64), (⟨Str.none, Str.none, (⟨(⟨1, by decide, by decide⟩ : I64), (⟨3, by decide, by decide⟩ : I64), Str.none⟩ : ValV)⟩ : OpdV)⟩ : CondV)] (⟨(⟨0, by decide, by decide⟩ : I64), (⟨0, by decide, by decide⟩ : I64), (⟨0, by decide, by decide⟩ : I64), (⟨⟨#[65]⟩, by decide⟩ : Str), [(⟨(⟨⟨#[120]⟩, by decide⟩ : Str), (⟨1, by decide, by decide⟩ : I64), (⟨5, by decide, by decide⟩ : I64), Str.none⟩ : AttrV)]⟩ : EvM)) = true from by decide +kernel)) ?_)
  refine s_buildSlice H33 1 1 (cs := #[.string ByteArray.empty]) #[.string ByteArray.empty] el_49 ze_9 (by decide) (by decide) (by kernel_rfl) rfl ?_; intro bk34 w35 H36
  refine r_cons (r_take rfl (congrArg some (show (termB 1 (⟨#[65]⟩) [(⟨(⟨Str.none, (⟨⟨#[120]⟩, by decide⟩ : Str), (⟨(⟨0, by decide, by decide⟩ : I64), (⟨0, by decide, by decide⟩ : I64), Str.none⟩ : ValV)⟩ : OpdV), (⟨5, by decide, by decide⟩ : I64), (⟨Str.none, Str.none, (⟨(⟨1, by decide, by decide⟩ : I64), (⟨3, by decide, by decide⟩ : I64), Str.none⟩ : ValV)⟩ : OpdV)⟩ : CondV)] (⟨(⟨0, by decide, by decide⟩ : I64), (⟨0, by decide, by decide⟩ : I64), (⟨0, by decide, by decide⟩ : I64), (⟨⟨#[65]⟩, by decide⟩ : Str), [(⟨(⟨⟨#[120]⟩, by decide⟩ : Str), (⟨1, by decide, by decide⟩ : I64), (⟨5, by decide, by decide⟩ : I64), Str.none⟩ : AttrV)]⟩ : EvM)) = true from by decide +kernel)) ?_)
  have H37 := Row.cut (n := 0) (m := 1) (c := 1) (size := 1) (xs := [.string ByteArray.empty]) H36 (i := 0) rfl (by decide) (by decide +kernel) rfl rfl (by simp [Value.oneCell'])
  have H38 : St W w35 (Row 9 1 (.slice (some ⟨bk34, 0, none⟩) 1 1) 1 [.string ByteArray.empty] :: Im 1 (.slice pp30 ((namesV (⟨(⟨Str.none, (⟨⟨#[120]⟩, by decide⟩ : Str), (⟨(⟨0, by decide, by decide⟩ : I64), (⟨0, by decide, by decide⟩ : I64), Str.none⟩ : ValV)⟩ : OpdV), (⟨5, by decide, by decide⟩ : I64), (⟨Str.none, Str.none, (⟨(⟨1, by decide, by decide⟩ : I64), (⟨3, by decide, by decide⟩ : I64), Str.none⟩ : ValV)⟩ : OpdV)⟩ : CondV)).length) cc31) ((namesV (⟨(⟨Str.none, (⟨⟨#[120]⟩, by decide⟩ : Str), (⟨(⟨0, by decide, by decide⟩ : I64), (⟨0, by decide, by decide⟩ : I64), Str.none⟩ : ValV)⟩ : OpdV), (⟨5, by decide, by decide⟩ : I64), (⟨Str.none, Str.none, (⟨(⟨1, by decide, by decide⟩ : I64), (⟨3, by decide, by decide⟩ : I64), Str.none⟩ : ValV)⟩ : OpdV)⟩ : CondV)).length) ((namesV (⟨(⟨Str.none, (⟨⟨#[120]⟩, by decide⟩ : Str), (⟨(⟨0, by decide, by decide⟩ : I64), (⟨0, by decide, by decide⟩ : I64), Str.none⟩ : ValV)⟩ : OpdV), (⟨5, by decide, by decide⟩ : I64), (⟨Str.none, Str.none, (⟨(⟨1, by decide, by decide⟩ : I64), (⟨3, by decide, by decide⟩ : I64), Str.none⟩ : ValV)⟩ : OpdV)⟩ : CondV)).flatMap strCell) :: Im 11 (.slice (some ⟨bk22, 0, none⟩) 1 1) 1 ([(⟨(⟨Str.none, (⟨⟨#[120]⟩, by decide⟩ : Str), (⟨(⟨0, by decide, by decide⟩ : I64), (⟨0, by decide, by decide⟩ : I64), Str.none⟩ : ValV)⟩ : OpdV), (⟨5, by decide, by decide⟩ : I64), (⟨Str.none, Str.none, (⟨(⟨1, by decide, by decide⟩ : I64), (⟨3, by decide, by decide⟩ : I64), Str.none⟩ : ValV)⟩ : OpdV)⟩ : CondV)].flatMap condCell) :: Attrs (.slice none 0 0) [] :: blk bk9 (.cells #[.int .i64 0, .int .i64 0, .int .i64 0, .string (⟨#[65]⟩), .slice (some ⟨bk6, 0, none⟩) 1 1] 36 (0, 0)) :: Attrs (.slice (some ⟨bk6, 0, none⟩) 1 1) [(⟨(⟨⟨#[120]⟩, by decide⟩ : Str), (⟨1, by decide, by decide⟩ : I64), (⟨5, by decide, by decide⟩ : I64), Str.none⟩ : AttrV)] :: blk bk1 (.cells #[.string ByteArray.empty, .string (⟨#[120]⟩), .int .i64 0, .int .i64 0, .string ByteArray.empty, .int .i64 5, .string ByteArray.empty, .string ByteArray.empty, .int .i64 1, .int .i64 3, .string ByteArray.empty] 27 (0, 0)) :: F) := H37
  have H39 : St W w35 (Im 1 (.slice (some ⟨bk34, 0, none⟩) 1 1) 1 ([Str.none].flatMap strCell) :: Im 1 (.slice pp30 ((namesV (⟨(⟨Str.none, (⟨⟨#[120]⟩, by decide⟩ : Str), (⟨(⟨0, by decide, by decide⟩ : I64), (⟨0, by decide, by decide⟩ : I64), Str.none⟩ : ValV)⟩ : OpdV), (⟨5, by decide, by decide⟩ : I64), (⟨Str.none, Str.none, (⟨(⟨1, by decide, by decide⟩ : I64), (⟨3, by decide, by decide⟩ : I64), Str.none⟩ : ValV)⟩ : OpdV)⟩ : CondV)).length) cc31) ((namesV (⟨(⟨Str.none, (⟨⟨#[120]⟩, by decide⟩ : Str), (⟨(⟨0, by decide, by decide⟩ : I64), (⟨0, by decide, by decide⟩ : I64), Str.none⟩ : ValV)⟩ : OpdV), (⟨5, by decide, by decide⟩ : I64), (⟨Str.none, Str.none, (⟨(⟨1, by decide, by decide⟩ : I64), (⟨3, by decide, by decide⟩ : I64), Str.none⟩ : ValV)⟩ : OpdV)⟩ : CondV)).length) ((namesV (⟨(⟨Str.none, (⟨⟨#[120]⟩, by decide⟩ : Str), (⟨(⟨0, by decide, by decide⟩ : I64), (⟨0, by decide, by decide⟩ : I64), Str.none⟩ : ValV)⟩ : OpdV), (⟨5, by decide, by decide⟩ : I64), (⟨Str.none, Str.none, (⟨(⟨1, by decide, by decide⟩ : I64), (⟨3, by decide, by decide⟩ : I64), Str.none⟩ : ValV)⟩ : OpdV)⟩ : CondV)).flatMap strCell) :: Im 11 (.slice (some ⟨bk22, 0, none⟩) 1 1) 1 ([(⟨(⟨Str.none, (⟨⟨#[120]⟩, by decide⟩ : Str), (⟨(⟨0, by decide, by decide⟩ : I64), (⟨0, by decide, by decide⟩ : I64), Str.none⟩ : ValV)⟩ : OpdV), (⟨5, by decide, by decide⟩ : I64), (⟨Str.none, Str.none, (⟨(⟨1, by decide, by decide⟩ : I64), (⟨3, by decide, by decide⟩ : I64), Str.none⟩ : ValV)⟩ : OpdV)⟩ : CondV)].flatMap condCell) :: Attrs (.slice none 0 0) [] :: blk bk9 (.cells #[.int .i64 0, .int .i64 0, .int .i64 0, .string (⟨#[65]⟩), .slice (some ⟨bk6, 0, none⟩) 1 1] 36 (0, 0)) :: Attrs (.slice (some ⟨bk6, 0, none⟩) 1 1) [(⟨(⟨⟨#[120]⟩, by decide⟩ : Str), (⟨1, by decide, by decide⟩ : I64), (⟨5, by decide, by decide⟩ : I64), Str.none⟩ : AttrV)] :: blk bk1 (.cells #[.string ByteArray.empty, .string (⟨#[120]⟩), .int .i64 0, .int .i64 0, .string ByteArray.empty, .int .i64 5, .string ByteArray.empty, .string ByteArray.empty, .int .i64 1, .int .i64 3, .string ByteArray.empty] 27 (0, 0)) :: F) := Row.im H38 (i := 0) rfl
  refine s_call [.slice pp30 ((namesV (⟨(⟨Str.none, (⟨⟨#[120]⟩, by decide⟩ : Str), (⟨(⟨0, by decide, by decide⟩ : I64), (⟨0, by decide, by decide⟩ : I64), Str.none⟩ : ValV)⟩ : OpdV), (⟨5, by decide, by decide⟩ : I64), (⟨Str.none, Str.none, (⟨(⟨1, by decide, by decide⟩ : I64), (⟨3, by decide, by decide⟩ : I64), Str.none⟩ : ValV)⟩ : OpdV)⟩ : CondV)).length) cc31, .slice (some ⟨bk34, 0, none⟩) 1 1] pl_19 rfl rfl (Equal_str (namesV (⟨(⟨Str.none, (⟨⟨#[120]⟩, by decide⟩ : Str), (⟨(⟨0, by decide, by decide⟩ : I64), (⟨0, by decide, by decide⟩ : I64), Str.none⟩ : ValV)⟩ : OpdV), (⟨5, by decide, by decide⟩ : I64), (⟨Str.none, Str.none, (⟨(⟨1, by decide, by decide⟩ : I64), (⟨3, by decide, by decide⟩ : I64), Str.none⟩ : ValV)⟩ : OpdV)⟩ : CondV)) [Str.none] (.slice pp30 ((namesV (⟨(⟨Str.none, (⟨⟨#[120]⟩, by decide⟩ : Str), (⟨(⟨0, by decide, by decide⟩ : I64), (⟨0, by decide, by decide⟩ : I64), Str.none⟩ : ValV)⟩ : OpdV), (⟨5, by decide, by decide⟩ : I64), (⟨Str.none, Str.none, (⟨(⟨1, by decide, by decide⟩ : I64), (⟨3, by decide, by decide⟩ : I64), Str.none⟩ : ValV)⟩ : OpdV)⟩ : CondV)).length) cc31) (.slice (some ⟨bk34, 0, none⟩) 1 1) (m := 1) rfl (n := 0) rfl H39) ?_
  rintro _ w40 ⟨rfl, H41⟩
  refine r_cons (s_pick_t (.bool (eqS (namesV (⟨(⟨Str.none, (⟨⟨#[120]⟩, by decide⟩ : Str), (⟨(⟨0, by decide, by decide⟩ : I64), (⟨0, by decide, by decide⟩ : I64), Str.none⟩ : ValV)⟩ : OpdV), (⟨5, by decide, by decide⟩ : I64), (⟨Str.none, Str.none, (⟨(⟨1, by decide, by decide⟩ : I64), (⟨3, by decide, by decide⟩ : I64), Str.none⟩ : ValV)⟩ : OpdV)⟩ : CondV)) [Str.none])) (by exact congrArg Value.bool (show (termB 1 (⟨#[65]⟩) [(⟨(⟨Str.none, (⟨⟨#[120]⟩, by decide⟩ : Str), (⟨(⟨0, by decide, by decide⟩ : I64), (⟨0, by decide, by decide⟩ : I64), Str.none⟩ : ValV)⟩ : OpdV), (⟨5, by decide, by decide⟩ : I64), (⟨Str.none, Str.none, (⟨(⟨1, by decide, by decide⟩ : I64), (⟨3, by decide, by decide⟩ : I64), Str.none⟩ : ValV)⟩ : OpdV)⟩ : CondV)] (⟨(⟨0, by decide, by decide⟩ : I64), (⟨0, by decide, by decide⟩ : I64), (⟨0, by decide, by decide⟩ : I64), (⟨⟨#[65]⟩, by decide⟩ : Str), [(⟨(⟨⟨#[120]⟩, by decide⟩ : Str), (⟨1, by decide, by decide⟩ : I64), (⟨5, by decide, by decide⟩ : I64), Str.none⟩ : AttrV)]⟩ : EvM)) = true from by decide +kernel)) rfl rfl ?_)
  refine r_cons (s_assign (.bool (eqS (namesV (⟨(⟨Str.none, (⟨⟨#[120]⟩, by decide⟩ : Str), (⟨(⟨0, by decide, by decide⟩ : I64), (⟨0, by decide, by decide⟩ : I64), Str.none⟩ : ValV)⟩ : OpdV), (⟨5, by decide, by decide⟩ : I64), (⟨Str.none, Str.none, (⟨(⟨1, by decide, by decide⟩ : I64), (⟨3, by decide, by decide⟩ : I64), Str.none⟩ : ValV)⟩ : OpdV)⟩ : CondV)) [Str.none])) rfl rfl ?_)
  refine r_nil ?_
  refine g_ret' [.bool (eqS (namesV (⟨(⟨Str.none, (⟨⟨#[120]⟩, by decide⟩ : Str), (⟨(⟨0, by decide, by decide⟩ : I64), (⟨0, by decide, by decide⟩ : I64), Str.none⟩ : ValV)⟩ : OpdV), (⟨5, by decide, by decide⟩ : I64), (⟨Str.none, Str.none, (⟨(⟨1, by decide, by decide⟩ : I64), (⟨3, by decide, by decide⟩ : I64), Str.none⟩ : ValV)⟩ : OpdV)⟩ : CondV)) [Str.none])] Try.func8 Try.results8 ⟨rfl, trivial⟩ ?_
  have H42 : St W w40 F := (((((((H41.drop 0 rfl).drop 0 rfl).drop 0 rfl).drop 0 rfl).drop 0 rfl).drop 0 rfl).drop 0 rfl)
  exact ⟨congrArg Value.bool (show eqS (namesV (⟨(⟨Str.none, (⟨⟨#[120]⟩, by decide⟩ : Str), (⟨(⟨0, by decide, by decide⟩ : I64), (⟨0, by decide, by decide⟩ : I64), Str.none⟩ : ValV)⟩ : OpdV), (⟨5, by decide, by decide⟩ : I64), (⟨Str.none, Str.none, (⟨(⟨1, by decide, by decide⟩ : I64), (⟨3, by decide, by decide⟩ : I64), Str.none⟩ : ValV)⟩ : OpdV)⟩ : CondV)) [Str.none] = true from by decide +kernel), H42⟩
set_option maxHeartbeats 4000000 in
set_option maxRecDepth 100000 in
theorem PredNames_ {W w : World} {F : List Atom} (l : List CondV) (lv : Value) (vars : List Str) (vv : Value) {m : Nat} (hm : F[m]? = some (Im 11 lv l.length (l.flatMap condCell))) {jv : Nat} (hv : F[jv]? = some (Im 1 vv vars.length (vars.flatMap strCell))) (hb : l.length * 136 ≤ 140737488355328) (H : St W w F) : Calls Try.prog 5 #[lv, vv] w (Ret fun v w' => v = .bool true ∧ St W w' F) := by
  obtain ⟨pp1, cc2, rfl, hn3⟩ := Rd.shape (Im.rd H (i := m) hm)
  have H4 := H.dup (i := m + 0) (by exact hm) (Im_pers _ _ _ _)
  have H5 : St W w (Im 11 (.slice pp1 l.length cc2) l.length (l.flatMap condCell) :: F) := H4
  obtain ⟨pp6, cc7, rfl, hn8⟩ := Rd.shape (Im.rd H (i := jv) hv)
  have H9 := H5.dup (i := jv + 1) (by exact hv) (Im_pers _ _ _ _)
  have H10 : St W w (Im 1 (.slice pp6 vars.length cc7) vars.length (vars.flatMap strCell) :: Im 11 (.slice pp1 l.length cc2) l.length (l.flatMap condCell) :: F) := H9
  refine calls_of_go (n := 55) Try.func5 rfl Try.ntmps5 rfl ?_
  refine g_seq ?_
  refine g_region ?_
  refine r_cons (s_assign (.bool false) rfl rfl ?_)
  refine r_nil ?_
  refine g_seq ?_
  refine g_seq ?_
  refine g_region ?_
  refine r_cons (s_call [] pl_8 rfl rfl (pred_live H10) ?_)
  rintro _ w11 ⟨rfl, H12⟩
  refine r_cons (s_not true rfl false rfl rfl ?_)
  refine r_nil ?_
  refine g_false rfl ?_
  refine g_skip ?_
  refine g_seq ?_
  refine g_seq ?_
  refine g_region ?_
  refine r_cons (s_move (.slice pp1 l.length cc2) rfl rfl ?_)
  refine r_cons (s_len l.length rfl ⟨_, un_28⟩ rfl ?_)
  refine r_cons (s_move (.int .i64 0) rfl rfl ?_)
  refine r_nil ?_
  refine g_block ?_
  obtain ⟨pA13, cA14, gA15, oA16, kA17, eA18, zA19, he25, hn20, hp21, hx22, hs23, hml, H24⟩ := Im.open_ H12 (i := 1) rfl
  obtain ⟨rfl, rfl⟩ : pp1 = pA13 ∧ cc2 = cA14 := by injection he25 with a_ b_ c_; exact ⟨a_, c_⟩
  have H26 : St W w11 (imi (0 < l.length) gA15 (.cells kA17 eA18 zA19) :: Im 1 (.slice pp6 vars.length cc7) vars.length (vars.flatMap strCell) :: Im 11 (.slice pp1 l.length cc2) l.length (l.flatMap condCell) :: F) := (((H24.move 2 rfl).move 2 rfl).move 2 rfl)
  refine g_loop_inv (fun (x_ : Nat) => match x_ with | j => [(0, .slice pp1 l.length cc2), (1, .slice pp6 vars.length cc7), (4, .bool false), (13, .slice pp1 l.length cc2), (14, .int .i64 (l.length : Int)), (15, .int .i64 (j : Int))]) (fun (x_ : Nat) w => match x_ with | j => (j ≤ l.length) ∧ (∀ q, q < j → sameCd (l.getD q default) (l.getD q default) = true) ∧ St W w (imi (0 < l.length) gA15 (.cells kA17 eA18 zA19) :: Im 1 (.slice pp6 vars.length cc7) vars.length (vars.flatMap strCell) :: Im 11 (.slice pp1 l.length cc2) l.length (l.flatMap condCell) :: F)) (fun (x_ : Nat) => match x_ with | j => l.length - j) (0) ?_ ?_ ?_
  · exact ⟨by first | rfl | exact vint (by omega), by first | rfl | exact vint (by omega), by first | rfl | exact vint (by omega), by first | rfl | exact vint (by omega), by first | rfl | exact vint (by omega), by first | rfl | exact vint (by omega), trivial⟩
  · exact ⟨(by omega), (fun q hq => by omega), H26⟩
  · rintro j ρ27 w28 ⟨hjn, hz, H29⟩ nx30
    change Ends _ _ (upds ρ27 [(0, .slice pp1 l.length cc2), (1, .slice pp6 vars.length cc7), (4, .bool false), (13, .slice pp1 l.length cc2), (14, .int .i64 (l.length : Int)), (15, .int .i64 (j : Int))]) w28
    refine g_seq ?_
    refine g_region ?_
    by_cases hc31 : (j : Int) < (l.length : Int)
    · skip
      refine r_cons (s_lss true rfl rfl (dtrue hc31) rfl ?_)
      refine r_nil ?_
      refine g_seq ?_
      refine g_true rfl ?_
      refine g_skip ?_
      refine g_seq ?_
      refine g_block ?_
      refine g_seq ?_
      refine g_region ?_
      refine r_cons (s_indexAddr gA15 (off := oA16) (j : Int) 11 (oA16 + j * 11) (by exact congrArg (fun z_ => Value.slice z_ l.length cc2) (hp21 (by omega))) rfl el_28 (by omega) rfl rfl ?_)
      refine r_cons (s_loadAgg [.string ((l.getD j default).left.var.v), .string ((l.getD j default).left.attr.v), .int .i64 ((l.getD j default).left.val.kind.v), .int .i64 ((l.getD j default).left.val.n.v), .string ((l.getD j default).left.val.s.v), .int .i64 ((l.getD j default).rel.v), .string ((l.getD j default).right.var.v), .string ((l.getD j default).right.attr.v), .int .i64 ((l.getD j default).right.val.kind.v), .int .i64 ((l.getD j default).right.val.n.v), .string ((l.getD j default).right.val.s.v)] 11 ag_27 rfl (H29.imi_at (i := 0) rfl (by omega)) (by have := elem_size (i := j) (s := 11) (hs23 (by omega)) (by omega); omega) (elem_take condCell_len (hx22 (by omega)) (by omega) default) rfl ?_)
      refine r_cons (s_alloc H29 27 ze_27 rfl ?_); intro bk32 w33 H34
      refine r_cons (s_storeAgg H34 0 #[.string ((l.getD j default).left.var.v), .string ((l.getD j default).left.attr.v), .int .i64 ((l.getD j default).left.val.kind.v), .int .i64 ((l.getD j default).left.val.n.v), .string ((l.getD j default).left.val.s.v), .int .i64 ((l.getD j default).rel.v), .string ((l.getD j default).right.var.v), .string ((l.getD j default).right.attr.v), .int .i64 ((l.getD j default).right.val.kind.v), .int .i64 ((l.getD j default).right.val.n.v), .string ((l.getD j default).right.val.s.v)] 11 rfl rfl rfl sz_27 rfl (by simp [Value.oneCell']) (Nat.le_of_ble_eq_true rfl) (fun o h1 h2 => by first | (simp; done) | (simp; omega)) (cs' := #[.string ((l.getD j default).left.var.v), .string ((l.getD j default).left.attr.v), .int .i64 ((l.getD j default).left.val.kind.v), .int .i64 ((l.getD j default).left.val.n.v), .string ((l.getD j default).left.val.s.v), .int .i64 ((l.getD j default).rel.v), .string ((l.getD j default).right.var.v), .string ((l.getD j default).right.attr.v), .int .i64 ((l.getD j default).right.val.kind.v), .int .i64 ((l.getD j default).right.val.n.v), .string ((l.getD j default).right.val.s.v)]) (by kernel_rfl) ?_); intro w35 H36
      refine r_nil ?_
      refine g_seq ?_
      refine g_mix (fun t_ w => St W w (blk bk32 (.cells #[.string ((l.getD j default).left.var.v), .string ((l.getD j default).left.attr.v), .int .i64 ((l.getD j default).left.val.kind.v), .int .i64 ((l.getD j default).left.val.n.v), .string ((l.getD j default).left.val.s.v), .int .i64 ((l.getD j default).rel.v), .string ((l.getD j default).right.var.v), .string ((l.getD j default).right.attr.v), .int .i64 ((l.getD j default).right.val.kind.v), .int .i64 ((l.getD j default).right.val.n.v), .string ((l.getD j default).right.val.s.v)] 27 (0, 0)) :: imi (0 < l.length) gA15 (.cells kA17 eA18 zA19) :: Im 1 (.slice pp6 vars.length cc7) vars.length (vars.flatMap strCell) :: Im 11 (.slice pp1 l.length cc2) l.length (l.flatMap condCell) :: t_)) F mixed 15 rfl H36.drew ?_
      refine f_first 0 (listed' := #[true, false, false, false, false, false, false, false, false, false, false, false, false, false, false]) rfl (by kernel_rfl) (by kernel_rfl) (by kernel_rfl) rfl ?_
      refine f_val rfl rfl rfl (by intro t_ w hw; exact x_loadAgg [.string ((l.getD j default).left.var.v), .string ((l.getD j default).left.attr.v), .int .i64 ((l.getD j default).left.val.kind.v), .int .i64 ((l.getD j default).left.val.n.v), .string ((l.getD j default).left.val.s.v), .int .i64 ((l.getD j default).rel.v), .string ((l.getD j default).right.var.v), .string ((l.getD j default).right.attr.v), .int .i64 ((l.getD j default).right.val.kind.v), .int .i64 ((l.getD j default).right.val.n.v), .string ((l.getD j default).right.val.s.v)] 11 ag_27 rfl (hw.blk_at (i := 0) rfl) (Nat.le_of_ble_eq_true rfl) rfl) ?_
      refine f_first 2 (listed' := #[true, false, true, false, false, false, false, false, false, false, false, false, false, false, false]) rfl (by kernel_rfl) (by kernel_rfl) (by kernel_rfl) rfl ?_
      refine f_val rfl rfl rfl (by intro t_ w hw; exact x_loadAgg [.string ((l.getD j default).left.var.v), .string ((l.getD j default).left.attr.v), .int .i64 ((l.getD j default).left.val.kind.v), .int .i64 ((l.getD j default).left.val.n.v), .string ((l.getD j default).left.val.s.v), .int .i64 ((l.getD j default).rel.v), .string ((l.getD j default).right.var.v), .string ((l.getD j default).right.attr.v), .int .i64 ((l.getD j default).right.val.kind.v), .int .i64 ((l.getD j default).right.val.n.v), .string ((l.getD j default).right.val.s.v)] 11 ag_27 rfl (hw.blk_at (i := 0) rfl) (Nat.le_of_ble_eq_true rfl) rfl) ?_
      refine f_all (rs := [1]) (by kernel_rfl) (by simp) ?_
      refine a_cons ⟨_, rfl, ?_⟩ (fun x hx => absurd hx (by simp))
      intro w37 H38
      try dsimp only at H38
      refine s_call [.agg #[.string ((l.getD j default).left.var.v), .string ((l.getD j default).left.attr.v), .int .i64 ((l.getD j default).left.val.kind.v), .int .i64 ((l.getD j default).left.val.n.v), .string ((l.getD j default).left.val.s.v), .int .i64 ((l.getD j default).rel.v), .string ((l.getD j default).right.var.v), .string ((l.getD j default).right.attr.v), .int .i64 ((l.getD j default).right.val.kind.v), .int .i64 ((l.getD j default).right.val.n.v), .string ((l.getD j default).right.val.s.v)]] pl_20 rfl rfl (pred_Names (l.getD j default) H38) ?_
      rintro _ w41 ⟨pp39, cc40, rfl, H42⟩
      have H43 : St W w41 (blk bk32 (.cells #[.string ((l.getD j default).left.var.v), .string ((l.getD j default).left.attr.v), .int .i64 ((l.getD j default).left.val.kind.v), .int .i64 ((l.getD j default).left.val.n.v), .string ((l.getD j default).left.val.s.v), .int .i64 ((l.getD j default).rel.v), .string ((l.getD j default).right.var.v), .string ((l.getD j default).right.attr.v), .int .i64 ((l.getD j default).right.val.kind.v), .int .i64 ((l.getD j default).right.val.n.v), .string ((l.getD j default).right.val.s.v)] 27 (0, 0)) :: imi (0 < l.length) gA15 (.cells kA17 eA18 zA19) :: Im 1 (.slice pp6 vars.length cc7) vars.length (vars.flatMap strCell) :: Im 11 (.slice pp1 l.length cc2) l.length (l.flatMap condCell) :: Im 1 (.slice pp39 ((namesV (l.getD j default)).length) cc40) ((namesV (l.getD j default)).length) ((namesV (l.getD j default)).flatMap strCell) :: F) := ((((H42.move 4 rfl).move 4 rfl).move 4 rfl).move 4 rfl)
      refine ⟨Im 1 (.slice pp39 ((namesV (l.getD j default)).length) cc40) ((namesV (l.getD j default)).length) ((namesV (l.getD j default)).flatMap strCell) :: F, ?_, H43⟩
      change FReg _ _ _ _ _ #[true, true, true, false, false, false, false, false, false, false, false, false, false, false, false] _ _
      refine f_all (rs := [3]) (by kernel_rfl) (by simp) ?_
      refine a_cons ⟨_, rfl, ?_⟩ (fun x hx => absurd hx (by simp))
      intro w44 H45
      try dsimp only at H45
      refine s_call [.agg #[.string ((l.getD j default).left.var.v), .string ((l.getD j default).left.attr.v), .int .i64 ((l.getD j default).left.val.kind.v), .int .i64 ((l.getD j default).left.val.n.v), .string ((l.getD j default).left.val.s.v), .int .i64 ((l.getD j default).rel.v), .string ((l.getD j default).right.var.v), .string ((l.getD j default).right.attr.v), .int .i64 ((l.getD j default).right.val.kind.v), .int .i64 ((l.getD j default).right.val.n.v), .string ((l.getD j default).right.val.s.v)]] pl_21 rfl rfl (ref09_Names (l.getD j default) H45) ?_
      rintro _ w48 ⟨pp46, cc47, rfl, H49⟩
      have H50 : St W w48 (blk bk32 (.cells #[.string ((l.getD j default).left.var.v), .string ((l.getD j default).left.attr.v), .int .i64 ((l.getD j default).left.val.kind.v), .int .i64 ((l.getD j default).left.val.n.v), .string ((l.getD j default).left.val.s.v), .int .i64 ((l.getD j default).rel.v), .string ((l.getD j default).right.var.v), .string ((l.getD j default).right.attr.v), .int .i64 ((l.getD j default).right.val.kind.v), .int .i64 ((l.getD j default).right.val.n.v), .string ((l.getD j default).right.val.s.v)] 27 (0, 0)) :: imi (0 < l.length) gA15 (.cells kA17 eA18 zA19) :: Im 1 (.slice pp6 vars.length cc7) vars.length (vars.flatMap strCell) :: Im 11 (.slice pp1 l.length cc2) l.length (l.flatMap condCell) :: Im 1 (.slice pp46 ((namesV (l.getD j default)).length) cc47) ((namesV (l.getD j default)).length) ((namesV (l.getD j default)).flatMap strCell) :: Im 1 (.slice pp39 ((namesV (l.getD j default)).length) cc40) ((namesV (l.getD j default)).length) ((namesV (l.getD j default)).flatMap strCell) :: F) := ((((((H49.move 5 rfl).move 1 rfl).move 5 rfl).move 5 rfl).move 5 rfl).move 5 rfl)
      refine ⟨Im 1 (.slice pp46 ((namesV (l.getD j default)).length) cc47) ((namesV (l.getD j default)).length) ((namesV (l.getD j default)).flatMap strCell) :: Im 1 (.slice pp39 ((namesV (l.getD j default)).length) cc40) ((namesV (l.getD j default)).length) ((namesV (l.getD j default)).flatMap strCell) :: F, ?_, H50⟩
      change FReg _ _ _ _ _ #[true, true, true, true, false, false, false, false, false, false, false, false, false, false, false] _ _
      refine f_all (rs := [4]) (by kernel_rfl) (by simp) ?_
      refine a_cons ⟨_, rfl, ?_⟩ (fun x hx => absurd hx (by simp))
      intro w51 H52
      try dsimp only at H52
      refine s_call [.slice pp39 ((namesV (l.getD j default)).length) cc40, .slice pp46 ((namesV (l.getD j default)).length) cc47] pl_19 rfl rfl (Equal_str (namesV (l.getD j default)) (namesV (l.getD j default)) (.slice pp39 ((namesV (l.getD j default)).length) cc40) (.slice pp46 ((namesV (l.getD j default)).length) cc47) (m := 5) rfl (n := 4) rfl H52) ?_
      rintro _ w53 ⟨rfl, H54⟩
      refine ⟨Im 1 (.slice pp46 ((namesV (l.getD j default)).length) cc47) ((namesV (l.getD j default)).length) ((namesV (l.getD j default)).flatMap strCell) :: Im 1 (.slice pp39 ((namesV (l.getD j default)).length) cc40) ((namesV (l.getD j default)).length) ((namesV (l.getD j default)).flatMap strCell) :: F, ?_, H54⟩
      change FReg _ _ _ _ _ #[true, true, true, true, true, false, false, false, false, false, false, false, false, false, false] _ _
      refine f_first 5 (listed' := #[true, true, true, true, true, true, false, false, false, false, false, false, false, false, false]) rfl (by kernel_rfl) (by kernel_rfl) (by kernel_rfl) rfl ?_
      refine f_val rfl rfl rfl (by intro t_ w hw; exact x_not (eqS (namesV (l.getD j default)) (namesV (l.getD j default))) rfl false (by rw [(eqS_refl _)]; rfl) w) ?_
      refine f_first 6 (listed' := #[true, true, true, true, true, true, true, false, false, false, false, false, false, false, false]) rfl (by kernel_rfl) (by kernel_rfl) (by kernel_rfl) rfl ?_
      refine f_val rfl rfl rfl (by intro t_ w hw; exact x_move (.bool false) rfl w) ?_
      refine f_first 7 (listed' := #[true, true, true, true, true, true, true, true, false, false, false, false, false, false, false]) rfl (by kernel_rfl) (by kernel_rfl) (by kernel_rfl) rfl ?_
      refine f_take rfl rfl ?_
      refine f_val rfl rfl rfl (by intro t_ w hw; exact x_loadAgg [.string ((l.getD j default).left.var.v), .string ((l.getD j default).left.attr.v), .int .i64 ((l.getD j default).left.val.kind.v), .int .i64 ((l.getD j default).left.val.n.v), .string ((l.getD j default).left.val.s.v), .int .i64 ((l.getD j default).rel.v), .string ((l.getD j default).right.var.v), .string ((l.getD j default).right.attr.v), .int .i64 ((l.getD j default).right.val.kind.v), .int .i64 ((l.getD j default).right.val.n.v), .string ((l.getD j default).right.val.s.v)] 11 ag_27 rfl (hw.blk_at (i := 0) rfl) (Nat.le_of_ble_eq_true rfl) rfl) ?_
      refine f_first 8 (listed' := #[true, true, true, true, true, true, true, true, true, false, false, false, false, false, false]) rfl (by kernel_rfl) (by kernel_rfl) (by kernel_rfl) rfl ?_
      refine f_take rfl rfl ?_
      refine f_val rfl rfl rfl (by intro t_ w hw; exact x_move (.slice pp6 vars.length cc7) rfl w) ?_
      refine f_first 9 (listed' := #[true, true, true, true, true, true, true, true, true, true, false, false, false, false, false]) rfl (by kernel_rfl) (by kernel_rfl) (by kernel_rfl) rfl ?_
      refine f_take rfl rfl ?_
      refine f_enter (args := #[.agg #[.string ((l.getD j default).left.var.v), .string ((l.getD j default).left.attr.v), .int .i64 ((l.getD j default).left.val.kind.v), .int .i64 ((l.getD j default).left.val.n.v), .string ((l.getD j default).left.val.s.v), .int .i64 ((l.getD j default).rel.v), .string ((l.getD j default).right.var.v), .string ((l.getD j default).right.attr.v), .int .i64 ((l.getD j default).right.val.kind.v), .int .i64 ((l.getD j default).right.val.n.v), .string ((l.getD j default).right.val.s.v)], .slice pp6 vars.length cc7]) (v := .bool (readyB (l.getD j default) vars)) rfl rfl rfl (x_call pl_22 [.agg #[.string ((l.getD j default).left.var.v), .string ((l.getD j default).left.attr.v), .int .i64 ((l.getD j default).left.val.kind.v), .int .i64 ((l.getD j default).left.val.n.v), .string ((l.getD j default).left.val.s.v), .int .i64 ((l.getD j default).rel.v), .string ((l.getD j default).right.var.v), .string ((l.getD j default).right.attr.v), .int .i64 ((l.getD j default).right.val.kind.v), .int .i64 ((l.getD j default).right.val.n.v), .string ((l.getD j default).right.val.s.v)], .slice pp6 vars.length cc7] rfl) (fun t_ w hw => pred_Ready (l.getD j default) vars (.slice pp6 vars.length cc7) (jv := 2) rfl hw) ?_
      refine f_first 10 (listed' := #[true, true, true, true, true, true, true, true, true, true, true, false, false, false, false]) rfl (by kernel_rfl) (by kernel_rfl) (by kernel_rfl) rfl ?_
      refine f_take rfl rfl ?_
      refine f_val rfl rfl rfl (by intro t_ w hw; exact x_loadAgg [.string ((l.getD j default).left.var.v), .string ((l.getD j default).left.attr.v), .int .i64 ((l.getD j default).left.val.kind.v), .int .i64 ((l.getD j default).left.val.n.v), .string ((l.getD j default).left.val.s.v), .int .i64 ((l.getD j default).rel.v), .string ((l.getD j default).right.var.v), .string ((l.getD j default).right.attr.v), .int .i64 ((l.getD j default).right.val.kind.v), .int .i64 ((l.getD j default).right.val.n.v), .string ((l.getD j default).right.val.s.v)] 11 ag_27 rfl (hw.blk_at (i := 0) rfl) (Nat.le_of_ble_eq_true rfl) rfl) ?_
      refine f_first 11 (listed' := #[true, true, true, true, true, true, true, true, true, true, true, true, false, false, false]) rfl (by kernel_rfl) (by kernel_rfl) (by kernel_rfl) rfl ?_
      refine f_take rfl rfl ?_
      refine f_val rfl rfl rfl (by intro t_ w hw; exact x_move (.slice pp6 vars.length cc7) rfl w) ?_
      refine f_first 12 (listed' := #[true, true, true, true, true, true, true, true, true, true, true, true, true, false, false]) rfl (by kernel_rfl) (by kernel_rfl) (by kernel_rfl) rfl ?_
      refine f_take rfl rfl ?_
      refine f_enter (args := #[.agg #[.string ((l.getD j default).left.var.v), .string ((l.getD j default).left.attr.v), .int .i64 ((l.getD j default).left.val.kind.v), .int .i64 ((l.getD j default).left.val.n.v), .string ((l.getD j default).left.val.s.v), .int .i64 ((l.getD j default).rel.v), .string ((l.getD j default).right.var.v), .string ((l.getD j default).right.attr.v), .int .i64 ((l.getD j default).right.val.kind.v), .int .i64 ((l.getD j default).right.val.n.v), .string ((l.getD j default).right.val.s.v)], .slice pp6 vars.length cc7]) (v := .bool (readyB (l.getD j default) vars)) rfl rfl rfl (x_call pl_23 [.agg #[.string ((l.getD j default).left.var.v), .string ((l.getD j default).left.attr.v), .int .i64 ((l.getD j default).left.val.kind.v), .int .i64 ((l.getD j default).left.val.n.v), .string ((l.getD j default).left.val.s.v), .int .i64 ((l.getD j default).rel.v), .string ((l.getD j default).right.var.v), .string ((l.getD j default).right.attr.v), .int .i64 ((l.getD j default).right.val.kind.v), .int .i64 ((l.getD j default).right.val.n.v), .string ((l.getD j default).right.val.s.v)], .slice pp6 vars.length cc7] rfl) (fun t_ w hw => ref09_Ready (l.getD j default) vars (.slice pp6 vars.length cc7) (jv := 2) rfl hw) ?_
      refine f_first 13 (listed' := #[true, true, true, true, true, true, true, true, true, true, true, true, true, true, false]) rfl (by kernel_rfl) (by kernel_rfl) (by kernel_rfl) rfl ?_
      refine f_take rfl rfl ?_
      refine f_val rfl rfl rfl (by intro t_ w hw; exact x_bneq false un_4 rfl rfl (ntrue rfl) w) ?_
      refine f_first 14 (listed' := #[true, true, true, true, true, true, true, true, true, true, true, true, true, true, true]) rfl (by kernel_rfl) (by kernel_rfl) (by kernel_rfl) rfl ?_
      refine f_val rfl rfl rfl (by intro t_ w hw; exact x_pick_f (.bool false) rfl rfl w) ?_
      refine f_done (by kernel_rfl) ?_
      intro w55 H56
      refine g_false rfl ?_
      refine g_skip ?_
      refine g_inBlock ?_
      refine g_region ?_
      refine r_cons (s_add ((j : Int) + 1) rfl rfl (wi64 (by omega)) rfl ?_)
      refine r_cons (s_move (.int .i64 ((j : Int) + 1)) rfl rfl ?_)
      refine r_nil ?_
      have H57 : St W w55 (imi (0 < l.length) gA15 (.cells kA17 eA18 zA19) :: Im 1 (.slice pp6 vars.length cc7) vars.length (vars.flatMap strCell) :: Im 11 (.slice pp1 l.length cc2) l.length (l.flatMap condCell) :: F) := ((((((H56.move 3 rfl).move 3 rfl).move 3 rfl).drop 3 rfl).drop 3 rfl).drop 3 rfl)
      exact nx30 (j + 1) _ _ ⟨(by omega), (fun q hq => (Nat.lt_or_ge q j).elim (hz q) (fun h => by rw [show q = j from by omega]; exact sameCd_refl _)), H57⟩ (by first | (dsimp only; omega) | omega) ⟨by first | rfl | exact vint (by omega), by first | rfl | exact vint (by omega), by first | rfl | exact vint (by omega), by first | rfl | exact vint (by omega), by first | rfl | exact vint (by omega), by first | rfl | exact vint (by omega), trivial⟩
    · skip
      refine r_cons (s_lss false rfl rfl (dfalse hc31) rfl ?_)
      refine r_nil ?_
      refine g_seq ?_
      refine g_false rfl ?_
      refine g_exit (by rfl) ?_
      refine g_seq ?_
      refine g_region ?_
      refine r_cons (s_move (.slice pp1 l.length cc2) rfl rfl ?_)
      refine r_cons (s_move (.slice pp6 vars.length cc7) rfl rfl ?_)
      refine r_cons (s_call [.slice pp1 l.length cc2, .slice pp6 vars.length cc7] pl_24 rfl rfl (pred_Split l (.slice pp1 l.length cc2) vars (.slice pp6 vars.length cc7) (m := 2) rfl (jv := 1) rfl hb H29) ?_)
      rintro _ w62 ⟨pp58, cc59, pp60, cc61, rfl, H63⟩
      refine r_cons (s_move (.tuple #[.slice pp58 ((pickB l vars true).length) cc59, .slice pp60 ((pickB l vars false).length) cc61]) rfl rfl ?_)
      refine r_cons (s_extract (.slice pp58 ((pickB l vars true).length) cc59) #[.slice pp58 ((pickB l vars true).length) cc59, .slice pp60 ((pickB l vars false).length) cc61] rfl rfl rfl ?_)
      refine r_cons (s_extract (.slice pp60 ((pickB l vars false).length) cc61) #[.slice pp58 ((pickB l vars true).length) cc59, .slice pp60 ((pickB l vars false).length) cc61] rfl rfl rfl ?_)
      refine r_cons (s_assign (.slice pp58 ((pickB l vars true).length) cc59) rfl rfl ?_)
      refine r_cons (s_assign (.slice pp60 ((pickB l vars false).length) cc61) rfl rfl ?_)
      refine r_nil ?_
      refine g_seq ?_
      refine g_region ?_
      refine r_cons (s_move (.slice pp1 l.length cc2) rfl rfl ?_)
      refine r_cons (s_move (.slice pp6 vars.length cc7) rfl rfl ?_)
      refine r_cons (s_call [.slice pp1 l.length cc2, .slice pp6 vars.length cc7] pl_25 rfl rfl (ref09_Split l (.slice pp1 l.length cc2) vars (.slice pp6 vars.length cc7) (m := 4) rfl (jv := 3) rfl hb H63) ?_)
      rintro _ w68 ⟨pp64, cc65, pp66, cc67, rfl, H69⟩
      refine r_cons (s_move (.tuple #[.slice pp64 ((pickB l vars true).length) cc65, .slice pp66 ((pickB l vars false).length) cc67]) rfl rfl ?_)
      refine r_cons (s_extract (.slice pp64 ((pickB l vars true).length) cc65) #[.slice pp64 ((pickB l vars true).length) cc65, .slice pp66 ((pickB l vars false).length) cc67] rfl rfl rfl ?_)
      refine r_cons (s_extract (.slice pp66 ((pickB l vars false).length) cc67) #[.slice pp64 ((pickB l vars true).length) cc65, .slice pp66 ((pickB l vars false).length) cc67] rfl rfl rfl ?_)
      refine r_cons (s_assign (.slice pp64 ((pickB l vars true).length) cc65) rfl rfl ?_)
      refine r_cons (s_assign (.slice pp66 ((pickB l vars false).length) cc67) rfl rfl ?_)
      refine r_nil ?_
      refine g_seq ?_
      refine g_region ?_
      refine r_cons (s_move (.slice pp58 ((pickB l vars true).length) cc59) rfl rfl ?_)
      refine r_cons (s_move (.slice pp64 ((pickB l vars true).length) cc65) rfl rfl ?_)
      refine r_cons (s_call [.slice pp58 ((pickB l vars true).length) cc59, .slice pp64 ((pickB l vars true).length) cc65] pl_26 rfl rfl (ref07_SameConds (pickB l vars true) (.slice pp58 ((pickB l vars true).length) cc59) (.slice pp64 ((pickB l vars true).length) cc65) (m := 2) rfl (n := 0) rfl H69) ?_)
      rintro _ w70 ⟨rfl, H71⟩
      refine r_cons (s_move (.bool true) rfl rfl ?_)
      refine r_cons (r_take rfl rfl ?_)
      refine s_move (.slice pp60 ((pickB l vars false).length) cc61) rfl rfl ?_
      refine r_cons (r_take rfl rfl ?_)
      refine s_move (.slice pp66 ((pickB l vars false).length) cc67) rfl rfl ?_
      refine r_cons (r_take rfl rfl ?_)
      refine s_call [.slice pp60 ((pickB l vars false).length) cc61, .slice pp66 ((pickB l vars false).length) cc67] pl_26 rfl rfl (ref07_SameConds (pickB l vars false) (.slice pp60 ((pickB l vars false).length) cc61) (.slice pp66 ((pickB l vars false).length) cc67) (m := 3) rfl (n := 1) rfl H71) ?_
      rintro _ w72 ⟨rfl, H73⟩
      refine r_cons (s_pick_t (.bool true) rfl rfl rfl ?_)
      refine r_cons (s_assign (.bool true) rfl rfl ?_)
      refine r_nil ?_
      refine g_ret' [.bool true] Try.func5 Try.results5 ⟨rfl, trivial⟩ ?_
      have H74 : St W w72 F := (((((((H73.drop 0 rfl).drop 0 rfl).drop 0 rfl).drop 0 rfl).drop 0 rfl).drop 0 rfl).drop 0 rfl)
      exact ⟨rfl, H74⟩
end Sl
