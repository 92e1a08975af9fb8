/- Walks of the program's functions. Printed by a program of this claim's author. No condition. -/
import Derived.Test.YteogdknlofcpiaaSlBA
import Derived.Test.YteogdknlofcpiaaSlDB
import Derived.Test.YteogdknlofcpiaaSlQ
import Derived.Test.YteogdknlofcpiaaSlR
import Derived.Test.YteogdknlofcpiaaSlDK
import Derived.Test.YteogdknlofcpiaaSlDM
import Derived.Test.YteogdknlofcpiaaSlDN
import Derived.Test.YteogdknlofcpiaaProg
import Derived.Test.YteogdknlofcpiaaWalkMigrateEpochs1
namespace Sl
open _root_.Go _root_.Go.RowKit _root_.Go.Proofs
set_option linter.all false
set_option maxHeartbeats 4000000 in
set_option maxRecDepth 100000 in
theorem ref24_CheckItem {W w : World} {F : List Atom} (x : ItemD) {ip : Nat} (hp : F[ip]? = some (Im 6 (.slice x.p x.bs.length x.c) x.bs.length (x.bs.flatMap bndCell))) {iq : Nat} (hq : F[iq]? = some (bndsA x.bs)) (H : St W w F) : Calls Try.prog 11 #[.agg #[.int .i64 x.op.v, .int .i64 x.inp.v, .int .i64 x.ep.v, .int .i64 x.kind.v, .slice x.p x.bs.length x.c, .int .i64 x.t.v]] w (Ret fun v w' => v = .int .i64 (itE x) ∧ St W w' F) := by
  have H1 := (H.dup (i := ip + 0) (by exact hp) (Im_pers _ _ _ _)).dup (i := iq + 1) (by exact hq) (bndsA_pers _)
  have H2 : St W w (bndsA x.bs :: Im 6 (.slice x.p x.bs.length x.c) x.bs.length (x.bs.flatMap bndCell) :: F) := H1
  refine calls_of_go (n := 75) Try.func11 rfl Try.ntmps11 rfl ?_
  refine g_seq ?_
  refine g_region ?_
  refine r_cons (s_box H2 32 (.agg #[.int .i64 x.op.v, .int .i64 x.inp.v, .int .i64 x.ep.v, .int .i64 x.kind.v, .slice x.p x.bs.length x.c, .int .i64 x.t.v]) rfl (cs := #[.int .i64 x.op.v, .int .i64 x.inp.v, .int .i64 x.ep.v, .int .i64 x.kind.v, .slice x.p x.bs.length x.c, .int .i64 x.t.v]) rfl rfl ?_); intro bk3 w4 H5
  refine r_cons (s_assign (.int .i64 0) rfl rfl ?_)
  refine r_nil ?_
  refine g_seq ?_
  refine g_seq ?_
  refine g_region ?_
  refine r_cons (s_fieldAddr 32 0 0 0 3 rfl fi_32_0 rfl rfl ?_)
  refine r_cons (s_load (.int .i64 x.op.v) ag_3 rfl (H5.blk_at (i := 0) rfl) rfl rfl ?_)
  refine r_cons (s_call [.int .i64 x.op.v] pl_60 rfl rfl (ref24_time x.op.v H5) ?_)
  rintro _ w6 ⟨rfl, H7⟩
  refine r_cons (s_not (timeB x.op.v) rfl (!(timeB x.op.v)) rfl rfl ?_)
  refine r_cons (s_move (.bool (!(timeB x.op.v))) rfl rfl ?_)
  by_cases hb8 : (!(timeB x.op.v)) = true
  · skip
    refine r_cons (r_pass rfl (congrArg some hb8) rfl rfl rfl ?_)
    refine r_cons (r_pass rfl (congrArg some hb8) rfl rfl rfl ?_)
    refine r_cons (r_pass rfl (congrArg some hb8) rfl rfl rfl ?_)
    refine r_cons (r_pass rfl (congrArg some hb8) rfl rfl rfl ?_)
    refine r_cons (s_pick_t (.bool true) (by exact congrArg Value.bool hb8) rfl rfl ?_)
    refine r_cons (s_move (.bool true) rfl rfl ?_)
    refine r_cons (r_pass rfl rfl rfl rfl rfl ?_)
    refine r_cons (r_pass rfl rfl rfl rfl rfl ?_)
    refine r_cons (r_pass rfl rfl rfl rfl rfl ?_)
    refine r_cons (r_pass rfl rfl rfl rfl rfl ?_)
    refine r_cons (s_pick_t (.bool true) rfl rfl rfl ?_)
    refine r_cons (s_move (.bool true) rfl rfl ?_)
    refine r_cons (r_pass rfl rfl rfl rfl rfl ?_)
    refine r_cons (r_pass rfl rfl rfl rfl rfl ?_)
    refine r_cons (r_pass rfl rfl rfl rfl rfl ?_)
    refine r_cons (r_pass rfl rfl rfl rfl rfl ?_)
    refine r_cons (r_passN rfl rfl rfl rfl ?_)
    refine r_cons (r_passN rfl rfl rfl rfl ?_)
    refine r_cons (r_passN rfl rfl rfl rfl ?_)
    refine r_cons (r_pass rfl rfl rfl rfl rfl ?_)
    refine r_cons (r_pass rfl rfl rfl rfl rfl ?_)
    refine r_cons (r_passN rfl rfl rfl rfl ?_)
    refine r_cons (r_passN rfl rfl rfl rfl ?_)
    refine r_cons (r_passN rfl rfl rfl rfl ?_)
    refine r_cons (r_pass rfl rfl rfl rfl rfl ?_)
    refine r_cons (s_pick_t (.bool true) rfl rfl rfl ?_)
    refine r_nil ?_
    refine g_true rfl ?_
    refine g_seq ?_
    refine g_region ?_
    refine r_cons (s_assign (.int .i64 243) rfl rfl ?_)
    refine r_nil ?_
    refine g_ret' [.int .i64 243] Try.func11 Try.results11 ⟨rfl, trivial⟩ ?_
    have H9 : St W w6 F := (((H7.drop 0 rfl).drop 0 rfl).drop 0 rfl)
    exact ⟨vint (itE_243 (by first | exact bad_t3 (by assumption) | exact bad_1 (by first | assumption | exact nottrue (by assumption)) | exact bad_2 (by first | assumption | exact nottrue (by assumption)) | exact bad_3 (by first | assumption | exact nottrue (by assumption)) | exact bad_4 (by omega))).symm, H9⟩
  · have hb8 := eq_false_of_ne_true hb8
    refine r_cons (r_take rfl (congrArg some hb8) ?_)
    refine s_fieldAddr 32 1 1 1 3 rfl fi_32_1 rfl rfl ?_
    refine r_cons (r_take rfl (congrArg some hb8) ?_)
    refine s_load (.int .i64 x.inp.v) ag_3 rfl (H7.blk_at (i := 0) rfl) rfl rfl ?_
    refine r_cons (r_take rfl (congrArg some hb8) ?_)
    refine s_call [.int .i64 x.inp.v] pl_60 rfl rfl (ref24_time x.inp.v H7) ?_
    rintro _ w10 ⟨rfl, H11⟩
    refine r_cons (r_take rfl (congrArg some hb8) ?_)
    refine s_not (timeB x.inp.v) rfl (!(timeB x.inp.v)) rfl rfl ?_
    refine r_cons (s_pick_f (.bool (!(timeB x.inp.v))) (by exact congrArg Value.bool hb8) rfl rfl ?_)
    refine r_cons (s_move (.bool (!(timeB x.inp.v))) rfl rfl ?_)
    by_cases hb12 : (!(timeB x.inp.v)) = true
    · skip
      refine r_cons (r_pass rfl (congrArg some hb12) rfl rfl rfl ?_)
      refine r_cons (r_pass rfl (congrArg some hb12) rfl rfl rfl ?_)
      refine r_cons (r_pass rfl (congrArg some hb12) rfl rfl rfl ?_)
      refine r_cons (r_pass rfl (congrArg some hb12) rfl rfl rfl ?_)
      refine r_cons (s_pick_t (.bool true) (by exact congrArg Value.bool hb12) rfl rfl ?_)
      refine r_cons (s_move (.bool true) rfl rfl ?_)
      refine r_cons (r_pass rfl rfl rfl rfl rfl ?_)
      refine r_cons (r_pass rfl rfl rfl rfl rfl ?_)
      refine r_cons (r_pass rfl rfl rfl rfl rfl ?_)
      refine r_cons (r_pass rfl rfl rfl rfl rfl ?_)
      refine r_cons (r_passN rfl rfl rfl rfl ?_)
      refine r_cons (r_passN rfl rfl rfl rfl ?_)
      refine r_cons (r_passN rfl rfl rfl rfl ?_)
      refine r_cons (r_pass rfl rfl rfl rfl rfl ?_)
      refine r_cons (r_pass rfl rfl rfl rfl rfl ?_)
      refine r_cons (r_passN rfl rfl rfl rfl ?_)
      refine r_cons (r_passN rfl rfl rfl rfl ?_)
      refine r_cons (r_passN rfl rfl rfl rfl ?_)
      refine r_cons (r_pass rfl rfl rfl rfl rfl ?_)
      refine r_cons (s_pick_t (.bool true) rfl rfl rfl ?_)
      refine r_nil ?_
      refine g_true rfl ?_
      refine g_seq ?_
      refine g_region ?_
      refine r_cons (s_assign (.int .i64 243) rfl rfl ?_)
      refine r_nil ?_
      refine g_ret' [.int .i64 243] Try.func11 Try.results11 ⟨rfl, trivial⟩ ?_
      have H13 : St W w10 F := (((H11.drop 0 rfl).drop 0 rfl).drop 0 rfl)
      exact ⟨vint (itE_243 (by first | exact bad_t3 (by assumption) | exact bad_1 (by first | assumption | exact nottrue (by assumption)) | exact bad_2 (by first | assumption | exact nottrue (by assumption)) | exact bad_3 (by first | assumption | exact nottrue (by assumption)) | exact bad_4 (by omega))).symm, H13⟩
    · have hb12 := eq_false_of_ne_true hb12
      refine r_cons (r_take rfl (congrArg some hb12) ?_)
      refine s_fieldAddr 32 2 2 2 2 rfl fi_32_2 rfl rfl ?_
      refine r_cons (r_take rfl (congrArg some hb12) ?_)
      refine s_load (.int .i64 x.ep.v) ag_2 rfl (H11.blk_at (i := 0) rfl) rfl rfl ?_
      refine r_cons (r_take rfl (congrArg some hb12) ?_)
      refine s_call [.int .i64 x.ep.v] pl_60 rfl rfl (ref24_time x.ep.v H11) ?_
      rintro _ w14 ⟨rfl, H15⟩
      refine r_cons (r_take rfl (congrArg some hb12) ?_)
      refine s_not (timeB x.ep.v) rfl (!(timeB x.ep.v)) rfl rfl ?_
      refine r_cons (s_pick_f (.bool (!(timeB x.ep.v))) (by exact congrArg Value.bool hb12) rfl rfl ?_)
      refine r_cons (s_move (.bool (!(timeB x.ep.v))) rfl rfl ?_)
      by_cases hb16 : (!(timeB x.ep.v)) = true
      · skip
        refine r_cons (r_pass rfl (congrArg some hb16) rfl rfl rfl ?_)
        refine r_cons (r_pass rfl (congrArg some hb16) rfl rfl rfl ?_)
        refine r_cons (r_pass rfl (congrArg some hb16) rfl rfl rfl ?_)
        refine r_cons (r_pass rfl (congrArg some hb16) rfl rfl rfl ?_)
        refine r_cons (r_passN rfl rfl rfl rfl ?_)
        refine r_cons (r_passN rfl rfl rfl rfl ?_)
        refine r_cons (r_passN rfl rfl rfl rfl ?_)
        refine r_cons (r_pass rfl (congrArg some hb16) rfl rfl rfl ?_)
        refine r_cons (r_pass rfl (congrArg some hb16) rfl rfl rfl ?_)
        refine r_cons (r_passN rfl rfl rfl rfl ?_)
        refine r_cons (r_passN rfl rfl rfl rfl ?_)
        refine r_cons (r_passN rfl rfl rfl rfl ?_)
        refine r_cons (r_pass rfl (congrArg some hb16) rfl rfl rfl ?_)
        refine r_cons (s_pick_t (.bool true) (by exact congrArg Value.bool hb16) rfl rfl ?_)
        refine r_nil ?_
        refine g_true rfl ?_
        refine g_seq ?_
        refine g_region ?_
        refine r_cons (s_assign (.int .i64 243) rfl rfl ?_)
        refine r_nil ?_
        refine g_ret' [.int .i64 243] Try.func11 Try.results11 ⟨rfl, trivial⟩ ?_
        have H17 : St W w14 F := (((H15.drop 0 rfl).drop 0 rfl).drop 0 rfl)
        exact ⟨vint (itE_243 (by first | exact bad_t3 (by assumption) | exact bad_1 (by first | assumption | exact nottrue (by assumption)) | exact bad_2 (by first | assumption | exact nottrue (by assumption)) | exact bad_3 (by first | assumption | exact nottrue (by assumption)) | exact bad_4 (by omega))).symm, H17⟩
      · have hb16 := eq_false_of_ne_true hb16
        refine r_cons (r_take rfl (congrArg some hb16) ?_)
        refine s_fieldAddr 32 3 3 3 3 rfl fi_32_3 rfl rfl ?_
        refine r_cons (r_take rfl (congrArg some hb16) ?_)
        refine s_load (.int .i64 x.kind.v) ag_3 rfl (H15.blk_at (i := 0) rfl) rfl rfl ?_
        refine r_cons (r_take rfl (congrArg some hb16) ?_)
        by_cases hc18 : x.kind.v = 1
        · skip
          refine s_neq false rfl rfl (ntrue hc18) rfl ?_
          refine r_cons (r_take rfl (congrArg some hb16) ?_)
          refine s_move (.bool false) rfl rfl ?_
          refine r_cons (r_pass rfl rfl rfl rfl rfl ?_)
          refine r_cons (r_pass rfl rfl rfl rfl rfl ?_)
          refine r_cons (r_pass rfl rfl rfl rfl rfl ?_)
          refine r_cons (r_take rfl (congrArg some hb16) ?_)
          refine s_pick_f (.bool false) rfl rfl rfl ?_
          refine r_cons (r_take rfl (congrArg some hb16) ?_)
          refine s_move (.bool false) rfl rfl ?_
          refine r_cons (r_pass rfl rfl rfl rfl rfl ?_)
          refine r_cons (r_pass rfl rfl rfl rfl rfl ?_)
          refine r_cons (r_pass rfl rfl rfl rfl rfl ?_)
          refine r_cons (r_take rfl (congrArg some hb16) ?_)
          refine s_pick_f (.bool false) rfl rfl rfl ?_
          refine r_cons (s_pick_f (.bool false) (by exact congrArg Value.bool hb16) rfl rfl ?_)
          refine r_nil ?_
          refine g_false rfl ?_
          refine g_skip ?_
          refine g_seq ?_
          refine g_seq ?_
          refine g_region ?_
          refine r_cons (s_fieldAddr 32 3 3 3 3 rfl fi_32_3 rfl rfl ?_)
          refine r_cons (s_load (.int .i64 x.kind.v) ag_3 rfl (H15.blk_at (i := 0) rfl) rfl rfl ?_)
          refine r_cons (s_eql false rfl rfl (dfalse (by omega)) rfl ?_)
          refine r_cons (s_move (.bool false) rfl rfl ?_)
          refine r_cons (r_pass rfl rfl rfl rfl rfl ?_)
          refine r_cons (r_pass rfl rfl rfl rfl rfl ?_)
          refine r_cons (r_pass rfl rfl rfl rfl rfl ?_)
          refine r_cons (r_pass rfl rfl rfl rfl rfl ?_)
          refine r_cons (r_passN rfl rfl rfl rfl ?_)
          refine r_cons (r_passN rfl rfl rfl rfl ?_)
          refine r_cons (r_passN rfl rfl rfl rfl ?_)
          refine r_cons (r_pass rfl rfl rfl rfl rfl ?_)
          refine r_cons (s_pick_f (.bool false) rfl rfl rfl ?_)
          refine r_cons (s_move (.bool false) rfl rfl ?_)
          refine r_cons (r_take rfl rfl ?_)
          refine s_fieldAddr 32 3 3 3 3 rfl fi_32_3 rfl rfl ?_
          refine r_cons (r_take rfl rfl ?_)
          refine s_load (.int .i64 x.kind.v) ag_3 rfl (H15.blk_at (i := 0) rfl) rfl rfl ?_
          refine r_cons (r_take rfl rfl ?_)
          refine s_neq true rfl rfl (nfalse (by omega)) rfl ?_
          refine r_cons (r_take rfl rfl ?_)
          refine s_move (.bool true) rfl rfl ?_
          refine r_cons (r_take rfl rfl ?_)
          refine s_fieldAddr 32 5 5 5 2 rfl fi_32_5 rfl rfl ?_
          refine r_cons (r_take rfl rfl ?_)
          refine s_load (.int .i64 x.t.v) ag_2 rfl (H15.blk_at (i := 0) rfl) rfl rfl ?_
          refine r_cons (r_take rfl rfl ?_)
          by_cases hc19 : x.t.v = 0
          · skip
            refine s_neq false rfl rfl (ntrue hc19) rfl ?_
            refine r_cons (r_take rfl rfl ?_)
            refine s_pick_t (.bool false) rfl rfl rfl ?_
            refine r_cons (s_pick_f (.bool false) rfl rfl rfl ?_)
            refine r_cons (s_move (.bool false) rfl rfl ?_)
            refine r_cons (r_take rfl rfl ?_)
            refine s_fieldAddr 32 3 3 3 3 rfl fi_32_3 rfl rfl ?_
            refine r_cons (r_take rfl rfl ?_)
            refine s_load (.int .i64 x.kind.v) ag_3 rfl (H15.blk_at (i := 0) rfl) rfl rfl ?_
            refine r_cons (r_take rfl rfl ?_)
            refine s_neq false rfl rfl (ntrue (by omega)) rfl ?_
            refine r_cons (r_take rfl rfl ?_)
            refine s_move (.bool false) rfl rfl ?_
            refine r_cons (r_pass rfl rfl rfl rfl rfl ?_)
            refine r_cons (r_pass rfl rfl rfl rfl rfl ?_)
            refine r_cons (r_pass rfl rfl rfl rfl rfl ?_)
            refine r_cons (r_pass rfl rfl rfl rfl rfl ?_)
            refine r_cons (r_pass rfl rfl rfl rfl rfl ?_)
            refine r_cons (r_take rfl rfl ?_)
            refine s_pick_f (.bool false) rfl rfl rfl ?_
            refine r_cons (s_pick_f (.bool false) rfl rfl rfl ?_)
            refine r_nil ?_
            refine g_false rfl ?_
            refine g_skip ?_
            refine g_seq ?_
            refine g_seq ?_
            refine g_region ?_
            refine r_cons (s_fieldAddr 32 3 3 3 3 rfl fi_32_3 rfl rfl ?_)
            refine r_cons (s_load (.int .i64 x.kind.v) ag_3 rfl (H15.blk_at (i := 0) rfl) rfl rfl ?_)
            refine r_cons (s_eql true rfl rfl (dtrue (by omega)) rfl ?_)
            refine r_nil ?_
            refine g_true rfl ?_
            refine g_seq ?_
            refine g_region ?_
            refine r_cons (s_fieldAddr 32 4 4 4 30 rfl fi_32_4 rfl rfl ?_)
            refine r_cons (s_loadAgg [.slice x.p x.bs.length x.c] 1 ag_30 rfl (H15.blk_at (i := 0) rfl) (Nat.le_of_ble_eq_true rfl) rfl rfl ?_)
            refine r_cons (s_call [.agg #[.slice x.p x.bs.length x.c]] pl_61 rfl rfl (ref10_Check x.bs _ (ip := 2) rfl (iq := 1) rfl H15) ?_)
            rintro _ w20 ⟨rfl, H21⟩
            refine r_cons (s_assign (.int .i64 (ptE x.bs)) rfl rfl ?_)
            refine r_nil ?_
            refine g_ret' [.int .i64 (ptE x.bs)] Try.func11 Try.results11 ⟨rfl, trivial⟩ ?_
            have H22 : St W w20 F := (((H21.drop 0 rfl).drop 0 rfl).drop 0 rfl)
            exact ⟨vint (itE_1 (by first | exact okI_of (by assumption) (by omega) | exact okI_of3 (notfalse (by assumption)) (notfalse (by assumption)) (notfalse (by assumption)) (by omega) | exact okI_of3 (by assumption) (by assumption) (by assumption) (by omega)) (by omega)).symm, H22⟩
          · skip
            refine s_neq true rfl rfl (nfalse hc19) rfl ?_
            refine r_cons (r_take rfl rfl ?_)
            refine s_pick_t (.bool true) rfl rfl rfl ?_
            refine r_cons (s_pick_f (.bool true) rfl rfl rfl ?_)
            refine r_cons (s_move (.bool true) rfl rfl ?_)
            refine r_cons (r_pass rfl rfl rfl rfl rfl ?_)
            refine r_cons (r_pass rfl rfl rfl rfl rfl ?_)
            refine r_cons (r_pass rfl rfl rfl rfl rfl ?_)
            refine r_cons (r_pass rfl rfl rfl rfl rfl ?_)
            refine r_cons (r_passN rfl rfl rfl rfl ?_)
            refine r_cons (r_passN rfl rfl rfl rfl ?_)
            refine r_cons (r_passN rfl rfl rfl rfl ?_)
            refine r_cons (r_passN rfl rfl rfl rfl ?_)
            refine r_cons (r_passN rfl rfl rfl rfl ?_)
            refine r_cons (r_pass rfl rfl rfl rfl rfl ?_)
            refine r_cons (s_pick_t (.bool true) rfl rfl rfl ?_)
            refine r_nil ?_
            refine g_true rfl ?_
            refine g_seq ?_
            refine g_region ?_
            refine r_cons (s_assign (.int .i64 243) rfl rfl ?_)
            refine r_nil ?_
            refine g_ret' [.int .i64 243] Try.func11 Try.results11 ⟨rfl, trivial⟩ ?_
            have H23 : St W w14 F := (((H15.drop 0 rfl).drop 0 rfl).drop 0 rfl)
            exact ⟨vint (itE_243 (by first | exact bad_t3 (by assumption) | exact bad_1 (by first | assumption | exact nottrue (by assumption)) | exact bad_2 (by first | assumption | exact nottrue (by assumption)) | exact bad_3 (by first | assumption | exact nottrue (by assumption)) | exact bad_4 (by omega))).symm, H23⟩
        · skip
          refine s_neq true rfl rfl (nfalse hc18) rfl ?_
          refine r_cons (r_take rfl (congrArg some hb16) ?_)
          refine s_move (.bool true) rfl rfl ?_
          refine r_cons (r_take rfl rfl ?_)
          refine s_fieldAddr 32 3 3 3 3 rfl fi_32_3 rfl rfl ?_
          refine r_cons (r_take rfl rfl ?_)
          refine s_load (.int .i64 x.kind.v) ag_3 rfl (H15.blk_at (i := 0) rfl) rfl rfl ?_
          refine r_cons (r_take rfl rfl ?_)
          by_cases hc24 : x.kind.v = 2
          · skip
            refine s_neq false rfl rfl (ntrue hc24) rfl ?_
            refine r_cons (r_take rfl (congrArg some hb16) ?_)
            refine s_pick_t (.bool false) rfl rfl rfl ?_
            refine r_cons (r_take rfl (congrArg some hb16) ?_)
            refine s_move (.bool false) rfl rfl ?_
            refine r_cons (r_pass rfl rfl rfl rfl rfl ?_)
            refine r_cons (r_pass rfl rfl rfl rfl rfl ?_)
            refine r_cons (r_pass rfl rfl rfl rfl rfl ?_)
            refine r_cons (r_take rfl (congrArg some hb16) ?_)
            refine s_pick_f (.bool false) rfl rfl rfl ?_
            refine r_cons (s_pick_f (.bool false) (by exact congrArg Value.bool hb16) rfl rfl ?_)
            refine r_nil ?_
            refine g_false rfl ?_
            refine g_skip ?_
            refine g_seq ?_
            refine g_seq ?_
            refine g_region ?_
            refine r_cons (s_fieldAddr 32 3 3 3 3 rfl fi_32_3 rfl rfl ?_)
            refine r_cons (s_load (.int .i64 x.kind.v) ag_3 rfl (H15.blk_at (i := 0) rfl) rfl rfl ?_)
            refine r_cons (s_eql true rfl rfl (dtrue (by omega)) rfl ?_)
            refine r_cons (s_move (.bool true) rfl rfl ?_)
            refine r_cons (r_take rfl rfl ?_)
            refine s_fieldAddr 32 5 5 5 2 rfl fi_32_5 rfl rfl ?_
            refine r_cons (r_take rfl rfl ?_)
            refine s_load (.int .i64 x.t.v) ag_2 rfl (H15.blk_at (i := 0) rfl) rfl rfl ?_
            refine r_cons (r_take rfl rfl ?_)
            by_cases hc25 : x.t.v < 0
            · skip
              refine s_lss true rfl rfl (dtrue hc25) rfl ?_
              refine r_cons (r_take rfl rfl ?_)
              refine s_move (.bool true) rfl rfl ?_
              refine r_cons (r_pass rfl rfl rfl rfl rfl ?_)
              refine r_cons (r_pass rfl rfl rfl rfl rfl ?_)
              refine r_cons (r_pass rfl rfl rfl rfl rfl ?_)
              refine r_cons (r_take rfl rfl ?_)
              refine s_pick_t (.bool true) rfl rfl rfl ?_
              refine r_cons (s_pick_t (.bool true) rfl rfl rfl ?_)
              refine r_cons (s_move (.bool true) rfl rfl ?_)
              refine r_cons (r_pass rfl rfl rfl rfl rfl ?_)
              refine r_cons (r_pass rfl rfl rfl rfl rfl ?_)
              refine r_cons (r_pass rfl rfl rfl rfl rfl ?_)
              refine r_cons (r_pass rfl rfl rfl rfl rfl ?_)
              refine r_cons (r_passN rfl rfl rfl rfl ?_)
              refine r_cons (r_passN rfl rfl rfl rfl ?_)
              refine r_cons (r_passN rfl rfl rfl rfl ?_)
              refine r_cons (r_pass rfl rfl rfl rfl rfl ?_)
              refine r_cons (s_pick_t (.bool true) rfl rfl rfl ?_)
              refine r_cons (s_move (.bool true) rfl rfl ?_)
              refine r_cons (r_pass rfl rfl rfl rfl rfl ?_)
              refine r_cons (r_pass rfl rfl rfl rfl rfl ?_)
              refine r_cons (r_pass rfl rfl rfl rfl rfl ?_)
              refine r_cons (r_pass rfl rfl rfl rfl rfl ?_)
              refine r_cons (r_passN rfl rfl rfl rfl ?_)
              refine r_cons (r_passN rfl rfl rfl rfl ?_)
              refine r_cons (r_passN rfl rfl rfl rfl ?_)
              refine r_cons (r_passN rfl rfl rfl rfl ?_)
              refine r_cons (r_passN rfl rfl rfl rfl ?_)
              refine r_cons (r_pass rfl rfl rfl rfl rfl ?_)
              refine r_cons (s_pick_t (.bool true) rfl rfl rfl ?_)
              refine r_nil ?_
              refine g_true rfl ?_
              refine g_seq ?_
              refine g_region ?_
              refine r_cons (s_assign (.int .i64 243) rfl rfl ?_)
              refine r_nil ?_
              refine g_ret' [.int .i64 243] Try.func11 Try.results11 ⟨rfl, trivial⟩ ?_
              have H26 : St W w14 F := (((H15.drop 0 rfl).drop 0 rfl).drop 0 rfl)
              exact ⟨vint (itE_243 (by first | exact bad_t3 (by assumption) | exact bad_1 (by first | assumption | exact nottrue (by assumption)) | exact bad_2 (by first | assumption | exact nottrue (by assumption)) | exact bad_3 (by first | assumption | exact nottrue (by assumption)) | exact bad_4 (by omega))).symm, H26⟩
            · skip
              refine s_lss false rfl rfl (dfalse hc25) rfl ?_
              refine r_cons (r_take rfl rfl ?_)
              refine s_move (.bool false) rfl rfl ?_
              refine r_cons (r_take rfl rfl ?_)
              refine s_fieldAddr 32 5 5 5 2 rfl fi_32_5 rfl rfl ?_
              refine r_cons (r_take rfl rfl ?_)
              refine s_load (.int .i64 x.t.v) ag_2 rfl (H15.blk_at (i := 0) rfl) rfl rfl ?_
              refine r_cons (r_take rfl rfl ?_)
              by_cases hc27 : (1099511627777 : Int) < x.t.v
              · skip
                refine s_gtr true rfl rfl (dtrue hc27) rfl ?_
                refine r_cons (r_take rfl rfl ?_)
                refine s_pick_f (.bool true) rfl rfl rfl ?_
                refine r_cons (s_pick_t (.bool true) rfl rfl rfl ?_)
                refine r_cons (s_move (.bool true) rfl rfl ?_)
                refine r_cons (r_pass rfl rfl rfl rfl rfl ?_)
                refine r_cons (r_pass rfl rfl rfl rfl rfl ?_)
                refine r_cons (r_pass rfl rfl rfl rfl rfl ?_)
                refine r_cons (r_pass rfl rfl rfl rfl rfl ?_)
                refine r_cons (r_passN rfl rfl rfl rfl ?_)
                refine r_cons (r_passN rfl rfl rfl rfl ?_)
                refine r_cons (r_passN rfl rfl rfl rfl ?_)
                refine r_cons (r_pass rfl rfl rfl rfl rfl ?_)
                refine r_cons (s_pick_t (.bool true) rfl rfl rfl ?_)
                refine r_cons (s_move (.bool true) rfl rfl ?_)
                refine r_cons (r_pass rfl rfl rfl rfl rfl ?_)
                refine r_cons (r_pass rfl rfl rfl rfl rfl ?_)
                refine r_cons (r_pass rfl rfl rfl rfl rfl ?_)
                refine r_cons (r_pass rfl rfl rfl rfl rfl ?_)
                refine r_cons (r_passN rfl rfl rfl rfl ?_)
                refine r_cons (r_passN rfl rfl rfl rfl ?_)
                refine r_cons (r_passN rfl rfl rfl rfl ?_)
                refine r_cons (r_passN rfl rfl rfl rfl ?_)
                refine r_cons (r_passN rfl rfl rfl rfl ?_)
                refine r_cons (r_pass rfl rfl rfl rfl rfl ?_)
                refine r_cons (s_pick_t (.bool true) rfl rfl rfl ?_)
                refine r_nil ?_
                refine g_true rfl ?_
                refine g_seq ?_
                refine g_region ?_
                refine r_cons (s_assign (.int .i64 243) rfl rfl ?_)
                refine r_nil ?_
                refine g_ret' [.int .i64 243] Try.func11 Try.results11 ⟨rfl, trivial⟩ ?_
                have H28 : St W w14 F := (((H15.drop 0 rfl).drop 0 rfl).drop 0 rfl)
                exact ⟨vint (itE_243 (by first | exact bad_t3 (by assumption) | exact bad_1 (by first | assumption | exact nottrue (by assumption)) | exact bad_2 (by first | assumption | exact nottrue (by assumption)) | exact bad_3 (by first | assumption | exact nottrue (by assumption)) | exact bad_4 (by omega))).symm, H28⟩
              · skip
                refine s_gtr false rfl rfl (dfalse hc27) rfl ?_
                refine r_cons (r_take rfl rfl ?_)
                refine s_pick_f (.bool false) rfl rfl rfl ?_
                refine r_cons (s_pick_t (.bool false) rfl rfl rfl ?_)
                refine r_cons (s_move (.bool false) rfl rfl ?_)
                refine r_cons (r_take rfl rfl ?_)
                refine s_fieldAddr 32 3 3 3 3 rfl fi_32_3 rfl rfl ?_
                refine r_cons (r_take rfl rfl ?_)
                refine s_load (.int .i64 x.kind.v) ag_3 rfl (H15.blk_at (i := 0) rfl) rfl rfl ?_
                refine r_cons (r_take rfl rfl ?_)
                refine s_neq false rfl rfl (ntrue (by omega)) rfl ?_
                refine r_cons (r_take rfl rfl ?_)
                refine s_move (.bool false) rfl rfl ?_
                refine r_cons (r_pass rfl rfl rfl rfl rfl ?_)
                refine r_cons (r_pass rfl rfl rfl rfl rfl ?_)
                refine r_cons (r_pass rfl rfl rfl rfl rfl ?_)
                refine r_cons (r_take rfl rfl ?_)
                refine s_pick_f (.bool false) rfl rfl rfl ?_
                refine r_cons (s_pick_f (.bool false) rfl rfl rfl ?_)
                refine r_cons (s_move (.bool false) rfl rfl ?_)
                refine r_cons (r_take rfl rfl ?_)
                refine s_fieldAddr 32 3 3 3 3 rfl fi_32_3 rfl rfl ?_
                refine r_cons (r_take rfl rfl ?_)
                refine s_load (.int .i64 x.kind.v) ag_3 rfl (H15.blk_at (i := 0) rfl) rfl rfl ?_
                refine r_cons (r_take rfl rfl ?_)
                refine s_neq true rfl rfl (nfalse (by omega)) rfl ?_
                refine r_cons (r_take rfl rfl ?_)
                refine s_move (.bool true) rfl rfl ?_
                refine r_cons (r_take rfl rfl ?_)
                refine s_fieldAddr 32 4 4 4 30 rfl fi_32_4 rfl rfl ?_
                refine r_cons (r_take rfl rfl ?_)
                refine s_fieldAddr 30 0 0 4 28 rfl fi_30_0 rfl rfl ?_
                refine r_cons (r_take rfl rfl ?_)
                refine s_load (.slice x.p x.bs.length x.c) ag_28 rfl (H15.blk_at (i := 0) rfl) rfl rfl ?_
                refine r_cons (r_take rfl rfl ?_)
                refine s_len x.bs.length rfl ⟨_, un_28⟩ rfl ?_
                refine r_cons (r_take rfl rfl ?_)
                by_cases hc29 : (0 : Int) < (x.bs.length : Int)
                · skip
                  refine s_gtr true rfl rfl (dtrue hc29) rfl ?_
                  refine r_cons (r_take rfl rfl ?_)
                  refine s_pick_t (.bool true) rfl rfl rfl ?_
                  refine r_cons (s_pick_f (.bool true) rfl rfl rfl ?_)
                  refine r_nil ?_
                  refine g_true rfl ?_
                  refine g_seq ?_
                  refine g_region ?_
                  refine r_cons (s_assign (.int .i64 243) rfl rfl ?_)
                  refine r_nil ?_
                  refine g_ret' [.int .i64 243] Try.func11 Try.results11 ⟨rfl, trivial⟩ ?_
                  have H30 : St W w14 F := (((H15.drop 0 rfl).drop 0 rfl).drop 0 rfl)
                  exact ⟨vint (itE_243 (by first | exact bad_t3 (by assumption) | exact bad_1 (by first | assumption | exact nottrue (by assumption)) | exact bad_2 (by first | assumption | exact nottrue (by assumption)) | exact bad_3 (by first | assumption | exact nottrue (by assumption)) | exact bad_4 (by omega))).symm, H30⟩
                · skip
                  refine s_gtr false rfl rfl (dfalse hc29) rfl ?_
                  refine r_cons (r_take rfl rfl ?_)
                  refine s_pick_t (.bool false) rfl rfl rfl ?_
                  refine r_cons (s_pick_f (.bool false) rfl rfl rfl ?_)
                  refine r_nil ?_
                  refine g_false rfl ?_
                  refine g_skip ?_
                  refine g_seq ?_
                  refine g_seq ?_
                  refine g_region ?_
                  refine r_cons (s_fieldAddr 32 3 3 3 3 rfl fi_32_3 rfl rfl ?_)
                  refine r_cons (s_load (.int .i64 x.kind.v) ag_3 rfl (H15.blk_at (i := 0) rfl) rfl rfl ?_)
                  refine r_cons (s_eql false rfl rfl (dfalse (by omega)) rfl ?_)
                  refine r_nil ?_
                  refine g_false rfl ?_
                  refine g_skip ?_
                  refine g_seq ?_
                  refine g_region ?_
                  refine r_cons (s_assign (.int .i64 0) rfl rfl ?_)
                  refine r_nil ?_
                  refine g_ret' [.int .i64 0] Try.func11 Try.results11 ⟨rfl, trivial⟩ ?_
                  have H31 : St W w14 F := (((H15.drop 0 rfl).drop 0 rfl).drop 0 rfl)
                  exact ⟨vint (itE_0 (by first | exact okI_of (by assumption) (by omega) | exact okI_of3 (notfalse (by assumption)) (notfalse (by assumption)) (notfalse (by assumption)) (by omega) | exact okI_of3 (by assumption) (by assumption) (by assumption) (by omega)) (by omega)).symm, H31⟩
          · skip
            refine s_neq true rfl rfl (nfalse hc24) rfl ?_
            refine r_cons (r_take rfl (congrArg some hb16) ?_)
            refine s_pick_t (.bool true) rfl rfl rfl ?_
            refine r_cons (r_take rfl (congrArg some hb16) ?_)
            refine s_move (.bool true) rfl rfl ?_
            refine r_cons (r_take rfl rfl ?_)
            refine s_fieldAddr 32 3 3 3 3 rfl fi_32_3 rfl rfl ?_
            refine r_cons (r_take rfl rfl ?_)
            refine s_load (.int .i64 x.kind.v) ag_3 rfl (H15.blk_at (i := 0) rfl) rfl rfl ?_
            refine r_cons (r_take rfl rfl ?_)
            by_cases hc32 : x.kind.v = 3
            · skip
              refine s_neq false rfl rfl (ntrue hc32) rfl ?_
              refine r_cons (r_take rfl (congrArg some hb16) ?_)
              refine s_pick_t (.bool false) rfl rfl rfl ?_
              refine r_cons (s_pick_f (.bool false) (by exact congrArg Value.bool hb16) rfl rfl ?_)
              refine r_nil ?_
              refine g_false rfl ?_
              refine g_skip ?_
              refine g_seq ?_
              refine g_seq ?_
              refine g_region ?_
              refine r_cons (s_fieldAddr 32 3 3 3 3 rfl fi_32_3 rfl rfl ?_)
              refine r_cons (s_load (.int .i64 x.kind.v) ag_3 rfl (H15.blk_at (i := 0) rfl) rfl rfl ?_)
              refine r_cons (s_eql false rfl rfl (dfalse (by omega)) rfl ?_)
              refine r_cons (s_move (.bool false) rfl rfl ?_)
              refine r_cons (r_pass rfl rfl rfl rfl rfl ?_)
              refine r_cons (r_pass rfl rfl rfl rfl rfl ?_)
              refine r_cons (r_pass rfl rfl rfl rfl rfl ?_)
              refine r_cons (r_pass rfl rfl rfl rfl rfl ?_)
              refine r_cons (r_passN rfl rfl rfl rfl ?_)
              refine r_cons (r_passN rfl rfl rfl rfl ?_)
              refine r_cons (r_passN rfl rfl rfl rfl ?_)
              refine r_cons (r_pass rfl rfl rfl rfl rfl ?_)
              refine r_cons (s_pick_f (.bool false) rfl rfl rfl ?_)
              refine r_cons (s_move (.bool false) rfl rfl ?_)
              refine r_cons (r_take rfl rfl ?_)
              refine s_fieldAddr 32 3 3 3 3 rfl fi_32_3 rfl rfl ?_
              refine r_cons (r_take rfl rfl ?_)
              refine s_load (.int .i64 x.kind.v) ag_3 rfl (H15.blk_at (i := 0) rfl) rfl rfl ?_
              refine r_cons (r_take rfl rfl ?_)
              refine s_neq true rfl rfl (nfalse (by omega)) rfl ?_
              refine r_cons (r_take rfl rfl ?_)
              refine s_move (.bool true) rfl rfl ?_
              refine r_cons (r_take rfl rfl ?_)
              refine s_fieldAddr 32 5 5 5 2 rfl fi_32_5 rfl rfl ?_
              refine r_cons (r_take rfl rfl ?_)
              refine s_load (.int .i64 x.t.v) ag_2 rfl (H15.blk_at (i := 0) rfl) rfl rfl ?_
              refine r_cons (r_take rfl rfl ?_)
              by_cases hc33 : x.t.v = 0
              · skip
                refine s_neq false rfl rfl (ntrue hc33) rfl ?_
                refine r_cons (r_take rfl rfl ?_)
                refine s_pick_t (.bool false) rfl rfl rfl ?_
                refine r_cons (s_pick_f (.bool false) rfl rfl rfl ?_)
                refine r_cons (s_move (.bool false) rfl rfl ?_)
                refine r_cons (r_take rfl rfl ?_)
                refine s_fieldAddr 32 3 3 3 3 rfl fi_32_3 rfl rfl ?_
                refine r_cons (r_take rfl rfl ?_)
                refine s_load (.int .i64 x.kind.v) ag_3 rfl (H15.blk_at (i := 0) rfl) rfl rfl ?_
                refine r_cons (r_take rfl rfl ?_)
                refine s_neq true rfl rfl (nfalse (by omega)) rfl ?_
                refine r_cons (r_take rfl rfl ?_)
                refine s_move (.bool true) rfl rfl ?_
                refine r_cons (r_take rfl rfl ?_)
                refine s_fieldAddr 32 4 4 4 30 rfl fi_32_4 rfl rfl ?_
                refine r_cons (r_take rfl rfl ?_)
                refine s_fieldAddr 30 0 0 4 28 rfl fi_30_0 rfl rfl ?_
                refine r_cons (r_take rfl rfl ?_)
                refine s_load (.slice x.p x.bs.length x.c) ag_28 rfl (H15.blk_at (i := 0) rfl) rfl rfl ?_
                refine r_cons (r_take rfl rfl ?_)
                refine s_len x.bs.length rfl ⟨_, un_28⟩ rfl ?_
                refine r_cons (r_take rfl rfl ?_)
                by_cases hc34 : (0 : Int) < (x.bs.length : Int)
                · skip
                  refine s_gtr true rfl rfl (dtrue hc34) rfl ?_
                  refine r_cons (r_take rfl rfl ?_)
                  refine s_pick_t (.bool true) rfl rfl rfl ?_
                  refine r_cons (s_pick_f (.bool true) rfl rfl rfl ?_)
                  refine r_nil ?_
                  refine g_true rfl ?_
                  refine g_seq ?_
                  refine g_region ?_
                  refine r_cons (s_assign (.int .i64 243) rfl rfl ?_)
                  refine r_nil ?_
                  refine g_ret' [.int .i64 243] Try.func11 Try.results11 ⟨rfl, trivial⟩ ?_
                  have H35 : St W w14 F := (((H15.drop 0 rfl).drop 0 rfl).drop 0 rfl)
                  exact ⟨vint (itE_243 (by first | exact bad_t3 (by assumption) | exact bad_1 (by first | assumption | exact nottrue (by assumption)) | exact bad_2 (by first | assumption | exact nottrue (by assumption)) | exact bad_3 (by first | assumption | exact nottrue (by assumption)) | exact bad_4 (by omega))).symm, H35⟩
                · skip
                  refine s_gtr false rfl rfl (dfalse hc34) rfl ?_
                  refine r_cons (r_take rfl rfl ?_)
                  refine s_pick_t (.bool false) rfl rfl rfl ?_
                  refine r_cons (s_pick_f (.bool false) rfl rfl rfl ?_)
                  refine r_nil ?_
                  refine g_false rfl ?_
                  refine g_skip ?_
                  refine g_seq ?_
                  refine g_seq ?_
                  refine g_region ?_
                  refine r_cons (s_fieldAddr 32 3 3 3 3 rfl fi_32_3 rfl rfl ?_)
                  refine r_cons (s_load (.int .i64 x.kind.v) ag_3 rfl (H15.blk_at (i := 0) rfl) rfl rfl ?_)
                  refine r_cons (s_eql false rfl rfl (dfalse (by omega)) rfl ?_)
                  refine r_nil ?_
                  refine g_false rfl ?_
                  refine g_skip ?_
                  refine g_seq ?_
                  refine g_region ?_
                  refine r_cons (s_assign (.int .i64 0) rfl rfl ?_)
                  refine r_nil ?_
                  refine g_ret' [.int .i64 0] Try.func11 Try.results11 ⟨rfl, trivial⟩ ?_
                  have H36 : St W w14 F := (((H15.drop 0 rfl).drop 0 rfl).drop 0 rfl)
                  exact ⟨vint (itE_0 (by first | exact okI_of (by assumption) (by omega) | exact okI_of3 (notfalse (by assumption)) (notfalse (by assumption)) (notfalse (by assumption)) (by omega) | exact okI_of3 (by assumption) (by assumption) (by assumption) (by omega)) (by omega)).symm, H36⟩
              · skip
                refine s_neq true rfl rfl (nfalse hc33) rfl ?_
                refine r_cons (r_take rfl rfl ?_)
                refine s_pick_t (.bool true) rfl rfl rfl ?_
                refine r_cons (s_pick_f (.bool true) rfl rfl rfl ?_)
                refine r_cons (s_move (.bool true) rfl rfl ?_)
                refine r_cons (r_pass rfl rfl rfl rfl rfl ?_)
                refine r_cons (r_pass rfl rfl rfl rfl rfl ?_)
                refine r_cons (r_pass rfl rfl rfl rfl rfl ?_)
                refine r_cons (r_pass rfl rfl rfl rfl rfl ?_)
                refine r_cons (r_passN rfl rfl rfl rfl ?_)
                refine r_cons (r_passN rfl rfl rfl rfl ?_)
                refine r_cons (r_passN rfl rfl rfl rfl ?_)
                refine r_cons (r_passN rfl rfl rfl rfl ?_)
                refine r_cons (r_passN rfl rfl rfl rfl ?_)
                refine r_cons (r_pass rfl rfl rfl rfl rfl ?_)
                refine r_cons (s_pick_t (.bool true) rfl rfl rfl ?_)
                refine r_nil ?_
                refine g_true rfl ?_
                refine g_seq ?_
                refine g_region ?_
                refine r_cons (s_assign (.int .i64 243) rfl rfl ?_)
                refine r_nil ?_
                refine g_ret' [.int .i64 243] Try.func11 Try.results11 ⟨rfl, trivial⟩ ?_
                have H37 : St W w14 F := (((H15.drop 0 rfl).drop 0 rfl).drop 0 rfl)
                exact ⟨vint (itE_243 (by first | exact bad_t3 (by assumption) | exact bad_1 (by first | assumption | exact nottrue (by assumption)) | exact bad_2 (by first | assumption | exact nottrue (by assumption)) | exact bad_3 (by first | assumption | exact nottrue (by assumption)) | exact bad_4 (by omega))).symm, H37⟩
            · skip
              refine s_neq true rfl rfl (nfalse hc32) rfl ?_
              refine r_cons (r_take rfl (congrArg some hb16) ?_)
              refine s_pick_t (.bool true) rfl rfl rfl ?_
              refine r_cons (s_pick_f (.bool true) (by exact congrArg Value.bool hb16) rfl rfl ?_)
              refine r_nil ?_
              refine g_true rfl ?_
              refine g_seq ?_
              refine g_region ?_
              refine r_cons (s_assign (.int .i64 243) rfl rfl ?_)
              refine r_nil ?_
              refine g_ret' [.int .i64 243] Try.func11 Try.results11 ⟨rfl, trivial⟩ ?_
              have H38 : St W w14 F := (((H15.drop 0 rfl).drop 0 rfl).drop 0 rfl)
              exact ⟨vint (itE_243 (by first | exact bad_t3 (by assumption) | exact bad_1 (by first | assumption | exact nottrue (by assumption)) | exact bad_2 (by first | assumption | exact nottrue (by assumption)) | exact bad_3 (by first | assumption | exact nottrue (by assumption)) | exact bad_4 (by omega))).symm, H38⟩
set_option maxHeartbeats 4000000 in
set_option maxRecDepth 100000 in
theorem migrate_own {W w : World} {F : List Atom} (x : ItemD) (hok : bsOk x.bs) {ip : Nat} (hp : F[ip]? = some (Im 6 (.slice x.p x.bs.length x.c) x.bs.length (x.bs.flatMap bndCell))) {iq : Nat} (hq : F[iq]? = some (bndsA x.bs)) (H : St W w F) : Calls Try.prog 64 #[.agg #[.int .i64 x.op.v, .int .i64 x.inp.v, .int .i64 x.ep.v, .int .i64 x.kind.v, .slice x.p x.bs.length x.c, .int .i64 x.t.v]] w (Ret fun v w' => ∃ y : ItemD, v = .agg #[.int .i64 y.op.v, .int .i64 y.inp.v, .int .i64 y.ep.v, .int .i64 y.kind.v, .slice y.p y.bs.length y.c, .int .i64 y.t.v] ∧ y.v = x.v ∧ St W w' (BsA y :: bndsA y.bs :: F)) := by
  have H1 := (H.dup (i := ip + 0) (by exact hp) (Im_pers _ _ _ _)).dup (i := iq + 1) (by exact hq) (bndsA_pers _)
  have H2 : St W w (bndsA x.bs :: Im 6 (.slice x.p x.bs.length x.c) x.bs.length (x.bs.flatMap bndCell) :: F) := H1
  refine calls_of_go (n := 8) Try.func64 rfl Try.ntmps64 rfl ?_
  refine g_seq ?_
  refine g_region ?_
  refine r_cons (s_box H2 32 (.agg #[.int .i64 x.op.v, .int .i64 x.inp.v, .int .i64 x.ep.v, .int .i64 x.kind.v, .slice x.p x.bs.length x.c, .int .i64 x.t.v]) rfl (cs := #[.int .i64 x.op.v, .int .i64 x.inp.v, .int .i64 x.ep.v, .int .i64 x.kind.v, .slice x.p x.bs.length x.c, .int .i64 x.t.v]) rfl rfl ?_); intro bk3 w4 H5
  refine r_cons (s_alloc H5 32 ze_32 rfl ?_); intro bk6 w7 H8
  refine r_nil ?_
  refine g_seq ?_
  refine g_region ?_
  refine r_cons (s_fieldAddr 32 4 4 4 30 rfl fi_32_4 rfl rfl ?_)
  refine r_cons (s_loadAgg [.slice x.p x.bs.length x.c] 1 ag_30 rfl (H8.blk_at (i := 1) rfl) (Nat.le_of_ble_eq_true rfl) rfl rfl ?_)
  refine r_cons (s_call [.agg #[.slice x.p x.bs.length x.c]] pl_105 rfl rfl (match_Clone x.bs _ hok.1 hok.2 (ip := 3) rfl (iq := 2) rfl H8) ?_)
  rintro _ w13 ⟨L9, pp10, cc11, rfl, hM12, H14⟩
  refine r_cons (s_fieldAddr 32 4 4 4 30 rfl fi_32_4 rfl rfl ?_)
  refine r_cons (s_storeAgg H14 3 #[.slice pp10 L9.length cc11] 1 rfl rfl rfl sz_30 rfl (by simp [Value.oneCell']) (Nat.le_of_ble_eq_true rfl) (fun o h1 h2 => by first | (simp; done) | (simp; omega)) (cs' := #[.int .i64 x.op.v, .int .i64 x.inp.v, .int .i64 x.ep.v, .int .i64 x.kind.v, .slice pp10 L9.length cc11, .int .i64 x.t.v]) rfl ?_); intro w15 H16
  refine r_nil ?_
  refine g_seq ?_
  refine g_region ?_
  refine r_cons (s_loadAgg [.int .i64 x.op.v, .int .i64 x.inp.v, .int .i64 x.ep.v, .int .i64 x.kind.v, .slice pp10 L9.length cc11, .int .i64 x.t.v] 6 ag_32 rfl (H16.blk_at (i := 3) rfl) (Nat.le_of_ble_eq_true rfl) rfl rfl ?_)
  refine r_cons (s_storeAgg H16 2 #[.int .i64 x.op.v, .int .i64 x.inp.v, .int .i64 x.ep.v, .int .i64 x.kind.v, .slice pp10 L9.length cc11, .int .i64 x.t.v] 6 rfl rfl rfl sz_32 rfl (by simp [Value.oneCell']) (Nat.le_of_ble_eq_true rfl) (fun o h1 h2 => by first | (simp; done) | (simp; omega)) (cs' := #[.int .i64 x.op.v, .int .i64 x.inp.v, .int .i64 x.ep.v, .int .i64 x.kind.v, .slice pp10 L9.length cc11, .int .i64 x.t.v]) rfl ?_); intro w17 H18
  refine r_nil ?_
  refine g_ret' [.agg #[.int .i64 x.op.v, .int .i64 x.inp.v, .int .i64 x.ep.v, .int .i64 x.kind.v, .slice pp10 L9.length cc11, .int .i64 x.t.v]] Try.func64 Try.results64 ⟨(res_cellN rfl ag_32 (H18.blk_at (i := 2) rfl) (Nat.le_of_ble_eq_true rfl) rfl), trivial⟩ ?_
  have H19 : St W w17 (Im 6 (.slice pp10 L9.length cc11) L9.length (L9.flatMap bndCell) :: bndsA L9 :: F) := ((((((H18.move 1 rfl).move 1 rfl).drop 2 rfl).drop 2 rfl).drop 2 rfl).drop 2 rfl)
  exact ⟨⟨x.op, x.inp, x.ep, x.kind, pp10, cc11, L9, x.t⟩, rfl, by unfold ItemD.v; rw [hM12], H19⟩
set_option maxHeartbeats 4000000 in
set_option maxRecDepth 100000 in
theorem ref24_SameItem {W w : World} {F : List Atom} (x y : ItemD) {ip : Nat} (hp : F[ip]? = some (Im 6 (.slice x.p x.bs.length x.c) x.bs.length (x.bs.flatMap bndCell))) {iq : Nat} (hq : F[iq]? = some (bndsA x.bs)) {ip2 : Nat} (hp2 : F[ip2]? = some (Im 6 (.slice y.p y.bs.length y.c) y.bs.length (y.bs.flatMap bndCell))) {iq2 : Nat} (hq2 : F[iq2]? = some (bndsA y.bs)) (H : St W w F) : Calls Try.prog 67 #[.agg #[.int .i64 x.op.v, .int .i64 x.inp.v, .int .i64 x.ep.v, .int .i64 x.kind.v, .slice x.p x.bs.length x.c, .int .i64 x.t.v], .agg #[.int .i64 y.op.v, .int .i64 y.inp.v, .int .i64 y.ep.v, .int .i64 y.kind.v, .slice y.p y.bs.length y.c, .int .i64 y.t.v]] w (Ret fun v w' => v = .bool (sameIt x y) ∧ St W w' F) := by
  have H1 := (H.dup (i := ip + 0) (by exact hp) (Im_pers _ _ _ _)).dup (i := iq + 1) (by exact hq) (bndsA_pers _)
  have H2 : St W w (bndsA x.bs :: Im 6 (.slice x.p x.bs.length x.c) x.bs.length (x.bs.flatMap bndCell) :: F) := H1
  have H3 := (H2.dup (i := ip2 + 2) (by exact hp2) (Im_pers _ _ _ _)).dup (i := iq2 + 3) (by exact hq2) (bndsA_pers _)
  have H4 : St W w (bndsA y.bs :: Im 6 (.slice y.p y.bs.length y.c) y.bs.length (y.bs.flatMap bndCell) :: bndsA x.bs :: Im 6 (.slice x.p x.bs.length x.c) x.bs.length (x.bs.flatMap bndCell) :: F) := H3
  refine calls_of_go (n := 45) Try.func67 rfl Try.ntmps67 rfl ?_
  refine g_seq ?_
  refine g_region ?_
  refine r_cons (s_box H4 32 (.agg #[.int .i64 x.op.v, .int .i64 x.inp.v, .int .i64 x.ep.v, .int .i64 x.kind.v, .slice x.p x.bs.length x.c, .int .i64 x.t.v]) rfl (cs := #[.int .i64 x.op.v, .int .i64 x.inp.v, .int .i64 x.ep.v, .int .i64 x.kind.v, .slice x.p x.bs.length x.c, .int .i64 x.t.v]) rfl rfl ?_); intro bk5 w6 H7
  refine r_cons (s_box H7 32 (.agg #[.int .i64 y.op.v, .int .i64 y.inp.v, .int .i64 y.ep.v, .int .i64 y.kind.v, .slice y.p y.bs.length y.c, .int .i64 y.t.v]) rfl (cs := #[.int .i64 y.op.v, .int .i64 y.inp.v, .int .i64 y.ep.v, .int .i64 y.kind.v, .slice y.p y.bs.length y.c, .int .i64 y.t.v]) rfl rfl ?_); intro bk8 w9 H10
  refine r_cons (s_assign (.bool false) rfl rfl ?_)
  refine r_nil ?_
  refine g_seq ?_
  refine g_region ?_
  refine r_cons (s_fieldAddr 32 0 0 0 3 rfl fi_32_0 rfl rfl ?_)
  refine r_cons (s_load (.int .i64 x.op.v) ag_3 rfl (H10.blk_at (i := 1) rfl) rfl rfl ?_)
  refine r_cons (s_fieldAddr 32 0 0 0 3 rfl fi_32_0 rfl rfl ?_)
  refine r_cons (s_load (.int .i64 y.op.v) ag_3 rfl (H10.blk_at (i := 0) rfl) rfl rfl ?_)
  by_cases hc11 : x.op.v = y.op.v
  · skip
    refine r_cons (s_eql true rfl rfl (dtrue hc11) rfl ?_)
    refine r_cons (s_move (.bool true) rfl rfl ?_)
    refine r_cons (r_take rfl rfl ?_)
    refine s_fieldAddr 32 1 1 1 3 rfl fi_32_1 rfl rfl ?_
    refine r_cons (r_take rfl rfl ?_)
    refine s_load (.int .i64 x.inp.v) ag_3 rfl (H10.blk_at (i := 1) rfl) rfl rfl ?_
    refine r_cons (r_take rfl rfl ?_)
    refine s_fieldAddr 32 1 1 1 3 rfl fi_32_1 rfl rfl ?_
    refine r_cons (r_take rfl rfl ?_)
    refine s_load (.int .i64 y.inp.v) ag_3 rfl (H10.blk_at (i := 0) rfl) rfl rfl ?_
    refine r_cons (r_take rfl rfl ?_)
    by_cases hc12 : x.inp.v = y.inp.v
    · skip
      refine s_eql true rfl rfl (dtrue hc12) rfl ?_
      refine r_cons (s_pick_t (.bool true) rfl rfl rfl ?_)
      refine r_cons (s_move (.bool true) rfl rfl ?_)
      refine r_cons (r_take rfl rfl ?_)
      refine s_fieldAddr 32 2 2 2 2 rfl fi_32_2 rfl rfl ?_
      refine r_cons (r_take rfl rfl ?_)
      refine s_load (.int .i64 x.ep.v) ag_2 rfl (H10.blk_at (i := 1) rfl) rfl rfl ?_
      refine r_cons (r_take rfl rfl ?_)
      refine s_fieldAddr 32 2 2 2 2 rfl fi_32_2 rfl rfl ?_
      refine r_cons (r_take rfl rfl ?_)
      refine s_load (.int .i64 y.ep.v) ag_2 rfl (H10.blk_at (i := 0) rfl) rfl rfl ?_
      refine r_cons (r_take rfl rfl ?_)
      by_cases hc13 : x.ep.v = y.ep.v
      · skip
        refine s_eql true rfl rfl (dtrue hc13) rfl ?_
        refine r_cons (s_pick_t (.bool true) rfl rfl rfl ?_)
        refine r_cons (s_move (.bool true) rfl rfl ?_)
        refine r_cons (r_take rfl rfl ?_)
        refine s_fieldAddr 32 3 3 3 3 rfl fi_32_3 rfl rfl ?_
        refine r_cons (r_take rfl rfl ?_)
        refine s_load (.int .i64 x.kind.v) ag_3 rfl (H10.blk_at (i := 1) rfl) rfl rfl ?_
        refine r_cons (r_take rfl rfl ?_)
        refine s_fieldAddr 32 3 3 3 3 rfl fi_32_3 rfl rfl ?_
        refine r_cons (r_take rfl rfl ?_)
        refine s_load (.int .i64 y.kind.v) ag_3 rfl (H10.blk_at (i := 0) rfl) rfl rfl ?_
        refine r_cons (r_take rfl rfl ?_)
        by_cases hc14 : x.kind.v = y.kind.v
        · skip
          refine s_eql true rfl rfl (dtrue hc14) rfl ?_
          refine r_cons (s_pick_t (.bool true) rfl rfl rfl ?_)
          refine r_cons (s_move (.bool true) rfl rfl ?_)
          refine r_cons (r_take rfl rfl ?_)
          refine s_fieldAddr 32 5 5 5 2 rfl fi_32_5 rfl rfl ?_
          refine r_cons (r_take rfl rfl ?_)
          refine s_load (.int .i64 x.t.v) ag_2 rfl (H10.blk_at (i := 1) rfl) rfl rfl ?_
          refine r_cons (r_take rfl rfl ?_)
          refine s_fieldAddr 32 5 5 5 2 rfl fi_32_5 rfl rfl ?_
          refine r_cons (r_take rfl rfl ?_)
          refine s_load (.int .i64 y.t.v) ag_2 rfl (H10.blk_at (i := 0) rfl) rfl rfl ?_
          refine r_cons (r_take rfl rfl ?_)
          by_cases hc15 : x.t.v = y.t.v
          · skip
            refine s_eql true rfl rfl (dtrue hc15) rfl ?_
            refine r_cons (s_pick_t (.bool true) rfl rfl rfl ?_)
            refine r_cons (s_move (.bool true) rfl rfl ?_)
            refine r_cons (r_take rfl rfl ?_)
            refine s_fieldAddr 32 4 4 4 30 rfl fi_32_4 rfl rfl ?_
            refine r_cons (r_take rfl rfl ?_)
            refine s_loadAgg [.slice x.p x.bs.length x.c] 1 ag_30 rfl (H10.blk_at (i := 1) rfl) (Nat.le_of_ble_eq_true rfl) rfl rfl ?_
            refine r_cons (r_take rfl rfl ?_)
            refine s_fieldAddr 32 4 4 4 30 rfl fi_32_4 rfl rfl ?_
            refine r_cons (r_take rfl rfl ?_)
            refine s_loadAgg [.slice y.p y.bs.length y.c] 1 ag_30 rfl (H10.blk_at (i := 0) rfl) (Nat.le_of_ble_eq_true rfl) rfl rfl ?_
            refine r_cons (r_take rfl rfl ?_)
            refine s_call [.agg #[.slice x.p x.bs.length x.c], .agg #[.slice y.p y.bs.length y.c]] pl_106 rfl rfl (ref10_Same x.bs y.bs _ _ (ip := 5) rfl (iq := 4) rfl (ip2 := 3) rfl (iq2 := 2) rfl H10) ?_
            rintro _ w16 ⟨rfl, H17⟩
            refine r_cons (s_pick_t (.bool (sameBs x.bs y.bs)) rfl rfl rfl ?_)
            refine r_cons (s_assign (.bool (sameBs x.bs y.bs)) rfl rfl ?_)
            refine r_nil ?_
            refine g_ret' [.bool (sameBs x.bs y.bs)] Try.func67 Try.results67 ⟨rfl, trivial⟩ ?_
            have H18 : St W w16 F := ((((((H17.drop 0 rfl).drop 0 rfl).drop 0 rfl).drop 0 rfl).drop 0 rfl).drop 0 rfl)
            exact ⟨congrArg Value.bool (by rw [sameIt_eq]; simp_all), H18⟩
          · skip
            refine s_eql false rfl rfl (dfalse hc15) rfl ?_
            refine r_cons (s_pick_t (.bool false) rfl rfl rfl ?_)
            refine r_cons (s_move (.bool false) rfl rfl ?_)
            refine r_cons (r_pass rfl rfl rfl rfl rfl ?_)
            refine r_cons (r_pass rfl rfl rfl rfl rfl ?_)
            refine r_cons (r_pass rfl rfl rfl rfl rfl ?_)
            refine r_cons (r_pass rfl rfl rfl rfl rfl ?_)
            refine r_cons (r_pass rfl rfl rfl rfl rfl ?_)
            refine r_cons (s_pick_f (.bool false) rfl rfl rfl ?_)
            refine r_cons (s_assign (.bool false) rfl rfl ?_)
            refine r_nil ?_
            refine g_ret' [.bool false] Try.func67 Try.results67 ⟨rfl, trivial⟩ ?_
            have H19 : St W w9 F := ((((((H10.drop 0 rfl).drop 0 rfl).drop 0 rfl).drop 0 rfl).drop 0 rfl).drop 0 rfl)
            exact ⟨congrArg Value.bool (by rw [sameIt_eq]; (try simp only [Bool.and_true, Bool.and_eq_true, Bool.and_eq_false_iff, decide_eq_true_eq, decide_eq_false_iff_not]); simp_all), H19⟩
        · skip
          refine s_eql false rfl rfl (dfalse hc14) rfl ?_
          refine r_cons (s_pick_t (.bool false) rfl rfl rfl ?_)
          refine r_cons (s_move (.bool false) rfl rfl ?_)
          refine r_cons (r_pass rfl rfl rfl rfl rfl ?_)
          refine r_cons (r_pass rfl rfl rfl rfl rfl ?_)
          refine r_cons (r_pass rfl rfl rfl rfl rfl ?_)
          refine r_cons (r_pass rfl rfl rfl rfl rfl ?_)
          refine r_cons (r_pass rfl rfl rfl rfl rfl ?_)
          refine r_cons (s_pick_f (.bool false) rfl rfl rfl ?_)
          refine r_cons (s_move (.bool false) rfl rfl ?_)
          refine r_cons (r_pass rfl rfl rfl rfl rfl ?_)
          refine r_cons (r_pass rfl rfl rfl rfl rfl ?_)
          refine r_cons (r_pass rfl rfl rfl rfl rfl ?_)
          refine r_cons (r_pass rfl rfl rfl rfl rfl ?_)
          refine r_cons (r_pass rfl rfl rfl rfl rfl ?_)
          refine r_cons (s_pick_f (.bool false) rfl rfl rfl ?_)
          refine r_cons (s_assign (.bool false) rfl rfl ?_)
          refine r_nil ?_
          refine g_ret' [.bool false] Try.func67 Try.results67 ⟨rfl, trivial⟩ ?_
          have H20 : St W w9 F := ((((((H10.drop 0 rfl).drop 0 rfl).drop 0 rfl).drop 0 rfl).drop 0 rfl).drop 0 rfl)
          exact ⟨congrArg Value.bool (by rw [sameIt_eq]; (try simp only [Bool.and_true, Bool.and_eq_true, Bool.and_eq_false_iff, decide_eq_true_eq, decide_eq_false_iff_not]); simp_all), H20⟩
      · skip
        refine s_eql false rfl rfl (dfalse hc13) rfl ?_
        refine r_cons (s_pick_t (.bool false) rfl rfl rfl ?_)
        refine r_cons (s_move (.bool false) rfl rfl ?_)
        refine r_cons (r_pass rfl rfl rfl rfl rfl ?_)
        refine r_cons (r_pass rfl rfl rfl rfl rfl ?_)
        refine r_cons (r_pass rfl rfl rfl rfl rfl ?_)
        refine r_cons (r_pass rfl rfl rfl rfl rfl ?_)
        refine r_cons (r_pass rfl rfl rfl rfl rfl ?_)
        refine r_cons (s_pick_f (.bool false) rfl rfl rfl ?_)
        refine r_cons (s_move (.bool false) rfl rfl ?_)
        refine r_cons (r_pass rfl rfl rfl rfl rfl ?_)
        refine r_cons (r_pass rfl rfl rfl rfl rfl ?_)
        refine r_cons (r_pass rfl rfl rfl rfl rfl ?_)
        refine r_cons (r_pass rfl rfl rfl rfl rfl ?_)
        refine r_cons (r_pass rfl rfl rfl rfl rfl ?_)
        refine r_cons (s_pick_f (.bool false) rfl rfl rfl ?_)
        refine r_cons (s_move (.bool false) rfl rfl ?_)
        refine r_cons (r_pass rfl rfl rfl rfl rfl ?_)
        refine r_cons (r_pass rfl rfl rfl rfl rfl ?_)
        refine r_cons (r_pass rfl rfl rfl rfl rfl ?_)
        refine r_cons (r_pass rfl rfl rfl rfl rfl ?_)
        refine r_cons (r_pass rfl rfl rfl rfl rfl ?_)
        refine r_cons (s_pick_f (.bool false) rfl rfl rfl ?_)
        refine r_cons (s_assign (.bool false) rfl rfl ?_)
        refine r_nil ?_
        refine g_ret' [.bool false] Try.func67 Try.results67 ⟨rfl, trivial⟩ ?_
        have H21 : St W w9 F := ((((((H10.drop 0 rfl).drop 0 rfl).drop 0 rfl).drop 0 rfl).drop 0 rfl).drop 0 rfl)
        exact ⟨congrArg Value.bool (by rw [sameIt_eq]; (try simp only [Bool.and_true, Bool.and_eq_true, Bool.and_eq_false_iff, decide_eq_true_eq, decide_eq_false_iff_not]); simp_all), H21⟩
    · skip
      refine s_eql false rfl rfl (dfalse hc12) rfl ?_
      refine r_cons (s_pick_t (.bool false) rfl rfl rfl ?_)
      refine r_cons (s_move (.bool false) rfl rfl ?_)
      refine r_cons (r_pass rfl rfl rfl rfl rfl ?_)
      refine r_cons (r_pass rfl rfl rfl rfl rfl ?_)
      refine r_cons (r_pass rfl rfl rfl rfl rfl ?_)
      refine r_cons (r_pass rfl rfl rfl rfl rfl ?_)
      refine r_cons (r_pass rfl rfl rfl rfl rfl ?_)
      refine r_cons (s_pick_f (.bool false) rfl rfl rfl ?_)
      refine r_cons (s_move (.bool false) rfl rfl ?_)
      refine r_cons (r_pass rfl rfl rfl rfl rfl ?_)
      refine r_cons (r_pass rfl rfl rfl rfl rfl ?_)
      refine r_cons (r_pass rfl rfl rfl rfl rfl ?_)
      refine r_cons (r_pass rfl rfl rfl rfl rfl ?_)
      refine r_cons (r_pass rfl rfl rfl rfl rfl ?_)
      refine r_cons (s_pick_f (.bool false) rfl rfl rfl ?_)
      refine r_cons (s_move (.bool false) rfl rfl ?_)
      refine r_cons (r_pass rfl rfl rfl rfl rfl ?_)
      refine r_cons (r_pass rfl rfl rfl rfl rfl ?_)
      refine r_cons (r_pass rfl rfl rfl rfl rfl ?_)
      refine r_cons (r_pass rfl rfl rfl rfl rfl ?_)
      refine r_cons (r_pass rfl rfl rfl rfl rfl ?_)
      refine r_cons (s_pick_f (.bool false) rfl rfl rfl ?_)
      refine r_cons (s_move (.bool false) rfl rfl ?_)
      refine r_cons (r_pass rfl rfl rfl rfl rfl ?_)
      refine r_cons (r_pass rfl rfl rfl rfl rfl ?_)
      refine r_cons (r_pass rfl rfl rfl rfl rfl ?_)
      refine r_cons (r_pass rfl rfl rfl rfl rfl ?_)
      refine r_cons (r_pass rfl rfl rfl rfl rfl ?_)
      refine r_cons (s_pick_f (.bool false) rfl rfl rfl ?_)
      refine r_cons (s_assign (.bool false) rfl rfl ?_)
      refine r_nil ?_
      refine g_ret' [.bool false] Try.func67 Try.results67 ⟨rfl, trivial⟩ ?_
      have H22 : St W w9 F := ((((((H10.drop 0 rfl).drop 0 rfl).drop 0 rfl).drop 0 rfl).drop 0 rfl).drop 0 rfl)
      exact ⟨congrArg Value.bool (by rw [sameIt_eq]; (try simp only [Bool.and_true, Bool.and_eq_true, Bool.and_eq_false_iff, decide_eq_true_eq, decide_eq_false_iff_not]); simp_all), H22⟩
  · skip
    refine r_cons (s_eql false rfl rfl (dfalse hc11) rfl ?_)
    refine r_cons (s_move (.bool false) rfl rfl ?_)
    refine r_cons (r_pass rfl rfl rfl rfl rfl ?_)
    refine r_cons (r_pass rfl rfl rfl rfl rfl ?_)
    refine r_cons (r_pass rfl rfl rfl rfl rfl ?_)
    refine r_cons (r_pass rfl rfl rfl rfl rfl ?_)
    refine r_cons (r_pass rfl rfl rfl rfl rfl ?_)
    refine r_cons (s_pick_f (.bool false) rfl rfl rfl ?_)
    refine r_cons (s_move (.bool false) rfl rfl ?_)
    refine r_cons (r_pass rfl rfl rfl rfl rfl ?_)
    refine r_cons (r_pass rfl rfl rfl rfl rfl ?_)
    refine r_cons (r_pass rfl rfl rfl rfl rfl ?_)
    refine r_cons (r_pass rfl rfl rfl rfl rfl ?_)
    refine r_cons (r_pass rfl rfl rfl rfl rfl ?_)
    refine r_cons (s_pick_f (.bool false) rfl rfl rfl ?_)
    refine r_cons (s_move (.bool false) rfl rfl ?_)
    refine r_cons (r_pass rfl rfl rfl rfl rfl ?_)
    refine r_cons (r_pass rfl rfl rfl rfl rfl ?_)
    refine r_cons (r_pass rfl rfl rfl rfl rfl ?_)
    refine r_cons (r_pass rfl rfl rfl rfl rfl ?_)
    refine r_cons (r_pass rfl rfl rfl rfl rfl ?_)
    refine r_cons (s_pick_f (.bool false) rfl rfl rfl ?_)
    refine r_cons (s_move (.bool false) rfl rfl ?_)
    refine r_cons (r_pass rfl rfl rfl rfl rfl ?_)
    refine r_cons (r_pass rfl rfl rfl rfl rfl ?_)
    refine r_cons (r_pass rfl rfl rfl rfl rfl ?_)
    refine r_cons (r_pass rfl rfl rfl rfl rfl ?_)
    refine r_cons (r_pass rfl rfl rfl rfl rfl ?_)
    refine r_cons (s_pick_f (.bool false) rfl rfl rfl ?_)
    refine r_cons (s_move (.bool false) rfl rfl ?_)
    refine r_cons (r_pass rfl rfl rfl rfl rfl ?_)
    refine r_cons (r_pass rfl rfl rfl rfl rfl ?_)
    refine r_cons (r_pass rfl rfl rfl rfl rfl ?_)
    refine r_cons (r_pass rfl rfl rfl rfl rfl ?_)
    refine r_cons (r_pass rfl rfl rfl rfl rfl ?_)
    refine r_cons (s_pick_f (.bool false) rfl rfl rfl ?_)
    refine r_cons (s_assign (.bool false) rfl rfl ?_)
    refine r_nil ?_
    refine g_ret' [.bool false] Try.func67 Try.results67 ⟨rfl, trivial⟩ ?_
    have H23 : St W w9 F := ((((((H10.drop 0 rfl).drop 0 rfl).drop 0 rfl).drop 0 rfl).drop 0 rfl).drop 0 rfl)
    exact ⟨congrArg Value.bool (by rw [sameIt_eq]; (try simp only [Bool.and_true, Bool.and_eq_true, Bool.and_eq_false_iff, decide_eq_true_eq, decide_eq_false_iff_not]); simp_all), H23⟩
/-- A gate: its epoch, what waits. -/
def GtA (g : Nat) (e : Int) (L : List ItemD) : Atom := ex fun q : Option Addr × Nat => star [blk g (.cells #[.bool true, .int .i64 e, .slice q.1 L.length q.2] 80 (0, 0)), Row 32 6 (.slice q.1 L.length q.2) L.length (L.flatMap itCell), itsA L]
set_option maxHeartbeats 4000000 in
set_option maxRecDepth 100000 in
theorem Gate_turn {W w : World} {F : List Atom} (g : Nat) (e : Int) (L : List ItemD) (hL : L.length ≤ 1099511627776) {i : Nat} (hi : F[i]? = some (GtA g e L)) (H : St W w F) : Calls Try.prog 65 #[.pointer (some ⟨g, 0, none⟩)] w (Ret fun v w' => ∃ p c, v = .tuple #[.slice p ((trO epD kdD e L).length) c, .bool (trE epD kdD e L)] ∧ St W w' (Row 32 6 (.slice p ((trO epD kdD e L).length) c) ((trO epD kdD e L).length) ((trO epD kdD e L).flatMap itCell) :: itsA (trO epD kdD e L) :: F.set i (GtA g e (trR epD e L)))) := by
  have H0 := H.front hi
  refine calls_of_go (n := 47) Try.func65 rfl Try.ntmps65 rfl ?_
  refine g_seq ?_
  refine g_region ?_
  refine r_cons (s_assign (.slice none 0 0) rfl rfl ?_)
  refine r_cons (s_assign (.bool false) rfl rfl ?_)
  refine r_nil ?_
  refine g_seq ?_
  refine g_region ?_
  refine r_cons (s_assign (.slice none 0 0) rfl rfl ?_)
  refine r_cons (s_assign (.slice none 0 0) rfl rfl ?_)
  refine r_nil ?_
  refine g_seq ?_
  refine g_region ?_
  refine r_cons (s_assign (.bool false) rfl rfl ?_)
  refine r_nil ?_
  refine g_seq ?_
  refine g_seq ?_
  refine g_region ?_
  refine r_cons (s_move (.pointer (some ⟨g, 0, none⟩)) rfl rfl ?_)
  refine r_cons (s_nilCheck (.pointer (some ⟨g, 0, none⟩)) rfl ⟨_, rfl⟩ rfl ?_)
  refine r_cons (s_fieldAddr 80 2 2 2 22 rfl fi_80_2 rfl rfl ?_)
  have H1 := H0.move 0 rfl
  obtain ⟨⟨pp2, cc3⟩, H4⟩ := St.open_ex H1
  have H5 := St.open_star H4
  have H6 : St W w (blk g (.cells #[.bool true, .int .i64 e, .slice pp2 L.length cc3] 80 (0, 0)) :: Row 32 6 (.slice pp2 L.length cc3) L.length (L.flatMap itCell) :: itsA L :: (F.set i emp)) := H5
  refine r_cons (s_load (.slice pp2 L.length cc3) ag_22 rfl (H6.blk_at (i := 0) rfl) rfl rfl ?_)
  refine r_cons (s_len L.length rfl ⟨_, un_22⟩ rfl ?_)
  refine r_cons (s_move (.int .i64 0) rfl rfl ?_)
  refine r_nil ?_
  refine g_block ?_
  have H7 : St W w (blk g (.cells #[.bool true, .int .i64 e, .slice pp2 L.length cc3] 80 (0, 0)) :: Im 6 (.slice pp2 L.length cc3) L.length (L.flatMap itCell) :: itsA L :: (F.set i emp)) := Row.im H6 (i := 1) rfl
  obtain ⟨pA8, cA9, gA10, oA11, kA12, eA13, zA14, he20, hn15, hp16, hx17, hs18, hml, H19⟩ := Im.open_ H7 (i := 1) rfl
  obtain ⟨rfl, rfl⟩ : pp2 = pA8 ∧ cc3 = cA9 := by injection he20 with a_ b_ c_; exact ⟨a_, c_⟩
  have H21 := Row.nil_intro H19 32 6
  have H22 := Row.nil_intro H21 32 6
  refine g_loop_inv (fun (x_ : Nat × (Option Addr) × Nat × (Option Addr) × Nat) => match x_ with | (j, p1, d1, p2, d2) => [(0, .pointer (some ⟨g, 0, none⟩)), (2, .slice none 0 0), (3, .bool false), (4, .slice p1 ((trO epD kdD e (L.take j)).length) d1), (5, .slice p2 ((trR epD e (L.take j)).length) d2), (6, .bool (trE epD kdD e (L.take j))), (12, .slice pp2 L.length cc3), (13, .int .i64 (L.length : Int)), (14, .int .i64 (j : Int))]) (fun (x_ : Nat × (Option Addr) × Nat × (Option Addr) × Nat) w => match x_ with | (j, p1, d1, p2, d2) => (j ≤ L.length) ∧ St W w (Row 32 6 (.slice p1 ((trO epD kdD e (L.take j)).length) d1) ((trO epD kdD e (L.take j)).length) ((trO epD kdD e (L.take j)).flatMap itCell) :: Row 32 6 (.slice p2 ((trR epD e (L.take j)).length) d2) ((trR epD e (L.take j)).length) ((trR epD e (L.take j)).flatMap itCell) :: imi (0 < L.length) gA10 (.cells kA12 eA13 zA14) :: blk g (.cells #[.bool true, .int .i64 e, .slice pp2 L.length cc3] 80 (0, 0)) :: Im 6 (.slice pp2 L.length cc3) L.length (L.flatMap itCell) :: itsA L :: (F.set i emp))) (fun (x_ : Nat × (Option Addr) × Nat × (Option Addr) × Nat) => match x_ with | (j, p1, d1, p2, d2) => L.length - j) (0, none, 0, none, 0) ?_ ?_ ?_
  · exact ⟨by first | rfl | exact vint (by omega), by first | rfl | exact vint (by omega), by first | rfl | exact vint (by omega), by first | rfl | exact vint (by omega), by first | rfl | exact vint (by omega), by first | rfl | exact vint (by omega), by first | rfl | exact vint (by omega), by first | rfl | exact vint (by omega), by first | rfl | exact vint (by omega), trivial⟩
  · exact ⟨(by omega), H22⟩
  · rintro ⟨j, p1, d1, p2, d2⟩ ρ23 w24 ⟨hjn, H25⟩ nx26
    change Ends _ _ (upds ρ23 [(0, .pointer (some ⟨g, 0, none⟩)), (2, .slice none 0 0), (3, .bool false), (4, .slice p1 ((trO epD kdD e (L.take j)).length) d1), (5, .slice p2 ((trR epD e (L.take j)).length) d2), (6, .bool (trE epD kdD e (L.take j))), (12, .slice pp2 L.length cc3), (13, .int .i64 (L.length : Int)), (14, .int .i64 (j : Int))]) w24
    have hlr := trR_len (ep := epD) (e := e) (L := L.take j)
    have hlo := trO_len (ep := epD) (kd := kdD) (e := e) (L := L.take j)
    have hlt : (L.take j).length = j := by rw [List.length_take]; omega
    refine g_seq ?_
    refine g_region ?_
    by_cases hc27 : (j : Int) < (L.length : Int)
    · skip
      refine r_cons (s_lss true rfl rfl (dtrue hc27) rfl ?_)
      refine r_nil ?_
      refine g_seq ?_
      refine g_true rfl ?_
      refine g_skip ?_
      refine g_seq ?_
      refine g_block ?_
      refine g_seq ?_
      refine g_region ?_
      refine r_cons (s_indexAddr gA10 (off := oA11) (j : Int) 6 (oA11 + j * 6) (by exact congrArg (fun z_ => Value.slice z_ L.length cc3) (hp16 (by omega))) rfl el_22 (by omega) rfl rfl ?_)
      refine r_cons (s_loadAgg [.int .i64 ((L.getD j default).op.v), .int .i64 ((L.getD j default).inp.v), .int .i64 ((L.getD j default).ep.v), .int .i64 ((L.getD j default).kind.v), .slice ((L.getD j default).p) ((L.getD j default).bs.length) ((L.getD j default).c), .int .i64 ((L.getD j default).t.v)] 6 ag_32 rfl (H25.imi_at (i := 2) rfl (by omega)) (by have := elem_size (i := j) (s := 6) (hs18 (by omega)) (by omega); omega) (elem_take itCell_len (hx17 (by omega)) (by omega) default) rfl ?_)
      refine r_cons (s_alloc H25 32 ze_32 rfl ?_); intro bk28 w29 H30
      refine r_cons (s_storeAgg H30 0 #[.int .i64 ((L.getD j default).op.v), .int .i64 ((L.getD j default).inp.v), .int .i64 ((L.getD j default).ep.v), .int .i64 ((L.getD j default).kind.v), .slice ((L.getD j default).p) ((L.getD j default).bs.length) ((L.getD j default).c), .int .i64 ((L.getD j default).t.v)] 6 rfl rfl rfl sz_32 rfl (by simp [Value.oneCell']) (Nat.le_of_ble_eq_true rfl) (fun o h1 h2 => by first | (simp; done) | (simp; omega)) (cs' := #[.int .i64 ((L.getD j default).op.v), .int .i64 ((L.getD j default).inp.v), .int .i64 ((L.getD j default).ep.v), .int .i64 ((L.getD j default).kind.v), .slice ((L.getD j default).p) ((L.getD j default).bs.length) ((L.getD j default).c), .int .i64 ((L.getD j default).t.v)]) rfl ?_); intro w31 H32
      refine r_nil ?_
      refine g_block ?_
      refine g_seq ?_
      refine g_quiet (fun w' => St W w' (blk bk28 (.cells #[.int .i64 ((L.getD j default).op.v), .int .i64 ((L.getD j default).inp.v), .int .i64 ((L.getD j default).ep.v), .int .i64 ((L.getD j default).kind.v), .slice ((L.getD j default).p) ((L.getD j default).bs.length) ((L.getD j default).c), .int .i64 ((L.getD j default).t.v)] 32 (0, 0)) :: Row 32 6 (.slice p1 ((trO epD kdD e (L.take j)).length) d1) ((trO epD kdD e (L.take j)).length) ((trO epD kdD e (L.take j)).flatMap itCell) :: Row 32 6 (.slice p2 ((trR epD e (L.take j)).length) d2) ((trR epD e (L.take j)).length) ((trR epD e (L.take j)).flatMap itCell) :: imi (0 < L.length) gA10 (.cells kA12 eA13 zA14) :: blk g (.cells #[.bool true, .int .i64 e, .slice pp2 L.length cc3] 80 (0, 0)) :: Im 6 (.slice pp2 L.length cc3) L.length (L.flatMap itCell) :: itsA L :: (F.set i emp))) mixed (by kernel_rfl) H32.drew ?_
      refine q_cons (q_val rfl rfl rfl (by intro w hw; exact x_fieldAddr 32 2 2 2 2 rfl fi_32_2 rfl w) ?_)
      refine q_cons (q_val rfl rfl rfl (by intro w hw; exact x_load (.int .i64 ((L.getD j default).ep.v)) ag_2 rfl (hw.blk_at (i := 0) rfl) rfl) ?_)
      refine q_cons (q_val rfl rfl rfl (by intro w hw; exact x_move (.pointer (some ⟨g, 0, none⟩)) rfl w) ?_)
      refine q_cons (q_val rfl rfl rfl (by intro w hw; exact x_nilCheck (.pointer (some ⟨g, 0, none⟩)) rfl ⟨_, rfl⟩ w) ?_)
      refine q_cons (q_val rfl rfl rfl (by intro w hw; exact x_fieldAddr 80 1 1 1 2 rfl fi_80_1 rfl w) ?_)
      refine q_cons (q_val rfl rfl rfl (by intro w hw; exact x_load (.int .i64 e) ag_2 rfl (hw.blk_at (i := 4) rfl) rfl) ?_)
      by_cases hc33 : (L.getD j default).ep.v = e
      · skip
        refine q_cons (q_val rfl rfl rfl (by intro w hw; exact x_neq false rfl rfl (ntrue hc33) w) ?_)
        refine q_cons (q_val rfl rfl rfl (by intro w hw; exact x_assign (.bool false) rfl w) ?_)
        refine q_nil ?_
        intro w34 H35
        refine g_false rfl ?_
        refine g_seq ?_
        refine g_region ?_
        refine r_cons (s_move (.bool (trE epD kdD e (L.take j))) rfl rfl ?_)
        refine r_cons (s_assign (.bool (trE epD kdD e (L.take j))) rfl rfl ?_)
        refine r_nil ?_
        by_cases hb36 : (trE epD kdD e (L.take j)) = true
        · skip
          refine g_true (congrArg Value.bool hb36) ?_
          refine g_skip ?_
          refine g_inBlock ?_
          refine g_inBlock ?_
          refine g_region ?_
          refine r_cons (s_add ((j : Int) + 1) rfl rfl (wi64 (by omega)) rfl ?_)
          refine r_cons (s_move (.int .i64 ((j : Int) + 1)) rfl rfl ?_)
          refine r_nil ?_
          have ht9 := take_getD (L := L) (j := j) (by omega)
          obtain ⟨h1, h2, h3⟩ := tr_past (L := L.take j) (x := (L.getD j default)) (ep := epD) (e := e) hc33 hb36
          have H37 : St W w34 (blk bk28 (.cells #[.int .i64 ((L.getD j default).op.v), .int .i64 ((L.getD j default).inp.v), .int .i64 ((L.getD j default).ep.v), .int .i64 ((L.getD j default).kind.v), .slice ((L.getD j default).p) ((L.getD j default).bs.length) ((L.getD j default).c), .int .i64 ((L.getD j default).t.v)] 32 (0, 0)) :: Row 32 6 (.slice p1 ((trO epD kdD e (L.take (j + 1))).length) d1) ((trO epD kdD e (L.take (j + 1))).length) ((trO epD kdD e (L.take (j + 1))).flatMap itCell) :: Row 32 6 (.slice p2 ((trR epD e (L.take (j + 1))).length) d2) ((trR epD e (L.take (j + 1))).length) ((trR epD e (L.take (j + 1))).flatMap itCell) :: imi (0 < L.length) gA10 (.cells kA12 eA13 zA14) :: blk g (.cells #[.bool true, .int .i64 e, .slice pp2 L.length cc3] 80 (0, 0)) :: Im 6 (.slice pp2 L.length cc3) L.length (L.flatMap itCell) :: itsA L :: (F.set i emp)) := by rw [ht9, h1, h2]; (try rw [List.flatMap_append, List.length_append]); exact H35
          have H38 : St W w34 (Row 32 6 (.slice p1 ((trO epD kdD e (L.take (j + 1))).length) d1) ((trO epD kdD e (L.take (j + 1))).length) ((trO epD kdD e (L.take (j + 1))).flatMap itCell) :: Row 32 6 (.slice p2 ((trR epD e (L.take (j + 1))).length) d2) ((trR epD e (L.take (j + 1))).length) ((trR epD e (L.take (j + 1))).flatMap itCell) :: imi (0 < L.length) gA10 (.cells kA12 eA13 zA14) :: blk g (.cells #[.bool true, .int .i64 e, .slice pp2 L.length cc3] 80 (0, 0)) :: Im 6 (.slice pp2 L.length cc3) L.length (L.flatMap itCell) :: itsA L :: (F.set i emp)) := (((((((H37.move 6 rfl).move 6 rfl).move 6 rfl).move 6 rfl).move 6 rfl).move 6 rfl).drop 6 rfl)
          exact nx26 (j + 1, p1, d1, p2, d2) _ _ ⟨(by omega), H38⟩ (by first | (dsimp only; omega) | omega) ⟨by first | rfl | exact vint (by omega), by first | rfl | exact vint (by omega), by first | rfl | exact vint (by omega), by rw [ht9, h2]; first | rfl | (rw [List.length_append]; rfl), by rw [ht9, h1]; first | rfl | (rw [List.length_append]; rfl), by rw [ht9, h3]; first | rfl | exact congrArg Value.bool (by assumption), by first | rfl | exact vint (by omega), by first | rfl | exact vint (by omega), by first | rfl | exact vint (by omega), trivial⟩
        · have hb36 := eq_false_of_ne_true hb36
          refine g_false (congrArg Value.bool hb36) ?_
          refine g_seq ?_
          refine g_region ?_
          refine r_cons (s_fieldAddr 32 3 3 3 3 rfl fi_32_3 rfl rfl ?_)
          refine r_cons (s_load (.int .i64 ((L.getD j default).kind.v)) ag_3 rfl (H35.blk_at (i := 0) rfl) rfl rfl ?_)
          by_cases hc39 : (L.getD j default).kind.v = 3
          · skip
            refine r_cons (s_eql true rfl rfl (dtrue hc39) rfl ?_)
            refine r_cons (s_assign (.bool true) rfl rfl ?_)
            refine r_nil ?_
            refine g_true rfl ?_
            refine g_region ?_
            refine r_cons (s_assign (.bool true) rfl rfl ?_)
            refine r_nil ?_
            refine g_inBlock ?_
            refine g_inBlock ?_
            refine g_region ?_
            refine r_cons (s_add ((j : Int) + 1) rfl rfl (wi64 (by omega)) rfl ?_)
            refine r_cons (s_move (.int .i64 ((j : Int) + 1)) rfl rfl ?_)
            refine r_nil ?_
            have ht9 := take_getD (L := L) (j := j) (by omega)
            obtain ⟨h1, h2, h3⟩ := tr_end (L := L.take j) (x := (L.getD j default)) (ep := epD) (e := e) hc33 hb36 hc39
            have H40 : St W w34 (blk bk28 (.cells #[.int .i64 ((L.getD j default).op.v), .int .i64 ((L.getD j default).inp.v), .int .i64 ((L.getD j default).ep.v), .int .i64 ((L.getD j default).kind.v), .slice ((L.getD j default).p) ((L.getD j default).bs.length) ((L.getD j default).c), .int .i64 ((L.getD j default).t.v)] 32 (0, 0)) :: Row 32 6 (.slice p1 ((trO epD kdD e (L.take (j + 1))).length) d1) ((trO epD kdD e (L.take (j + 1))).length) ((trO epD kdD e (L.take (j + 1))).flatMap itCell) :: Row 32 6 (.slice p2 ((trR epD e (L.take (j + 1))).length) d2) ((trR epD e (L.take (j + 1))).length) ((trR epD e (L.take (j + 1))).flatMap itCell) :: imi (0 < L.length) gA10 (.cells kA12 eA13 zA14) :: blk g (.cells #[.bool true, .int .i64 e, .slice pp2 L.length cc3] 80 (0, 0)) :: Im 6 (.slice pp2 L.length cc3) L.length (L.flatMap itCell) :: itsA L :: (F.set i emp)) := by rw [ht9, h1, h2]; (try rw [List.flatMap_append, List.length_append]); exact H35
            have H41 : St W w34 (Row 32 6 (.slice p1 ((trO epD kdD e (L.take (j + 1))).length) d1) ((trO epD kdD e (L.take (j + 1))).length) ((trO epD kdD e (L.take (j + 1))).flatMap itCell) :: Row 32 6 (.slice p2 ((trR epD e (L.take (j + 1))).length) d2) ((trR epD e (L.take (j + 1))).length) ((trR epD e (L.take (j + 1))).flatMap itCell) :: imi (0 < L.length) gA10 (.cells kA12 eA13 zA14) :: blk g (.cells #[.bool true, .int .i64 e, .slice pp2 L.length cc3] 80 (0, 0)) :: Im 6 (.slice pp2 L.length cc3) L.length (L.flatMap itCell) :: itsA L :: (F.set i emp)) := (((((((H40.move 6 rfl).move 6 rfl).move 6 rfl).move 6 rfl).move 6 rfl).move 6 rfl).drop 6 rfl)
            exact nx26 (j + 1, p1, d1, p2, d2) _ _ ⟨(by omega), H41⟩ (by first | (dsimp only; omega) | omega) ⟨by first | rfl | exact vint (by omega), by first | rfl | exact vint (by omega), by first | rfl | exact vint (by omega), by rw [ht9, h2]; first | rfl | (rw [List.length_append]; rfl), by rw [ht9, h1]; first | rfl | (rw [List.length_append]; rfl), by rw [ht9, h3]; first | rfl | exact congrArg Value.bool (by assumption), by first | rfl | exact vint (by omega), by first | rfl | exact vint (by omega), by first | rfl | exact vint (by omega), trivial⟩
          · skip
            refine r_cons (s_eql false rfl rfl (dfalse hc39) rfl ?_)
            refine r_cons (s_assign (.bool false) rfl rfl ?_)
            refine r_nil ?_
            refine g_false rfl ?_
            refine g_region ?_
            refine r_cons (s_move (.slice p1 ((trO epD kdD e (L.take j)).length) d1) rfl rfl ?_)
            refine r_cons (s_loadAgg [.int .i64 ((L.getD j default).op.v), .int .i64 ((L.getD j default).inp.v), .int .i64 ((L.getD j default).ep.v), .int .i64 ((L.getD j default).kind.v), .slice ((L.getD j default).p) ((L.getD j default).bs.length) ((L.getD j default).c), .int .i64 ((L.getD j default).t.v)] 6 ag_32 rfl (H35.blk_at (i := 0) rfl) (Nat.le_of_ble_eq_true rfl) rfl rfl ?_)
            refine r_cons (s_buildSlice H35 6 1 (cs := #[.int .i64 ((L.getD j default).op.v), .int .i64 ((L.getD j default).inp.v), .int .i64 ((L.getD j default).ep.v), .int .i64 ((L.getD j default).kind.v), .slice ((L.getD j default).p) ((L.getD j default).bs.length) ((L.getD j default).c), .int .i64 ((L.getD j default).t.v)]) #[.int .i64 0, .int .i64 0, .int .i64 0, .int .i64 0, .slice none 0 0, .int .i64 0] el_22 ze_32 (by decide) (by decide) (by kernel_rfl) rfl ?_); intro bk42 w43 H44
            refine r_cons (s_append H44 2 rfl rfl rfl (rd_blk (H44.blk_at (i := 0) rfl) rfl (Nat.le_of_ble_eq_true rfl) (by simp [Value.oneCell'])) ap_22 (by decide) (by unfold maxLen; omega) (by omega) (n' := (trO epD kdD e (L.take j)).length + 1) (xs' := (trO epD kdD e (L.take j)).flatMap itCell ++ ([.int .i64 ((L.getD j default).op.v), .int .i64 ((L.getD j default).inp.v), .int .i64 ((L.getD j default).ep.v), .int .i64 ((L.getD j default).kind.v), .slice ((L.getD j default).p) ((L.getD j default).bs.length) ((L.getD j default).c), .int .i64 ((L.getD j default).t.v)] : List Value)) (by omega) (by first | rfl | simp) rfl ?_); intro vv45 w46 H47 hn48
            obtain ⟨pp49, cc50, rfl⟩ := Row.slice H47 (i := 2) rfl
            refine r_cons (s_assign (.slice pp49 ((trO epD kdD e (L.take j)).length + 1) cc50) rfl rfl ?_)
            refine r_nil ?_
            refine g_inBlock ?_
            refine g_inBlock ?_
            refine g_region ?_
            refine r_cons (s_add ((j : Int) + 1) rfl rfl (wi64 (by omega)) rfl ?_)
            refine r_cons (s_move (.int .i64 ((j : Int) + 1)) rfl rfl ?_)
            refine r_nil ?_
            have ht9 := take_getD (L := L) (j := j) (by omega)
            obtain ⟨h1, h2, h3⟩ := tr_pass (L := L.take j) (x := (L.getD j default)) (ep := epD) (e := e) hc33 hb36 hc39
            have H51 : St W w46 (blk bk42 (.cells #[.int .i64 ((L.getD j default).op.v), .int .i64 ((L.getD j default).inp.v), .int .i64 ((L.getD j default).ep.v), .int .i64 ((L.getD j default).kind.v), .slice ((L.getD j default).p) ((L.getD j default).bs.length) ((L.getD j default).c), .int .i64 ((L.getD j default).t.v)] 32 (0, 0)) :: blk bk28 (.cells #[.int .i64 ((L.getD j default).op.v), .int .i64 ((L.getD j default).inp.v), .int .i64 ((L.getD j default).ep.v), .int .i64 ((L.getD j default).kind.v), .slice ((L.getD j default).p) ((L.getD j default).bs.length) ((L.getD j default).c), .int .i64 ((L.getD j default).t.v)] 32 (0, 0)) :: Row 32 6 (.slice pp49 ((trO epD kdD e (L.take (j + 1))).length) cc50) ((trO epD kdD e (L.take (j + 1))).length) ((trO epD kdD e (L.take (j + 1))).flatMap itCell) :: Row 32 6 (.slice p2 ((trR epD e (L.take (j + 1))).length) d2) ((trR epD e (L.take (j + 1))).length) ((trR epD e (L.take (j + 1))).flatMap itCell) :: imi (0 < L.length) gA10 (.cells kA12 eA13 zA14) :: blk g (.cells #[.bool true, .int .i64 e, .slice pp2 L.length cc3] 80 (0, 0)) :: Im 6 (.slice pp2 L.length cc3) L.length (L.flatMap itCell) :: itsA L :: (F.set i emp)) := by rw [ht9, h1, h2]; (try rw [List.flatMap_append, List.length_append]); exact H47
            have H52 : St W w46 (Row 32 6 (.slice pp49 ((trO epD kdD e (L.take (j + 1))).length) cc50) ((trO epD kdD e (L.take (j + 1))).length) ((trO epD kdD e (L.take (j + 1))).flatMap itCell) :: Row 32 6 (.slice p2 ((trR epD e (L.take (j + 1))).length) d2) ((trR epD e (L.take (j + 1))).length) ((trR epD e (L.take (j + 1))).flatMap itCell) :: imi (0 < L.length) gA10 (.cells kA12 eA13 zA14) :: blk g (.cells #[.bool true, .int .i64 e, .slice pp2 L.length cc3] 80 (0, 0)) :: Im 6 (.slice pp2 L.length cc3) L.length (L.flatMap itCell) :: itsA L :: (F.set i emp)) := ((((((((H51.move 7 rfl).move 7 rfl).move 7 rfl).move 7 rfl).move 7 rfl).move 7 rfl).drop 6 rfl).drop 6 rfl)
            exact nx26 (j + 1, pp49, cc50, p2, d2) _ _ ⟨(by omega), H52⟩ (by first | (dsimp only; omega) | omega) ⟨by first | rfl | exact vint (by omega), by first | rfl | exact vint (by omega), by first | rfl | exact vint (by omega), by rw [ht9, h2]; first | rfl | (rw [List.length_append]; rfl), by rw [ht9, h1]; first | rfl | (rw [List.length_append]; rfl), by rw [ht9, h3]; first | rfl | exact congrArg Value.bool (by assumption), by first | rfl | exact vint (by omega), by first | rfl | exact vint (by omega), by first | rfl | exact vint (by omega), trivial⟩
      · skip
        refine q_cons (q_val rfl rfl rfl (by intro w hw; exact x_neq true rfl rfl (nfalse hc33) w) ?_)
        refine q_cons (q_val rfl rfl rfl (by intro w hw; exact x_assign (.bool true) rfl w) ?_)
        refine q_nil ?_
        intro w53 H54
        refine g_true rfl ?_
        refine g_region ?_
        refine r_cons (s_move (.slice p2 ((trR epD e (L.take j)).length) d2) rfl rfl ?_)
        refine r_cons (s_loadAgg [.int .i64 ((L.getD j default).op.v), .int .i64 ((L.getD j default).inp.v), .int .i64 ((L.getD j default).ep.v), .int .i64 ((L.getD j default).kind.v), .slice ((L.getD j default).p) ((L.getD j default).bs.length) ((L.getD j default).c), .int .i64 ((L.getD j default).t.v)] 6 ag_32 rfl (H54.blk_at (i := 0) rfl) (Nat.le_of_ble_eq_true rfl) rfl rfl ?_)
        refine r_cons (s_buildSlice H54 6 1 (cs := #[.int .i64 ((L.getD j default).op.v), .int .i64 ((L.getD j default).inp.v), .int .i64 ((L.getD j default).ep.v), .int .i64 ((L.getD j default).kind.v), .slice ((L.getD j default).p) ((L.getD j default).bs.length) ((L.getD j default).c), .int .i64 ((L.getD j default).t.v)]) #[.int .i64 0, .int .i64 0, .int .i64 0, .int .i64 0, .slice none 0 0, .int .i64 0] el_22 ze_32 (by decide) (by decide) (by kernel_rfl) rfl ?_); intro bk55 w56 H57
        refine r_cons (s_append H57 3 rfl rfl rfl (rd_blk (H57.blk_at (i := 0) rfl) rfl (Nat.le_of_ble_eq_true rfl) (by simp [Value.oneCell'])) ap_22 (by decide) (by unfold maxLen; omega) (by omega) (n' := (trR epD e (L.take j)).length + 1) (xs' := (trR epD e (L.take j)).flatMap itCell ++ ([.int .i64 ((L.getD j default).op.v), .int .i64 ((L.getD j default).inp.v), .int .i64 ((L.getD j default).ep.v), .int .i64 ((L.getD j default).kind.v), .slice ((L.getD j default).p) ((L.getD j default).bs.length) ((L.getD j default).c), .int .i64 ((L.getD j default).t.v)] : List Value)) (by omega) (by first | rfl | simp) rfl ?_); intro vv58 w59 H60 hn61
        obtain ⟨pp62, cc63, rfl⟩ := Row.slice H60 (i := 3) rfl
        refine r_cons (s_assign (.slice pp62 ((trR epD e (L.take j)).length + 1) cc63) rfl rfl ?_)
        refine r_nil ?_
        refine g_inBlock ?_
        refine g_inBlock ?_
        refine g_region ?_
        refine r_cons (s_add ((j : Int) + 1) rfl rfl (wi64 (by omega)) rfl ?_)
        refine r_cons (s_move (.int .i64 ((j : Int) + 1)) rfl rfl ?_)
        refine r_nil ?_
        have ht9 := take_getD (L := L) (j := j) (by omega)
        obtain ⟨h1, h2, h3⟩ := tr_other (L := L.take j) (x := (L.getD j default)) (ep := epD) (e := e) (kd := kdD) hc33
        have H64 : St W w59 (blk bk55 (.cells #[.int .i64 ((L.getD j default).op.v), .int .i64 ((L.getD j default).inp.v), .int .i64 ((L.getD j default).ep.v), .int .i64 ((L.getD j default).kind.v), .slice ((L.getD j default).p) ((L.getD j default).bs.length) ((L.getD j default).c), .int .i64 ((L.getD j default).t.v)] 32 (0, 0)) :: blk bk28 (.cells #[.int .i64 ((L.getD j default).op.v), .int .i64 ((L.getD j default).inp.v), .int .i64 ((L.getD j default).ep.v), .int .i64 ((L.getD j default).kind.v), .slice ((L.getD j default).p) ((L.getD j default).bs.length) ((L.getD j default).c), .int .i64 ((L.getD j default).t.v)] 32 (0, 0)) :: Row 32 6 (.slice p1 ((trO epD kdD e (L.take (j + 1))).length) d1) ((trO epD kdD e (L.take (j + 1))).length) ((trO epD kdD e (L.take (j + 1))).flatMap itCell) :: Row 32 6 (.slice pp62 ((trR epD e (L.take (j + 1))).length) cc63) ((trR epD e (L.take (j + 1))).length) ((trR epD e (L.take (j + 1))).flatMap itCell) :: imi (0 < L.length) gA10 (.cells kA12 eA13 zA14) :: blk g (.cells #[.bool true, .int .i64 e, .slice pp2 L.length cc3] 80 (0, 0)) :: Im 6 (.slice pp2 L.length cc3) L.length (L.flatMap itCell) :: itsA L :: (F.set i emp)) := by rw [ht9, h1, h2]; (try rw [List.flatMap_append, List.length_append]); exact H60
        have H65 : St W w59 (Row 32 6 (.slice p1 ((trO epD kdD e (L.take (j + 1))).length) d1) ((trO epD kdD e (L.take (j + 1))).length) ((trO epD kdD e (L.take (j + 1))).flatMap itCell) :: Row 32 6 (.slice pp62 ((trR epD e (L.take (j + 1))).length) cc63) ((trR epD e (L.take (j + 1))).length) ((trR epD e (L.take (j + 1))).flatMap itCell) :: imi (0 < L.length) gA10 (.cells kA12 eA13 zA14) :: blk g (.cells #[.bool true, .int .i64 e, .slice pp2 L.length cc3] 80 (0, 0)) :: Im 6 (.slice pp2 L.length cc3) L.length (L.flatMap itCell) :: itsA L :: (F.set i emp)) := ((((((((H64.move 7 rfl).move 7 rfl).move 7 rfl).move 7 rfl).move 7 rfl).move 7 rfl).drop 6 rfl).drop 6 rfl)
        exact nx26 (j + 1, p1, d1, pp62, cc63) _ _ ⟨(by omega), H65⟩ (by first | (dsimp only; omega) | omega) ⟨by first | rfl | exact vint (by omega), by first | rfl | exact vint (by omega), by first | rfl | exact vint (by omega), by rw [ht9, h2]; first | rfl | (rw [List.length_append]; rfl), by rw [ht9, h1]; first | rfl | (rw [List.length_append]; rfl), by rw [ht9, h3]; first | rfl | exact congrArg Value.bool (by assumption), by first | rfl | exact vint (by omega), by first | rfl | exact vint (by omega), by first | rfl | exact vint (by omega), trivial⟩
    · skip
      refine r_cons (s_lss false rfl rfl (dfalse hc27) rfl ?_)
      refine r_nil ?_
      refine g_seq ?_
      refine g_false rfl ?_
      refine g_exit (by rfl) ?_
      refine g_seq ?_
      refine g_region ?_
      refine r_cons (s_move (.pointer (some ⟨g, 0, none⟩)) rfl rfl ?_)
      refine r_cons (s_move (.slice p2 ((trR epD e (L.take j)).length) d2) rfl rfl ?_)
      refine r_cons (s_nilCheck (.pointer (some ⟨g, 0, none⟩)) rfl ⟨_, rfl⟩ rfl ?_)
      refine r_cons (s_fieldAddr 80 2 2 2 22 rfl fi_80_2 rfl rfl ?_)
      refine r_cons (s_store H25 3 (.slice p2 ((trR epD e (L.take j)).length) d2) rfl rfl rfl sz_22 rfl (Nat.le_of_ble_eq_true rfl) rfl (cs' := #[.bool true, .int .i64 e, .slice p2 ((trR epD e (L.take j)).length) d2]) rfl ?_); intro w66 H67
      refine r_nil ?_
      refine g_seq ?_
      refine g_region ?_
      refine r_cons (s_move (.slice p1 ((trO epD kdD e (L.take j)).length) d1) rfl rfl ?_)
      refine r_cons (s_move (.bool (trE epD kdD e (L.take j))) rfl rfl ?_)
      refine r_cons (s_assign (.slice p1 ((trO epD kdD e (L.take j)).length) d1) rfl rfl ?_)
      refine r_cons (s_assign (.bool (trE epD kdD e (L.take j))) rfl rfl ?_)
      refine r_nil ?_
      refine g_ret' [.slice p1 ((trO epD kdD e (L.take j)).length) d1, .bool (trE epD kdD e (L.take j))] Try.func65 Try.results65 ⟨rfl, rfl, trivial⟩ ?_
      have hj9 : L.take j = L := by rw [show j = L.length from by omega, List.take_length]
      have H68 : St W w66 (Row 32 6 (.slice p1 ((trO epD kdD e L).length) d1) ((trO epD kdD e L).length) ((trO epD kdD e L).flatMap itCell) :: Row 32 6 (.slice p2 ((trR epD e L).length) d2) ((trR epD e L).length) ((trR epD e L).flatMap itCell) :: imi (0 < L.length) gA10 (.cells kA12 eA13 zA14) :: blk g (.cells #[.bool true, .int .i64 e, .slice p2 ((trR epD e L).length) d2] 80 (0, 0)) :: Im 6 (.slice pp2 L.length cc3) L.length (L.flatMap itCell) :: itsA L :: (F.set i emp)) := by have hx := H67; rw [hj9] at hx; exact hx
      have H69 := itsA_sub (M := (trR epD e L)) H68 (i := 5) rfl (fun x hx => (trR_mem hx).1)
      have H70 := itsA_sub (M := (trO epD kdD e L)) H69 (i := 6) rfl (fun x hx => trO_mem hx)
      have H71 : St W w66 (blk g (.cells #[.bool true, .int .i64 e, .slice p2 ((trR epD e L).length) d2] 80 (0, 0)) :: Row 32 6 (.slice p2 ((trR epD e L).length) d2) ((trR epD e L).length) ((trR epD e L).flatMap itCell) :: itsA (trR epD e L) :: itsA (trO epD kdD e L) :: Row 32 6 (.slice p1 ((trO epD kdD e L).length) d1) ((trO epD kdD e L).length) ((trO epD kdD e L).flatMap itCell) :: imi (0 < L.length) gA10 (.cells kA12 eA13 zA14) :: Im 6 (.slice pp2 L.length cc3) L.length (L.flatMap itCell) :: itsA L :: (F.set i emp)) := (((H70.move 1 rfl).move 3 rfl).move 5 rfl)
      have H72 : St W w66 (GtA g e (trR epD e L) :: itsA (trO epD kdD e L) :: Row 32 6 (.slice p1 ((trO epD kdD e L).length) d1) ((trO epD kdD e L).length) ((trO epD kdD e L).flatMap itCell) :: imi (0 < L.length) gA10 (.cells kA12 eA13 zA14) :: Im 6 (.slice pp2 L.length cc3) L.length (L.flatMap itCell) :: itsA L :: (F.set i emp)) := St.shut_ex (p2, d2) (St.shut_star (ls := [blk g (.cells #[.bool true, .int .i64 e, .slice p2 ((trR epD e L).length) d2] 80 (0, 0)), Row 32 6 (.slice p2 ((trR epD e L).length) d2) ((trR epD e L).length) ((trR epD e L).flatMap itCell), itsA (trR epD e L)]) H71)
      have H73 : St W w66 (Row 32 6 (.slice p1 ((trO epD kdD e L).length) d1) ((trO epD kdD e L).length) ((trO epD kdD e L).flatMap itCell) :: itsA (trO epD kdD e L) :: GtA g e (trR epD e L) :: (F.set i emp)) := (((((H72.move 1 rfl).move 2 rfl).drop 3 rfl).drop 3 rfl).drop 3 rfl)
      have H74 : St W w66 (GtA g e (trR epD e L) :: (Row 32 6 (.slice p1 ((trO epD kdD e L).length) d1) ((trO epD kdD e L).length) ((trO epD kdD e L).flatMap itCell) :: itsA (trO epD kdD e L) :: F).set (i + 2) emp) := (H73.move 2 rfl)
      exact ⟨_, _, by rw [hj9]; rfl, St.back (i := i + 2) (by exact hi) H74⟩
set_option maxHeartbeats 4000000 in
set_option maxRecDepth 100000 in
theorem Gate_Take {W w : World} {F : List Atom} (g : Nat) (e : Int) (L : List ItemD) (x : ItemD) (hok : bsOk x.bs) (hL : L.length ≤ 1099511627776) (he : e + L.length + 1 ≤ 4611686018427387904) (he0 : 0 ≤ e) {i : Nat} (hi : F[i]? = some (GtA g e L)) {ip : Nat} (hp : F[ip]? = some (Im 6 (.slice x.p x.bs.length x.c) x.bs.length (x.bs.flatMap bndCell))) {iq : Nat} (hq : F[iq]? = some (bndsA x.bs)) (H : St W w F) : Calls Try.prog 14 #[.pointer (some ⟨g, 0, none⟩), .agg #[.int .i64 x.op.v, .int .i64 x.inp.v, .int .i64 x.ep.v, .int .i64 x.kind.v, .slice x.p x.bs.length x.c, .int .i64 x.t.v]] w (Ret fun v w' => ∃ (O L2 : List ItemD) (e2 : Int) (p : Option Addr) (c : Nat), v = .tuple #[.slice p O.length c, .int .i64 (tkE e L.length x)] ∧ tkV (tkE e L.length x) e (L.map ItemD.v) x.v = (O.map ItemD.v, e2, L2.map ItemD.v) ∧ St W w' (Row 32 6 (.slice p O.length c) O.length (O.flatMap itCell) :: itsA O :: F.set i (GtA g e2 L2))) := by
  have H0 := ((H.dup hp (Im_pers _ _ _ _)).dup (i := iq + 1) (by exact hq) (bndsA_pers _)).front (i := i + 2) (by exact hi)
  have H1 : St W w (GtA g e L :: bndsA x.bs :: Im 6 (.slice x.p x.bs.length x.c) x.bs.length (x.bs.flatMap bndCell) :: (F.set i emp)) := H0
  have H2 := H1.move 0 rfl
  obtain ⟨⟨pp3, cc4⟩, H5⟩ := St.open_ex H2
  have H6 := St.open_star H5
  have H7 : St W w (blk g (.cells #[.bool true, .int .i64 e, .slice pp3 L.length cc4] 80 (0, 0)) :: Row 32 6 (.slice pp3 L.length cc4) L.length (L.flatMap itCell) :: itsA L :: bndsA x.bs :: Im 6 (.slice x.p x.bs.length x.c) x.bs.length (x.bs.flatMap bndCell) :: (F.set i emp)) := H6
  refine calls_of_go (n := 74) Try.func14 rfl Try.ntmps14 rfl ?_
  refine g_seq ?_
  refine g_region ?_
  refine r_cons (s_box H7 32 (.agg #[.int .i64 x.op.v, .int .i64 x.inp.v, .int .i64 x.ep.v, .int .i64 x.kind.v, .slice x.p x.bs.length x.c, .int .i64 x.t.v]) rfl (cs := #[.int .i64 x.op.v, .int .i64 x.inp.v, .int .i64 x.ep.v, .int .i64 x.kind.v, .slice x.p x.bs.length x.c, .int .i64 x.t.v]) rfl rfl ?_); intro bk8 w9 H10
  refine r_cons (s_assign (.slice none 0 0) rfl rfl ?_)
  refine r_cons (s_assign (.int .i64 0) rfl rfl ?_)
  refine r_nil ?_
  refine g_seq ?_
  refine g_seq ?_
  refine g_region ?_
  refine r_cons (s_move (.pointer (some ⟨g, 0, none⟩)) rfl rfl ?_)
  refine r_cons (s_call [.pointer (some ⟨g, 0, none⟩)] pl_62 rfl rfl (Gate_none g (e : Int) (.slice pp3 L.length cc4) (i := 1) rfl H10) ?_)
  rintro _ w11 ⟨rfl, H12⟩
  refine r_nil ?_
  refine g_false rfl ?_
  refine g_skip ?_
  refine g_seq ?_
  refine g_seq ?_
  refine g_region ?_
  refine r_cons (s_loadAgg [.int .i64 x.op.v, .int .i64 x.inp.v, .int .i64 x.ep.v, .int .i64 x.kind.v, .slice x.p x.bs.length x.c, .int .i64 x.t.v] 6 ag_32 rfl (H12.blk_at (i := 0) rfl) (Nat.le_of_ble_eq_true rfl) rfl rfl ?_)
  refine r_cons (s_call [.agg #[.int .i64 x.op.v, .int .i64 x.inp.v, .int .i64 x.ep.v, .int .i64 x.kind.v, .slice x.p x.bs.length x.c, .int .i64 x.t.v]] pl_63 rfl rfl (migrate_CheckItem x (ip := 5) rfl (iq := 4) rfl H12) ?_)
  rintro _ w13 ⟨rfl, H14⟩
  refine r_cons (s_assign (.int .i64 (itE x)) rfl rfl ?_)
  refine r_nil ?_
  refine g_seq ?_
  refine g_region ?_
  refine r_cons (s_move (.int .i64 (itE x)) rfl rfl ?_)
  by_cases hc15 : itE x = 0
  · skip
    refine r_cons (s_neq false rfl rfl (ntrue hc15) rfl ?_)
    refine r_nil ?_
    refine g_false rfl ?_
    refine g_skip ?_
    refine g_seq ?_
    refine g_block ?_
    refine g_seq ?_
    refine g_quiet (fun w' => St W w' (blk bk8 (.cells #[.int .i64 x.op.v, .int .i64 x.inp.v, .int .i64 x.ep.v, .int .i64 x.kind.v, .slice x.p x.bs.length x.c, .int .i64 x.t.v] 32 (0, 0)) :: blk g (.cells #[.bool true, .int .i64 e, .slice pp3 L.length cc4] 80 (0, 0)) :: Row 32 6 (.slice pp3 L.length cc4) L.length (L.flatMap itCell) :: itsA L :: bndsA x.bs :: Im 6 (.slice x.p x.bs.length x.c) x.bs.length (x.bs.flatMap bndCell) :: (F.set i emp))) mixed (by kernel_rfl) H14.drew ?_
    refine q_cons (q_val rfl rfl rfl (by intro w hw; exact x_fieldAddr 32 2 2 2 2 rfl fi_32_2 rfl w) ?_)
    refine q_cons (q_val rfl rfl rfl (by intro w hw; exact x_load (.int .i64 x.ep.v) ag_2 rfl (hw.blk_at (i := 0) rfl) rfl) ?_)
    refine q_cons (q_val rfl rfl rfl (by intro w hw; exact x_move (.pointer (some ⟨g, 0, none⟩)) rfl w) ?_)
    refine q_cons (q_val rfl rfl rfl (by intro w hw; exact x_nilCheck (.pointer (some ⟨g, 0, none⟩)) rfl ⟨_, rfl⟩ w) ?_)
    refine q_cons (q_val rfl rfl rfl (by intro w hw; exact x_fieldAddr 80 1 1 1 2 rfl fi_80_1 rfl w) ?_)
    refine q_cons (q_val rfl rfl rfl (by intro w hw; exact x_load (.int .i64 e) ag_2 rfl (hw.blk_at (i := 1) rfl) rfl) ?_)
    by_cases hc16 : x.ep.v < e
    · skip
      refine q_cons (q_val rfl rfl rfl (by intro w hw; exact x_lss true rfl rfl (dtrue hc16) w) ?_)
      refine q_cons (q_val rfl rfl rfl (by intro w hw; exact x_assign (.bool true) rfl w) ?_)
      refine q_nil ?_
      intro w17 H18
      refine g_true rfl ?_
      refine g_seq ?_
      refine g_region ?_
      refine r_cons (s_assign (.slice none 0 0) rfl rfl ?_)
      refine r_cons (s_assign (.int .i64 240) rfl rfl ?_)
      refine r_nil ?_
      refine g_ret' [.slice none 0 0, .int .i64 240] Try.func14 Try.results14 ⟨rfl, rfl, trivial⟩ ?_
      have H19 : St W w17 (blk g (.cells #[.bool true, .int .i64 e, .slice pp3 L.length cc4] 80 (0, 0)) :: Row 32 6 (.slice pp3 L.length cc4) L.length (L.flatMap itCell) :: itsA L :: blk bk8 (.cells #[.int .i64 x.op.v, .int .i64 x.inp.v, .int .i64 x.ep.v, .int .i64 x.kind.v, .slice x.p x.bs.length x.c, .int .i64 x.t.v] 32 (0, 0)) :: bndsA x.bs :: Im 6 (.slice x.p x.bs.length x.c) x.bs.length (x.bs.flatMap bndCell) :: (F.set i emp)) := (((H18.move 3 rfl).move 3 rfl).move 3 rfl)
      have H20 : St W w17 (GtA g e L :: blk bk8 (.cells #[.int .i64 x.op.v, .int .i64 x.inp.v, .int .i64 x.ep.v, .int .i64 x.kind.v, .slice x.p x.bs.length x.c, .int .i64 x.t.v] 32 (0, 0)) :: bndsA x.bs :: Im 6 (.slice x.p x.bs.length x.c) x.bs.length (x.bs.flatMap bndCell) :: (F.set i emp)) := St.shut_ex (pp3, cc4) (St.shut_star (ls := [blk g (.cells #[.bool true, .int .i64 e, .slice pp3 L.length cc4] 80 (0, 0)), Row 32 6 (.slice pp3 L.length cc4) L.length (L.flatMap itCell), itsA L]) H19)
      have hE : tkE e L.length x = 240 := by first | exact tkE_it (by assumption) | exact tkE_old (by assumption) (by omega) | exact tkE_full (by assumption) (by omega) (by omega)
      have hE0 : ¬ tkE e L.length x = 0 := by rw [hE]; first | assumption | decide
      have H21 := Row.nil_intro H20 32 6
      have H22 := itsA_nil H21
      have H23 : St W w17 (Row 32 6 (.slice none 0 0) 0 [] :: itsA ([] : List ItemD) :: GtA g e L :: (F.set i emp)) := ((((((H22.move 2 rfl).move 1 rfl).move 2 rfl).drop 3 rfl).drop 3 rfl).drop 3 rfl)
      have H24 : St W w17 (GtA g e L :: (Row 32 6 (.slice none 0 0) 0 [] :: itsA ([] : List ItemD) :: F).set (i + 2) emp) := (H23.move 2 rfl)
      exact ⟨[], L, e, none, 0, by rw [hE]; rfl, tk_no hE0, St.back (i := i + 2) (by exact hi) H24⟩
    · skip
      refine q_cons (q_val rfl rfl rfl (by intro w hw; exact x_lss false rfl rfl (dfalse hc16) w) ?_)
      refine q_cons (q_val rfl rfl rfl (by intro w hw; exact x_assign (.bool false) rfl w) ?_)
      refine q_nil ?_
      intro w25 H26
      refine g_false rfl ?_
      refine g_seq ?_
      refine g_quiet (fun w' => St W w' (blk bk8 (.cells #[.int .i64 x.op.v, .int .i64 x.inp.v, .int .i64 x.ep.v, .int .i64 x.kind.v, .slice x.p x.bs.length x.c, .int .i64 x.t.v] 32 (0, 0)) :: blk g (.cells #[.bool true, .int .i64 e, .slice pp3 L.length cc4] 80 (0, 0)) :: Row 32 6 (.slice pp3 L.length cc4) L.length (L.flatMap itCell) :: itsA L :: bndsA x.bs :: Im 6 (.slice x.p x.bs.length x.c) x.bs.length (x.bs.flatMap bndCell) :: (F.set i emp))) mixed (by kernel_rfl) H26.drew ?_
      refine q_cons (q_val rfl rfl rfl (by intro w hw; exact x_fieldAddr 32 2 2 2 2 rfl fi_32_2 rfl w) ?_)
      refine q_cons (q_val rfl rfl rfl (by intro w hw; exact x_load (.int .i64 x.ep.v) ag_2 rfl (hw.blk_at (i := 0) rfl) rfl) ?_)
      refine q_cons (q_val rfl rfl rfl (by intro w hw; exact x_move (.pointer (some ⟨g, 0, none⟩)) rfl w) ?_)
      refine q_cons (q_val rfl rfl rfl (by intro w hw; exact x_nilCheck (.pointer (some ⟨g, 0, none⟩)) rfl ⟨_, rfl⟩ w) ?_)
      refine q_cons (q_val rfl rfl rfl (by intro w hw; exact x_fieldAddr 80 1 1 1 2 rfl fi_80_1 rfl w) ?_)
      refine q_cons (q_val rfl rfl rfl (by intro w hw; exact x_load (.int .i64 e) ag_2 rfl (hw.blk_at (i := 1) rfl) rfl) ?_)
      by_cases hc27 : e < x.ep.v
      · skip
        refine q_cons (q_val rfl rfl rfl (by intro w hw; exact x_gtr true rfl rfl (dtrue hc27) w) ?_)
        refine q_cons (q_val rfl rfl rfl (by intro w hw; exact x_assign (.bool true) rfl w) ?_)
        refine q_nil ?_
        intro w28 H29
        refine g_true rfl ?_
        refine g_seq ?_
        refine g_seq ?_
        refine g_region ?_
        refine r_cons (s_move (.pointer (some ⟨g, 0, none⟩)) rfl rfl ?_)
        refine r_cons (s_nilCheck (.pointer (some ⟨g, 0, none⟩)) rfl ⟨_, rfl⟩ rfl ?_)
        refine r_cons (s_fieldAddr 80 2 2 2 22 rfl fi_80_2 rfl rfl ?_)
        refine r_cons (s_load (.slice pp3 L.length cc4) ag_22 rfl (H29.blk_at (i := 1) rfl) rfl rfl ?_)
        refine r_cons (s_len L.length rfl ⟨_, un_22⟩ rfl ?_)
        by_cases hc30 : (4096 : Int) ≤ (L.length : Int)
        · skip
          refine r_cons (s_geq true rfl rfl (dtrue hc30) rfl ?_)
          refine r_nil ?_
          refine g_true rfl ?_
          refine g_seq ?_
          refine g_region ?_
          refine r_cons (s_assign (.slice none 0 0) rfl rfl ?_)
          refine r_cons (s_assign (.int .i64 6) rfl rfl ?_)
          refine r_nil ?_
          refine g_ret' [.slice none 0 0, .int .i64 6] Try.func14 Try.results14 ⟨rfl, rfl, trivial⟩ ?_
          have H31 : St W w28 (blk g (.cells #[.bool true, .int .i64 e, .slice pp3 L.length cc4] 80 (0, 0)) :: Row 32 6 (.slice pp3 L.length cc4) L.length (L.flatMap itCell) :: itsA L :: blk bk8 (.cells #[.int .i64 x.op.v, .int .i64 x.inp.v, .int .i64 x.ep.v, .int .i64 x.kind.v, .slice x.p x.bs.length x.c, .int .i64 x.t.v] 32 (0, 0)) :: bndsA x.bs :: Im 6 (.slice x.p x.bs.length x.c) x.bs.length (x.bs.flatMap bndCell) :: (F.set i emp)) := (((H29.move 3 rfl).move 3 rfl).move 3 rfl)
          have H32 : St W w28 (GtA g e L :: blk bk8 (.cells #[.int .i64 x.op.v, .int .i64 x.inp.v, .int .i64 x.ep.v, .int .i64 x.kind.v, .slice x.p x.bs.length x.c, .int .i64 x.t.v] 32 (0, 0)) :: bndsA x.bs :: Im 6 (.slice x.p x.bs.length x.c) x.bs.length (x.bs.flatMap bndCell) :: (F.set i emp)) := St.shut_ex (pp3, cc4) (St.shut_star (ls := [blk g (.cells #[.bool true, .int .i64 e, .slice pp3 L.length cc4] 80 (0, 0)), Row 32 6 (.slice pp3 L.length cc4) L.length (L.flatMap itCell), itsA L]) H31)
          have hE : tkE e L.length x = 6 := by first | exact tkE_it (by assumption) | exact tkE_old (by assumption) (by omega) | exact tkE_full (by assumption) (by omega) (by omega)
          have hE0 : ¬ tkE e L.length x = 0 := by rw [hE]; first | assumption | decide
          have H33 := Row.nil_intro H32 32 6
          have H34 := itsA_nil H33
          have H35 : St W w28 (Row 32 6 (.slice none 0 0) 0 [] :: itsA ([] : List ItemD) :: GtA g e L :: (F.set i emp)) := ((((((H34.move 2 rfl).move 1 rfl).move 2 rfl).drop 3 rfl).drop 3 rfl).drop 3 rfl)
          have H36 : St W w28 (GtA g e L :: (Row 32 6 (.slice none 0 0) 0 [] :: itsA ([] : List ItemD) :: F).set (i + 2) emp) := (H35.move 2 rfl)
          exact ⟨[], L, e, none, 0, by rw [hE]; rfl, tk_no hE0, St.back (i := i + 2) (by exact hi) H36⟩
        · skip
          refine r_cons (s_geq false rfl rfl (dfalse hc30) rfl ?_)
          refine r_nil ?_
          refine g_false rfl ?_
          refine g_skip ?_
          refine g_seq ?_
          have H37 : St W w28 (blk bk8 (.cells #[.int .i64 x.op.v, .int .i64 x.inp.v, .int .i64 x.ep.v, .int .i64 x.kind.v, .slice x.p x.bs.length x.c, .int .i64 x.t.v] 32 (0, 0)) :: itsA L :: bndsA x.bs :: Im 6 (.slice x.p x.bs.length x.c) x.bs.length (x.bs.flatMap bndCell) :: blk g (.cells #[.bool true, .int .i64 e, .slice pp3 L.length cc4] 80 (0, 0)) :: Row 32 6 (.slice pp3 L.length cc4) L.length (L.flatMap itCell) :: (F.set i emp)) := ((((((H29.move 2 rfl).move 2 rfl).move 5 rfl).move 5 rfl).move 5 rfl).move 5 rfl)
          refine g_mix (fun t_ w => St W w (blk bk8 (.cells #[.int .i64 x.op.v, .int .i64 x.inp.v, .int .i64 x.ep.v, .int .i64 x.kind.v, .slice x.p x.bs.length x.c, .int .i64 x.t.v] 32 (0, 0)) :: itsA L :: bndsA x.bs :: Im 6 (.slice x.p x.bs.length x.c) x.bs.length (x.bs.flatMap bndCell) :: t_)) (blk g (.cells #[.bool true, .int .i64 e, .slice pp3 L.length cc4] 80 (0, 0)) :: Row 32 6 (.slice pp3 L.length cc4) L.length (L.flatMap itCell) :: (F.set i emp)) mixed 12 rfl H37.drew ?_
          refine f_first 0 (listed' := #[true, false, false, false, false, false, false, false, false, false, false, false]) rfl (by kernel_rfl) (by kernel_rfl) (by kernel_rfl) rfl ?_
          refine f_val rfl rfl rfl (by intro t_ w hw; exact x_move (.pointer (some ⟨g, 0, none⟩)) rfl w) ?_
          refine f_first 1 (listed' := #[true, true, false, false, false, false, false, false, false, false, false, false]) rfl (by kernel_rfl) (by kernel_rfl) (by kernel_rfl) rfl ?_
          refine f_val rfl rfl rfl (by intro t_ w hw; exact x_move (.pointer (some ⟨g, 0, none⟩)) rfl w) ?_
          refine f_first 2 (listed' := #[true, true, true, false, false, false, false, false, false, false, false, false]) rfl (by kernel_rfl) (by kernel_rfl) (by kernel_rfl) rfl ?_
          refine f_val rfl rfl rfl (by intro t_ w hw; exact x_nilCheck (.pointer (some ⟨g, 0, none⟩)) rfl ⟨_, rfl⟩ w) ?_
          refine f_first 3 (listed' := #[true, true, true, true, false, false, false, false, false, false, false, false]) rfl (by kernel_rfl) (by kernel_rfl) (by kernel_rfl) rfl ?_
          refine f_val rfl rfl rfl (by intro t_ w hw; exact x_fieldAddr 80 2 2 2 22 rfl fi_80_2 rfl w) ?_
          refine f_first 5 (listed' := #[true, true, true, true, false, true, false, false, false, false, false, false]) rfl (by kernel_rfl) (by kernel_rfl) (by kernel_rfl) rfl ?_
          refine f_val rfl rfl rfl (by intro t_ w hw; exact x_loadAgg [.int .i64 x.op.v, .int .i64 x.inp.v, .int .i64 x.ep.v, .int .i64 x.kind.v, .slice x.p x.bs.length x.c, .int .i64 x.t.v] 6 ag_32 rfl (hw.blk_at (i := 0) rfl) (Nat.le_of_ble_eq_true rfl) rfl) ?_
          refine f_all (rs := [4, 6]) (by kernel_rfl) (by simp) ?_
          refine a_cons ⟨_, rfl, ?_⟩ (a_cons ⟨_, rfl, ?_⟩ (fun x hx => absurd hx (by simp)))
          · skip
            intro w38 H39
            try dsimp only at H39
            refine s_load (.slice pp3 L.length cc4) ag_22 rfl (H39.blk_at (i := 4) rfl) rfl rfl ?_
            refine ⟨blk g (.cells #[.bool true, .int .i64 e, .slice pp3 L.length cc4] 80 (0, 0)) :: Row 32 6 (.slice pp3 L.length cc4) L.length (L.flatMap itCell) :: (F.set i emp), ?_, H39⟩
            change FReg _ _ _ _ _ #[true, true, true, true, true, true, false, false, false, false, false, false] _ _
            refine f_all (rs := [6]) (by kernel_rfl) (by simp) ?_
            refine a_cons ⟨_, rfl, ?_⟩ (fun x hx => absurd hx (by simp))
            intro w40 H41
            try dsimp only at H41
            refine s_call [.agg #[.int .i64 x.op.v, .int .i64 x.inp.v, .int .i64 x.ep.v, .int .i64 x.kind.v, .slice x.p x.bs.length x.c, .int .i64 x.t.v]] pl_64 rfl rfl (migrate_own x hok (ip := 3) rfl (iq := 2) rfl H41) ?_
            rintro _ w44 ⟨it42, rfl, hy43, H45⟩
            have H46 : St W w44 (blk bk8 (.cells #[.int .i64 x.op.v, .int .i64 x.inp.v, .int .i64 x.ep.v, .int .i64 x.kind.v, .slice x.p x.bs.length x.c, .int .i64 x.t.v] 32 (0, 0)) :: itsA L :: bndsA x.bs :: Im 6 (.slice x.p x.bs.length x.c) x.bs.length (x.bs.flatMap bndCell) :: Im 6 (.slice it42.p it42.bs.length it42.c) it42.bs.length (it42.bs.flatMap bndCell) :: bndsA it42.bs :: blk g (.cells #[.bool true, .int .i64 e, .slice pp3 L.length cc4] 80 (0, 0)) :: Row 32 6 (.slice pp3 L.length cc4) L.length (L.flatMap itCell) :: (F.set i emp)) := ((((((((H45.move 7 rfl).move 7 rfl).move 3 rfl).move 3 rfl).move 7 rfl).move 7 rfl).move 7 rfl).move 7 rfl)
            refine ⟨Im 6 (.slice it42.p it42.bs.length it42.c) it42.bs.length (it42.bs.flatMap bndCell) :: bndsA it42.bs :: blk g (.cells #[.bool true, .int .i64 e, .slice pp3 L.length cc4] 80 (0, 0)) :: Row 32 6 (.slice pp3 L.length cc4) L.length (L.flatMap itCell) :: (F.set i emp), ?_, H46⟩
            change FReg _ _ _ _ _ #[true, true, true, true, true, true, true, false, false, false, false, false] _ _
            refine f_all (rs := [7]) (by kernel_rfl) (by simp) ?_
            refine a_cons ⟨_, rfl, ?_⟩ (fun x hx => absurd hx (by simp))
            intro w47 H48
            try dsimp only at H48
            refine s_buildSlice H48 6 1 (cs := #[.int .i64 it42.op.v, .int .i64 it42.inp.v, .int .i64 it42.ep.v, .int .i64 it42.kind.v, .slice it42.p it42.bs.length it42.c, .int .i64 it42.t.v]) #[.int .i64 0, .int .i64 0, .int .i64 0, .int .i64 0, .slice none 0 0, .int .i64 0] el_22 ze_32 (by decide) (by decide) (by kernel_rfl) rfl ?_; intro bk49 w50 H51
            have H52 : St W w50 (blk bk8 (.cells #[.int .i64 x.op.v, .int .i64 x.inp.v, .int .i64 x.ep.v, .int .i64 x.kind.v, .slice x.p x.bs.length x.c, .int .i64 x.t.v] 32 (0, 0)) :: itsA L :: bndsA x.bs :: Im 6 (.slice x.p x.bs.length x.c) x.bs.length (x.bs.flatMap bndCell) :: blk bk49 (.cells #[.int .i64 it42.op.v, .int .i64 it42.inp.v, .int .i64 it42.ep.v, .int .i64 it42.kind.v, .slice it42.p it42.bs.length it42.c, .int .i64 it42.t.v] 32 (0, 0)) :: Im 6 (.slice it42.p it42.bs.length it42.c) it42.bs.length (it42.bs.flatMap bndCell) :: bndsA it42.bs :: blk g (.cells #[.bool true, .int .i64 e, .slice pp3 L.length cc4] 80 (0, 0)) :: Row 32 6 (.slice pp3 L.length cc4) L.length (L.flatMap itCell) :: (F.set i emp)) := (((((((((H51.move 8 rfl).move 8 rfl).move 8 rfl).move 8 rfl).move 4 rfl).move 8 rfl).move 8 rfl).move 8 rfl).move 8 rfl)
            refine ⟨blk bk49 (.cells #[.int .i64 it42.op.v, .int .i64 it42.inp.v, .int .i64 it42.ep.v, .int .i64 it42.kind.v, .slice it42.p it42.bs.length it42.c, .int .i64 it42.t.v] 32 (0, 0)) :: Im 6 (.slice it42.p it42.bs.length it42.c) it42.bs.length (it42.bs.flatMap bndCell) :: bndsA it42.bs :: blk g (.cells #[.bool true, .int .i64 e, .slice pp3 L.length cc4] 80 (0, 0)) :: Row 32 6 (.slice pp3 L.length cc4) L.length (L.flatMap itCell) :: (F.set i emp), ?_, H52⟩
            change FReg _ _ _ _ _ #[true, true, true, true, true, true, true, true, false, false, false, false] _ _
            refine f_all (rs := [8]) (by kernel_rfl) (by simp) ?_
            refine a_cons ⟨_, rfl, ?_⟩ (fun x hx => absurd hx (by simp))
            intro w53 H54
            try dsimp only at H54
            refine s_append H54 8 rfl rfl rfl (rd_blk (H54.blk_at (i := 4) rfl) rfl (Nat.le_of_ble_eq_true rfl) (by simp [Value.oneCell'])) ap_22 (by decide) (by unfold maxLen; omega) (by omega) (n' := L.length + 1) (xs' := L.flatMap itCell ++ ([.int .i64 it42.op.v, .int .i64 it42.inp.v, .int .i64 it42.ep.v, .int .i64 it42.kind.v, .slice it42.p it42.bs.length it42.c, .int .i64 it42.t.v] : List Value)) (by omega) (by first | rfl | simp) rfl ?_; intro vv55 w56 H57 hn58
            obtain ⟨pp59, cc60, rfl⟩ := Row.slice H57 (i := 8) rfl
            refine ⟨blk bk49 (.cells #[.int .i64 it42.op.v, .int .i64 it42.inp.v, .int .i64 it42.ep.v, .int .i64 it42.kind.v, .slice it42.p it42.bs.length it42.c, .int .i64 it42.t.v] 32 (0, 0)) :: Im 6 (.slice it42.p it42.bs.length it42.c) it42.bs.length (it42.bs.flatMap bndCell) :: bndsA it42.bs :: blk g (.cells #[.bool true, .int .i64 e, .slice pp3 L.length cc4] 80 (0, 0)) :: Row 32 6 (.slice pp59 (L.length + 1) cc60) (L.length + 1) (L.flatMap itCell ++ ([.int .i64 it42.op.v, .int .i64 it42.inp.v, .int .i64 it42.ep.v, .int .i64 it42.kind.v, .slice it42.p it42.bs.length it42.c, .int .i64 it42.t.v] : List Value)) :: (F.set i emp), ?_, H57⟩
            change FReg _ _ _ _ _ #[true, true, true, true, true, true, true, true, true, false, false, false] _ _
            refine f_first 9 (listed' := #[true, true, true, true, true, true, true, true, true, true, false, false]) rfl (by kernel_rfl) (by kernel_rfl) (by kernel_rfl) rfl ?_
            refine f_val rfl rfl rfl (by intro t_ w hw; exact x_nilCheck (.pointer (some ⟨g, 0, none⟩)) rfl ⟨_, rfl⟩ w) ?_
            refine f_first 10 (listed' := #[true, true, true, true, true, true, true, true, true, true, true, false]) rfl (by kernel_rfl) (by kernel_rfl) (by kernel_rfl) rfl ?_
            refine f_val rfl rfl rfl (by intro t_ w hw; exact x_fieldAddr 80 2 2 2 22 rfl fi_80_2 rfl w) ?_
            refine f_all (rs := [11]) (by kernel_rfl) (by simp) ?_
            refine a_cons ⟨_, rfl, ?_⟩ (fun x hx => absurd hx (by simp))
            intro w61 H62
            try dsimp only at H62
            refine s_store H62 7 (.slice pp59 (L.length + 1) cc60) rfl rfl rfl sz_22 rfl (Nat.le_of_ble_eq_true rfl) rfl (cs' := #[.bool true, .int .i64 e, .slice pp59 (L.length + 1) cc60]) rfl ?_; intro w63 H64
            refine ⟨blk bk49 (.cells #[.int .i64 it42.op.v, .int .i64 it42.inp.v, .int .i64 it42.ep.v, .int .i64 it42.kind.v, .slice it42.p it42.bs.length it42.c, .int .i64 it42.t.v] 32 (0, 0)) :: Im 6 (.slice it42.p it42.bs.length it42.c) it42.bs.length (it42.bs.flatMap bndCell) :: bndsA it42.bs :: blk g (.cells #[.bool true, .int .i64 e, .slice pp59 (L.length + 1) cc60] 80 (0, 0)) :: Row 32 6 (.slice pp59 (L.length + 1) cc60) (L.length + 1) (L.flatMap itCell ++ ([.int .i64 it42.op.v, .int .i64 it42.inp.v, .int .i64 it42.ep.v, .int .i64 it42.kind.v, .slice it42.p it42.bs.length it42.c, .int .i64 it42.t.v] : List Value)) :: (F.set i emp), ?_, H64⟩
            change FReg _ _ _ _ _ #[true, true, true, true, true, true, true, true, true, true, true, true] _ _
            refine f_done (by kernel_rfl) ?_
            intro w65 H66
            refine g_seq ?_
            refine g_region ?_
            refine r_cons (s_assign (.slice none 0 0) rfl rfl ?_)
            refine r_cons (s_assign (.int .i64 0) rfl rfl ?_)
            refine r_nil ?_
            refine g_ret' [.slice none 0 0, .int .i64 0] Try.func14 Try.results14 ⟨rfl, rfl, trivial⟩ ?_
            have hE : tkE e L.length x = 0 := tkE_ok (by assumption) (by omega) (by omega)
            have H67 : St W w65 (blk bk8 (.cells #[.int .i64 x.op.v, .int .i64 x.inp.v, .int .i64 x.ep.v, .int .i64 x.kind.v, .slice x.p x.bs.length x.c, .int .i64 x.t.v] 32 (0, 0)) :: itsA L :: bndsA x.bs :: Im 6 (.slice x.p x.bs.length x.c) x.bs.length (x.bs.flatMap bndCell) :: blk bk49 (.cells #[.int .i64 it42.op.v, .int .i64 it42.inp.v, .int .i64 it42.ep.v, .int .i64 it42.kind.v, .slice it42.p it42.bs.length it42.c, .int .i64 it42.t.v] 32 (0, 0)) :: Im 6 (.slice it42.p it42.bs.length it42.c) it42.bs.length (it42.bs.flatMap bndCell) :: bndsA it42.bs :: blk g (.cells #[.bool true, .int .i64 e, .slice pp59 ((L ++ [it42]).length) cc60] 80 (0, 0)) :: Row 32 6 (.slice pp59 ((L ++ [it42]).length) cc60) ((L ++ [it42]).length) ((L ++ [it42]).flatMap itCell) :: (F.set i emp)) := by rw [List.flatMap_append, List.length_append]; exact H66
            have H68 : St W w65 (Im 6 (.slice it42.p it42.bs.length it42.c) it42.bs.length (it42.bs.flatMap bndCell) :: bndsA it42.bs :: itsA L :: blk bk8 (.cells #[.int .i64 x.op.v, .int .i64 x.inp.v, .int .i64 x.ep.v, .int .i64 x.kind.v, .slice x.p x.bs.length x.c, .int .i64 x.t.v] 32 (0, 0)) :: bndsA x.bs :: Im 6 (.slice x.p x.bs.length x.c) x.bs.length (x.bs.flatMap bndCell) :: blk bk49 (.cells #[.int .i64 it42.op.v, .int .i64 it42.inp.v, .int .i64 it42.ep.v, .int .i64 it42.kind.v, .slice it42.p it42.bs.length it42.c, .int .i64 it42.t.v] 32 (0, 0)) :: blk g (.cells #[.bool true, .int .i64 e, .slice pp59 ((L ++ [it42]).length) cc60] 80 (0, 0)) :: Row 32 6 (.slice pp59 ((L ++ [it42]).length) cc60) ((L ++ [it42]).length) ((L ++ [it42]).flatMap itCell) :: (F.set i emp)) := (((H67.move 1 rfl).move 6 rfl).move 6 rfl)
            have H69 : St W w65 (itsA (L ++ [it42]) :: blk bk8 (.cells #[.int .i64 x.op.v, .int .i64 x.inp.v, .int .i64 x.ep.v, .int .i64 x.kind.v, .slice x.p x.bs.length x.c, .int .i64 x.t.v] 32 (0, 0)) :: bndsA x.bs :: Im 6 (.slice x.p x.bs.length x.c) x.bs.length (x.bs.flatMap bndCell) :: blk bk49 (.cells #[.int .i64 it42.op.v, .int .i64 it42.inp.v, .int .i64 it42.ep.v, .int .i64 it42.kind.v, .slice it42.p it42.bs.length it42.c, .int .i64 it42.t.v] 32 (0, 0)) :: blk g (.cells #[.bool true, .int .i64 e, .slice pp59 ((L ++ [it42]).length) cc60] 80 (0, 0)) :: Row 32 6 (.slice pp59 ((L ++ [it42]).length) cc60) ((L ++ [it42]).length) ((L ++ [it42]).flatMap itCell) :: (F.set i emp)) := itsA_snoc (x := it42) H68
            have H70 : St W w65 (blk g (.cells #[.bool true, .int .i64 e, .slice pp59 ((L ++ [it42]).length) cc60] 80 (0, 0)) :: Row 32 6 (.slice pp59 ((L ++ [it42]).length) cc60) ((L ++ [it42]).length) ((L ++ [it42]).flatMap itCell) :: itsA (L ++ [it42]) :: blk bk8 (.cells #[.int .i64 x.op.v, .int .i64 x.inp.v, .int .i64 x.ep.v, .int .i64 x.kind.v, .slice x.p x.bs.length x.c, .int .i64 x.t.v] 32 (0, 0)) :: bndsA x.bs :: Im 6 (.slice x.p x.bs.length x.c) x.bs.length (x.bs.flatMap bndCell) :: blk bk49 (.cells #[.int .i64 it42.op.v, .int .i64 it42.inp.v, .int .i64 it42.ep.v, .int .i64 it42.kind.v, .slice it42.p it42.bs.length it42.c, .int .i64 it42.t.v] 32 (0, 0)) :: (F.set i emp)) := ((H69.move 6 rfl).move 6 rfl)
            have H71 : St W w65 (GtA g e (L ++ [it42]) :: blk bk8 (.cells #[.int .i64 x.op.v, .int .i64 x.inp.v, .int .i64 x.ep.v, .int .i64 x.kind.v, .slice x.p x.bs.length x.c, .int .i64 x.t.v] 32 (0, 0)) :: bndsA x.bs :: Im 6 (.slice x.p x.bs.length x.c) x.bs.length (x.bs.flatMap bndCell) :: blk bk49 (.cells #[.int .i64 it42.op.v, .int .i64 it42.inp.v, .int .i64 it42.ep.v, .int .i64 it42.kind.v, .slice it42.p it42.bs.length it42.c, .int .i64 it42.t.v] 32 (0, 0)) :: (F.set i emp)) := St.shut_ex (pp59, cc60) (St.shut_star (ls := [blk g (.cells #[.bool true, .int .i64 e, .slice pp59 ((L ++ [it42]).length) cc60] 80 (0, 0)), Row 32 6 (.slice pp59 ((L ++ [it42]).length) cc60) ((L ++ [it42]).length) ((L ++ [it42]).flatMap itCell), itsA (L ++ [it42])]) H70)
            have H72 := Row.nil_intro H71 32 6
            have H73 := itsA_nil H72
            have H74 : St W w65 (Row 32 6 (.slice none 0 0) 0 [] :: itsA ([] : List ItemD) :: GtA g e (L ++ [it42]) :: (F.set i emp)) := (((((((H73.move 2 rfl).move 1 rfl).move 2 rfl).drop 3 rfl).drop 3 rfl).drop 3 rfl).drop 3 rfl)
            have H75 : St W w65 (GtA g e (L ++ [it42]) :: (Row 32 6 (.slice none 0 0) 0 [] :: itsA ([] : List ItemD) :: F).set (i + 2) emp) := (H74.move 2 rfl)
            exact ⟨[], (L ++ [it42]), e, none, 0, by rw [hE]; rfl, tk_wait hE (by omega) hy43, St.back (i := i + 2) (by exact hi) H75⟩
          · skip
            intro w76 H77
            try dsimp only at H77
            refine s_call [.agg #[.int .i64 x.op.v, .int .i64 x.inp.v, .int .i64 x.ep.v, .int .i64 x.kind.v, .slice x.p x.bs.length x.c, .int .i64 x.t.v]] pl_64 rfl rfl (migrate_own x hok (ip := 3) rfl (iq := 2) rfl H77) ?_
            rintro _ w80 ⟨it78, rfl, hy79, H81⟩
            have H82 : St W w80 (blk bk8 (.cells #[.int .i64 x.op.v, .int .i64 x.inp.v, .int .i64 x.ep.v, .int .i64 x.kind.v, .slice x.p x.bs.length x.c, .int .i64 x.t.v] 32 (0, 0)) :: itsA L :: bndsA x.bs :: Im 6 (.slice x.p x.bs.length x.c) x.bs.length (x.bs.flatMap bndCell) :: Im 6 (.slice it78.p it78.bs.length it78.c) it78.bs.length (it78.bs.flatMap bndCell) :: bndsA it78.bs :: blk g (.cells #[.bool true, .int .i64 e, .slice pp3 L.length cc4] 80 (0, 0)) :: Row 32 6 (.slice pp3 L.length cc4) L.length (L.flatMap itCell) :: (F.set i emp)) := ((((((((H81.move 7 rfl).move 7 rfl).move 3 rfl).move 3 rfl).move 7 rfl).move 7 rfl).move 7 rfl).move 7 rfl)
            refine ⟨Im 6 (.slice it78.p it78.bs.length it78.c) it78.bs.length (it78.bs.flatMap bndCell) :: bndsA it78.bs :: blk g (.cells #[.bool true, .int .i64 e, .slice pp3 L.length cc4] 80 (0, 0)) :: Row 32 6 (.slice pp3 L.length cc4) L.length (L.flatMap itCell) :: (F.set i emp), ?_, H82⟩
            change FReg _ _ _ _ _ #[true, true, true, true, false, true, true, false, false, false, false, false] _ _
            refine f_all (rs := [4, 7]) (by kernel_rfl) (by simp) ?_
            refine a_cons ⟨_, rfl, ?_⟩ (a_cons ⟨_, rfl, ?_⟩ (fun x hx => absurd hx (by simp)))
            · skip
              intro w83 H84
              try dsimp only at H84
              refine s_load (.slice pp3 L.length cc4) ag_22 rfl (H84.blk_at (i := 6) rfl) rfl rfl ?_
              refine ⟨Im 6 (.slice it78.p it78.bs.length it78.c) it78.bs.length (it78.bs.flatMap bndCell) :: bndsA it78.bs :: blk g (.cells #[.bool true, .int .i64 e, .slice pp3 L.length cc4] 80 (0, 0)) :: Row 32 6 (.slice pp3 L.length cc4) L.length (L.flatMap itCell) :: (F.set i emp), ?_, H84⟩
              change FReg _ _ _ _ _ #[true, true, true, true, true, true, true, false, false, false, false, false] _ _
              refine f_all (rs := [7]) (by kernel_rfl) (by simp) ?_
              refine a_cons ⟨_, rfl, ?_⟩ (fun x hx => absurd hx (by simp))
              intro w85 H86
              try dsimp only at H86
              refine s_buildSlice H86 6 1 (cs := #[.int .i64 it78.op.v, .int .i64 it78.inp.v, .int .i64 it78.ep.v, .int .i64 it78.kind.v, .slice it78.p it78.bs.length it78.c, .int .i64 it78.t.v]) #[.int .i64 0, .int .i64 0, .int .i64 0, .int .i64 0, .slice none 0 0, .int .i64 0] el_22 ze_32 (by decide) (by decide) (by kernel_rfl) rfl ?_; intro bk87 w88 H89
              have H90 : St W w88 (blk bk8 (.cells #[.int .i64 x.op.v, .int .i64 x.inp.v, .int .i64 x.ep.v, .int .i64 x.kind.v, .slice x.p x.bs.length x.c, .int .i64 x.t.v] 32 (0, 0)) :: itsA L :: bndsA x.bs :: Im 6 (.slice x.p x.bs.length x.c) x.bs.length (x.bs.flatMap bndCell) :: blk bk87 (.cells #[.int .i64 it78.op.v, .int .i64 it78.inp.v, .int .i64 it78.ep.v, .int .i64 it78.kind.v, .slice it78.p it78.bs.length it78.c, .int .i64 it78.t.v] 32 (0, 0)) :: Im 6 (.slice it78.p it78.bs.length it78.c) it78.bs.length (it78.bs.flatMap bndCell) :: bndsA it78.bs :: blk g (.cells #[.bool true, .int .i64 e, .slice pp3 L.length cc4] 80 (0, 0)) :: Row 32 6 (.slice pp3 L.length cc4) L.length (L.flatMap itCell) :: (F.set i emp)) := (((((((((H89.move 8 rfl).move 8 rfl).move 8 rfl).move 8 rfl).move 4 rfl).move 8 rfl).move 8 rfl).move 8 rfl).move 8 rfl)
              refine ⟨blk bk87 (.cells #[.int .i64 it78.op.v, .int .i64 it78.inp.v, .int .i64 it78.ep.v, .int .i64 it78.kind.v, .slice it78.p it78.bs.length it78.c, .int .i64 it78.t.v] 32 (0, 0)) :: Im 6 (.slice it78.p it78.bs.length it78.c) it78.bs.length (it78.bs.flatMap bndCell) :: bndsA it78.bs :: blk g (.cells #[.bool true, .int .i64 e, .slice pp3 L.length cc4] 80 (0, 0)) :: Row 32 6 (.slice pp3 L.length cc4) L.length (L.flatMap itCell) :: (F.set i emp), ?_, H90⟩
              change FReg _ _ _ _ _ #[true, true, true, true, true, true, true, true, false, false, false, false] _ _
              refine f_all (rs := [8]) (by kernel_rfl) (by simp) ?_
              refine a_cons ⟨_, rfl, ?_⟩ (fun x hx => absurd hx (by simp))
              intro w91 H92
              try dsimp only at H92
              refine s_append H92 8 rfl rfl rfl (rd_blk (H92.blk_at (i := 4) rfl) rfl (Nat.le_of_ble_eq_true rfl) (by simp [Value.oneCell'])) ap_22 (by decide) (by unfold maxLen; omega) (by omega) (n' := L.length + 1) (xs' := L.flatMap itCell ++ ([.int .i64 it78.op.v, .int .i64 it78.inp.v, .int .i64 it78.ep.v, .int .i64 it78.kind.v, .slice it78.p it78.bs.length it78.c, .int .i64 it78.t.v] : List Value)) (by omega) (by first | rfl | simp) rfl ?_; intro vv93 w94 H95 hn96
              obtain ⟨pp97, cc98, rfl⟩ := Row.slice H95 (i := 8) rfl
              refine ⟨blk bk87 (.cells #[.int .i64 it78.op.v, .int .i64 it78.inp.v, .int .i64 it78.ep.v, .int .i64 it78.kind.v, .slice it78.p it78.bs.length it78.c, .int .i64 it78.t.v] 32 (0, 0)) :: Im 6 (.slice it78.p it78.bs.length it78.c) it78.bs.length (it78.bs.flatMap bndCell) :: bndsA it78.bs :: blk g (.cells #[.bool true, .int .i64 e, .slice pp3 L.length cc4] 80 (0, 0)) :: Row 32 6 (.slice pp97 (L.length + 1) cc98) (L.length + 1) (L.flatMap itCell ++ ([.int .i64 it78.op.v, .int .i64 it78.inp.v, .int .i64 it78.ep.v, .int .i64 it78.kind.v, .slice it78.p it78.bs.length it78.c, .int .i64 it78.t.v] : List Value)) :: (F.set i emp), ?_, H95⟩
              change FReg _ _ _ _ _ #[true, true, true, true, true, true, true, true, true, false, false, false] _ _
              refine f_first 9 (listed' := #[true, true, true, true, true, true, true, true, true, true, false, false]) rfl (by kernel_rfl) (by kernel_rfl) (by kernel_rfl) rfl ?_
              refine f_val rfl rfl rfl (by intro t_ w hw; exact x_nilCheck (.pointer (some ⟨g, 0, none⟩)) rfl ⟨_, rfl⟩ w) ?_
              refine f_first 10 (listed' := #[true, true, true, true, true, true, true, true, true, true, true, false]) rfl (by kernel_rfl) (by kernel_rfl) (by kernel_rfl) rfl ?_
              refine f_val rfl rfl rfl (by intro t_ w hw; exact x_fieldAddr 80 2 2 2 22 rfl fi_80_2 rfl w) ?_
              refine f_all (rs := [11]) (by kernel_rfl) (by simp) ?_
              refine a_cons ⟨_, rfl, ?_⟩ (fun x hx => absurd hx (by simp))
              intro w99 H100
              try dsimp only at H100
              refine s_store H100 7 (.slice pp97 (L.length + 1) cc98) rfl rfl rfl sz_22 rfl (Nat.le_of_ble_eq_true rfl) rfl (cs' := #[.bool true, .int .i64 e, .slice pp97 (L.length + 1) cc98]) rfl ?_; intro w101 H102
              refine ⟨blk bk87 (.cells #[.int .i64 it78.op.v, .int .i64 it78.inp.v, .int .i64 it78.ep.v, .int .i64 it78.kind.v, .slice it78.p it78.bs.length it78.c, .int .i64 it78.t.v] 32 (0, 0)) :: Im 6 (.slice it78.p it78.bs.length it78.c) it78.bs.length (it78.bs.flatMap bndCell) :: bndsA it78.bs :: blk g (.cells #[.bool true, .int .i64 e, .slice pp97 (L.length + 1) cc98] 80 (0, 0)) :: Row 32 6 (.slice pp97 (L.length + 1) cc98) (L.length + 1) (L.flatMap itCell ++ ([.int .i64 it78.op.v, .int .i64 it78.inp.v, .int .i64 it78.ep.v, .int .i64 it78.kind.v, .slice it78.p it78.bs.length it78.c, .int .i64 it78.t.v] : List Value)) :: (F.set i emp), ?_, H102⟩
              change FReg _ _ _ _ _ #[true, true, true, true, true, true, true, true, true, true, true, true] _ _
              refine f_done (by kernel_rfl) ?_
              intro w103 H104
              refine g_seq ?_
              refine g_region ?_
              refine r_cons (s_assign (.slice none 0 0) rfl rfl ?_)
              refine r_cons (s_assign (.int .i64 0) rfl rfl ?_)
              refine r_nil ?_
              refine g_ret' [.slice none 0 0, .int .i64 0] Try.func14 Try.results14 ⟨rfl, rfl, trivial⟩ ?_
              have hE : tkE e L.length x = 0 := tkE_ok (by assumption) (by omega) (by omega)
              have H105 : St W w103 (blk bk8 (.cells #[.int .i64 x.op.v, .int .i64 x.inp.v, .int .i64 x.ep.v, .int .i64 x.kind.v, .slice x.p x.bs.length x.c, .int .i64 x.t.v] 32 (0, 0)) :: itsA L :: bndsA x.bs :: Im 6 (.slice x.p x.bs.length x.c) x.bs.length (x.bs.flatMap bndCell) :: blk bk87 (.cells #[.int .i64 it78.op.v, .int .i64 it78.inp.v, .int .i64 it78.ep.v, .int .i64 it78.kind.v, .slice it78.p it78.bs.length it78.c, .int .i64 it78.t.v] 32 (0, 0)) :: Im 6 (.slice it78.p it78.bs.length it78.c) it78.bs.length (it78.bs.flatMap bndCell) :: bndsA it78.bs :: blk g (.cells #[.bool true, .int .i64 e, .slice pp97 ((L ++ [it78]).length) cc98] 80 (0, 0)) :: Row 32 6 (.slice pp97 ((L ++ [it78]).length) cc98) ((L ++ [it78]).length) ((L ++ [it78]).flatMap itCell) :: (F.set i emp)) := by rw [List.flatMap_append, List.length_append]; exact H104
              have H106 : St W w103 (Im 6 (.slice it78.p it78.bs.length it78.c) it78.bs.length (it78.bs.flatMap bndCell) :: bndsA it78.bs :: itsA L :: blk bk8 (.cells #[.int .i64 x.op.v, .int .i64 x.inp.v, .int .i64 x.ep.v, .int .i64 x.kind.v, .slice x.p x.bs.length x.c, .int .i64 x.t.v] 32 (0, 0)) :: bndsA x.bs :: Im 6 (.slice x.p x.bs.length x.c) x.bs.length (x.bs.flatMap bndCell) :: blk bk87 (.cells #[.int .i64 it78.op.v, .int .i64 it78.inp.v, .int .i64 it78.ep.v, .int .i64 it78.kind.v, .slice it78.p it78.bs.length it78.c, .int .i64 it78.t.v] 32 (0, 0)) :: blk g (.cells #[.bool true, .int .i64 e, .slice pp97 ((L ++ [it78]).length) cc98] 80 (0, 0)) :: Row 32 6 (.slice pp97 ((L ++ [it78]).length) cc98) ((L ++ [it78]).length) ((L ++ [it78]).flatMap itCell) :: (F.set i emp)) := (((H105.move 1 rfl).move 6 rfl).move 6 rfl)
              have H107 : St W w103 (itsA (L ++ [it78]) :: blk bk8 (.cells #[.int .i64 x.op.v, .int .i64 x.inp.v, .int .i64 x.ep.v, .int .i64 x.kind.v, .slice x.p x.bs.length x.c, .int .i64 x.t.v] 32 (0, 0)) :: bndsA x.bs :: Im 6 (.slice x.p x.bs.length x.c) x.bs.length (x.bs.flatMap bndCell) :: blk bk87 (.cells #[.int .i64 it78.op.v, .int .i64 it78.inp.v, .int .i64 it78.ep.v, .int .i64 it78.kind.v, .slice it78.p it78.bs.length it78.c, .int .i64 it78.t.v] 32 (0, 0)) :: blk g (.cells #[.bool true, .int .i64 e, .slice pp97 ((L ++ [it78]).length) cc98] 80 (0, 0)) :: Row 32 6 (.slice pp97 ((L ++ [it78]).length) cc98) ((L ++ [it78]).length) ((L ++ [it78]).flatMap itCell) :: (F.set i emp)) := itsA_snoc (x := it78) H106
              have H108 : St W w103 (blk g (.cells #[.bool true, .int .i64 e, .slice pp97 ((L ++ [it78]).length) cc98] 80 (0, 0)) :: Row 32 6 (.slice pp97 ((L ++ [it78]).length) cc98) ((L ++ [it78]).length) ((L ++ [it78]).flatMap itCell) :: itsA (L ++ [it78]) :: blk bk8 (.cells #[.int .i64 x.op.v, .int .i64 x.inp.v, .int .i64 x.ep.v, .int .i64 x.kind.v, .slice x.p x.bs.length x.c, .int .i64 x.t.v] 32 (0, 0)) :: bndsA x.bs :: Im 6 (.slice x.p x.bs.length x.c) x.bs.length (x.bs.flatMap bndCell) :: blk bk87 (.cells #[.int .i64 it78.op.v, .int .i64 it78.inp.v, .int .i64 it78.ep.v, .int .i64 it78.kind.v, .slice it78.p it78.bs.length it78.c, .int .i64 it78.t.v] 32 (0, 0)) :: (F.set i emp)) := ((H107.move 6 rfl).move 6 rfl)
              have H109 : St W w103 (GtA g e (L ++ [it78]) :: blk bk8 (.cells #[.int .i64 x.op.v, .int .i64 x.inp.v, .int .i64 x.ep.v, .int .i64 x.kind.v, .slice x.p x.bs.length x.c, .int .i64 x.t.v] 32 (0, 0)) :: bndsA x.bs :: Im 6 (.slice x.p x.bs.length x.c) x.bs.length (x.bs.flatMap bndCell) :: blk bk87 (.cells #[.int .i64 it78.op.v, .int .i64 it78.inp.v, .int .i64 it78.ep.v, .int .i64 it78.kind.v, .slice it78.p it78.bs.length it78.c, .int .i64 it78.t.v] 32 (0, 0)) :: (F.set i emp)) := St.shut_ex (pp97, cc98) (St.shut_star (ls := [blk g (.cells #[.bool true, .int .i64 e, .slice pp97 ((L ++ [it78]).length) cc98] 80 (0, 0)), Row 32 6 (.slice pp97 ((L ++ [it78]).length) cc98) ((L ++ [it78]).length) ((L ++ [it78]).flatMap itCell), itsA (L ++ [it78])]) H108)
              have H110 := Row.nil_intro H109 32 6
              have H111 := itsA_nil H110
              have H112 : St W w103 (Row 32 6 (.slice none 0 0) 0 [] :: itsA ([] : List ItemD) :: GtA g e (L ++ [it78]) :: (F.set i emp)) := (((((((H111.move 2 rfl).move 1 rfl).move 2 rfl).drop 3 rfl).drop 3 rfl).drop 3 rfl).drop 3 rfl)
              have H113 : St W w103 (GtA g e (L ++ [it78]) :: (Row 32 6 (.slice none 0 0) 0 [] :: itsA ([] : List ItemD) :: F).set (i + 2) emp) := (H112.move 2 rfl)
              exact ⟨[], (L ++ [it78]), e, none, 0, by rw [hE]; rfl, tk_wait hE (by omega) hy79, St.back (i := i + 2) (by exact hi) H113⟩
            · skip
              intro w114 H115
              try dsimp only at H115
              refine s_buildSlice H115 6 1 (cs := #[.int .i64 it78.op.v, .int .i64 it78.inp.v, .int .i64 it78.ep.v, .int .i64 it78.kind.v, .slice it78.p it78.bs.length it78.c, .int .i64 it78.t.v]) #[.int .i64 0, .int .i64 0, .int .i64 0, .int .i64 0, .slice none 0 0, .int .i64 0] el_22 ze_32 (by decide) (by decide) (by kernel_rfl) rfl ?_; intro bk116 w117 H118
              have H119 : St W w117 (blk bk8 (.cells #[.int .i64 x.op.v, .int .i64 x.inp.v, .int .i64 x.ep.v, .int .i64 x.kind.v, .slice x.p x.bs.length x.c, .int .i64 x.t.v] 32 (0, 0)) :: itsA L :: bndsA x.bs :: Im 6 (.slice x.p x.bs.length x.c) x.bs.length (x.bs.flatMap bndCell) :: blk bk116 (.cells #[.int .i64 it78.op.v, .int .i64 it78.inp.v, .int .i64 it78.ep.v, .int .i64 it78.kind.v, .slice it78.p it78.bs.length it78.c, .int .i64 it78.t.v] 32 (0, 0)) :: Im 6 (.slice it78.p it78.bs.length it78.c) it78.bs.length (it78.bs.flatMap bndCell) :: bndsA it78.bs :: blk g (.cells #[.bool true, .int .i64 e, .slice pp3 L.length cc4] 80 (0, 0)) :: Row 32 6 (.slice pp3 L.length cc4) L.length (L.flatMap itCell) :: (F.set i emp)) := (((((((((H118.move 8 rfl).move 8 rfl).move 8 rfl).move 8 rfl).move 4 rfl).move 8 rfl).move 8 rfl).move 8 rfl).move 8 rfl)
              refine ⟨blk bk116 (.cells #[.int .i64 it78.op.v, .int .i64 it78.inp.v, .int .i64 it78.ep.v, .int .i64 it78.kind.v, .slice it78.p it78.bs.length it78.c, .int .i64 it78.t.v] 32 (0, 0)) :: Im 6 (.slice it78.p it78.bs.length it78.c) it78.bs.length (it78.bs.flatMap bndCell) :: bndsA it78.bs :: blk g (.cells #[.bool true, .int .i64 e, .slice pp3 L.length cc4] 80 (0, 0)) :: Row 32 6 (.slice pp3 L.length cc4) L.length (L.flatMap itCell) :: (F.set i emp), ?_, H119⟩
              change FReg _ _ _ _ _ #[true, true, true, true, false, true, true, true, false, false, false, false] _ _
              refine f_all (rs := [4]) (by kernel_rfl) (by simp) ?_
              refine a_cons ⟨_, rfl, ?_⟩ (fun x hx => absurd hx (by simp))
              intro w120 H121
              try dsimp only at H121
              refine s_load (.slice pp3 L.length cc4) ag_22 rfl (H121.blk_at (i := 7) rfl) rfl rfl ?_
              refine ⟨blk bk116 (.cells #[.int .i64 it78.op.v, .int .i64 it78.inp.v, .int .i64 it78.ep.v, .int .i64 it78.kind.v, .slice it78.p it78.bs.length it78.c, .int .i64 it78.t.v] 32 (0, 0)) :: Im 6 (.slice it78.p it78.bs.length it78.c) it78.bs.length (it78.bs.flatMap bndCell) :: bndsA it78.bs :: blk g (.cells #[.bool true, .int .i64 e, .slice pp3 L.length cc4] 80 (0, 0)) :: Row 32 6 (.slice pp3 L.length cc4) L.length (L.flatMap itCell) :: (F.set i emp), ?_, H121⟩
              change FReg _ _ _ _ _ #[true, true, true, true, true, true, true, true, false, false, false, false] _ _
              refine f_all (rs := [8]) (by kernel_rfl) (by simp) ?_
              refine a_cons ⟨_, rfl, ?_⟩ (fun x hx => absurd hx (by simp))
              intro w122 H123
              try dsimp only at H123
              refine s_append H123 8 rfl rfl rfl (rd_blk (H123.blk_at (i := 4) rfl) rfl (Nat.le_of_ble_eq_true rfl) (by simp [Value.oneCell'])) ap_22 (by decide) (by unfold maxLen; omega) (by omega) (n' := L.length + 1) (xs' := L.flatMap itCell ++ ([.int .i64 it78.op.v, .int .i64 it78.inp.v, .int .i64 it78.ep.v, .int .i64 it78.kind.v, .slice it78.p it78.bs.length it78.c, .int .i64 it78.t.v] : List Value)) (by omega) (by first | rfl | simp) rfl ?_; intro vv124 w125 H126 hn127
              obtain ⟨pp128, cc129, rfl⟩ := Row.slice H126 (i := 8) rfl
              refine ⟨blk bk116 (.cells #[.int .i64 it78.op.v, .int .i64 it78.inp.v, .int .i64 it78.ep.v, .int .i64 it78.kind.v, .slice it78.p it78.bs.length it78.c, .int .i64 it78.t.v] 32 (0, 0)) :: Im 6 (.slice it78.p it78.bs.length it78.c) it78.bs.length (it78.bs.flatMap bndCell) :: bndsA it78.bs :: blk g (.cells #[.bool true, .int .i64 e, .slice pp3 L.length cc4] 80 (0, 0)) :: Row 32 6 (.slice pp128 (L.length + 1) cc129) (L.length + 1) (L.flatMap itCell ++ ([.int .i64 it78.op.v, .int .i64 it78.inp.v, .int .i64 it78.ep.v, .int .i64 it78.kind.v, .slice it78.p it78.bs.length it78.c, .int .i64 it78.t.v] : List Value)) :: (F.set i emp), ?_, H126⟩
              change FReg _ _ _ _ _ #[true, true, true, true, true, true, true, true, true, false, false, false] _ _
              refine f_first 9 (listed' := #[true, true, true, true, true, true, true, true, true, true, false, false]) rfl (by kernel_rfl) (by kernel_rfl) (by kernel_rfl) rfl ?_
              refine f_val rfl rfl rfl (by intro t_ w hw; exact x_nilCheck (.pointer (some ⟨g, 0, none⟩)) rfl ⟨_, rfl⟩ w) ?_
              refine f_first 10 (listed' := #[true, true, true, true, true, true, true, true, true, true, true, false]) rfl (by kernel_rfl) (by kernel_rfl) (by kernel_rfl) rfl ?_
              refine f_val rfl rfl rfl (by intro t_ w hw; exact x_fieldAddr 80 2 2 2 22 rfl fi_80_2 rfl w) ?_
              refine f_all (rs := [11]) (by kernel_rfl) (by simp) ?_
              refine a_cons ⟨_, rfl, ?_⟩ (fun x hx => absurd hx (by simp))
              intro w130 H131
              try dsimp only at H131
              refine s_store H131 7 (.slice pp128 (L.length + 1) cc129) rfl rfl rfl sz_22 rfl (Nat.le_of_ble_eq_true rfl) rfl (cs' := #[.bool true, .int .i64 e, .slice pp128 (L.length + 1) cc129]) rfl ?_; intro w132 H133
              refine ⟨blk bk116 (.cells #[.int .i64 it78.op.v, .int .i64 it78.inp.v, .int .i64 it78.ep.v, .int .i64 it78.kind.v, .slice it78.p it78.bs.length it78.c, .int .i64 it78.t.v] 32 (0, 0)) :: Im 6 (.slice it78.p it78.bs.length it78.c) it78.bs.length (it78.bs.flatMap bndCell) :: bndsA it78.bs :: blk g (.cells #[.bool true, .int .i64 e, .slice pp128 (L.length + 1) cc129] 80 (0, 0)) :: Row 32 6 (.slice pp128 (L.length + 1) cc129) (L.length + 1) (L.flatMap itCell ++ ([.int .i64 it78.op.v, .int .i64 it78.inp.v, .int .i64 it78.ep.v, .int .i64 it78.kind.v, .slice it78.p it78.bs.length it78.c, .int .i64 it78.t.v] : List Value)) :: (F.set i emp), ?_, H133⟩
              change FReg _ _ _ _ _ #[true, true, true, true, true, true, true, true, true, true, true, true] _ _
              refine f_done (by kernel_rfl) ?_
              intro w134 H135
              refine g_seq ?_
              refine g_region ?_
              refine r_cons (s_assign (.slice none 0 0) rfl rfl ?_)
              refine r_cons (s_assign (.int .i64 0) rfl rfl ?_)
              refine r_nil ?_
              refine g_ret' [.slice none 0 0, .int .i64 0] Try.func14 Try.results14 ⟨rfl, rfl, trivial⟩ ?_
              have hE : tkE e L.length x = 0 := tkE_ok (by assumption) (by omega) (by omega)
              have H136 : St W w134 (blk bk8 (.cells #[.int .i64 x.op.v, .int .i64 x.inp.v, .int .i64 x.ep.v, .int .i64 x.kind.v, .slice x.p x.bs.length x.c, .int .i64 x.t.v] 32 (0, 0)) :: itsA L :: bndsA x.bs :: Im 6 (.slice x.p x.bs.length x.c) x.bs.length (x.bs.flatMap bndCell) :: blk bk116 (.cells #[.int .i64 it78.op.v, .int .i64 it78.inp.v, .int .i64 it78.ep.v, .int .i64 it78.kind.v, .slice it78.p it78.bs.length it78.c, .int .i64 it78.t.v] 32 (0, 0)) :: Im 6 (.slice it78.p it78.bs.length it78.c) it78.bs.length (it78.bs.flatMap bndCell) :: bndsA it78.bs :: blk g (.cells #[.bool true, .int .i64 e, .slice pp128 ((L ++ [it78]).length) cc129] 80 (0, 0)) :: Row 32 6 (.slice pp128 ((L ++ [it78]).length) cc129) ((L ++ [it78]).length) ((L ++ [it78]).flatMap itCell) :: (F.set i emp)) := by rw [List.flatMap_append, List.length_append]; exact H135
              have H137 : St W w134 (Im 6 (.slice it78.p it78.bs.length it78.c) it78.bs.length (it78.bs.flatMap bndCell) :: bndsA it78.bs :: itsA L :: blk bk8 (.cells #[.int .i64 x.op.v, .int .i64 x.inp.v, .int .i64 x.ep.v, .int .i64 x.kind.v, .slice x.p x.bs.length x.c, .int .i64 x.t.v] 32 (0, 0)) :: bndsA x.bs :: Im 6 (.slice x.p x.bs.length x.c) x.bs.length (x.bs.flatMap bndCell) :: blk bk116 (.cells #[.int .i64 it78.op.v, .int .i64 it78.inp.v, .int .i64 it78.ep.v, .int .i64 it78.kind.v, .slice it78.p it78.bs.length it78.c, .int .i64 it78.t.v] 32 (0, 0)) :: blk g (.cells #[.bool true, .int .i64 e, .slice pp128 ((L ++ [it78]).length) cc129] 80 (0, 0)) :: Row 32 6 (.slice pp128 ((L ++ [it78]).length) cc129) ((L ++ [it78]).length) ((L ++ [it78]).flatMap itCell) :: (F.set i emp)) := (((H136.move 1 rfl).move 6 rfl).move 6 rfl)
              have H138 : St W w134 (itsA (L ++ [it78]) :: blk bk8 (.cells #[.int .i64 x.op.v, .int .i64 x.inp.v, .int .i64 x.ep.v, .int .i64 x.kind.v, .slice x.p x.bs.length x.c, .int .i64 x.t.v] 32 (0, 0)) :: bndsA x.bs :: Im 6 (.slice x.p x.bs.length x.c) x.bs.length (x.bs.flatMap bndCell) :: blk bk116 (.cells #[.int .i64 it78.op.v, .int .i64 it78.inp.v, .int .i64 it78.ep.v, .int .i64 it78.kind.v, .slice it78.p it78.bs.length it78.c, .int .i64 it78.t.v] 32 (0, 0)) :: blk g (.cells #[.bool true, .int .i64 e, .slice pp128 ((L ++ [it78]).length) cc129] 80 (0, 0)) :: Row 32 6 (.slice pp128 ((L ++ [it78]).length) cc129) ((L ++ [it78]).length) ((L ++ [it78]).flatMap itCell) :: (F.set i emp)) := itsA_snoc (x := it78) H137
              have H139 : St W w134 (blk g (.cells #[.bool true, .int .i64 e, .slice pp128 ((L ++ [it78]).length) cc129] 80 (0, 0)) :: Row 32 6 (.slice pp128 ((L ++ [it78]).length) cc129) ((L ++ [it78]).length) ((L ++ [it78]).flatMap itCell) :: itsA (L ++ [it78]) :: blk bk8 (.cells #[.int .i64 x.op.v, .int .i64 x.inp.v, .int .i64 x.ep.v, .int .i64 x.kind.v, .slice x.p x.bs.length x.c, .int .i64 x.t.v] 32 (0, 0)) :: bndsA x.bs :: Im 6 (.slice x.p x.bs.length x.c) x.bs.length (x.bs.flatMap bndCell) :: blk bk116 (.cells #[.int .i64 it78.op.v, .int .i64 it78.inp.v, .int .i64 it78.ep.v, .int .i64 it78.kind.v, .slice it78.p it78.bs.length it78.c, .int .i64 it78.t.v] 32 (0, 0)) :: (F.set i emp)) := ((H138.move 6 rfl).move 6 rfl)
              have H140 : St W w134 (GtA g e (L ++ [it78]) :: blk bk8 (.cells #[.int .i64 x.op.v, .int .i64 x.inp.v, .int .i64 x.ep.v, .int .i64 x.kind.v, .slice x.p x.bs.length x.c, .int .i64 x.t.v] 32 (0, 0)) :: bndsA x.bs :: Im 6 (.slice x.p x.bs.length x.c) x.bs.length (x.bs.flatMap bndCell) :: blk bk116 (.cells #[.int .i64 it78.op.v, .int .i64 it78.inp.v, .int .i64 it78.ep.v, .int .i64 it78.kind.v, .slice it78.p it78.bs.length it78.c, .int .i64 it78.t.v] 32 (0, 0)) :: (F.set i emp)) := St.shut_ex (pp128, cc129) (St.shut_star (ls := [blk g (.cells #[.bool true, .int .i64 e, .slice pp128 ((L ++ [it78]).length) cc129] 80 (0, 0)), Row 32 6 (.slice pp128 ((L ++ [it78]).length) cc129) ((L ++ [it78]).length) ((L ++ [it78]).flatMap itCell), itsA (L ++ [it78])]) H139)
              have H141 := Row.nil_intro H140 32 6
              have H142 := itsA_nil H141
              have H143 : St W w134 (Row 32 6 (.slice none 0 0) 0 [] :: itsA ([] : List ItemD) :: GtA g e (L ++ [it78]) :: (F.set i emp)) := (((((((H142.move 2 rfl).move 1 rfl).move 2 rfl).drop 3 rfl).drop 3 rfl).drop 3 rfl).drop 3 rfl)
              have H144 : St W w134 (GtA g e (L ++ [it78]) :: (Row 32 6 (.slice none 0 0) 0 [] :: itsA ([] : List ItemD) :: F).set (i + 2) emp) := (H143.move 2 rfl)
              exact ⟨[], (L ++ [it78]), e, none, 0, by rw [hE]; rfl, tk_wait hE (by omega) hy79, St.back (i := i + 2) (by exact hi) H144⟩
      · skip
        refine q_cons (q_val rfl rfl rfl (by intro w hw; exact x_gtr false rfl rfl (dfalse hc27) w) ?_)
        refine q_cons (q_val rfl rfl rfl (by intro w hw; exact x_assign (.bool false) rfl w) ?_)
        refine q_nil ?_
        intro w145 H146
        refine g_false rfl ?_
        refine g_seq ?_
        refine g_region ?_
        refine r_cons (s_fieldAddr 32 3 3 3 3 rfl fi_32_3 rfl rfl ?_)
        refine r_cons (s_load (.int .i64 x.kind.v) ag_3 rfl (H146.blk_at (i := 0) rfl) rfl rfl ?_)
        by_cases hc147 : x.kind.v = 3
        · skip
          refine r_cons (s_neq false rfl rfl (ntrue hc147) rfl ?_)
          refine r_cons (s_assign (.bool false) rfl rfl ?_)
          refine r_nil ?_
          refine g_false rfl ?_
          refine g_skip ?_
          refine g_inBlock ?_
          refine g_seq ?_
          refine g_region ?_
          refine r_cons (s_assign (.slice none 0 0) rfl rfl ?_)
          refine r_nil ?_
          refine g_seq ?_
          refine g_seq ?_
          refine g_region ?_
          refine r_cons (s_assign (.bool true) rfl rfl ?_)
          refine r_nil ?_
          refine g_block ?_
          have H148 : St W w145 (blk g (.cells #[.bool true, .int .i64 e, .slice pp3 L.length cc4] 80 (0, 0)) :: Row 32 6 (.slice pp3 L.length cc4) L.length (L.flatMap itCell) :: itsA L :: blk bk8 (.cells #[.int .i64 x.op.v, .int .i64 x.inp.v, .int .i64 x.ep.v, .int .i64 x.kind.v, .slice x.p x.bs.length x.c, .int .i64 x.t.v] 32 (0, 0)) :: bndsA x.bs :: Im 6 (.slice x.p x.bs.length x.c) x.bs.length (x.bs.flatMap bndCell) :: (F.set i emp)) := (((H146.move 3 rfl).move 3 rfl).move 3 rfl)
          have H149 : St W w145 (GtA g e L :: blk bk8 (.cells #[.int .i64 x.op.v, .int .i64 x.inp.v, .int .i64 x.ep.v, .int .i64 x.kind.v, .slice x.p x.bs.length x.c, .int .i64 x.t.v] 32 (0, 0)) :: bndsA x.bs :: Im 6 (.slice x.p x.bs.length x.c) x.bs.length (x.bs.flatMap bndCell) :: (F.set i emp)) := St.shut_ex (pp3, cc4) (St.shut_star (ls := [blk g (.cells #[.bool true, .int .i64 e, .slice pp3 L.length cc4] 80 (0, 0)), Row 32 6 (.slice pp3 L.length cc4) L.length (L.flatMap itCell), itsA L]) H148)
          have H150 := Row.nil_intro H149 32 6
          have H151 := itsA_nil H150
          have H152 : St W w145 (Row 32 6 (.slice none 0 0) 0 [] :: itsA ([] : List ItemD) :: GtA g e L :: (F.set i emp)) := ((((((H151.move 2 rfl).move 1 rfl).move 2 rfl).drop 3 rfl).drop 3 rfl).drop 3 rfl)
          refine g_loop_inv (fun (x_ : Bool × Nat × (List ItemD) × Int × (List ItemD) × (Option Addr) × Nat) => match x_ with | (b, n, O, e2, L2, q, d) => [(0, .pointer (some ⟨g, 0, none⟩)), (4, .slice none 0 0), (5, .int .i64 0), (7, .slice q O.length d), (8, .bool b)]) (fun (x_ : Bool × Nat × (List ItemD) × Int × (List ItemD) × (Option Addr) × Nat) w => match x_ with | (b, n, O, e2, L2, q, d) => (goS epD kdD (goG epD kdD (L.length + 1) e L) b n O e2 L2) ∧ (O.length + L2.length ≤ L.length) ∧ (e ≤ e2) ∧ St W w (Row 32 6 (.slice q O.length d) O.length (O.flatMap itCell) :: itsA O :: GtA g e2 L2 :: (F.set i emp))) (fun (x_ : Bool × Nat × (List ItemD) × Int × (List ItemD) × (Option Addr) × Nat) => match x_ with | (b, n, O, e2, L2, q, d) => n) (true, (L.length + 1), [], e, L, none, 0) ?_ ?_ ?_
          · exact ⟨by first | rfl | exact vint (by omega), by first | rfl | exact vint (by omega), by first | rfl | exact vint (by omega), by first | rfl | exact vint (by omega), by first | rfl | exact vint (by omega), trivial⟩
          · exact ⟨(goS_start he), (by simp), (Int.le_refl _), H152⟩
          · rintro ⟨b, n, O, e2, L2, q, d⟩ ρ153 w154 ⟨hG, hsum, he9, H155⟩ nx156
            change Ends _ _ (upds ρ153 [(0, .pointer (some ⟨g, 0, none⟩)), (4, .slice none 0 0), (5, .int .i64 0), (7, .slice q O.length d), (8, .bool b)]) w154
            refine g_seq ?_
            refine g_seq ?_
            refine g_region ?_
            refine r_cons (s_move (.bool b) rfl rfl ?_)
            refine r_nil ?_
            by_cases hb157 : (b) = true
            · skip
              refine g_true (congrArg Value.bool hb157) ?_
              refine g_skip ?_
              refine g_block ?_
              refine g_seq ?_
              refine g_region ?_
              have hG1 := hG
              rw [hb157] at hG1
              obtain ⟨hn1, hn2⟩ := goS_n hG1
              have hts := tr_sum (ep := epD) (kd := kdD) (e := e2 + 1) (L := L2)
              refine r_cons (s_move (.pointer (some ⟨g, 0, none⟩)) rfl rfl ?_)
              refine r_cons (s_nilCheck (.pointer (some ⟨g, 0, none⟩)) rfl ⟨_, rfl⟩ rfl ?_)
              refine r_cons (s_fieldAddr 80 1 1 1 2 rfl fi_80_1 rfl rfl ?_)
              have H158 := H155.move 2 rfl
              obtain ⟨⟨pp159, cc160⟩, H161⟩ := St.open_ex H158
              have H162 := St.open_star H161
              have H163 : St W w154 (blk g (.cells #[.bool true, .int .i64 e2, .slice pp159 L2.length cc160] 80 (0, 0)) :: Row 32 6 (.slice pp159 L2.length cc160) L2.length (L2.flatMap itCell) :: itsA L2 :: Row 32 6 (.slice q O.length d) O.length (O.flatMap itCell) :: itsA O :: (F.set i emp)) := H162
              refine r_cons (s_load (.int .i64 e2) ag_2 rfl (H163.blk_at (i := 0) rfl) rfl rfl ?_)
              refine r_cons (s_add (e2 + 1) rfl rfl (wi64 (by omega)) rfl ?_)
              refine r_cons (s_nilCheck (.pointer (some ⟨g, 0, none⟩)) rfl ⟨_, rfl⟩ rfl ?_)
              refine r_cons (s_fieldAddr 80 1 1 1 2 rfl fi_80_1 rfl rfl ?_)
              refine r_cons (s_store H163 0 (.int .i64 (e2 + 1)) rfl rfl rfl sz_2 rfl (Nat.le_of_ble_eq_true rfl) rfl (cs' := #[.bool true, .int .i64 (e2 + 1), .slice pp159 L2.length cc160]) rfl ?_); intro w164 H165
              refine r_nil ?_
              refine g_seq ?_
              refine g_region ?_
              refine r_cons (s_assign (.slice none 0 0) rfl rfl ?_)
              refine r_nil ?_
              refine g_seq ?_
              refine g_region ?_
              refine r_cons (s_move (.pointer (some ⟨g, 0, none⟩)) rfl rfl ?_)
              have H166 : St W w164 (GtA g (e2 + 1) L2 :: Row 32 6 (.slice q O.length d) O.length (O.flatMap itCell) :: itsA O :: (F.set i emp)) := St.shut_ex (pp159, cc160) (St.shut_star (ls := [blk g (.cells #[.bool true, .int .i64 (e2 + 1), .slice pp159 L2.length cc160] 80 (0, 0)), Row 32 6 (.slice pp159 L2.length cc160) L2.length (L2.flatMap itCell), itsA L2]) H165)
              refine r_cons (s_call [.pointer (some ⟨g, 0, none⟩)] pl_65 rfl rfl (Gate_turn g (e2 + 1) L2 (by omega) (i := 0) rfl H166) ?_)
              rintro _ w169 ⟨pp167, cc168, rfl, H170⟩
              refine r_cons (s_move (.tuple #[.slice pp167 ((trO epD kdD (e2 + 1) L2).length) cc168, .bool (trE epD kdD (e2 + 1) L2)]) rfl rfl ?_)
              refine r_cons (s_extract (.slice pp167 ((trO epD kdD (e2 + 1) L2).length) cc168) #[.slice pp167 ((trO epD kdD (e2 + 1) L2).length) cc168, .bool (trE epD kdD (e2 + 1) L2)] rfl rfl rfl ?_)
              refine r_cons (s_extract (.bool (trE epD kdD (e2 + 1) L2)) #[.slice pp167 ((trO epD kdD (e2 + 1) L2).length) cc168, .bool (trE epD kdD (e2 + 1) L2)] rfl rfl rfl ?_)
              refine r_cons (s_assign (.slice pp167 ((trO epD kdD (e2 + 1) L2).length) cc168) rfl rfl ?_)
              refine r_cons (s_assign (.bool (trE epD kdD (e2 + 1) L2)) rfl rfl ?_)
              refine r_nil ?_
              refine g_region ?_
              refine r_cons (s_move (.slice q O.length d) rfl rfl ?_)
              refine r_cons (s_move (.slice pp167 ((trO epD kdD (e2 + 1) L2).length) cc168) rfl rfl ?_)
              refine r_cons (s_append H170 3 rfl rfl rfl (Row.rd H170 (i := 0) rfl) ap_22 (by decide) (by unfold maxLen; omega) (by omega) (n' := O.length + (trO epD kdD (e2 + 1) L2).length) (xs' := O.flatMap itCell ++ (trO epD kdD (e2 + 1) L2).flatMap itCell) (by omega) (by first | rfl | simp) rfl ?_); intro vv171 w172 H173 hn174
              obtain ⟨pp175, cc176, rfl⟩ := Row.slice H173 (i := 3) rfl
              refine r_cons (s_assign (.slice pp175 (O.length + (trO epD kdD (e2 + 1) L2).length) cc176) rfl rfl ?_)
              refine r_nil ?_
              refine g_inBlock ?_
              have H177 : St W w172 (Row 32 6 (.slice pp167 ((trO epD kdD (e2 + 1) L2).length) cc168) ((trO epD kdD (e2 + 1) L2).length) ((trO epD kdD (e2 + 1) L2).flatMap itCell) :: itsA (trO epD kdD (e2 + 1) L2) :: GtA g (e2 + 1) (trR epD (e2 + 1) L2) :: Row 32 6 (.slice pp175 ((O ++ trO epD kdD (e2 + 1) L2).length) cc176) ((O ++ trO epD kdD (e2 + 1) L2).length) ((O ++ trO epD kdD (e2 + 1) L2).flatMap itCell) :: itsA O :: (F.set i emp)) := by rw [List.flatMap_append, List.length_append]; exact H173
              have H178 : St W w172 (itsA (trO epD kdD (e2 + 1) L2) :: itsA O :: Row 32 6 (.slice pp167 ((trO epD kdD (e2 + 1) L2).length) cc168) ((trO epD kdD (e2 + 1) L2).length) ((trO epD kdD (e2 + 1) L2).flatMap itCell) :: GtA g (e2 + 1) (trR epD (e2 + 1) L2) :: Row 32 6 (.slice pp175 ((O ++ trO epD kdD (e2 + 1) L2).length) cc176) ((O ++ trO epD kdD (e2 + 1) L2).length) ((O ++ trO epD kdD (e2 + 1) L2).flatMap itCell) :: (F.set i emp)) := ((H177.move 4 rfl).move 2 rfl)
              have H179 : St W w172 (itsA (O ++ trO epD kdD (e2 + 1) L2) :: Row 32 6 (.slice pp167 ((trO epD kdD (e2 + 1) L2).length) cc168) ((trO epD kdD (e2 + 1) L2).length) ((trO epD kdD (e2 + 1) L2).flatMap itCell) :: GtA g (e2 + 1) (trR epD (e2 + 1) L2) :: Row 32 6 (.slice pp175 ((O ++ trO epD kdD (e2 + 1) L2).length) cc176) ((O ++ trO epD kdD (e2 + 1) L2).length) ((O ++ trO epD kdD (e2 + 1) L2).flatMap itCell) :: (F.set i emp)) := itsA_app H178
              have H180 : St W w172 (Row 32 6 (.slice pp175 ((O ++ trO epD kdD (e2 + 1) L2).length) cc176) ((O ++ trO epD kdD (e2 + 1) L2).length) ((O ++ trO epD kdD (e2 + 1) L2).flatMap itCell) :: itsA (O ++ trO epD kdD (e2 + 1) L2) :: GtA g (e2 + 1) (trR epD (e2 + 1) L2) :: (F.set i emp)) := ((((H179.move 2 rfl).move 1 rfl).move 3 rfl).drop 3 rfl)
              exact nx156 ((trE epD kdD (e2 + 1) L2), n - 1, (O ++ trO epD kdD (e2 + 1) L2), (e2 + 1), (trR epD (e2 + 1) L2), pp175, cc176) _ _ ⟨(goS_step hG1), (by have := tr_sum (ep := epD) (kd := kdD) (e := e2 + 1) (L := L2); rw [List.length_append]; omega), (by omega), H180⟩ (by first | (dsimp only; omega) | omega) ⟨by first | rfl | exact vint (by omega), by first | rfl | exact vint (by omega), by first | rfl | exact vint (by omega), by first | rfl | (rw [List.length_append]; rfl), by first | rfl | exact vint (by omega), trivial⟩
            · have hb157 := eq_false_of_ne_true hb157
              refine g_false (congrArg Value.bool hb157) ?_
              refine g_exit (by rfl) ?_
              refine g_seq ?_
              refine g_region ?_
              refine r_cons (s_move (.slice q O.length d) rfl rfl ?_)
              refine r_cons (s_assign (.slice q O.length d) rfl rfl ?_)
              refine r_cons (s_assign (.int .i64 0) rfl rfl ?_)
              refine r_nil ?_
              refine g_ret' [.slice q O.length d, .int .i64 0] Try.func14 Try.results14 ⟨rfl, rfl, trivial⟩ ?_
              have hE : tkE e L.length x = 0 := tkE_ok (by assumption) (by omega) (by omega)
              have hGd : goG epD kdD (L.length + 1) e L = (O, e2, L2) := goS_done (by have h9 := hG; rw [hb157] at h9; exact h9)
              have H181 : St W w154 (Row 32 6 (.slice q O.length d) O.length (O.flatMap itCell) :: itsA O :: GtA g e2 L2 :: (F.set i emp)) := (((H155.move 2 rfl).move 2 rfl).move 2 rfl)
              have H182 : St W w154 (GtA g e2 L2 :: (Row 32 6 (.slice q O.length d) O.length (O.flatMap itCell) :: itsA O :: F).set (i + 2) emp) := (H181.move 2 rfl)
              exact ⟨O, L2, e2, _, _, by rw [hE]; rfl, tk_end hE (by omega) (by omega) hGd, St.back (i := i + 2) (by exact hi) H182⟩
        · skip
          refine r_cons (s_neq true rfl rfl (nfalse hc147) rfl ?_)
          refine r_cons (s_assign (.bool true) rfl rfl ?_)
          refine r_nil ?_
          refine g_true rfl ?_
          refine g_seq ?_
          refine g_region ?_
          refine r_cons (s_loadAgg [.int .i64 x.op.v, .int .i64 x.inp.v, .int .i64 x.ep.v, .int .i64 x.kind.v, .slice x.p x.bs.length x.c, .int .i64 x.t.v] 6 ag_32 rfl (H146.blk_at (i := 0) rfl) (Nat.le_of_ble_eq_true rfl) rfl rfl ?_)
          refine r_cons (s_call [.agg #[.int .i64 x.op.v, .int .i64 x.inp.v, .int .i64 x.ep.v, .int .i64 x.kind.v, .slice x.p x.bs.length x.c, .int .i64 x.t.v]] pl_64 rfl rfl (migrate_own x hok (ip := 5) rfl (iq := 4) rfl H146) ?_)
          rintro _ w185 ⟨it183, rfl, hy184, H186⟩
          refine r_cons (s_buildSlice H186 6 1 (cs := #[.int .i64 it183.op.v, .int .i64 it183.inp.v, .int .i64 it183.ep.v, .int .i64 it183.kind.v, .slice it183.p it183.bs.length it183.c, .int .i64 it183.t.v]) #[.int .i64 0, .int .i64 0, .int .i64 0, .int .i64 0, .slice none 0 0, .int .i64 0] el_22 ze_32 (by decide) (by decide) (by kernel_rfl) rfl ?_); intro bk187 w188 H189
          refine r_cons (s_assign (.slice (some ⟨bk187, 0, none⟩) 1 1) rfl rfl ?_)
          refine r_cons (s_assign (.int .i64 0) rfl rfl ?_)
          refine r_nil ?_
          refine g_ret' [.slice (some ⟨bk187, 0, none⟩) 1 1, .int .i64 0] Try.func14 Try.results14 ⟨rfl, rfl, trivial⟩ ?_
          have hE : tkE e L.length x = 0 := tkE_ok (by assumption) (by omega) (by omega)
          have H190 : St W w188 (blk g (.cells #[.bool true, .int .i64 e, .slice pp3 L.length cc4] 80 (0, 0)) :: Row 32 6 (.slice pp3 L.length cc4) L.length (L.flatMap itCell) :: itsA L :: blk bk187 (.cells #[.int .i64 it183.op.v, .int .i64 it183.inp.v, .int .i64 it183.ep.v, .int .i64 it183.kind.v, .slice it183.p it183.bs.length it183.c, .int .i64 it183.t.v] 32 (0, 0)) :: Im 6 (.slice it183.p it183.bs.length it183.c) it183.bs.length (it183.bs.flatMap bndCell) :: bndsA it183.bs :: blk bk8 (.cells #[.int .i64 x.op.v, .int .i64 x.inp.v, .int .i64 x.ep.v, .int .i64 x.kind.v, .slice x.p x.bs.length x.c, .int .i64 x.t.v] 32 (0, 0)) :: bndsA x.bs :: Im 6 (.slice x.p x.bs.length x.c) x.bs.length (x.bs.flatMap bndCell) :: (F.set i emp)) := (((H189.move 6 rfl).move 6 rfl).move 6 rfl)
          have H191 : St W w188 (GtA g e L :: blk bk187 (.cells #[.int .i64 it183.op.v, .int .i64 it183.inp.v, .int .i64 it183.ep.v, .int .i64 it183.kind.v, .slice it183.p it183.bs.length it183.c, .int .i64 it183.t.v] 32 (0, 0)) :: Im 6 (.slice it183.p it183.bs.length it183.c) it183.bs.length (it183.bs.flatMap bndCell) :: bndsA it183.bs :: blk bk8 (.cells #[.int .i64 x.op.v, .int .i64 x.inp.v, .int .i64 x.ep.v, .int .i64 x.kind.v, .slice x.p x.bs.length x.c, .int .i64 x.t.v] 32 (0, 0)) :: bndsA x.bs :: Im 6 (.slice x.p x.bs.length x.c) x.bs.length (x.bs.flatMap bndCell) :: (F.set i emp)) := St.shut_ex (pp3, cc4) (St.shut_star (ls := [blk g (.cells #[.bool true, .int .i64 e, .slice pp3 L.length cc4] 80 (0, 0)), Row 32 6 (.slice pp3 L.length cc4) L.length (L.flatMap itCell), itsA L]) H190)
          have H192 : St W w188 (GtA g e L :: Row 32 6 (.slice (some ⟨bk187, 0, none⟩) ([it183].length) 1) ([it183].length) ([it183].flatMap itCell) :: Im 6 (.slice it183.p it183.bs.length it183.c) it183.bs.length (it183.bs.flatMap bndCell) :: bndsA it183.bs :: blk bk8 (.cells #[.int .i64 x.op.v, .int .i64 x.inp.v, .int .i64 x.ep.v, .int .i64 x.kind.v, .slice x.p x.bs.length x.c, .int .i64 x.t.v] 32 (0, 0)) :: bndsA x.bs :: Im 6 (.slice x.p x.bs.length x.c) x.bs.length (x.bs.flatMap bndCell) :: (F.set i emp)) := Row.of_blk (n := 1) (size := 6) H191 (i := 1) rfl (by unfold maxLen; omega) rfl (by simp [Value.oneCell'])
          have H193 := itsA_nil H192
          have H194 : St W w188 (Im 6 (.slice it183.p it183.bs.length it183.c) it183.bs.length (it183.bs.flatMap bndCell) :: bndsA it183.bs :: itsA ([] : List ItemD) :: GtA g e L :: Row 32 6 (.slice (some ⟨bk187, 0, none⟩) ([it183].length) 1) ([it183].length) ([it183].flatMap itCell) :: blk bk8 (.cells #[.int .i64 x.op.v, .int .i64 x.inp.v, .int .i64 x.ep.v, .int .i64 x.kind.v, .slice x.p x.bs.length x.c, .int .i64 x.t.v] 32 (0, 0)) :: bndsA x.bs :: Im 6 (.slice x.p x.bs.length x.c) x.bs.length (x.bs.flatMap bndCell) :: (F.set i emp)) := ((H193.move 4 rfl).move 4 rfl)
          have H195 : St W w188 (itsA [it183] :: GtA g e L :: Row 32 6 (.slice (some ⟨bk187, 0, none⟩) ([it183].length) 1) ([it183].length) ([it183].flatMap itCell) :: blk bk8 (.cells #[.int .i64 x.op.v, .int .i64 x.inp.v, .int .i64 x.ep.v, .int .i64 x.kind.v, .slice x.p x.bs.length x.c, .int .i64 x.t.v] 32 (0, 0)) :: bndsA x.bs :: Im 6 (.slice x.p x.bs.length x.c) x.bs.length (x.bs.flatMap bndCell) :: (F.set i emp)) := itsA_snoc (L := []) (x := it183) H194
          have H196 : St W w188 (Row 32 6 (.slice (some ⟨bk187, 0, none⟩) ([it183].length) 1) ([it183].length) ([it183].flatMap itCell) :: itsA [it183] :: GtA g e L :: (F.set i emp)) := ((((((H195.move 1 rfl).move 1 rfl).move 2 rfl).drop 3 rfl).drop 3 rfl).drop 3 rfl)
          have H197 : St W w188 (GtA g e L :: (Row 32 6 (.slice (some ⟨bk187, 0, none⟩) ([it183].length) 1) ([it183].length) ([it183].flatMap itCell) :: itsA [it183] :: F).set (i + 2) emp) := (H196.move 2 rfl)
          exact ⟨[it183], L, e, _, _, by rw [hE]; rfl, tk_now hE (by omega) (by omega) hy184, St.back (i := i + 2) (by exact hi) H197⟩
  · skip
    refine r_cons (s_neq true rfl rfl (nfalse hc15) rfl ?_)
    refine r_nil ?_
    refine g_true rfl ?_
    refine g_seq ?_
    refine g_region ?_
    refine r_cons (s_move (.int .i64 (itE x)) rfl rfl ?_)
    refine r_cons (s_assign (.slice none 0 0) rfl rfl ?_)
    refine r_cons (s_assign (.int .i64 (itE x)) rfl rfl ?_)
    refine r_nil ?_
    refine g_ret' [.slice none 0 0, .int .i64 (itE x)] Try.func14 Try.results14 ⟨rfl, rfl, trivial⟩ ?_
    have H198 : St W w13 (blk g (.cells #[.bool true, .int .i64 e, .slice pp3 L.length cc4] 80 (0, 0)) :: Row 32 6 (.slice pp3 L.length cc4) L.length (L.flatMap itCell) :: itsA L :: blk bk8 (.cells #[.int .i64 x.op.v, .int .i64 x.inp.v, .int .i64 x.ep.v, .int .i64 x.kind.v, .slice x.p x.bs.length x.c, .int .i64 x.t.v] 32 (0, 0)) :: bndsA x.bs :: Im 6 (.slice x.p x.bs.length x.c) x.bs.length (x.bs.flatMap bndCell) :: (F.set i emp)) := (((H14.move 3 rfl).move 3 rfl).move 3 rfl)
    have H199 : St W w13 (GtA g e L :: blk bk8 (.cells #[.int .i64 x.op.v, .int .i64 x.inp.v, .int .i64 x.ep.v, .int .i64 x.kind.v, .slice x.p x.bs.length x.c, .int .i64 x.t.v] 32 (0, 0)) :: bndsA x.bs :: Im 6 (.slice x.p x.bs.length x.c) x.bs.length (x.bs.flatMap bndCell) :: (F.set i emp)) := St.shut_ex (pp3, cc4) (St.shut_star (ls := [blk g (.cells #[.bool true, .int .i64 e, .slice pp3 L.length cc4] 80 (0, 0)), Row 32 6 (.slice pp3 L.length cc4) L.length (L.flatMap itCell), itsA L]) H198)
    have hE : tkE e L.length x = itE x := by first | exact tkE_it (by assumption) | exact tkE_old (by assumption) (by omega) | exact tkE_full (by assumption) (by omega) (by omega)
    have hE0 : ¬ tkE e L.length x = 0 := by rw [hE]; first | assumption | decide
    have H200 := Row.nil_intro H199 32 6
    have H201 := itsA_nil H200
    have H202 : St W w13 (Row 32 6 (.slice none 0 0) 0 [] :: itsA ([] : List ItemD) :: GtA g e L :: (F.set i emp)) := ((((((H201.move 2 rfl).move 1 rfl).move 2 rfl).drop 3 rfl).drop 3 rfl).drop 3 rfl)
    have H203 : St W w13 (GtA g e L :: (Row 32 6 (.slice none 0 0) 0 [] :: itsA ([] : List ItemD) :: F).set (i + 2) emp) := (H202.move 2 rfl)
    exact ⟨[], L, e, none, 0, by rw [hE]; rfl, tk_no hE0, St.back (i := i + 2) (by exact hi) H203⟩
set_option maxHeartbeats 4000000 in
set_option maxRecDepth 100000 in
theorem EqualFunc_items {W w : World} {F : List Atom} (L M : List ItemD) (u v : Value) (heq : L.map ItemD.v = M.map ItemD.v) {j k a b : Nat} (hj : F[j]? = some (Im 6 u L.length (L.flatMap itCell))) (hk : F[k]? = some (Im 6 v M.length (M.flatMap itCell))) (ha : F[a]? = some (itsA L)) (hb : F[b]? = some (itsA M)) (H : St W w F) : Calls Try.prog 66 #[u, v, .func (.func 67) #[] #[]] w (Ret fun v w' => v = .bool true ∧ St W w' F) := by
  obtain ⟨pp1, cc2, rfl, hsh3⟩ := Rd.shape (Im.rd H (i := j) hj)
  have H4 := H.dup (i := j) hj (Im_pers _ _ _ _)
  have hmlH4 := Im.len H4 (i := 0) rfl
  obtain ⟨pp5, cc6, rfl, hsh7⟩ := Rd.shape (Im.rd H (i := k) hk)
  have H8 := ((H4.dup (i := k + 1) (by exact hk) (Im_pers _ _ _ _)).dup (i := a + 2) (by exact ha) (itsA_pers _)).dup (i := b + 3) (by exact hb) (itsA_pers _)
  have H9 : St W w (itsA M :: itsA L :: Im 6 (.slice pp5 M.length cc6) M.length (M.flatMap itCell) :: Im 6 (.slice pp1 L.length cc2) L.length (L.flatMap itCell) :: F) := H8
  have hl : L.length = M.length := by simpa using congrArg List.length heq
  refine calls_of_go (n := 32) Try.func66 rfl Try.ntmps66 rfl ?_
  refine g_seq ?_
  refine g_region ?_
  refine r_cons (s_assign (.bool false) rfl rfl ?_)
  refine r_nil ?_
  refine g_seq ?_
  refine g_seq ?_
  refine g_region ?_
  refine r_cons (s_move (.slice pp1 L.length cc2) rfl rfl ?_)
  refine r_cons (s_len L.length rfl ⟨_, un_22⟩ rfl ?_)
  refine r_cons (s_move (.slice pp5 M.length cc6) rfl rfl ?_)
  refine r_cons (s_len M.length rfl ⟨_, un_22⟩ rfl ?_)
  refine r_cons (s_neq false rfl rfl (ntrue (by omega)) rfl ?_)
  refine r_nil ?_
  refine g_false rfl ?_
  refine g_skip ?_
  refine g_seq ?_
  refine g_seq ?_
  refine g_region ?_
  refine r_cons (s_move (.slice pp1 L.length cc2) rfl rfl ?_)
  refine r_cons (s_len L.length rfl ⟨_, un_22⟩ rfl ?_)
  refine r_cons (s_move (.int .i64 0) rfl rfl ?_)
  refine r_nil ?_
  refine g_block ?_
  obtain ⟨pA10, cA11, gA12, oA13, kA14, eA15, zA16, he22, hn17, hp18, hx19, hs20, hml, H21⟩ := Im.open_ H9 (i := 3) rfl
  obtain ⟨rfl, rfl⟩ : pp1 = pA10 ∧ cc2 = cA11 := by injection he22 with a_ b_ c_; exact ⟨a_, c_⟩
  obtain ⟨pA23, cA24, gA25, oA26, kA27, eA28, zA29, he35, hn30, hp31, hx32, hs33, hml, H34⟩ := Im.open_ H21 (i := 3) rfl
  obtain ⟨rfl, rfl⟩ : pp5 = pA23 ∧ cc6 = cA24 := by injection he35 with a_ b_ c_; exact ⟨a_, c_⟩
  refine g_loop_inv (fun (x_ : Nat) => match x_ with | j2 => [(1, .slice pp5 M.length cc6), (2, .func (.func 67) #[] #[]), (6, .bool false), (15, .slice pp1 L.length cc2), (16, .int .i64 (L.length : Int)), (17, .int .i64 (j2 : Int))]) (fun (x_ : Nat) w => match x_ with | j2 => (j2 ≤ L.length) ∧ St W w (imi (0 < M.length) gA25 (.cells kA27 eA28 zA29) :: imi (0 < L.length) gA12 (.cells kA14 eA15 zA16) :: itsA M :: itsA L :: Im 6 (.slice pp5 M.length cc6) M.length (M.flatMap itCell) :: Im 6 (.slice pp1 L.length cc2) L.length (L.flatMap itCell) :: F)) (fun (x_ : Nat) => match x_ with | j2 => L.length - j2) (0) ?_ ?_ ?_
  · exact ⟨by first | rfl | exact vint (by omega), by first | rfl | exact vint (by omega), by first | rfl | exact vint (by omega), by first | rfl | exact vint (by omega), by first | rfl | exact vint (by omega), by first | rfl | exact vint (by omega), trivial⟩
  · exact ⟨(by omega), H34⟩
  · rintro j2 ρ36 w37 ⟨hjn, H38⟩ nx39
    change Ends _ _ (upds ρ36 [(1, .slice pp5 M.length cc6), (2, .func (.func 67) #[] #[]), (6, .bool false), (15, .slice pp1 L.length cc2), (16, .int .i64 (L.length : Int)), (17, .int .i64 (j2 : Int))]) w37
    refine g_seq ?_
    refine g_region ?_
    by_cases hc40 : (j2 : Int) < (L.length : Int)
    · skip
      refine r_cons (s_lss true rfl rfl (dtrue hc40) rfl ?_)
      refine r_nil ?_
      refine g_seq ?_
      refine g_true rfl ?_
      refine g_skip ?_
      refine g_seq ?_
      refine g_block ?_
      refine g_seq ?_
      refine g_region ?_
      refine r_cons (s_move (.int .i64 (j2 : Int)) rfl rfl ?_)
      refine r_cons (s_indexAddr gA12 (off := oA13) (j2 : Int) 6 (oA13 + j2 * 6) (by exact congrArg (fun z_ => Value.slice z_ L.length cc2) (hp18 (by omega))) rfl el_22 (by omega) rfl rfl ?_)
      refine r_cons (s_loadAgg [.int .i64 ((L.getD j2 default).op.v), .int .i64 ((L.getD j2 default).inp.v), .int .i64 ((L.getD j2 default).ep.v), .int .i64 ((L.getD j2 default).kind.v), .slice ((L.getD j2 default).p) ((L.getD j2 default).bs.length) ((L.getD j2 default).c), .int .i64 ((L.getD j2 default).t.v)] 6 ag_32 rfl (H38.imi_at (i := 1) rfl (by omega)) (by have := elem_size (i := j2) (s := 6) (hs20 (by omega)) (by omega); omega) (elem_take itCell_len (hx19 (by omega)) (by omega) default) rfl ?_)
      refine r_cons (s_alloc H38 32 ze_32 rfl ?_); intro bk41 w42 H43
      refine r_cons (s_assign (.int .i64 (j2 : Int)) rfl rfl ?_)
      refine r_cons (s_storeAgg H43 0 #[.int .i64 ((L.getD j2 default).op.v), .int .i64 ((L.getD j2 default).inp.v), .int .i64 ((L.getD j2 default).ep.v), .int .i64 ((L.getD j2 default).kind.v), .slice ((L.getD j2 default).p) ((L.getD j2 default).bs.length) ((L.getD j2 default).c), .int .i64 ((L.getD j2 default).t.v)] 6 rfl rfl rfl sz_32 rfl (by simp [Value.oneCell']) (Nat.le_of_ble_eq_true rfl) (fun o h1 h2 => by first | (simp; done) | (simp; omega)) (cs' := #[.int .i64 ((L.getD j2 default).op.v), .int .i64 ((L.getD j2 default).inp.v), .int .i64 ((L.getD j2 default).ep.v), .int .i64 ((L.getD j2 default).kind.v), .slice ((L.getD j2 default).p) ((L.getD j2 default).bs.length) ((L.getD j2 default).c), .int .i64 ((L.getD j2 default).t.v)]) rfl ?_); intro w44 H45
      refine r_nil ?_
      refine g_seq ?_
      refine g_region ?_
      refine r_cons (s_move (.slice pp5 M.length cc6) rfl rfl ?_)
      refine r_cons (s_move (.int .i64 (j2 : Int)) rfl rfl ?_)
      refine r_cons (s_indexAddr gA25 (off := oA26) (j2 : Int) 6 (oA26 + j2 * 6) (by exact congrArg (fun z_ => Value.slice z_ M.length cc6) (hp31 (by omega))) rfl el_22 (by omega) rfl rfl ?_)
      refine r_cons (s_loadAgg [.int .i64 ((M.getD j2 default).op.v), .int .i64 ((M.getD j2 default).inp.v), .int .i64 ((M.getD j2 default).ep.v), .int .i64 ((M.getD j2 default).kind.v), .slice ((M.getD j2 default).p) ((M.getD j2 default).bs.length) ((M.getD j2 default).c), .int .i64 ((M.getD j2 default).t.v)] 6 ag_32 rfl (H45.imi_at (i := 1) rfl (by omega)) (by have := elem_size (i := j2) (s := 6) (hs33 (by omega)) (by omega); omega) (elem_take itCell_len (hx32 (by omega)) (by omega) default) rfl ?_)
      refine r_cons (s_alloc H45 32 ze_32 rfl ?_); intro bk46 w47 H48
      refine r_cons (s_storeAgg H48 0 #[.int .i64 ((M.getD j2 default).op.v), .int .i64 ((M.getD j2 default).inp.v), .int .i64 ((M.getD j2 default).ep.v), .int .i64 ((M.getD j2 default).kind.v), .slice ((M.getD j2 default).p) ((M.getD j2 default).bs.length) ((M.getD j2 default).c), .int .i64 ((M.getD j2 default).t.v)] 6 rfl rfl rfl sz_32 rfl (by simp [Value.oneCell']) (Nat.le_of_ble_eq_true rfl) (fun o h1 h2 => by first | (simp; done) | (simp; omega)) (cs' := #[.int .i64 ((M.getD j2 default).op.v), .int .i64 ((M.getD j2 default).inp.v), .int .i64 ((M.getD j2 default).ep.v), .int .i64 ((M.getD j2 default).kind.v), .slice ((M.getD j2 default).p) ((M.getD j2 default).bs.length) ((M.getD j2 default).c), .int .i64 ((M.getD j2 default).t.v)]) rfl ?_); intro w49 H50
      refine r_nil ?_
      refine g_seq ?_
      refine g_region ?_
      have H51 : St W w49 (bndsA ((L.getD j2 default).bs) :: blk bk46 (.cells #[.int .i64 ((M.getD j2 default).op.v), .int .i64 ((M.getD j2 default).inp.v), .int .i64 ((M.getD j2 default).ep.v), .int .i64 ((M.getD j2 default).kind.v), .slice ((M.getD j2 default).p) ((M.getD j2 default).bs.length) ((M.getD j2 default).c), .int .i64 ((M.getD j2 default).t.v)] 32 (0, 0)) :: blk bk41 (.cells #[.int .i64 ((L.getD j2 default).op.v), .int .i64 ((L.getD j2 default).inp.v), .int .i64 ((L.getD j2 default).ep.v), .int .i64 ((L.getD j2 default).kind.v), .slice ((L.getD j2 default).p) ((L.getD j2 default).bs.length) ((L.getD j2 default).c), .int .i64 ((L.getD j2 default).t.v)] 32 (0, 0)) :: imi (0 < M.length) gA25 (.cells kA27 eA28 zA29) :: imi (0 < L.length) gA12 (.cells kA14 eA15 zA16) :: itsA M :: itsA L :: Im 6 (.slice pp5 M.length cc6) M.length (M.flatMap itCell) :: Im 6 (.slice pp1 L.length cc2) L.length (L.flatMap itCell) :: F) := itsA_at H50 (i := 5) rfl (j := j2) (by omega)
      have H52 : St W w49 (Im 6 (.slice ((L.getD j2 default).p) ((L.getD j2 default).bs.length) ((L.getD j2 default).c)) ((L.getD j2 default).bs.length) ((L.getD j2 default).bs.flatMap bndCell) :: bndsA ((L.getD j2 default).bs) :: blk bk46 (.cells #[.int .i64 ((M.getD j2 default).op.v), .int .i64 ((M.getD j2 default).inp.v), .int .i64 ((M.getD j2 default).ep.v), .int .i64 ((M.getD j2 default).kind.v), .slice ((M.getD j2 default).p) ((M.getD j2 default).bs.length) ((M.getD j2 default).c), .int .i64 ((M.getD j2 default).t.v)] 32 (0, 0)) :: blk bk41 (.cells #[.int .i64 ((L.getD j2 default).op.v), .int .i64 ((L.getD j2 default).inp.v), .int .i64 ((L.getD j2 default).ep.v), .int .i64 ((L.getD j2 default).kind.v), .slice ((L.getD j2 default).p) ((L.getD j2 default).bs.length) ((L.getD j2 default).c), .int .i64 ((L.getD j2 default).t.v)] 32 (0, 0)) :: imi (0 < M.length) gA25 (.cells kA27 eA28 zA29) :: imi (0 < L.length) gA12 (.cells kA14 eA15 zA16) :: itsA M :: itsA L :: Im 6 (.slice pp5 M.length cc6) M.length (M.flatMap itCell) :: Im 6 (.slice pp1 L.length cc2) L.length (L.flatMap itCell) :: F) := itsA_bs H51 (i := 6) rfl (j := j2) (by omega)
      have H53 : St W w49 (bndsA ((M.getD j2 default).bs) :: Im 6 (.slice ((L.getD j2 default).p) ((L.getD j2 default).bs.length) ((L.getD j2 default).c)) ((L.getD j2 default).bs.length) ((L.getD j2 default).bs.flatMap bndCell) :: bndsA ((L.getD j2 default).bs) :: blk bk46 (.cells #[.int .i64 ((M.getD j2 default).op.v), .int .i64 ((M.getD j2 default).inp.v), .int .i64 ((M.getD j2 default).ep.v), .int .i64 ((M.getD j2 default).kind.v), .slice ((M.getD j2 default).p) ((M.getD j2 default).bs.length) ((M.getD j2 default).c), .int .i64 ((M.getD j2 default).t.v)] 32 (0, 0)) :: blk bk41 (.cells #[.int .i64 ((L.getD j2 default).op.v), .int .i64 ((L.getD j2 default).inp.v), .int .i64 ((L.getD j2 default).ep.v), .int .i64 ((L.getD j2 default).kind.v), .slice ((L.getD j2 default).p) ((L.getD j2 default).bs.length) ((L.getD j2 default).c), .int .i64 ((L.getD j2 default).t.v)] 32 (0, 0)) :: imi (0 < M.length) gA25 (.cells kA27 eA28 zA29) :: imi (0 < L.length) gA12 (.cells kA14 eA15 zA16) :: itsA M :: itsA L :: Im 6 (.slice pp5 M.length cc6) M.length (M.flatMap itCell) :: Im 6 (.slice pp1 L.length cc2) L.length (L.flatMap itCell) :: F) := itsA_at H52 (i := 6) rfl (j := j2) (by omega)
      have H54 : St W w49 (Im 6 (.slice ((M.getD j2 default).p) ((M.getD j2 default).bs.length) ((M.getD j2 default).c)) ((M.getD j2 default).bs.length) ((M.getD j2 default).bs.flatMap bndCell) :: bndsA ((M.getD j2 default).bs) :: Im 6 (.slice ((L.getD j2 default).p) ((L.getD j2 default).bs.length) ((L.getD j2 default).c)) ((L.getD j2 default).bs.length) ((L.getD j2 default).bs.flatMap bndCell) :: bndsA ((L.getD j2 default).bs) :: blk bk46 (.cells #[.int .i64 ((M.getD j2 default).op.v), .int .i64 ((M.getD j2 default).inp.v), .int .i64 ((M.getD j2 default).ep.v), .int .i64 ((M.getD j2 default).kind.v), .slice ((M.getD j2 default).p) ((M.getD j2 default).bs.length) ((M.getD j2 default).c), .int .i64 ((M.getD j2 default).t.v)] 32 (0, 0)) :: blk bk41 (.cells #[.int .i64 ((L.getD j2 default).op.v), .int .i64 ((L.getD j2 default).inp.v), .int .i64 ((L.getD j2 default).ep.v), .int .i64 ((L.getD j2 default).kind.v), .slice ((L.getD j2 default).p) ((L.getD j2 default).bs.length) ((L.getD j2 default).c), .int .i64 ((L.getD j2 default).t.v)] 32 (0, 0)) :: imi (0 < M.length) gA25 (.cells kA27 eA28 zA29) :: imi (0 < L.length) gA12 (.cells kA14 eA15 zA16) :: itsA M :: itsA L :: Im 6 (.slice pp5 M.length cc6) M.length (M.flatMap itCell) :: Im 6 (.slice pp1 L.length cc2) L.length (L.flatMap itCell) :: F) := itsA_bs H53 (i := 7) rfl (j := j2) (by omega)
      have hsm : sameIt (L.getD j2 default) (M.getD j2 default) = true := sameIt_is.2 (its_at heq (by omega))
      refine r_cons (s_move (.func (.func 67) #[] #[]) rfl rfl ?_)
      refine r_cons (s_loadAgg [.int .i64 ((L.getD j2 default).op.v), .int .i64 ((L.getD j2 default).inp.v), .int .i64 ((L.getD j2 default).ep.v), .int .i64 ((L.getD j2 default).kind.v), .slice ((L.getD j2 default).p) ((L.getD j2 default).bs.length) ((L.getD j2 default).c), .int .i64 ((L.getD j2 default).t.v)] 6 ag_32 rfl (H54.blk_at (i := 5) rfl) (Nat.le_of_ble_eq_true rfl) rfl rfl ?_)
      refine r_cons (s_loadAgg [.int .i64 ((M.getD j2 default).op.v), .int .i64 ((M.getD j2 default).inp.v), .int .i64 ((M.getD j2 default).ep.v), .int .i64 ((M.getD j2 default).kind.v), .slice ((M.getD j2 default).p) ((M.getD j2 default).bs.length) ((M.getD j2 default).c), .int .i64 ((M.getD j2 default).t.v)] 6 ag_32 rfl (H54.blk_at (i := 4) rfl) (Nat.le_of_ble_eq_true rfl) rfl rfl ?_)
      refine r_cons (s_callv [] [.agg #[.int .i64 ((L.getD j2 default).op.v), .int .i64 ((L.getD j2 default).inp.v), .int .i64 ((L.getD j2 default).ep.v), .int .i64 ((L.getD j2 default).kind.v), .slice ((L.getD j2 default).p) ((L.getD j2 default).bs.length) ((L.getD j2 default).c), .int .i64 ((L.getD j2 default).t.v)], .agg #[.int .i64 ((M.getD j2 default).op.v), .int .i64 ((M.getD j2 default).inp.v), .int .i64 ((M.getD j2 default).ep.v), .int .i64 ((M.getD j2 default).kind.v), .slice ((M.getD j2 default).p) ((M.getD j2 default).bs.length) ((M.getD j2 default).c), .int .i64 ((M.getD j2 default).t.v)]] rfl pl_67 rfl rfl (ref24_SameItem (L.getD j2 default) (M.getD j2 default) (ip := 2) rfl (iq := 3) rfl (ip2 := 0) rfl (iq2 := 1) rfl H54) ?_)
      rintro _ w55 ⟨rfl, H56⟩
      refine r_cons (s_not (sameIt (L.getD j2 default) (M.getD j2 default)) rfl false (by rw [hsm]; rfl) rfl ?_)
      refine r_nil ?_
      refine g_false rfl ?_
      refine g_skip ?_
      refine g_inBlock ?_
      refine g_region ?_
      refine r_cons (s_add ((j2 : Int) + 1) rfl rfl (wi64 (by omega)) rfl ?_)
      refine r_cons (s_move (.int .i64 ((j2 : Int) + 1)) rfl rfl ?_)
      refine r_nil ?_
      have H57 : St W w55 (imi (0 < M.length) gA25 (.cells kA27 eA28 zA29) :: imi (0 < L.length) gA12 (.cells kA14 eA15 zA16) :: itsA M :: itsA L :: Im 6 (.slice pp5 M.length cc6) M.length (M.flatMap itCell) :: Im 6 (.slice pp1 L.length cc2) L.length (L.flatMap itCell) :: F) := ((((((((((((H56.move 11 rfl).move 11 rfl).move 11 rfl).move 11 rfl).move 11 rfl).move 11 rfl).drop 6 rfl).drop 6 rfl).drop 6 rfl).drop 6 rfl).drop 6 rfl).drop 6 rfl)
      exact nx39 (j2 + 1) _ _ ⟨(by omega), H57⟩ (by first | (dsimp only; omega) | omega) ⟨by first | rfl | exact vint (by omega), by first | rfl | exact vint (by omega), by first | rfl | exact vint (by omega), by first | rfl | exact vint (by omega), by first | rfl | exact vint (by omega), by first | rfl | exact vint (by omega), trivial⟩
    · skip
      refine r_cons (s_lss false rfl rfl (dfalse hc40) rfl ?_)
      refine r_nil ?_
      refine g_seq ?_
      refine g_false rfl ?_
      refine g_exit (by rfl) ?_
      refine g_seq ?_
      refine g_region ?_
      refine r_cons (s_assign (.bool true) rfl rfl ?_)
      refine r_nil ?_
      refine g_ret' [.bool true] Try.func66 Try.results66 ⟨rfl, trivial⟩ ?_
      have H58 : St W w37 F := ((((((H38.drop 0 rfl).drop 0 rfl).drop 0 rfl).drop 0 rfl).drop 0 rfl).drop 0 rfl)
      exact ⟨rfl, H58⟩
set_option maxHeartbeats 4000000 in
set_option maxRecDepth 100000 in
theorem items_ {W w : World} {F : List Atom} (L M : List ItemD) (u v : Value) (heq : L.map ItemD.v = M.map ItemD.v) {j k a b : Nat} (hj : F[j]? = some (Im 6 u L.length (L.flatMap itCell))) (hk : F[k]? = some (Im 6 v M.length (M.flatMap itCell))) (ha : F[a]? = some (itsA L)) (hb : F[b]? = some (itsA M)) (H : St W w F) : Calls Try.prog 15 #[u, v] w (Ret fun v w' => v = .bool true ∧ St W w' F) := by
  refine calls_of_go (n := 8) Try.func15 rfl Try.ntmps15 rfl ?_
  refine g_seq ?_
  refine g_region ?_
  refine r_cons (s_assign (.bool false) rfl rfl ?_)
  refine r_nil ?_
  refine g_seq ?_
  refine g_region ?_
  refine r_cons (s_move (u) rfl rfl ?_)
  refine r_cons (s_move (v) rfl rfl ?_)
  refine r_cons (s_call [u, v, .func (.func 67) #[] #[]] pl_66 rfl rfl (EqualFunc_items L M u v heq hj hk ha hb H) ?_)
  rintro _ w1 ⟨rfl, H2⟩
  refine r_cons (s_assign (.bool true) rfl rfl ?_)
  refine r_nil ?_
  refine g_ret' [.bool true] Try.func15 Try.results15 ⟨rfl, trivial⟩ ?_
  exact ⟨rfl, H2⟩
set_option maxHeartbeats 4000000 in
set_option maxRecDepth 100000 in
theorem Epochs1_ {W w : World} {F : List Atom} (x : PlD) (H : St W w F) : Calls Try.prog 13 #[.slice x.p x.L.length x.c] w (Ret fun v w' => v = .bool (decide (0 < x.L.length)) ∧ St W w' F) := by
  refine calls_of_go (n := 6) Try.func13 rfl Try.ntmps13 rfl ?_
  refine g_seq ?_
  refine g_region ?_
  refine r_cons (s_assign (.bool false) rfl rfl ?_)
  refine r_nil ?_
  refine g_seq ?_
  refine g_region ?_
  refine r_cons (s_move (.slice x.p x.L.length x.c) rfl rfl ?_)
  refine r_cons (s_len x.L.length rfl ⟨_, un_22⟩ rfl ?_)
  by_cases hc1 : (0 : Int) < (x.L.length : Int)
  · skip
    refine r_cons (s_gtr true rfl rfl (dtrue hc1) rfl ?_)
    refine r_cons (s_assign (.bool true) rfl rfl ?_)
    refine r_nil ?_
    refine g_ret' [.bool true] Try.func13 Try.results13 ⟨rfl, trivial⟩ ?_
    exact ⟨congrArg Value.bool (by first | exact (decide_eq_true (by omega)).symm | exact (decide_eq_false (by omega)).symm | exact decide_eq_decide.2 (by omega)), H⟩
  · skip
    refine r_cons (s_gtr false rfl rfl (dfalse hc1) rfl ?_)
    refine r_cons (s_assign (.bool false) rfl rfl ?_)
    refine r_nil ?_
    refine g_ret' [.bool false] Try.func13 Try.results13 ⟨rfl, trivial⟩ ?_
    exact ⟨congrArg Value.bool (by first | exact (decide_eq_true (by omega)).symm | exact (decide_eq_false (by omega)).symm | exact decide_eq_decide.2 (by omega)), H⟩
set_option maxHeartbeats 4000000 in
set_option maxRecDepth 100000 in
theorem IndexFunc_pl {W w : World} {F : List Atom} (P : List PlD) (p : Option Addr) (c n : Nat) (hn : P.length = n) (hP : 0 < n) (hP2 : n ≤ 1000) (H : St W w (Row 22 1 (.slice p n c) n (P.flatMap plCell) :: F)) : Calls Try.prog 12 #[.slice p n c, .func (.func 13) #[] #[]] w (Ret fun v w' => ∃ k : Int, v = .int .i64 k ∧ ((k = -1 ∧ ∀ q, q < n → (P.getD q default).L.length = 0) ∨ ∃ q : Nat, k = (q : Int) ∧ q < n ∧ 0 < (P.getD q default).L.length) ∧ St W w' (Row 22 1 (.slice p n c) n (P.flatMap plCell) :: F)) := by
  obtain ⟨bk1, cur2, hp3, h4, h5, h6, h7, h8, H9⟩ := Row.open2 H (i := 0) rfl hP
  refine calls_of_go (n := 19) Try.func12 rfl Try.ntmps12 rfl ?_
  refine g_seq ?_
  refine g_region ?_
  refine r_cons (s_assign (.int .i64 0) rfl rfl ?_)
  refine r_nil ?_
  refine g_seq ?_
  refine g_seq ?_
  refine g_region ?_
  refine r_cons (s_move (.slice p n c) rfl rfl ?_)
  refine r_cons (s_len n rfl ⟨_, un_27⟩ rfl ?_)
  refine r_cons (s_move (.int .i64 0) rfl rfl ?_)
  refine r_nil ?_
  refine g_block ?_
  refine g_loop_inv (fun (x_ : Nat) => match x_ with | j => [(0, .slice p n c), (1, .func (.func 13) #[] #[]), (4, .int .i64 0), (7, .int .i64 (n : Int)), (8, .int .i64 (j : Int))]) (fun (x_ : Nat) w => match x_ with | j => (j ≤ n) ∧ (∀ q, q < j → (fun x : PlD => decide (0 < x.L.length)) (P.getD q default) = false) ∧ St W w (blk bk1 (.cells cur2 22 (0, 0)) :: F)) (fun (x_ : Nat) => match x_ with | j => n - j) (0) ?_ ?_ ?_
  · exact ⟨by first | rfl | exact vint (by omega), by first | rfl | exact vint (by omega), by first | rfl | exact vint (by omega), by first | rfl | exact vint (by omega), by first | rfl | exact vint (by omega), trivial⟩
  · exact ⟨(by omega), (fun q hq => by omega), H9⟩
  · rintro j ρ10 w11 ⟨hjn, hz, H12⟩ nx13
    change Ends _ _ (upds ρ10 [(0, .slice p n c), (1, .func (.func 13) #[] #[]), (4, .int .i64 0), (7, .int .i64 (n : Int)), (8, .int .i64 (j : Int))]) w11
    refine g_seq ?_
    refine g_region ?_
    by_cases hc14 : (j : Int) < (n : Int)
    · skip
      refine r_cons (s_lss true rfl rfl (dtrue hc14) rfl ?_)
      refine r_nil ?_
      refine g_seq ?_
      refine g_true rfl ?_
      refine g_skip ?_
      refine g_seq ?_
      refine g_block ?_
      refine g_seq ?_
      refine g_region ?_
      refine r_cons (s_move (.int .i64 (j : Int)) rfl rfl ?_)
      refine r_cons (s_assign (.int .i64 (j : Int)) rfl rfl ?_)
      refine r_nil ?_
      refine g_seq ?_
      refine g_region ?_
      refine r_cons (s_move (.func (.func 13) #[] #[]) rfl rfl ?_)
      refine r_cons (s_move (.slice p n c) rfl rfl ?_)
      refine r_cons (s_move (.int .i64 (j : Int)) rfl rfl ?_)
      refine r_cons (s_indexAddr bk1 (off := 0) (j : Int) 1 (0 + j * 1) (by exact congrArg (fun z_ => Value.slice z_ n c) ((fun (_ : 0 < 1) => hp3) (by omega))) rfl el_27 (by omega) rfl rfl ?_)
      refine r_cons (s_load (.slice ((P.getD j default).p) ((P.getD j default).L.length) ((P.getD j default).c)) ag_22 rfl (H12.blk_at (i := 0) rfl) (elem_cell (L := P) (i := j) plCell_len (by rw [hn]; exact h7) (by have hh : P.length = n := hn; omega) default 0 (by decide) _ rfl) rfl ?_)
      refine r_cons (s_callv [] [.slice ((P.getD j default).p) ((P.getD j default).L.length) ((P.getD j default).c)] rfl pl_13 rfl rfl (Epochs1_ (P.getD j default) H12) ?_)
      rintro _ w15 ⟨rfl, H16⟩
      refine r_nil ?_
      by_cases hb17 : (decide (0 < (P.getD j default).L.length)) = true
      · skip
        refine g_true (congrArg Value.bool hb17) ?_
        refine g_seq ?_
        refine g_region ?_
        refine r_cons (s_move (.int .i64 (j : Int)) rfl rfl ?_)
        refine r_cons (s_assign (.int .i64 (j : Int)) rfl rfl ?_)
        refine r_nil ?_
        refine g_ret' [.int .i64 (j : Int)] Try.func12 Try.results12 ⟨rfl, trivial⟩ ?_
        have H18 := Row.shut2 (p := p) (n := n) (c := c) (size := 1) (xs := P.flatMap plCell) H16 (i := 0) rfl hp3 h4 h5 h6 (by have hh : (cur2.toList.drop 0).take (P.length * 1) = P.flatMap plCell := (by rw [hn]; exact h7); have hk : P.length = n := hn; rw [hk] at hh; exact hh) (fun x_ hx_ => by obtain ⟨a_, _, ha_⟩ := List.mem_flatMap.1 hx_; exact one_pl a_ x_ ha_)
        have H19 : St W w15 (Row 22 1 (.slice p n c) n (P.flatMap plCell) :: F) := H18
        exact ⟨(j : Int), rfl, .inr ⟨j, rfl, by omega, of_decide_eq_true hb17⟩, H19⟩
      · have hb17 := eq_false_of_ne_true hb17
        refine g_false (congrArg Value.bool hb17) ?_
        refine g_skip ?_
        refine g_inBlock ?_
        refine g_region ?_
        refine r_cons (s_add ((j : Int) + 1) rfl rfl (wi64 (by omega)) rfl ?_)
        refine r_cons (s_move (.int .i64 ((j : Int) + 1)) rfl rfl ?_)
        refine r_nil ?_
        have H20 : St W w15 (blk bk1 (.cells cur2 22 (0, 0)) :: F) := H16
        exact nx13 (j + 1) _ _ ⟨(by omega), (fun q hq => (Nat.lt_or_ge q j).elim (hz q) (fun h => by rw [show q = j from by omega]; exact hb17)), H20⟩ (by first | (dsimp only; omega) | omega) ⟨by first | rfl | exact vint (by omega), by first | rfl | exact vint (by omega), by first | rfl | exact vint (by omega), by first | rfl | exact vint (by omega), by first | rfl | exact vint (by omega), trivial⟩
    · skip
      refine r_cons (s_lss false rfl rfl (dfalse hc14) rfl ?_)
      refine r_nil ?_
      refine g_seq ?_
      refine g_false rfl ?_
      refine g_exit (by rfl) ?_
      refine g_seq ?_
      refine g_region ?_
      refine r_cons (s_assign (.int .i64 (-1)) rfl rfl ?_)
      refine r_nil ?_
      refine g_ret' [.int .i64 (-1)] Try.func12 Try.results12 ⟨rfl, trivial⟩ ?_
      have H21 := Row.shut2 (p := p) (n := n) (c := c) (size := 1) (xs := P.flatMap plCell) H12 (i := 0) rfl hp3 h4 h5 h6 (by have hh : (cur2.toList.drop 0).take (P.length * 1) = P.flatMap plCell := (by rw [hn]; exact h7); have hk : P.length = n := hn; rw [hk] at hh; exact hh) (fun x_ hx_ => by obtain ⟨a_, _, ha_⟩ := List.mem_flatMap.1 hx_; exact one_pl a_ x_ ha_)
      have H22 : St W w11 (Row 22 1 (.slice p n c) n (P.flatMap plCell) :: F) := H21
      exact ⟨-1, rfl, .inl ⟨rfl, fun q hq => Nat.eq_zero_of_not_pos (of_decide_eq_false (hz q (by omega)))⟩, H22⟩
set_option maxHeartbeats 4000000 in
set_option maxRecDepth 100000 in
theorem GtA_Epoch {W w : World} {F : List Atom} (g : Nat) (e : Int) (L : List ItemD) {i : Nat} (hi : F[i]? = some (GtA g e L)) (H : St W w F) : Calls Try.prog 16 #[.pointer (some ⟨g, 0, none⟩)] w (Ret fun v w' => v = .int .i64 e ∧ St W w' F) := by
  have H0 := H.front hi
  have H1 := H0.move 0 rfl
  obtain ⟨⟨pp2, cc3⟩, H4⟩ := St.open_ex H1
  have H5 := St.open_star H4
  have H6 : St W w (blk g (.cells #[.bool true, .int .i64 e, .slice pp2 L.length cc3] 80 (0, 0)) :: Row 32 6 (.slice pp2 L.length cc3) L.length (L.flatMap itCell) :: itsA L :: (F.set i emp)) := H5
  refine calls_of_go (n := 9) Try.func16 rfl Try.ntmps16 rfl ?_
  refine g_seq ?_
  refine g_region ?_
  refine r_cons (s_assign (.int .i64 0) rfl rfl ?_)
  refine r_nil ?_
  refine g_seq ?_
  refine g_seq ?_
  refine g_region ?_
  refine r_cons (s_move (.pointer (some ⟨g, 0, none⟩)) rfl rfl ?_)
  refine r_cons (s_call [.pointer (some ⟨g, 0, none⟩)] pl_62 rfl rfl (Gate_none g (e : Int) (.slice pp2 L.length cc3) (i := 0) rfl H6) ?_)
  rintro _ w7 ⟨rfl, H8⟩
  refine r_nil ?_
  refine g_false rfl ?_
  refine g_skip ?_
  refine g_seq ?_
  refine g_region ?_
  refine r_cons (s_move (.pointer (some ⟨g, 0, none⟩)) rfl rfl ?_)
  refine r_cons (s_nilCheck (.pointer (some ⟨g, 0, none⟩)) rfl ⟨_, rfl⟩ rfl ?_)
  refine r_cons (s_fieldAddr 80 1 1 1 2 rfl fi_80_1 rfl rfl ?_)
  refine r_cons (s_load (.int .i64 e) ag_2 rfl (H8.blk_at (i := 0) rfl) rfl rfl ?_)
  refine r_cons (s_assign (.int .i64 e) rfl rfl ?_)
  refine r_nil ?_
  refine g_ret' [.int .i64 e] Try.func16 Try.results16 ⟨rfl, trivial⟩ ?_
  have H9 : St W w7 (GtA g e L :: (F.set i emp)) := St.shut_ex (pp2, cc3) (St.shut_star (ls := [blk g (.cells #[.bool true, .int .i64 e, .slice pp2 L.length cc3] 80 (0, 0)), Row 32 6 (.slice pp2 L.length cc3) L.length (L.flatMap itCell), itsA L]) H8)
  have H10 : St W w7 (GtA g e L :: (F.set i emp)) := H9
  exact ⟨rfl, St.back_same hi H10⟩
set_option maxHeartbeats 4000000 in
set_option maxRecDepth 100000 in
theorem GtA_Waiting {W w : World} {F : List Atom} (g : Nat) (e : Int) (L : List ItemD) {i : Nat} (hi : F[i]? = some (GtA g e L)) (H : St W w F) : Calls Try.prog 17 #[.pointer (some ⟨g, 0, none⟩)] w (Ret fun v w' => v = .int .i64 (L.length : Int) ∧ St W w' F) := by
  have H0 := H.front hi
  have H1 := H0.move 0 rfl
  obtain ⟨⟨pp2, cc3⟩, H4⟩ := St.open_ex H1
  have H5 := St.open_star H4
  have H6 : St W w (blk g (.cells #[.bool true, .int .i64 e, .slice pp2 L.length cc3] 80 (0, 0)) :: Row 32 6 (.slice pp2 L.length cc3) L.length (L.flatMap itCell) :: itsA L :: (F.set i emp)) := H5
  refine calls_of_go (n := 10) Try.func17 rfl Try.ntmps17 rfl ?_
  refine g_seq ?_
  refine g_region ?_
  refine r_cons (s_assign (.int .i64 0) rfl rfl ?_)
  refine r_nil ?_
  refine g_seq ?_
  refine g_seq ?_
  refine g_region ?_
  refine r_cons (s_move (.pointer (some ⟨g, 0, none⟩)) rfl rfl ?_)
  refine r_cons (s_call [.pointer (some ⟨g, 0, none⟩)] pl_62 rfl rfl (Gate_none g (e : Int) (.slice pp2 L.length cc3) (i := 0) rfl H6) ?_)
  rintro _ w7 ⟨rfl, H8⟩
  refine r_nil ?_
  refine g_false rfl ?_
  refine g_skip ?_
  refine g_seq ?_
  refine g_region ?_
  refine r_cons (s_move (.pointer (some ⟨g, 0, none⟩)) rfl rfl ?_)
  refine r_cons (s_nilCheck (.pointer (some ⟨g, 0, none⟩)) rfl ⟨_, rfl⟩ rfl ?_)
  refine r_cons (s_fieldAddr 80 2 2 2 22 rfl fi_80_2 rfl rfl ?_)
  refine r_cons (s_load (.slice pp2 L.length cc3) ag_22 rfl (H8.blk_at (i := 0) rfl) rfl rfl ?_)
  refine r_cons (s_len L.length rfl ⟨_, un_22⟩ rfl ?_)
  refine r_cons (s_assign (.int .i64 (L.length : Int)) rfl rfl ?_)
  refine r_nil ?_
  refine g_ret' [.int .i64 (L.length : Int)] Try.func17 Try.results17 ⟨rfl, trivial⟩ ?_
  have H9 : St W w7 (GtA g e L :: (F.set i emp)) := St.shut_ex (pp2, cc3) (St.shut_star (ls := [blk g (.cells #[.bool true, .int .i64 e, .slice pp2 L.length cc3] 80 (0, 0)), Row 32 6 (.slice pp2 L.length cc3) L.length (L.flatMap itCell), itsA L]) H8)
  have H10 : St W w7 (GtA g e L :: (F.set i emp)) := H9
  exact ⟨rfl, St.back_same hi H10⟩
end Sl
