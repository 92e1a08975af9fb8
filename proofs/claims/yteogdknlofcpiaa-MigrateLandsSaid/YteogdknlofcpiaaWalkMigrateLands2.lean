/- Walks of the program's functions. Printed by a program of this claim's author. No condition. -/
import Derived.Test.YteogdknlofcpiaaSlBA
import Derived.Test.YteogdknlofcpiaaSlDB
import Derived.Test.YteogdknlofcpiaaSlQ
import Derived.Test.YteogdknlofcpiaaSlR
import Derived.Test.YteogdknlofcpiaaSlG
import Derived.Test.YteogdknlofcpiaaSlDK
import Derived.Test.YteogdknlofcpiaaSlDH
import Derived.Test.YteogdknlofcpiaaSlDN
import Derived.Test.YteogdknlofcpiaaSlDO
import Derived.Test.YteogdknlofcpiaaSlDP
import Derived.Test.YteogdknlofcpiaaProg
import Derived.Test.YteogdknlofcpiaaWalkMigrateLands1
namespace Sl
open _root_.Go _root_.Go.RowKit _root_.Go.Proofs
set_option linter.all false
set_option maxHeartbeats 4000000 in
set_option maxRecDepth 100000 in
theorem time3g {W w : World} {F : List Atom} (g : Nat) (x y z : Int) (H : St W w (blk g (.cells #[.int .i64 x, .int .i64 y, .int .i64 z] 2 (0, 0)) :: F)) : Calls Try.prog 68 #[.slice (some ⟨g, 0, none⟩) 3 3] w (Ret fun v w' => v = .bool (t3B x y z) ∧ St W w' (blk g (.cells #[.int .i64 x, .int .i64 y, .int .i64 z] 2 (0, 0)) :: F)) := by
  refine calls_of_go (n := 18) Try.func68 rfl Try.ntmps68 rfl ?_
  refine g_seq ?_
  refine g_region ?_
  refine r_cons (s_assign (.bool false) rfl rfl ?_)
  refine r_nil ?_
  refine g_seq ?_
  refine g_seq ?_
  refine g_region ?_
  refine r_cons (s_move (.slice (some ⟨g, 0, none⟩) 3 3) rfl rfl ?_)
  refine r_cons (s_len 3 rfl ⟨_, un_174⟩ rfl ?_)
  refine r_cons (s_move (.int .i64 0) rfl rfl ?_)
  refine r_nil ?_
  refine g_block ?_
  refine g_loop ?_
  refine g_seq ?_
  refine g_region ?_
  refine r_cons (s_lss true rfl rfl (dtrue (by decide)) rfl ?_)
  refine r_nil ?_
  refine g_seq ?_
  refine g_true rfl ?_
  refine g_skip ?_
  refine g_seq ?_
  refine g_block ?_
  refine g_seq ?_
  refine g_region ?_
  refine r_cons (s_indexAddr g 0 1 0 rfl rfl el_174 (by omega) rfl rfl ?_)
  refine r_cons (s_load (.int .i64 x) ag_2 rfl (H.blk_at (i := 0) rfl) rfl rfl ?_)
  refine r_cons (s_assign (.int .i64 x) rfl rfl ?_)
  refine r_nil ?_
  refine g_seq ?_
  refine g_region ?_
  refine r_cons (s_move (.int .i64 x) rfl rfl ?_)
  by_cases hc1 : x < 0
  · skip
    refine r_cons (s_lss true rfl rfl (dtrue hc1) rfl ?_)
    refine r_cons (s_move (.bool true) rfl rfl ?_)
    refine r_cons (r_pass rfl rfl rfl rfl rfl ?_)
    refine r_cons (r_pass rfl rfl rfl rfl rfl ?_)
    refine r_cons (s_pick_t (.bool true) rfl rfl rfl ?_)
    refine r_nil ?_
    refine g_true rfl ?_
    refine g_seq ?_
    refine g_region ?_
    refine r_cons (s_assign (.bool false) rfl rfl ?_)
    refine r_nil ?_
    refine g_ret' [.bool false] Try.func68 Try.results68 ⟨rfl, trivial⟩ ?_
    have H2 : St W w (blk g (.cells #[.int .i64 x, .int .i64 y, .int .i64 z] 2 (0, 0)) :: F) := H
    exact ⟨congrArg Value.bool (by unfold t3B; first | exact (decide_eq_true (by omega)).symm | exact (decide_eq_false (by omega)).symm), H2⟩
  · skip
    refine r_cons (s_lss false rfl rfl (dfalse hc1) rfl ?_)
    refine r_cons (s_move (.bool false) rfl rfl ?_)
    refine r_cons (r_take rfl rfl ?_)
    refine s_move (.int .i64 x) rfl rfl ?_
    refine r_cons (r_take rfl rfl ?_)
    by_cases hc3 : (1099511627776 : Int) < x
    · skip
      refine s_gtr true rfl rfl (dtrue hc3) rfl ?_
      refine r_cons (s_pick_f (.bool true) rfl rfl rfl ?_)
      refine r_nil ?_
      refine g_true rfl ?_
      refine g_seq ?_
      refine g_region ?_
      refine r_cons (s_assign (.bool false) rfl rfl ?_)
      refine r_nil ?_
      refine g_ret' [.bool false] Try.func68 Try.results68 ⟨rfl, trivial⟩ ?_
      have H4 : St W w (blk g (.cells #[.int .i64 x, .int .i64 y, .int .i64 z] 2 (0, 0)) :: F) := H
      exact ⟨congrArg Value.bool (by unfold t3B; first | exact (decide_eq_true (by omega)).symm | exact (decide_eq_false (by omega)).symm), H4⟩
    · skip
      refine s_gtr false rfl rfl (dfalse hc3) rfl ?_
      refine r_cons (s_pick_f (.bool false) rfl rfl rfl ?_)
      refine r_nil ?_
      refine g_false rfl ?_
      refine g_skip ?_
      refine g_inBlock ?_
      refine g_region ?_
      refine r_cons (s_add 1 rfl rfl (wi64 (by omega)) rfl ?_)
      refine r_cons (s_move (.int .i64 1) rfl rfl ?_)
      refine r_nil ?_
      refine g_inLoop ?_
      refine g_seq ?_
      refine g_region ?_
      refine r_cons (s_lss true rfl rfl (dtrue (by decide)) rfl ?_)
      refine r_nil ?_
      refine g_seq ?_
      refine g_true rfl ?_
      refine g_skip ?_
      refine g_seq ?_
      refine g_block ?_
      refine g_seq ?_
      refine g_region ?_
      refine r_cons (s_indexAddr g 1 1 1 rfl rfl el_174 (by omega) rfl rfl ?_)
      refine r_cons (s_load (.int .i64 y) ag_2 rfl (H.blk_at (i := 0) rfl) rfl rfl ?_)
      refine r_cons (s_assign (.int .i64 y) rfl rfl ?_)
      refine r_nil ?_
      refine g_seq ?_
      refine g_region ?_
      refine r_cons (s_move (.int .i64 y) rfl rfl ?_)
      by_cases hc5 : y < 0
      · skip
        refine r_cons (s_lss true rfl rfl (dtrue hc5) rfl ?_)
        refine r_cons (s_move (.bool true) rfl rfl ?_)
        refine r_cons (r_pass rfl rfl rfl rfl rfl ?_)
        refine r_cons (r_pass rfl rfl rfl rfl rfl ?_)
        refine r_cons (s_pick_t (.bool true) rfl rfl rfl ?_)
        refine r_nil ?_
        refine g_true rfl ?_
        refine g_seq ?_
        refine g_region ?_
        refine r_cons (s_assign (.bool false) rfl rfl ?_)
        refine r_nil ?_
        refine g_ret' [.bool false] Try.func68 Try.results68 ⟨rfl, trivial⟩ ?_
        have H6 : St W w (blk g (.cells #[.int .i64 x, .int .i64 y, .int .i64 z] 2 (0, 0)) :: F) := H
        exact ⟨congrArg Value.bool (by unfold t3B; first | exact (decide_eq_true (by omega)).symm | exact (decide_eq_false (by omega)).symm), H6⟩
      · skip
        refine r_cons (s_lss false rfl rfl (dfalse hc5) rfl ?_)
        refine r_cons (s_move (.bool false) rfl rfl ?_)
        refine r_cons (r_take rfl rfl ?_)
        refine s_move (.int .i64 y) rfl rfl ?_
        refine r_cons (r_take rfl rfl ?_)
        by_cases hc7 : (1099511627776 : Int) < y
        · skip
          refine s_gtr true rfl rfl (dtrue hc7) rfl ?_
          refine r_cons (s_pick_f (.bool true) rfl rfl rfl ?_)
          refine r_nil ?_
          refine g_true rfl ?_
          refine g_seq ?_
          refine g_region ?_
          refine r_cons (s_assign (.bool false) rfl rfl ?_)
          refine r_nil ?_
          refine g_ret' [.bool false] Try.func68 Try.results68 ⟨rfl, trivial⟩ ?_
          have H8 : St W w (blk g (.cells #[.int .i64 x, .int .i64 y, .int .i64 z] 2 (0, 0)) :: F) := H
          exact ⟨congrArg Value.bool (by unfold t3B; first | exact (decide_eq_true (by omega)).symm | exact (decide_eq_false (by omega)).symm), H8⟩
        · skip
          refine s_gtr false rfl rfl (dfalse hc7) rfl ?_
          refine r_cons (s_pick_f (.bool false) rfl rfl rfl ?_)
          refine r_nil ?_
          refine g_false rfl ?_
          refine g_skip ?_
          refine g_inBlock ?_
          refine g_region ?_
          refine r_cons (s_add 2 rfl rfl (wi64 (by omega)) rfl ?_)
          refine r_cons (s_move (.int .i64 2) rfl rfl ?_)
          refine r_nil ?_
          refine g_inLoop ?_
          refine g_seq ?_
          refine g_region ?_
          refine r_cons (s_lss true rfl rfl (dtrue (by decide)) rfl ?_)
          refine r_nil ?_
          refine g_seq ?_
          refine g_true rfl ?_
          refine g_skip ?_
          refine g_seq ?_
          refine g_block ?_
          refine g_seq ?_
          refine g_region ?_
          refine r_cons (s_indexAddr g 2 1 2 rfl rfl el_174 (by omega) rfl rfl ?_)
          refine r_cons (s_load (.int .i64 z) ag_2 rfl (H.blk_at (i := 0) rfl) rfl rfl ?_)
          refine r_cons (s_assign (.int .i64 z) rfl rfl ?_)
          refine r_nil ?_
          refine g_seq ?_
          refine g_region ?_
          refine r_cons (s_move (.int .i64 z) rfl rfl ?_)
          by_cases hc9 : z < 0
          · skip
            refine r_cons (s_lss true rfl rfl (dtrue hc9) rfl ?_)
            refine r_cons (s_move (.bool true) rfl rfl ?_)
            refine r_cons (r_pass rfl rfl rfl rfl rfl ?_)
            refine r_cons (r_pass rfl rfl rfl rfl rfl ?_)
            refine r_cons (s_pick_t (.bool true) rfl rfl rfl ?_)
            refine r_nil ?_
            refine g_true rfl ?_
            refine g_seq ?_
            refine g_region ?_
            refine r_cons (s_assign (.bool false) rfl rfl ?_)
            refine r_nil ?_
            refine g_ret' [.bool false] Try.func68 Try.results68 ⟨rfl, trivial⟩ ?_
            have H10 : St W w (blk g (.cells #[.int .i64 x, .int .i64 y, .int .i64 z] 2 (0, 0)) :: F) := H
            exact ⟨congrArg Value.bool (by unfold t3B; first | exact (decide_eq_true (by omega)).symm | exact (decide_eq_false (by omega)).symm), H10⟩
          · skip
            refine r_cons (s_lss false rfl rfl (dfalse hc9) rfl ?_)
            refine r_cons (s_move (.bool false) rfl rfl ?_)
            refine r_cons (r_take rfl rfl ?_)
            refine s_move (.int .i64 z) rfl rfl ?_
            refine r_cons (r_take rfl rfl ?_)
            by_cases hc11 : (1099511627776 : Int) < z
            · skip
              refine s_gtr true rfl rfl (dtrue hc11) rfl ?_
              refine r_cons (s_pick_f (.bool true) rfl rfl rfl ?_)
              refine r_nil ?_
              refine g_true rfl ?_
              refine g_seq ?_
              refine g_region ?_
              refine r_cons (s_assign (.bool false) rfl rfl ?_)
              refine r_nil ?_
              refine g_ret' [.bool false] Try.func68 Try.results68 ⟨rfl, trivial⟩ ?_
              have H12 : St W w (blk g (.cells #[.int .i64 x, .int .i64 y, .int .i64 z] 2 (0, 0)) :: F) := H
              exact ⟨congrArg Value.bool (by unfold t3B; first | exact (decide_eq_true (by omega)).symm | exact (decide_eq_false (by omega)).symm), H12⟩
            · skip
              refine s_gtr false rfl rfl (dfalse hc11) rfl ?_
              refine r_cons (s_pick_f (.bool false) rfl rfl rfl ?_)
              refine r_nil ?_
              refine g_false rfl ?_
              refine g_skip ?_
              refine g_inBlock ?_
              refine g_region ?_
              refine r_cons (s_add 3 rfl rfl (wi64 (by omega)) rfl ?_)
              refine r_cons (s_move (.int .i64 3) rfl rfl ?_)
              refine r_nil ?_
              refine g_inLoop ?_
              refine g_seq ?_
              refine g_region ?_
              refine r_cons (s_lss false rfl rfl (dfalse (by decide)) rfl ?_)
              refine r_nil ?_
              refine g_seq ?_
              refine g_false rfl ?_
              refine g_exit (by rfl) ?_
              refine g_seq ?_
              refine g_region ?_
              refine r_cons (s_assign (.bool true) rfl rfl ?_)
              refine r_nil ?_
              refine g_ret' [.bool true] Try.func68 Try.results68 ⟨rfl, trivial⟩ ?_
              have H13 : St W w (blk g (.cells #[.int .i64 x, .int .i64 y, .int .i64 z] 2 (0, 0)) :: F) := H
              exact ⟨congrArg Value.bool (by unfold t3B; first | exact (decide_eq_true (by omega)).symm | exact (decide_eq_false (by omega)).symm), H13⟩
set_option maxHeartbeats 4000000 in
set_option maxRecDepth 100000 in
theorem migrate_CheckItem {W w : World} {F : List Atom} (x : ItemD) {ip : Nat} (hp : F[ip]? = some (Im 6 (.slice x.p x.bs.length x.c) x.bs.length (x.bs.flatMap bndCell))) {iq : Nat} (hq : F[iq]? = some (bndsA x.bs)) (H : St W w F) : Calls Try.prog 63 #[.agg #[.int .i64 x.op.v, .int .i64 x.inp.v, .int .i64 x.ep.v, .int .i64 x.kind.v, .slice x.p x.bs.length x.c, .int .i64 x.t.v]] w (Ret fun v w' => v = .int .i64 (itE x) ∧ St W w' F) := by
  have H1 := (H.dup (i := ip + 0) (by exact hp) (Im_pers _ _ _ _)).dup (i := iq + 1) (by exact hq) (bndsA_pers _)
  have H2 : St W w (bndsA x.bs :: Im 6 (.slice x.p x.bs.length x.c) x.bs.length (x.bs.flatMap bndCell) :: F) := H1
  refine calls_of_go (n := 55) Try.func63 rfl Try.ntmps63 rfl ?_
  refine g_seq ?_
  refine g_region ?_
  refine r_cons (s_box H2 32 (.agg #[.int .i64 x.op.v, .int .i64 x.inp.v, .int .i64 x.ep.v, .int .i64 x.kind.v, .slice x.p x.bs.length x.c, .int .i64 x.t.v]) rfl (cs := #[.int .i64 x.op.v, .int .i64 x.inp.v, .int .i64 x.ep.v, .int .i64 x.kind.v, .slice x.p x.bs.length x.c, .int .i64 x.t.v]) rfl rfl ?_); intro bk3 w4 H5
  refine r_cons (s_assign (.int .i64 0) rfl rfl ?_)
  refine r_nil ?_
  refine g_seq ?_
  refine g_region ?_
  refine r_cons (s_fieldAddr 32 0 0 0 3 rfl fi_32_0 rfl rfl ?_)
  refine r_cons (s_load (.int .i64 x.op.v) ag_3 rfl (H5.blk_at (i := 0) rfl) rfl rfl ?_)
  refine r_cons (s_fieldAddr 32 1 1 1 3 rfl fi_32_1 rfl rfl ?_)
  refine r_cons (s_load (.int .i64 x.inp.v) ag_3 rfl (H5.blk_at (i := 0) rfl) rfl rfl ?_)
  refine r_cons (s_fieldAddr 32 2 2 2 2 rfl fi_32_2 rfl rfl ?_)
  refine r_cons (s_load (.int .i64 x.ep.v) ag_2 rfl (H5.blk_at (i := 0) rfl) rfl rfl ?_)
  refine r_cons (s_buildSlice H5 1 3 (cs := #[.int .i64 x.op.v, .int .i64 x.inp.v, .int .i64 x.ep.v]) #[.int .i64 0] el_174 ze_2 (by decide) (by decide) (by kernel_rfl) rfl ?_); intro bk6 w7 H8
  refine r_cons (s_call [.slice (some ⟨bk6, 0, none⟩) 3 3] pl_68 rfl rfl (time3g bk6 x.op.v x.inp.v x.ep.v H8) ?_)
  rintro _ w9 ⟨rfl, H10⟩
  refine r_cons (s_assign (.bool (t3B x.op.v x.inp.v x.ep.v)) rfl rfl ?_)
  refine r_nil ?_
  refine g_seq ?_
  refine g_seq ?_
  refine g_region ?_
  refine r_cons (s_fieldAddr 32 3 3 3 3 rfl fi_32_3 rfl rfl ?_)
  refine r_cons (s_load (.int .i64 x.kind.v) ag_3 rfl (H10.blk_at (i := 1) rfl) rfl rfl ?_)
  refine r_nil ?_
  refine g_block ?_
  refine g_seq ?_
  refine g_region ?_
  by_cases hc11 : x.kind.v = 1
  · skip
    refine r_cons (s_eql true rfl rfl (dtrue hc11) rfl ?_)
    refine r_cons (s_assign (.bool true) rfl rfl ?_)
    refine r_nil ?_
    refine g_true rfl ?_
    refine g_seq ?_
    refine g_seq ?_
    refine g_region ?_
    refine r_cons (s_move (.bool (t3B x.op.v x.inp.v x.ep.v)) rfl rfl ?_)
    refine r_cons (s_move (.bool (t3B x.op.v x.inp.v x.ep.v)) rfl rfl ?_)
    by_cases hb12 : (t3B x.op.v x.inp.v x.ep.v) = true
    · skip
      refine r_cons (r_take rfl (congrArg some hb12) ?_)
      refine s_fieldAddr 32 5 5 5 2 rfl fi_32_5 rfl rfl ?_
      refine r_cons (r_take rfl (congrArg some hb12) ?_)
      refine s_load (.int .i64 x.t.v) ag_2 rfl (H10.blk_at (i := 1) rfl) rfl rfl ?_
      refine r_cons (r_take rfl (congrArg some hb12) ?_)
      by_cases hc13 : x.t.v = 0
      · skip
        refine s_eql true rfl rfl (dtrue hc13) rfl ?_
        refine r_cons (s_pick_t (.bool true) (by exact congrArg Value.bool hb12) rfl rfl ?_)
        refine r_nil ?_
        refine g_true rfl ?_
        refine g_seq ?_
        refine g_region ?_
        refine r_cons (s_fieldAddr 32 4 4 4 30 rfl fi_32_4 rfl rfl ?_)
        refine r_cons (s_loadAgg [.slice x.p x.bs.length x.c] 1 ag_30 rfl (H10.blk_at (i := 1) rfl) (Nat.le_of_ble_eq_true rfl) rfl rfl ?_)
        refine r_cons (s_call [.agg #[.slice x.p x.bs.length x.c]] pl_104 rfl rfl (match_Check x.bs _ (ip := 3) rfl (iq := 2) rfl H10) ?_)
        rintro _ w14 ⟨rfl, H15⟩
        refine r_cons (s_assign (.int .i64 (ptE x.bs)) rfl rfl ?_)
        refine r_nil ?_
        refine g_ret' [.int .i64 (ptE x.bs)] Try.func63 Try.results63 ⟨rfl, trivial⟩ ?_
        have H16 : St W w14 F := ((((H15.drop 0 rfl).drop 0 rfl).drop 0 rfl).drop 0 rfl)
        exact ⟨vint (itE_1 (by first | exact okI_of (by assumption) (by omega) | exact okI_of3 (notfalse (by assumption)) (notfalse (by assumption)) (notfalse (by assumption)) (by omega) | exact okI_of3 (by assumption) (by assumption) (by assumption) (by omega)) (by omega)).symm, H16⟩
      · skip
        refine s_eql false rfl rfl (dfalse hc13) rfl ?_
        refine r_cons (s_pick_t (.bool false) (by exact congrArg Value.bool hb12) rfl rfl ?_)
        refine r_nil ?_
        refine g_false rfl ?_
        refine g_skip ?_
        refine g_seq ?_
        refine g_region ?_
        refine r_cons (s_assign (.int .i64 243) rfl rfl ?_)
        refine r_nil ?_
        refine g_ret' [.int .i64 243] Try.func63 Try.results63 ⟨rfl, trivial⟩ ?_
        have H17 : St W w9 F := ((((H10.drop 0 rfl).drop 0 rfl).drop 0 rfl).drop 0 rfl)
        exact ⟨vint (itE_243 (by first | exact bad_t3 (by assumption) | exact bad_1 (by first | assumption | exact nottrue (by assumption)) | exact bad_2 (by first | assumption | exact nottrue (by assumption)) | exact bad_3 (by first | assumption | exact nottrue (by assumption)) | exact bad_4 (by omega))).symm, H17⟩
    · have hb12 := eq_false_of_ne_true hb12
      refine r_cons (r_pass rfl (congrArg some hb12) rfl rfl rfl ?_)
      refine r_cons (r_pass rfl (congrArg some hb12) rfl rfl rfl ?_)
      refine r_cons (r_pass rfl (congrArg some hb12) rfl rfl rfl ?_)
      refine r_cons (s_pick_f (.bool false) (by exact congrArg Value.bool hb12) rfl rfl ?_)
      refine r_nil ?_
      refine g_false rfl ?_
      refine g_skip ?_
      refine g_seq ?_
      refine g_region ?_
      refine r_cons (s_assign (.int .i64 243) rfl rfl ?_)
      refine r_nil ?_
      refine g_ret' [.int .i64 243] Try.func63 Try.results63 ⟨rfl, trivial⟩ ?_
      have H18 : St W w9 F := ((((H10.drop 0 rfl).drop 0 rfl).drop 0 rfl).drop 0 rfl)
      exact ⟨vint (itE_243 (by first | exact bad_t3 (by assumption) | exact bad_1 (by first | assumption | exact nottrue (by assumption)) | exact bad_2 (by first | assumption | exact nottrue (by assumption)) | exact bad_3 (by first | assumption | exact nottrue (by assumption)) | exact bad_4 (by omega))).symm, H18⟩
  · skip
    refine r_cons (s_eql false rfl rfl (dfalse hc11) rfl ?_)
    refine r_cons (s_assign (.bool false) rfl rfl ?_)
    refine r_nil ?_
    refine g_false rfl ?_
    refine g_seq ?_
    refine g_region ?_
    by_cases hc19 : x.kind.v = 2
    · skip
      refine r_cons (s_eql true rfl rfl (dtrue hc19) rfl ?_)
      refine r_cons (s_assign (.bool true) rfl rfl ?_)
      refine r_nil ?_
      refine g_true rfl ?_
      refine g_region ?_
      refine r_cons (s_move (.bool (t3B x.op.v x.inp.v x.ep.v)) rfl rfl ?_)
      refine r_cons (s_move (.bool (t3B x.op.v x.inp.v x.ep.v)) rfl rfl ?_)
      by_cases hb20 : (t3B x.op.v x.inp.v x.ep.v) = true
      · skip
        refine r_cons (r_take rfl (congrArg some hb20) ?_)
        refine s_fieldAddr 32 5 5 5 2 rfl fi_32_5 rfl rfl ?_
        refine r_cons (r_take rfl (congrArg some hb20) ?_)
        refine s_load (.int .i64 x.t.v) ag_2 rfl (H10.blk_at (i := 1) rfl) rfl rfl ?_
        refine r_cons (r_take rfl (congrArg some hb20) ?_)
        by_cases hc21 : (0 : Int) ≤ x.t.v
        · skip
          refine s_geq true rfl rfl (dtrue hc21) rfl ?_
          refine r_cons (s_pick_t (.bool true) (by exact congrArg Value.bool hb20) rfl rfl ?_)
          refine r_cons (s_move (.bool true) rfl rfl ?_)
          refine r_cons (r_take rfl rfl ?_)
          refine s_fieldAddr 32 5 5 5 2 rfl fi_32_5 rfl rfl ?_
          refine r_cons (r_take rfl rfl ?_)
          refine s_load (.int .i64 x.t.v) ag_2 rfl (H10.blk_at (i := 1) rfl) rfl rfl ?_
          refine r_cons (r_take rfl rfl ?_)
          by_cases hc22 : x.t.v ≤ 1099511627777
          · skip
            refine s_leq true rfl rfl (dtrue hc22) rfl ?_
            refine r_cons (s_pick_t (.bool true) rfl rfl rfl ?_)
            refine r_cons (s_assign (.bool true) rfl rfl ?_)
            refine r_nil ?_
            refine g_inBlock ?_
            refine g_seq ?_
            refine g_seq ?_
            refine g_region ?_
            refine r_cons (s_move (.bool true) rfl rfl ?_)
            refine r_cons (s_not true rfl false rfl rfl ?_)
            refine r_cons (s_move (.bool false) rfl rfl ?_)
            refine r_cons (r_take rfl rfl ?_)
            refine s_fieldAddr 32 4 4 4 30 rfl fi_32_4 rfl rfl ?_
            refine r_cons (r_take rfl rfl ?_)
            refine s_fieldAddr 30 0 0 4 28 rfl fi_30_0 rfl rfl ?_
            refine r_cons (r_take rfl rfl ?_)
            refine s_load (.slice x.p x.bs.length x.c) ag_28 rfl (H10.blk_at (i := 1) rfl) rfl rfl ?_
            refine r_cons (r_take rfl rfl ?_)
            refine s_len x.bs.length rfl ⟨_, un_28⟩ rfl ?_
            refine r_cons (r_take rfl rfl ?_)
            by_cases hc23 : (0 : Int) < (x.bs.length : Int)
            · skip
              refine s_gtr true rfl rfl (dtrue hc23) rfl ?_
              refine r_cons (s_pick_f (.bool true) rfl rfl rfl ?_)
              refine r_nil ?_
              refine g_true rfl ?_
              refine g_seq ?_
              refine g_region ?_
              refine r_cons (s_assign (.int .i64 243) rfl rfl ?_)
              refine r_nil ?_
              refine g_ret' [.int .i64 243] Try.func63 Try.results63 ⟨rfl, trivial⟩ ?_
              have H24 : St W w9 F := ((((H10.drop 0 rfl).drop 0 rfl).drop 0 rfl).drop 0 rfl)
              exact ⟨vint (itE_243 (by first | exact bad_t3 (by assumption) | exact bad_1 (by first | assumption | exact nottrue (by assumption)) | exact bad_2 (by first | assumption | exact nottrue (by assumption)) | exact bad_3 (by first | assumption | exact nottrue (by assumption)) | exact bad_4 (by omega))).symm, H24⟩
            · skip
              refine s_gtr false rfl rfl (dfalse hc23) rfl ?_
              refine r_cons (s_pick_f (.bool false) rfl rfl rfl ?_)
              refine r_nil ?_
              refine g_false rfl ?_
              refine g_skip ?_
              refine g_seq ?_
              refine g_region ?_
              refine r_cons (s_assign (.int .i64 0) rfl rfl ?_)
              refine r_nil ?_
              refine g_ret' [.int .i64 0] Try.func63 Try.results63 ⟨rfl, trivial⟩ ?_
              have H25 : St W w9 F := ((((H10.drop 0 rfl).drop 0 rfl).drop 0 rfl).drop 0 rfl)
              exact ⟨vint (itE_0 (by first | exact okI_of (by assumption) (by omega) | exact okI_of3 (notfalse (by assumption)) (notfalse (by assumption)) (notfalse (by assumption)) (by omega) | exact okI_of3 (by assumption) (by assumption) (by assumption) (by omega)) (by omega)).symm, H25⟩
          · skip
            refine s_leq false rfl rfl (dfalse hc22) rfl ?_
            refine r_cons (s_pick_t (.bool false) rfl rfl rfl ?_)
            refine r_cons (s_assign (.bool false) rfl rfl ?_)
            refine r_nil ?_
            refine g_inBlock ?_
            refine g_seq ?_
            refine g_seq ?_
            refine g_region ?_
            refine r_cons (s_move (.bool false) rfl rfl ?_)
            refine r_cons (s_not false rfl true rfl rfl ?_)
            refine r_cons (s_move (.bool true) rfl rfl ?_)
            refine r_cons (r_pass rfl rfl rfl rfl rfl ?_)
            refine r_cons (r_pass rfl rfl rfl rfl rfl ?_)
            refine r_cons (r_pass rfl rfl rfl rfl rfl ?_)
            refine r_cons (r_pass rfl rfl rfl rfl rfl ?_)
            refine r_cons (r_pass rfl rfl rfl rfl rfl ?_)
            refine r_cons (s_pick_t (.bool true) rfl rfl rfl ?_)
            refine r_nil ?_
            refine g_true rfl ?_
            refine g_seq ?_
            refine g_region ?_
            refine r_cons (s_assign (.int .i64 243) rfl rfl ?_)
            refine r_nil ?_
            refine g_ret' [.int .i64 243] Try.func63 Try.results63 ⟨rfl, trivial⟩ ?_
            have H26 : St W w9 F := ((((H10.drop 0 rfl).drop 0 rfl).drop 0 rfl).drop 0 rfl)
            exact ⟨vint (itE_243 (by first | exact bad_t3 (by assumption) | exact bad_1 (by first | assumption | exact nottrue (by assumption)) | exact bad_2 (by first | assumption | exact nottrue (by assumption)) | exact bad_3 (by first | assumption | exact nottrue (by assumption)) | exact bad_4 (by omega))).symm, H26⟩
        · skip
          refine s_geq false rfl rfl (dfalse hc21) rfl ?_
          refine r_cons (s_pick_t (.bool false) (by exact congrArg Value.bool hb20) rfl rfl ?_)
          refine r_cons (s_move (.bool false) rfl rfl ?_)
          refine r_cons (r_pass rfl rfl rfl rfl rfl ?_)
          refine r_cons (r_pass rfl rfl rfl rfl rfl ?_)
          refine r_cons (r_pass rfl rfl rfl rfl rfl ?_)
          refine r_cons (s_pick_f (.bool false) rfl rfl rfl ?_)
          refine r_cons (s_assign (.bool false) rfl rfl ?_)
          refine r_nil ?_
          refine g_inBlock ?_
          refine g_seq ?_
          refine g_seq ?_
          refine g_region ?_
          refine r_cons (s_move (.bool false) rfl rfl ?_)
          refine r_cons (s_not false rfl true rfl rfl ?_)
          refine r_cons (s_move (.bool true) rfl rfl ?_)
          refine r_cons (r_pass rfl rfl rfl rfl rfl ?_)
          refine r_cons (r_pass rfl rfl rfl rfl rfl ?_)
          refine r_cons (r_pass rfl rfl rfl rfl rfl ?_)
          refine r_cons (r_pass rfl rfl rfl rfl rfl ?_)
          refine r_cons (r_pass rfl rfl rfl rfl rfl ?_)
          refine r_cons (s_pick_t (.bool true) rfl rfl rfl ?_)
          refine r_nil ?_
          refine g_true rfl ?_
          refine g_seq ?_
          refine g_region ?_
          refine r_cons (s_assign (.int .i64 243) rfl rfl ?_)
          refine r_nil ?_
          refine g_ret' [.int .i64 243] Try.func63 Try.results63 ⟨rfl, trivial⟩ ?_
          have H27 : St W w9 F := ((((H10.drop 0 rfl).drop 0 rfl).drop 0 rfl).drop 0 rfl)
          exact ⟨vint (itE_243 (by first | exact bad_t3 (by assumption) | exact bad_1 (by first | assumption | exact nottrue (by assumption)) | exact bad_2 (by first | assumption | exact nottrue (by assumption)) | exact bad_3 (by first | assumption | exact nottrue (by assumption)) | exact bad_4 (by omega))).symm, H27⟩
      · have hb20 := eq_false_of_ne_true hb20
        refine r_cons (r_pass rfl (congrArg some hb20) rfl rfl rfl ?_)
        refine r_cons (r_pass rfl (congrArg some hb20) rfl rfl rfl ?_)
        refine r_cons (r_pass rfl (congrArg some hb20) rfl rfl rfl ?_)
        refine r_cons (s_pick_f (.bool false) (by exact congrArg Value.bool hb20) rfl rfl ?_)
        refine r_cons (s_move (.bool false) rfl rfl ?_)
        refine r_cons (r_pass rfl rfl rfl rfl rfl ?_)
        refine r_cons (r_pass rfl rfl rfl rfl rfl ?_)
        refine r_cons (r_pass rfl rfl rfl rfl rfl ?_)
        refine r_cons (s_pick_f (.bool false) rfl rfl rfl ?_)
        refine r_cons (s_assign (.bool false) rfl rfl ?_)
        refine r_nil ?_
        refine g_inBlock ?_
        refine g_seq ?_
        refine g_seq ?_
        refine g_region ?_
        refine r_cons (s_move (.bool false) rfl rfl ?_)
        refine r_cons (s_not false rfl true rfl rfl ?_)
        refine r_cons (s_move (.bool true) rfl rfl ?_)
        refine r_cons (r_pass rfl rfl rfl rfl rfl ?_)
        refine r_cons (r_pass rfl rfl rfl rfl rfl ?_)
        refine r_cons (r_pass rfl rfl rfl rfl rfl ?_)
        refine r_cons (r_pass rfl rfl rfl rfl rfl ?_)
        refine r_cons (r_pass rfl rfl rfl rfl rfl ?_)
        refine r_cons (s_pick_t (.bool true) rfl rfl rfl ?_)
        refine r_nil ?_
        refine g_true rfl ?_
        refine g_seq ?_
        refine g_region ?_
        refine r_cons (s_assign (.int .i64 243) rfl rfl ?_)
        refine r_nil ?_
        refine g_ret' [.int .i64 243] Try.func63 Try.results63 ⟨rfl, trivial⟩ ?_
        have H28 : St W w9 F := ((((H10.drop 0 rfl).drop 0 rfl).drop 0 rfl).drop 0 rfl)
        exact ⟨vint (itE_243 (by first | exact bad_t3 (by assumption) | exact bad_1 (by first | assumption | exact nottrue (by assumption)) | exact bad_2 (by first | assumption | exact nottrue (by assumption)) | exact bad_3 (by first | assumption | exact nottrue (by assumption)) | exact bad_4 (by omega))).symm, H28⟩
    · skip
      refine r_cons (s_eql false rfl rfl (dfalse hc19) rfl ?_)
      refine r_cons (s_assign (.bool false) rfl rfl ?_)
      refine r_nil ?_
      refine g_false rfl ?_
      refine g_seq ?_
      refine g_region ?_
      by_cases hc29 : x.kind.v = 3
      · skip
        refine r_cons (s_eql true rfl rfl (dtrue hc29) rfl ?_)
        refine r_cons (s_assign (.bool true) rfl rfl ?_)
        refine r_nil ?_
        refine g_true rfl ?_
        refine g_region ?_
        refine r_cons (s_move (.bool (t3B x.op.v x.inp.v x.ep.v)) rfl rfl ?_)
        refine r_cons (s_move (.bool (t3B x.op.v x.inp.v x.ep.v)) rfl rfl ?_)
        by_cases hb30 : (t3B x.op.v x.inp.v x.ep.v) = true
        · skip
          refine r_cons (r_take rfl (congrArg some hb30) ?_)
          refine s_fieldAddr 32 5 5 5 2 rfl fi_32_5 rfl rfl ?_
          refine r_cons (r_take rfl (congrArg some hb30) ?_)
          refine s_load (.int .i64 x.t.v) ag_2 rfl (H10.blk_at (i := 1) rfl) rfl rfl ?_
          refine r_cons (r_take rfl (congrArg some hb30) ?_)
          by_cases hc31 : x.t.v = 0
          · skip
            refine s_eql true rfl rfl (dtrue hc31) rfl ?_
            refine r_cons (s_pick_t (.bool true) (by exact congrArg Value.bool hb30) rfl rfl ?_)
            refine r_cons (s_assign (.bool true) rfl rfl ?_)
            refine r_nil ?_
            refine g_inBlock ?_
            refine g_seq ?_
            refine g_seq ?_
            refine g_region ?_
            refine r_cons (s_move (.bool true) rfl rfl ?_)
            refine r_cons (s_not true rfl false rfl rfl ?_)
            refine r_cons (s_move (.bool false) rfl rfl ?_)
            refine r_cons (r_take rfl rfl ?_)
            refine s_fieldAddr 32 4 4 4 30 rfl fi_32_4 rfl rfl ?_
            refine r_cons (r_take rfl rfl ?_)
            refine s_fieldAddr 30 0 0 4 28 rfl fi_30_0 rfl rfl ?_
            refine r_cons (r_take rfl rfl ?_)
            refine s_load (.slice x.p x.bs.length x.c) ag_28 rfl (H10.blk_at (i := 1) rfl) rfl rfl ?_
            refine r_cons (r_take rfl rfl ?_)
            refine s_len x.bs.length rfl ⟨_, un_28⟩ rfl ?_
            refine r_cons (r_take rfl rfl ?_)
            by_cases hc32 : (0 : Int) < (x.bs.length : Int)
            · skip
              refine s_gtr true rfl rfl (dtrue hc32) rfl ?_
              refine r_cons (s_pick_f (.bool true) rfl rfl rfl ?_)
              refine r_nil ?_
              refine g_true rfl ?_
              refine g_seq ?_
              refine g_region ?_
              refine r_cons (s_assign (.int .i64 243) rfl rfl ?_)
              refine r_nil ?_
              refine g_ret' [.int .i64 243] Try.func63 Try.results63 ⟨rfl, trivial⟩ ?_
              have H33 : St W w9 F := ((((H10.drop 0 rfl).drop 0 rfl).drop 0 rfl).drop 0 rfl)
              exact ⟨vint (itE_243 (by first | exact bad_t3 (by assumption) | exact bad_1 (by first | assumption | exact nottrue (by assumption)) | exact bad_2 (by first | assumption | exact nottrue (by assumption)) | exact bad_3 (by first | assumption | exact nottrue (by assumption)) | exact bad_4 (by omega))).symm, H33⟩
            · skip
              refine s_gtr false rfl rfl (dfalse hc32) rfl ?_
              refine r_cons (s_pick_f (.bool false) rfl rfl rfl ?_)
              refine r_nil ?_
              refine g_false rfl ?_
              refine g_skip ?_
              refine g_seq ?_
              refine g_region ?_
              refine r_cons (s_assign (.int .i64 0) rfl rfl ?_)
              refine r_nil ?_
              refine g_ret' [.int .i64 0] Try.func63 Try.results63 ⟨rfl, trivial⟩ ?_
              have H34 : St W w9 F := ((((H10.drop 0 rfl).drop 0 rfl).drop 0 rfl).drop 0 rfl)
              exact ⟨vint (itE_0 (by first | exact okI_of (by assumption) (by omega) | exact okI_of3 (notfalse (by assumption)) (notfalse (by assumption)) (notfalse (by assumption)) (by omega) | exact okI_of3 (by assumption) (by assumption) (by assumption) (by omega)) (by omega)).symm, H34⟩
          · skip
            refine s_eql false rfl rfl (dfalse hc31) rfl ?_
            refine r_cons (s_pick_t (.bool false) (by exact congrArg Value.bool hb30) rfl rfl ?_)
            refine r_cons (s_assign (.bool false) rfl rfl ?_)
            refine r_nil ?_
            refine g_inBlock ?_
            refine g_seq ?_
            refine g_seq ?_
            refine g_region ?_
            refine r_cons (s_move (.bool false) rfl rfl ?_)
            refine r_cons (s_not false rfl true rfl rfl ?_)
            refine r_cons (s_move (.bool true) rfl rfl ?_)
            refine r_cons (r_pass rfl rfl rfl rfl rfl ?_)
            refine r_cons (r_pass rfl rfl rfl rfl rfl ?_)
            refine r_cons (r_pass rfl rfl rfl rfl rfl ?_)
            refine r_cons (r_pass rfl rfl rfl rfl rfl ?_)
            refine r_cons (r_pass rfl rfl rfl rfl rfl ?_)
            refine r_cons (s_pick_t (.bool true) rfl rfl rfl ?_)
            refine r_nil ?_
            refine g_true rfl ?_
            refine g_seq ?_
            refine g_region ?_
            refine r_cons (s_assign (.int .i64 243) rfl rfl ?_)
            refine r_nil ?_
            refine g_ret' [.int .i64 243] Try.func63 Try.results63 ⟨rfl, trivial⟩ ?_
            have H35 : St W w9 F := ((((H10.drop 0 rfl).drop 0 rfl).drop 0 rfl).drop 0 rfl)
            exact ⟨vint (itE_243 (by first | exact bad_t3 (by assumption) | exact bad_1 (by first | assumption | exact nottrue (by assumption)) | exact bad_2 (by first | assumption | exact nottrue (by assumption)) | exact bad_3 (by first | assumption | exact nottrue (by assumption)) | exact bad_4 (by omega))).symm, H35⟩
        · have hb30 := eq_false_of_ne_true hb30
          refine r_cons (r_pass rfl (congrArg some hb30) rfl rfl rfl ?_)
          refine r_cons (r_pass rfl (congrArg some hb30) rfl rfl rfl ?_)
          refine r_cons (r_pass rfl (congrArg some hb30) rfl rfl rfl ?_)
          refine r_cons (s_pick_f (.bool false) (by exact congrArg Value.bool hb30) rfl rfl ?_)
          refine r_cons (s_assign (.bool false) rfl rfl ?_)
          refine r_nil ?_
          refine g_inBlock ?_
          refine g_seq ?_
          refine g_seq ?_
          refine g_region ?_
          refine r_cons (s_move (.bool false) rfl rfl ?_)
          refine r_cons (s_not false rfl true rfl rfl ?_)
          refine r_cons (s_move (.bool true) rfl rfl ?_)
          refine r_cons (r_pass rfl rfl rfl rfl rfl ?_)
          refine r_cons (r_pass rfl rfl rfl rfl rfl ?_)
          refine r_cons (r_pass rfl rfl rfl rfl rfl ?_)
          refine r_cons (r_pass rfl rfl rfl rfl rfl ?_)
          refine r_cons (r_pass rfl rfl rfl rfl rfl ?_)
          refine r_cons (s_pick_t (.bool true) rfl rfl rfl ?_)
          refine r_nil ?_
          refine g_true rfl ?_
          refine g_seq ?_
          refine g_region ?_
          refine r_cons (s_assign (.int .i64 243) rfl rfl ?_)
          refine r_nil ?_
          refine g_ret' [.int .i64 243] Try.func63 Try.results63 ⟨rfl, trivial⟩ ?_
          have H36 : St W w9 F := ((((H10.drop 0 rfl).drop 0 rfl).drop 0 rfl).drop 0 rfl)
          exact ⟨vint (itE_243 (by first | exact bad_t3 (by assumption) | exact bad_1 (by first | assumption | exact nottrue (by assumption)) | exact bad_2 (by first | assumption | exact nottrue (by assumption)) | exact bad_3 (by first | assumption | exact nottrue (by assumption)) | exact bad_4 (by omega))).symm, H36⟩
      · skip
        refine r_cons (s_eql false rfl rfl (dfalse hc29) rfl ?_)
        refine r_cons (s_assign (.bool false) rfl rfl ?_)
        refine r_nil ?_
        refine g_false rfl ?_
        refine g_region ?_
        refine r_cons (s_assign (.bool false) rfl rfl ?_)
        refine r_nil ?_
        refine g_inBlock ?_
        refine g_seq ?_
        refine g_seq ?_
        refine g_region ?_
        refine r_cons (s_move (.bool false) rfl rfl ?_)
        refine r_cons (s_not false rfl true rfl rfl ?_)
        refine r_cons (s_move (.bool true) rfl rfl ?_)
        refine r_cons (r_pass rfl rfl rfl rfl rfl ?_)
        refine r_cons (r_pass rfl rfl rfl rfl rfl ?_)
        refine r_cons (r_pass rfl rfl rfl rfl rfl ?_)
        refine r_cons (r_pass rfl rfl rfl rfl rfl ?_)
        refine r_cons (r_pass rfl rfl rfl rfl rfl ?_)
        refine r_cons (s_pick_t (.bool true) rfl rfl rfl ?_)
        refine r_nil ?_
        refine g_true rfl ?_
        refine g_seq ?_
        refine g_region ?_
        refine r_cons (s_assign (.int .i64 243) rfl rfl ?_)
        refine r_nil ?_
        refine g_ret' [.int .i64 243] Try.func63 Try.results63 ⟨rfl, trivial⟩ ?_
        have H37 : St W w9 F := ((((H10.drop 0 rfl).drop 0 rfl).drop 0 rfl).drop 0 rfl)
        exact ⟨vint (itE_243 (by first | exact bad_t3 (by assumption) | exact bad_1 (by first | assumption | exact nottrue (by assumption)) | exact bad_2 (by first | assumption | exact nottrue (by assumption)) | exact bad_3 (by first | assumption | exact nottrue (by assumption)) | exact bad_4 (by omega))).symm, H37⟩
set_option maxHeartbeats 4000000 in
set_option maxRecDepth 100000 in
theorem ref24_CheckItem {W w : World} {F : List Atom} (x : ItemD) {ip : Nat} (hp : F[ip]? = some (Im 6 (.slice x.p x.bs.length x.c) x.bs.length (x.bs.flatMap bndCell))) {iq : Nat} (hq : F[iq]? = some (bndsA x.bs)) (H : St W w F) : Calls Try.prog 11 #[.agg #[.int .i64 x.op.v, .int .i64 x.inp.v, .int .i64 x.ep.v, .int .i64 x.kind.v, .slice x.p x.bs.length x.c, .int .i64 x.t.v]] w (Ret fun v w' => v = .int .i64 (itE x) ∧ St W w' F) := by
  have H1 := (H.dup (i := ip + 0) (by exact hp) (Im_pers _ _ _ _)).dup (i := iq + 1) (by exact hq) (bndsA_pers _)
  have H2 : St W w (bndsA x.bs :: Im 6 (.slice x.p x.bs.length x.c) x.bs.length (x.bs.flatMap bndCell) :: F) := H1
  refine calls_of_go (n := 75) Try.func11 rfl Try.ntmps11 rfl ?_
  refine g_seq ?_
  refine g_region ?_
  refine r_cons (s_box H2 32 (.agg #[.int .i64 x.op.v, .int .i64 x.inp.v, .int .i64 x.ep.v, .int .i64 x.kind.v, .slice x.p x.bs.length x.c, .int .i64 x.t.v]) rfl (cs := #[.int .i64 x.op.v, .int .i64 x.inp.v, .int .i64 x.ep.v, .int .i64 x.kind.v, .slice x.p x.bs.length x.c, .int .i64 x.t.v]) rfl rfl ?_); intro bk3 w4 H5
  refine r_cons (s_assign (.int .i64 0) rfl rfl ?_)
  refine r_nil ?_
  refine g_seq ?_
  refine g_seq ?_
  refine g_region ?_
  refine r_cons (s_fieldAddr 32 0 0 0 3 rfl fi_32_0 rfl rfl ?_)
  refine r_cons (s_load (.int .i64 x.op.v) ag_3 rfl (H5.blk_at (i := 0) rfl) rfl rfl ?_)
  refine r_cons (s_call [.int .i64 x.op.v] pl_60 rfl rfl (ref24_time x.op.v H5) ?_)
  rintro _ w6 ⟨rfl, H7⟩
  refine r_cons (s_not (timeB x.op.v) rfl (!(timeB x.op.v)) rfl rfl ?_)
  refine r_cons (s_move (.bool (!(timeB x.op.v))) rfl rfl ?_)
  by_cases hb8 : (!(timeB x.op.v)) = true
  · skip
    refine r_cons (r_pass rfl (congrArg some hb8) rfl rfl rfl ?_)
    refine r_cons (r_pass rfl (congrArg some hb8) rfl rfl rfl ?_)
    refine r_cons (r_pass rfl (congrArg some hb8) rfl rfl rfl ?_)
    refine r_cons (r_pass rfl (congrArg some hb8) rfl rfl rfl ?_)
    refine r_cons (s_pick_t (.bool true) (by exact congrArg Value.bool hb8) rfl rfl ?_)
    refine r_cons (s_move (.bool true) rfl rfl ?_)
    refine r_cons (r_pass rfl rfl rfl rfl rfl ?_)
    refine r_cons (r_pass rfl rfl rfl rfl rfl ?_)
    refine r_cons (r_pass rfl rfl rfl rfl rfl ?_)
    refine r_cons (r_pass rfl rfl rfl rfl rfl ?_)
    refine r_cons (s_pick_t (.bool true) rfl rfl rfl ?_)
    refine r_cons (s_move (.bool true) rfl rfl ?_)
    refine r_cons (r_pass rfl rfl rfl rfl rfl ?_)
    refine r_cons (r_pass rfl rfl rfl rfl rfl ?_)
    refine r_cons (r_pass rfl rfl rfl rfl rfl ?_)
    refine r_cons (r_pass rfl rfl rfl rfl rfl ?_)
    refine r_cons (r_passN rfl rfl rfl rfl ?_)
    refine r_cons (r_passN rfl rfl rfl rfl ?_)
    refine r_cons (r_passN rfl rfl rfl rfl ?_)
    refine r_cons (r_pass rfl rfl rfl rfl rfl ?_)
    refine r_cons (r_pass rfl rfl rfl rfl rfl ?_)
    refine r_cons (r_passN rfl rfl rfl rfl ?_)
    refine r_cons (r_passN rfl rfl rfl rfl ?_)
    refine r_cons (r_passN rfl rfl rfl rfl ?_)
    refine r_cons (r_pass rfl rfl rfl rfl rfl ?_)
    refine r_cons (s_pick_t (.bool true) rfl rfl rfl ?_)
    refine r_nil ?_
    refine g_true rfl ?_
    refine g_seq ?_
    refine g_region ?_
    refine r_cons (s_assign (.int .i64 243) rfl rfl ?_)
    refine r_nil ?_
    refine g_ret' [.int .i64 243] Try.func11 Try.results11 ⟨rfl, trivial⟩ ?_
    have H9 : St W w6 F := (((H7.drop 0 rfl).drop 0 rfl).drop 0 rfl)
    exact ⟨vint (itE_243 (by first | exact bad_t3 (by assumption) | exact bad_1 (by first | assumption | exact nottrue (by assumption)) | exact bad_2 (by first | assumption | exact nottrue (by assumption)) | exact bad_3 (by first | assumption | exact nottrue (by assumption)) | exact bad_4 (by omega))).symm, H9⟩
  · have hb8 := eq_false_of_ne_true hb8
    refine r_cons (r_take rfl (congrArg some hb8) ?_)
    refine s_fieldAddr 32 1 1 1 3 rfl fi_32_1 rfl rfl ?_
    refine r_cons (r_take rfl (congrArg some hb8) ?_)
    refine s_load (.int .i64 x.inp.v) ag_3 rfl (H7.blk_at (i := 0) rfl) rfl rfl ?_
    refine r_cons (r_take rfl (congrArg some hb8) ?_)
    refine s_call [.int .i64 x.inp.v] pl_60 rfl rfl (ref24_time x.inp.v H7) ?_
    rintro _ w10 ⟨rfl, H11⟩
    refine r_cons (r_take rfl (congrArg some hb8) ?_)
    refine s_not (timeB x.inp.v) rfl (!(timeB x.inp.v)) rfl rfl ?_
    refine r_cons (s_pick_f (.bool (!(timeB x.inp.v))) (by exact congrArg Value.bool hb8) rfl rfl ?_)
    refine r_cons (s_move (.bool (!(timeB x.inp.v))) rfl rfl ?_)
    by_cases hb12 : (!(timeB x.inp.v)) = true
    · skip
      refine r_cons (r_pass rfl (congrArg some hb12) rfl rfl rfl ?_)
      refine r_cons (r_pass rfl (congrArg some hb12) rfl rfl rfl ?_)
      refine r_cons (r_pass rfl (congrArg some hb12) rfl rfl rfl ?_)
      refine r_cons (r_pass rfl (congrArg some hb12) rfl rfl rfl ?_)
      refine r_cons (s_pick_t (.bool true) (by exact congrArg Value.bool hb12) rfl rfl ?_)
      refine r_cons (s_move (.bool true) rfl rfl ?_)
      refine r_cons (r_pass rfl rfl rfl rfl rfl ?_)
      refine r_cons (r_pass rfl rfl rfl rfl rfl ?_)
      refine r_cons (r_pass rfl rfl rfl rfl rfl ?_)
      refine r_cons (r_pass rfl rfl rfl rfl rfl ?_)
      refine r_cons (r_passN rfl rfl rfl rfl ?_)
      refine r_cons (r_passN rfl rfl rfl rfl ?_)
      refine r_cons (r_passN rfl rfl rfl rfl ?_)
      refine r_cons (r_pass rfl rfl rfl rfl rfl ?_)
      refine r_cons (r_pass rfl rfl rfl rfl rfl ?_)
      refine r_cons (r_passN rfl rfl rfl rfl ?_)
      refine r_cons (r_passN rfl rfl rfl rfl ?_)
      refine r_cons (r_passN rfl rfl rfl rfl ?_)
      refine r_cons (r_pass rfl rfl rfl rfl rfl ?_)
      refine r_cons (s_pick_t (.bool true) rfl rfl rfl ?_)
      refine r_nil ?_
      refine g_true rfl ?_
      refine g_seq ?_
      refine g_region ?_
      refine r_cons (s_assign (.int .i64 243) rfl rfl ?_)
      refine r_nil ?_
      refine g_ret' [.int .i64 243] Try.func11 Try.results11 ⟨rfl, trivial⟩ ?_
      have H13 : St W w10 F := (((H11.drop 0 rfl).drop 0 rfl).drop 0 rfl)
      exact ⟨vint (itE_243 (by first | exact bad_t3 (by assumption) | exact bad_1 (by first | assumption | exact nottrue (by assumption)) | exact bad_2 (by first | assumption | exact nottrue (by assumption)) | exact bad_3 (by first | assumption | exact nottrue (by assumption)) | exact bad_4 (by omega))).symm, H13⟩
    · have hb12 := eq_false_of_ne_true hb12
      refine r_cons (r_take rfl (congrArg some hb12) ?_)
      refine s_fieldAddr 32 2 2 2 2 rfl fi_32_2 rfl rfl ?_
      refine r_cons (r_take rfl (congrArg some hb12) ?_)
      refine s_load (.int .i64 x.ep.v) ag_2 rfl (H11.blk_at (i := 0) rfl) rfl rfl ?_
      refine r_cons (r_take rfl (congrArg some hb12) ?_)
      refine s_call [.int .i64 x.ep.v] pl_60 rfl rfl (ref24_time x.ep.v H11) ?_
      rintro _ w14 ⟨rfl, H15⟩
      refine r_cons (r_take rfl (congrArg some hb12) ?_)
      refine s_not (timeB x.ep.v) rfl (!(timeB x.ep.v)) rfl rfl ?_
      refine r_cons (s_pick_f (.bool (!(timeB x.ep.v))) (by exact congrArg Value.bool hb12) rfl rfl ?_)
      refine r_cons (s_move (.bool (!(timeB x.ep.v))) rfl rfl ?_)
      by_cases hb16 : (!(timeB x.ep.v)) = true
      · skip
        refine r_cons (r_pass rfl (congrArg some hb16) rfl rfl rfl ?_)
        refine r_cons (r_pass rfl (congrArg some hb16) rfl rfl rfl ?_)
        refine r_cons (r_pass rfl (congrArg some hb16) rfl rfl rfl ?_)
        refine r_cons (r_pass rfl (congrArg some hb16) rfl rfl rfl ?_)
        refine r_cons (r_passN rfl rfl rfl rfl ?_)
        refine r_cons (r_passN rfl rfl rfl rfl ?_)
        refine r_cons (r_passN rfl rfl rfl rfl ?_)
        refine r_cons (r_pass rfl (congrArg some hb16) rfl rfl rfl ?_)
        refine r_cons (r_pass rfl (congrArg some hb16) rfl rfl rfl ?_)
        refine r_cons (r_passN rfl rfl rfl rfl ?_)
        refine r_cons (r_passN rfl rfl rfl rfl ?_)
        refine r_cons (r_passN rfl rfl rfl rfl ?_)
        refine r_cons (r_pass rfl (congrArg some hb16) rfl rfl rfl ?_)
        refine r_cons (s_pick_t (.bool true) (by exact congrArg Value.bool hb16) rfl rfl ?_)
        refine r_nil ?_
        refine g_true rfl ?_
        refine g_seq ?_
        refine g_region ?_
        refine r_cons (s_assign (.int .i64 243) rfl rfl ?_)
        refine r_nil ?_
        refine g_ret' [.int .i64 243] Try.func11 Try.results11 ⟨rfl, trivial⟩ ?_
        have H17 : St W w14 F := (((H15.drop 0 rfl).drop 0 rfl).drop 0 rfl)
        exact ⟨vint (itE_243 (by first | exact bad_t3 (by assumption) | exact bad_1 (by first | assumption | exact nottrue (by assumption)) | exact bad_2 (by first | assumption | exact nottrue (by assumption)) | exact bad_3 (by first | assumption | exact nottrue (by assumption)) | exact bad_4 (by omega))).symm, H17⟩
      · have hb16 := eq_false_of_ne_true hb16
        refine r_cons (r_take rfl (congrArg some hb16) ?_)
        refine s_fieldAddr 32 3 3 3 3 rfl fi_32_3 rfl rfl ?_
        refine r_cons (r_take rfl (congrArg some hb16) ?_)
        refine s_load (.int .i64 x.kind.v) ag_3 rfl (H15.blk_at (i := 0) rfl) rfl rfl ?_
        refine r_cons (r_take rfl (congrArg some hb16) ?_)
        by_cases hc18 : x.kind.v = 1
        · skip
          refine s_neq false rfl rfl (ntrue hc18) rfl ?_
          refine r_cons (r_take rfl (congrArg some hb16) ?_)
          refine s_move (.bool false) rfl rfl ?_
          refine r_cons (r_pass rfl rfl rfl rfl rfl ?_)
          refine r_cons (r_pass rfl rfl rfl rfl rfl ?_)
          refine r_cons (r_pass rfl rfl rfl rfl rfl ?_)
          refine r_cons (r_take rfl (congrArg some hb16) ?_)
          refine s_pick_f (.bool false) rfl rfl rfl ?_
          refine r_cons (r_take rfl (congrArg some hb16) ?_)
          refine s_move (.bool false) rfl rfl ?_
          refine r_cons (r_pass rfl rfl rfl rfl rfl ?_)
          refine r_cons (r_pass rfl rfl rfl rfl rfl ?_)
          refine r_cons (r_pass rfl rfl rfl rfl rfl ?_)
          refine r_cons (r_take rfl (congrArg some hb16) ?_)
          refine s_pick_f (.bool false) rfl rfl rfl ?_
          refine r_cons (s_pick_f (.bool false) (by exact congrArg Value.bool hb16) rfl rfl ?_)
          refine r_nil ?_
          refine g_false rfl ?_
          refine g_skip ?_
          refine g_seq ?_
          refine g_seq ?_
          refine g_region ?_
          refine r_cons (s_fieldAddr 32 3 3 3 3 rfl fi_32_3 rfl rfl ?_)
          refine r_cons (s_load (.int .i64 x.kind.v) ag_3 rfl (H15.blk_at (i := 0) rfl) rfl rfl ?_)
          refine r_cons (s_eql false rfl rfl (dfalse (by omega)) rfl ?_)
          refine r_cons (s_move (.bool false) rfl rfl ?_)
          refine r_cons (r_pass rfl rfl rfl rfl rfl ?_)
          refine r_cons (r_pass rfl rfl rfl rfl rfl ?_)
          refine r_cons (r_pass rfl rfl rfl rfl rfl ?_)
          refine r_cons (r_pass rfl rfl rfl rfl rfl ?_)
          refine r_cons (r_passN rfl rfl rfl rfl ?_)
          refine r_cons (r_passN rfl rfl rfl rfl ?_)
          refine r_cons (r_passN rfl rfl rfl rfl ?_)
          refine r_cons (r_pass rfl rfl rfl rfl rfl ?_)
          refine r_cons (s_pick_f (.bool false) rfl rfl rfl ?_)
          refine r_cons (s_move (.bool false) rfl rfl ?_)
          refine r_cons (r_take rfl rfl ?_)
          refine s_fieldAddr 32 3 3 3 3 rfl fi_32_3 rfl rfl ?_
          refine r_cons (r_take rfl rfl ?_)
          refine s_load (.int .i64 x.kind.v) ag_3 rfl (H15.blk_at (i := 0) rfl) rfl rfl ?_
          refine r_cons (r_take rfl rfl ?_)
          refine s_neq true rfl rfl (nfalse (by omega)) rfl ?_
          refine r_cons (r_take rfl rfl ?_)
          refine s_move (.bool true) rfl rfl ?_
          refine r_cons (r_take rfl rfl ?_)
          refine s_fieldAddr 32 5 5 5 2 rfl fi_32_5 rfl rfl ?_
          refine r_cons (r_take rfl rfl ?_)
          refine s_load (.int .i64 x.t.v) ag_2 rfl (H15.blk_at (i := 0) rfl) rfl rfl ?_
          refine r_cons (r_take rfl rfl ?_)
          by_cases hc19 : x.t.v = 0
          · skip
            refine s_neq false rfl rfl (ntrue hc19) rfl ?_
            refine r_cons (r_take rfl rfl ?_)
            refine s_pick_t (.bool false) rfl rfl rfl ?_
            refine r_cons (s_pick_f (.bool false) rfl rfl rfl ?_)
            refine r_cons (s_move (.bool false) rfl rfl ?_)
            refine r_cons (r_take rfl rfl ?_)
            refine s_fieldAddr 32 3 3 3 3 rfl fi_32_3 rfl rfl ?_
            refine r_cons (r_take rfl rfl ?_)
            refine s_load (.int .i64 x.kind.v) ag_3 rfl (H15.blk_at (i := 0) rfl) rfl rfl ?_
            refine r_cons (r_take rfl rfl ?_)
            refine s_neq false rfl rfl (ntrue (by omega)) rfl ?_
            refine r_cons (r_take rfl rfl ?_)
            refine s_move (.bool false) rfl rfl ?_
            refine r_cons (r_pass rfl rfl rfl rfl rfl ?_)
            refine r_cons (r_pass rfl rfl rfl rfl rfl ?_)
            refine r_cons (r_pass rfl rfl rfl rfl rfl ?_)
            refine r_cons (r_pass rfl rfl rfl rfl rfl ?_)
            refine r_cons (r_pass rfl rfl rfl rfl rfl ?_)
            refine r_cons (r_take rfl rfl ?_)
            refine s_pick_f (.bool false) rfl rfl rfl ?_
            refine r_cons (s_pick_f (.bool false) rfl rfl rfl ?_)
            refine r_nil ?_
            refine g_false rfl ?_
            refine g_skip ?_
            refine g_seq ?_
            refine g_seq ?_
            refine g_region ?_
            refine r_cons (s_fieldAddr 32 3 3 3 3 rfl fi_32_3 rfl rfl ?_)
            refine r_cons (s_load (.int .i64 x.kind.v) ag_3 rfl (H15.blk_at (i := 0) rfl) rfl rfl ?_)
            refine r_cons (s_eql true rfl rfl (dtrue (by omega)) rfl ?_)
            refine r_nil ?_
            refine g_true rfl ?_
            refine g_seq ?_
            refine g_region ?_
            refine r_cons (s_fieldAddr 32 4 4 4 30 rfl fi_32_4 rfl rfl ?_)
            refine r_cons (s_loadAgg [.slice x.p x.bs.length x.c] 1 ag_30 rfl (H15.blk_at (i := 0) rfl) (Nat.le_of_ble_eq_true rfl) rfl rfl ?_)
            refine r_cons (s_call [.agg #[.slice x.p x.bs.length x.c]] pl_61 rfl rfl (ref10_Check x.bs _ (ip := 2) rfl (iq := 1) rfl H15) ?_)
            rintro _ w20 ⟨rfl, H21⟩
            refine r_cons (s_assign (.int .i64 (ptE x.bs)) rfl rfl ?_)
            refine r_nil ?_
            refine g_ret' [.int .i64 (ptE x.bs)] Try.func11 Try.results11 ⟨rfl, trivial⟩ ?_
            have H22 : St W w20 F := (((H21.drop 0 rfl).drop 0 rfl).drop 0 rfl)
            exact ⟨vint (itE_1 (by first | exact okI_of (by assumption) (by omega) | exact okI_of3 (notfalse (by assumption)) (notfalse (by assumption)) (notfalse (by assumption)) (by omega) | exact okI_of3 (by assumption) (by assumption) (by assumption) (by omega)) (by omega)).symm, H22⟩
          · skip
            refine s_neq true rfl rfl (nfalse hc19) rfl ?_
            refine r_cons (r_take rfl rfl ?_)
            refine s_pick_t (.bool true) rfl rfl rfl ?_
            refine r_cons (s_pick_f (.bool true) rfl rfl rfl ?_)
            refine r_cons (s_move (.bool true) rfl rfl ?_)
            refine r_cons (r_pass rfl rfl rfl rfl rfl ?_)
            refine r_cons (r_pass rfl rfl rfl rfl rfl ?_)
            refine r_cons (r_pass rfl rfl rfl rfl rfl ?_)
            refine r_cons (r_pass rfl rfl rfl rfl rfl ?_)
            refine r_cons (r_passN rfl rfl rfl rfl ?_)
            refine r_cons (r_passN rfl rfl rfl rfl ?_)
            refine r_cons (r_passN rfl rfl rfl rfl ?_)
            refine r_cons (r_passN rfl rfl rfl rfl ?_)
            refine r_cons (r_passN rfl rfl rfl rfl ?_)
            refine r_cons (r_pass rfl rfl rfl rfl rfl ?_)
            refine r_cons (s_pick_t (.bool true) rfl rfl rfl ?_)
            refine r_nil ?_
            refine g_true rfl ?_
            refine g_seq ?_
            refine g_region ?_
            refine r_cons (s_assign (.int .i64 243) rfl rfl ?_)
            refine r_nil ?_
            refine g_ret' [.int .i64 243] Try.func11 Try.results11 ⟨rfl, trivial⟩ ?_
            have H23 : St W w14 F := (((H15.drop 0 rfl).drop 0 rfl).drop 0 rfl)
            exact ⟨vint (itE_243 (by first | exact bad_t3 (by assumption) | exact bad_1 (by first | assumption | exact nottrue (by assumption)) | exact bad_2 (by first | assumption | exact nottrue (by assumption)) | exact bad_3 (by first | assumption | exact nottrue (by assumption)) | exact bad_4 (by omega))).symm, H23⟩
        · skip
          refine s_neq true rfl rfl (nfalse hc18) rfl ?_
          refine r_cons (r_take rfl (congrArg some hb16) ?_)
          refine s_move (.bool true) rfl rfl ?_
          refine r_cons (r_take rfl rfl ?_)
          refine s_fieldAddr 32 3 3 3 3 rfl fi_32_3 rfl rfl ?_
          refine r_cons (r_take rfl rfl ?_)
          refine s_load (.int .i64 x.kind.v) ag_3 rfl (H15.blk_at (i := 0) rfl) rfl rfl ?_
          refine r_cons (r_take rfl rfl ?_)
          by_cases hc24 : x.kind.v = 2
          · skip
            refine s_neq false rfl rfl (ntrue hc24) rfl ?_
            refine r_cons (r_take rfl (congrArg some hb16) ?_)
            refine s_pick_t (.bool false) rfl rfl rfl ?_
            refine r_cons (r_take rfl (congrArg some hb16) ?_)
            refine s_move (.bool false) rfl rfl ?_
            refine r_cons (r_pass rfl rfl rfl rfl rfl ?_)
            refine r_cons (r_pass rfl rfl rfl rfl rfl ?_)
            refine r_cons (r_pass rfl rfl rfl rfl rfl ?_)
            refine r_cons (r_take rfl (congrArg some hb16) ?_)
            refine s_pick_f (.bool false) rfl rfl rfl ?_
            refine r_cons (s_pick_f (.bool false) (by exact congrArg Value.bool hb16) rfl rfl ?_)
            refine r_nil ?_
            refine g_false rfl ?_
            refine g_skip ?_
            refine g_seq ?_
            refine g_seq ?_
            refine g_region ?_
            refine r_cons (s_fieldAddr 32 3 3 3 3 rfl fi_32_3 rfl rfl ?_)
            refine r_cons (s_load (.int .i64 x.kind.v) ag_3 rfl (H15.blk_at (i := 0) rfl) rfl rfl ?_)
            refine r_cons (s_eql true rfl rfl (dtrue (by omega)) rfl ?_)
            refine r_cons (s_move (.bool true) rfl rfl ?_)
            refine r_cons (r_take rfl rfl ?_)
            refine s_fieldAddr 32 5 5 5 2 rfl fi_32_5 rfl rfl ?_
            refine r_cons (r_take rfl rfl ?_)
            refine s_load (.int .i64 x.t.v) ag_2 rfl (H15.blk_at (i := 0) rfl) rfl rfl ?_
            refine r_cons (r_take rfl rfl ?_)
            by_cases hc25 : x.t.v < 0
            · skip
              refine s_lss true rfl rfl (dtrue hc25) rfl ?_
              refine r_cons (r_take rfl rfl ?_)
              refine s_move (.bool true) rfl rfl ?_
              refine r_cons (r_pass rfl rfl rfl rfl rfl ?_)
              refine r_cons (r_pass rfl rfl rfl rfl rfl ?_)
              refine r_cons (r_pass rfl rfl rfl rfl rfl ?_)
              refine r_cons (r_take rfl rfl ?_)
              refine s_pick_t (.bool true) rfl rfl rfl ?_
              refine r_cons (s_pick_t (.bool true) rfl rfl rfl ?_)
              refine r_cons (s_move (.bool true) rfl rfl ?_)
              refine r_cons (r_pass rfl rfl rfl rfl rfl ?_)
              refine r_cons (r_pass rfl rfl rfl rfl rfl ?_)
              refine r_cons (r_pass rfl rfl rfl rfl rfl ?_)
              refine r_cons (r_pass rfl rfl rfl rfl rfl ?_)
              refine r_cons (r_passN rfl rfl rfl rfl ?_)
              refine r_cons (r_passN rfl rfl rfl rfl ?_)
              refine r_cons (r_passN rfl rfl rfl rfl ?_)
              refine r_cons (r_pass rfl rfl rfl rfl rfl ?_)
              refine r_cons (s_pick_t (.bool true) rfl rfl rfl ?_)
              refine r_cons (s_move (.bool true) rfl rfl ?_)
              refine r_cons (r_pass rfl rfl rfl rfl rfl ?_)
              refine r_cons (r_pass rfl rfl rfl rfl rfl ?_)
              refine r_cons (r_pass rfl rfl rfl rfl rfl ?_)
              refine r_cons (r_pass rfl rfl rfl rfl rfl ?_)
              refine r_cons (r_passN rfl rfl rfl rfl ?_)
              refine r_cons (r_passN rfl rfl rfl rfl ?_)
              refine r_cons (r_passN rfl rfl rfl rfl ?_)
              refine r_cons (r_passN rfl rfl rfl rfl ?_)
              refine r_cons (r_passN rfl rfl rfl rfl ?_)
              refine r_cons (r_pass rfl rfl rfl rfl rfl ?_)
              refine r_cons (s_pick_t (.bool true) rfl rfl rfl ?_)
              refine r_nil ?_
              refine g_true rfl ?_
              refine g_seq ?_
              refine g_region ?_
              refine r_cons (s_assign (.int .i64 243) rfl rfl ?_)
              refine r_nil ?_
              refine g_ret' [.int .i64 243] Try.func11 Try.results11 ⟨rfl, trivial⟩ ?_
              have H26 : St W w14 F := (((H15.drop 0 rfl).drop 0 rfl).drop 0 rfl)
              exact ⟨vint (itE_243 (by first | exact bad_t3 (by assumption) | exact bad_1 (by first | assumption | exact nottrue (by assumption)) | exact bad_2 (by first | assumption | exact nottrue (by assumption)) | exact bad_3 (by first | assumption | exact nottrue (by assumption)) | exact bad_4 (by omega))).symm, H26⟩
            · skip
              refine s_lss false rfl rfl (dfalse hc25) rfl ?_
              refine r_cons (r_take rfl rfl ?_)
              refine s_move (.bool false) rfl rfl ?_
              refine r_cons (r_take rfl rfl ?_)
              refine s_fieldAddr 32 5 5 5 2 rfl fi_32_5 rfl rfl ?_
              refine r_cons (r_take rfl rfl ?_)
              refine s_load (.int .i64 x.t.v) ag_2 rfl (H15.blk_at (i := 0) rfl) rfl rfl ?_
              refine r_cons (r_take rfl rfl ?_)
              by_cases hc27 : (1099511627777 : Int) < x.t.v
              · skip
                refine s_gtr true rfl rfl (dtrue hc27) rfl ?_
                refine r_cons (r_take rfl rfl ?_)
                refine s_pick_f (.bool true) rfl rfl rfl ?_
                refine r_cons (s_pick_t (.bool true) rfl rfl rfl ?_)
                refine r_cons (s_move (.bool true) rfl rfl ?_)
                refine r_cons (r_pass rfl rfl rfl rfl rfl ?_)
                refine r_cons (r_pass rfl rfl rfl rfl rfl ?_)
                refine r_cons (r_pass rfl rfl rfl rfl rfl ?_)
                refine r_cons (r_pass rfl rfl rfl rfl rfl ?_)
                refine r_cons (r_passN rfl rfl rfl rfl ?_)
                refine r_cons (r_passN rfl rfl rfl rfl ?_)
                refine r_cons (r_passN rfl rfl rfl rfl ?_)
                refine r_cons (r_pass rfl rfl rfl rfl rfl ?_)
                refine r_cons (s_pick_t (.bool true) rfl rfl rfl ?_)
                refine r_cons (s_move (.bool true) rfl rfl ?_)
                refine r_cons (r_pass rfl rfl rfl rfl rfl ?_)
                refine r_cons (r_pass rfl rfl rfl rfl rfl ?_)
                refine r_cons (r_pass rfl rfl rfl rfl rfl ?_)
                refine r_cons (r_pass rfl rfl rfl rfl rfl ?_)
                refine r_cons (r_passN rfl rfl rfl rfl ?_)
                refine r_cons (r_passN rfl rfl rfl rfl ?_)
                refine r_cons (r_passN rfl rfl rfl rfl ?_)
                refine r_cons (r_passN rfl rfl rfl rfl ?_)
                refine r_cons (r_passN rfl rfl rfl rfl ?_)
                refine r_cons (r_pass rfl rfl rfl rfl rfl ?_)
                refine r_cons (s_pick_t (.bool true) rfl rfl rfl ?_)
                refine r_nil ?_
                refine g_true rfl ?_
                refine g_seq ?_
                refine g_region ?_
                refine r_cons (s_assign (.int .i64 243) rfl rfl ?_)
                refine r_nil ?_
                refine g_ret' [.int .i64 243] Try.func11 Try.results11 ⟨rfl, trivial⟩ ?_
                have H28 : St W w14 F := (((H15.drop 0 rfl).drop 0 rfl).drop 0 rfl)
                exact ⟨vint (itE_243 (by first | exact bad_t3 (by assumption) | exact bad_1 (by first | assumption | exact nottrue (by assumption)) | exact bad_2 (by first | assumption | exact nottrue (by assumption)) | exact bad_3 (by first | assumption | exact nottrue (by assumption)) | exact bad_4 (by omega))).symm, H28⟩
              · skip
                refine s_gtr false rfl rfl (dfalse hc27) rfl ?_
                refine r_cons (r_take rfl rfl ?_)
                refine s_pick_f (.bool false) rfl rfl rfl ?_
                refine r_cons (s_pick_t (.bool false) rfl rfl rfl ?_)
                refine r_cons (s_move (.bool false) rfl rfl ?_)
                refine r_cons (r_take rfl rfl ?_)
                refine s_fieldAddr 32 3 3 3 3 rfl fi_32_3 rfl rfl ?_
                refine r_cons (r_take rfl rfl ?_)
                refine s_load (.int .i64 x.kind.v) ag_3 rfl (H15.blk_at (i := 0) rfl) rfl rfl ?_
                refine r_cons (r_take rfl rfl ?_)
                refine s_neq false rfl rfl (ntrue (by omega)) rfl ?_
                refine r_cons (r_take rfl rfl ?_)
                refine s_move (.bool false) rfl rfl ?_
                refine r_cons (r_pass rfl rfl rfl rfl rfl ?_)
                refine r_cons (r_pass rfl rfl rfl rfl rfl ?_)
                refine r_cons (r_pass rfl rfl rfl rfl rfl ?_)
                refine r_cons (r_take rfl rfl ?_)
                refine s_pick_f (.bool false) rfl rfl rfl ?_
                refine r_cons (s_pick_f (.bool false) rfl rfl rfl ?_)
                refine r_cons (s_move (.bool false) rfl rfl ?_)
                refine r_cons (r_take rfl rfl ?_)
                refine s_fieldAddr 32 3 3 3 3 rfl fi_32_3 rfl rfl ?_
                refine r_cons (r_take rfl rfl ?_)
                refine s_load (.int .i64 x.kind.v) ag_3 rfl (H15.blk_at (i := 0) rfl) rfl rfl ?_
                refine r_cons (r_take rfl rfl ?_)
                refine s_neq true rfl rfl (nfalse (by omega)) rfl ?_
                refine r_cons (r_take rfl rfl ?_)
                refine s_move (.bool true) rfl rfl ?_
                refine r_cons (r_take rfl rfl ?_)
                refine s_fieldAddr 32 4 4 4 30 rfl fi_32_4 rfl rfl ?_
                refine r_cons (r_take rfl rfl ?_)
                refine s_fieldAddr 30 0 0 4 28 rfl fi_30_0 rfl rfl ?_
                refine r_cons (r_take rfl rfl ?_)
                refine s_load (.slice x.p x.bs.length x.c) ag_28 rfl (H15.blk_at (i := 0) rfl) rfl rfl ?_
                refine r_cons (r_take rfl rfl ?_)
                refine s_len x.bs.length rfl ⟨_, un_28⟩ rfl ?_
                refine r_cons (r_take rfl rfl ?_)
                by_cases hc29 : (0 : Int) < (x.bs.length : Int)
                · skip
                  refine s_gtr true rfl rfl (dtrue hc29) rfl ?_
                  refine r_cons (r_take rfl rfl ?_)
                  refine s_pick_t (.bool true) rfl rfl rfl ?_
                  refine r_cons (s_pick_f (.bool true) rfl rfl rfl ?_)
                  refine r_nil ?_
                  refine g_true rfl ?_
                  refine g_seq ?_
                  refine g_region ?_
                  refine r_cons (s_assign (.int .i64 243) rfl rfl ?_)
                  refine r_nil ?_
                  refine g_ret' [.int .i64 243] Try.func11 Try.results11 ⟨rfl, trivial⟩ ?_
                  have H30 : St W w14 F := (((H15.drop 0 rfl).drop 0 rfl).drop 0 rfl)
                  exact ⟨vint (itE_243 (by first | exact bad_t3 (by assumption) | exact bad_1 (by first | assumption | exact nottrue (by assumption)) | exact bad_2 (by first | assumption | exact nottrue (by assumption)) | exact bad_3 (by first | assumption | exact nottrue (by assumption)) | exact bad_4 (by omega))).symm, H30⟩
                · skip
                  refine s_gtr false rfl rfl (dfalse hc29) rfl ?_
                  refine r_cons (r_take rfl rfl ?_)
                  refine s_pick_t (.bool false) rfl rfl rfl ?_
                  refine r_cons (s_pick_f (.bool false) rfl rfl rfl ?_)
                  refine r_nil ?_
                  refine g_false rfl ?_
                  refine g_skip ?_
                  refine g_seq ?_
                  refine g_seq ?_
                  refine g_region ?_
                  refine r_cons (s_fieldAddr 32 3 3 3 3 rfl fi_32_3 rfl rfl ?_)
                  refine r_cons (s_load (.int .i64 x.kind.v) ag_3 rfl (H15.blk_at (i := 0) rfl) rfl rfl ?_)
                  refine r_cons (s_eql false rfl rfl (dfalse (by omega)) rfl ?_)
                  refine r_nil ?_
                  refine g_false rfl ?_
                  refine g_skip ?_
                  refine g_seq ?_
                  refine g_region ?_
                  refine r_cons (s_assign (.int .i64 0) rfl rfl ?_)
                  refine r_nil ?_
                  refine g_ret' [.int .i64 0] Try.func11 Try.results11 ⟨rfl, trivial⟩ ?_
                  have H31 : St W w14 F := (((H15.drop 0 rfl).drop 0 rfl).drop 0 rfl)
                  exact ⟨vint (itE_0 (by first | exact okI_of (by assumption) (by omega) | exact okI_of3 (notfalse (by assumption)) (notfalse (by assumption)) (notfalse (by assumption)) (by omega) | exact okI_of3 (by assumption) (by assumption) (by assumption) (by omega)) (by omega)).symm, H31⟩
          · skip
            refine s_neq true rfl rfl (nfalse hc24) rfl ?_
            refine r_cons (r_take rfl (congrArg some hb16) ?_)
            refine s_pick_t (.bool true) rfl rfl rfl ?_
            refine r_cons (r_take rfl (congrArg some hb16) ?_)
            refine s_move (.bool true) rfl rfl ?_
            refine r_cons (r_take rfl rfl ?_)
            refine s_fieldAddr 32 3 3 3 3 rfl fi_32_3 rfl rfl ?_
            refine r_cons (r_take rfl rfl ?_)
            refine s_load (.int .i64 x.kind.v) ag_3 rfl (H15.blk_at (i := 0) rfl) rfl rfl ?_
            refine r_cons (r_take rfl rfl ?_)
            by_cases hc32 : x.kind.v = 3
            · skip
              refine s_neq false rfl rfl (ntrue hc32) rfl ?_
              refine r_cons (r_take rfl (congrArg some hb16) ?_)
              refine s_pick_t (.bool false) rfl rfl rfl ?_
              refine r_cons (s_pick_f (.bool false) (by exact congrArg Value.bool hb16) rfl rfl ?_)
              refine r_nil ?_
              refine g_false rfl ?_
              refine g_skip ?_
              refine g_seq ?_
              refine g_seq ?_
              refine g_region ?_
              refine r_cons (s_fieldAddr 32 3 3 3 3 rfl fi_32_3 rfl rfl ?_)
              refine r_cons (s_load (.int .i64 x.kind.v) ag_3 rfl (H15.blk_at (i := 0) rfl) rfl rfl ?_)
              refine r_cons (s_eql false rfl rfl (dfalse (by omega)) rfl ?_)
              refine r_cons (s_move (.bool false) rfl rfl ?_)
              refine r_cons (r_pass rfl rfl rfl rfl rfl ?_)
              refine r_cons (r_pass rfl rfl rfl rfl rfl ?_)
              refine r_cons (r_pass rfl rfl rfl rfl rfl ?_)
              refine r_cons (r_pass rfl rfl rfl rfl rfl ?_)
              refine r_cons (r_passN rfl rfl rfl rfl ?_)
              refine r_cons (r_passN rfl rfl rfl rfl ?_)
              refine r_cons (r_passN rfl rfl rfl rfl ?_)
              refine r_cons (r_pass rfl rfl rfl rfl rfl ?_)
              refine r_cons (s_pick_f (.bool false) rfl rfl rfl ?_)
              refine r_cons (s_move (.bool false) rfl rfl ?_)
              refine r_cons (r_take rfl rfl ?_)
              refine s_fieldAddr 32 3 3 3 3 rfl fi_32_3 rfl rfl ?_
              refine r_cons (r_take rfl rfl ?_)
              refine s_load (.int .i64 x.kind.v) ag_3 rfl (H15.blk_at (i := 0) rfl) rfl rfl ?_
              refine r_cons (r_take rfl rfl ?_)
              refine s_neq true rfl rfl (nfalse (by omega)) rfl ?_
              refine r_cons (r_take rfl rfl ?_)
              refine s_move (.bool true) rfl rfl ?_
              refine r_cons (r_take rfl rfl ?_)
              refine s_fieldAddr 32 5 5 5 2 rfl fi_32_5 rfl rfl ?_
              refine r_cons (r_take rfl rfl ?_)
              refine s_load (.int .i64 x.t.v) ag_2 rfl (H15.blk_at (i := 0) rfl) rfl rfl ?_
              refine r_cons (r_take rfl rfl ?_)
              by_cases hc33 : x.t.v = 0
              · skip
                refine s_neq false rfl rfl (ntrue hc33) rfl ?_
                refine r_cons (r_take rfl rfl ?_)
                refine s_pick_t (.bool false) rfl rfl rfl ?_
                refine r_cons (s_pick_f (.bool false) rfl rfl rfl ?_)
                refine r_cons (s_move (.bool false) rfl rfl ?_)
                refine r_cons (r_take rfl rfl ?_)
                refine s_fieldAddr 32 3 3 3 3 rfl fi_32_3 rfl rfl ?_
                refine r_cons (r_take rfl rfl ?_)
                refine s_load (.int .i64 x.kind.v) ag_3 rfl (H15.blk_at (i := 0) rfl) rfl rfl ?_
                refine r_cons (r_take rfl rfl ?_)
                refine s_neq true rfl rfl (nfalse (by omega)) rfl ?_
                refine r_cons (r_take rfl rfl ?_)
                refine s_move (.bool true) rfl rfl ?_
                refine r_cons (r_take rfl rfl ?_)
                refine s_fieldAddr 32 4 4 4 30 rfl fi_32_4 rfl rfl ?_
                refine r_cons (r_take rfl rfl ?_)
                refine s_fieldAddr 30 0 0 4 28 rfl fi_30_0 rfl rfl ?_
                refine r_cons (r_take rfl rfl ?_)
                refine s_load (.slice x.p x.bs.length x.c) ag_28 rfl (H15.blk_at (i := 0) rfl) rfl rfl ?_
                refine r_cons (r_take rfl rfl ?_)
                refine s_len x.bs.length rfl ⟨_, un_28⟩ rfl ?_
                refine r_cons (r_take rfl rfl ?_)
                by_cases hc34 : (0 : Int) < (x.bs.length : Int)
                · skip
                  refine s_gtr true rfl rfl (dtrue hc34) rfl ?_
                  refine r_cons (r_take rfl rfl ?_)
                  refine s_pick_t (.bool true) rfl rfl rfl ?_
                  refine r_cons (s_pick_f (.bool true) rfl rfl rfl ?_)
                  refine r_nil ?_
                  refine g_true rfl ?_
                  refine g_seq ?_
                  refine g_region ?_
                  refine r_cons (s_assign (.int .i64 243) rfl rfl ?_)
                  refine r_nil ?_
                  refine g_ret' [.int .i64 243] Try.func11 Try.results11 ⟨rfl, trivial⟩ ?_
                  have H35 : St W w14 F := (((H15.drop 0 rfl).drop 0 rfl).drop 0 rfl)
                  exact ⟨vint (itE_243 (by first | exact bad_t3 (by assumption) | exact bad_1 (by first | assumption | exact nottrue (by assumption)) | exact bad_2 (by first | assumption | exact nottrue (by assumption)) | exact bad_3 (by first | assumption | exact nottrue (by assumption)) | exact bad_4 (by omega))).symm, H35⟩
                · skip
                  refine s_gtr false rfl rfl (dfalse hc34) rfl ?_
                  refine r_cons (r_take rfl rfl ?_)
                  refine s_pick_t (.bool false) rfl rfl rfl ?_
                  refine r_cons (s_pick_f (.bool false) rfl rfl rfl ?_)
                  refine r_nil ?_
                  refine g_false rfl ?_
                  refine g_skip ?_
                  refine g_seq ?_
                  refine g_seq ?_
                  refine g_region ?_
                  refine r_cons (s_fieldAddr 32 3 3 3 3 rfl fi_32_3 rfl rfl ?_)
                  refine r_cons (s_load (.int .i64 x.kind.v) ag_3 rfl (H15.blk_at (i := 0) rfl) rfl rfl ?_)
                  refine r_cons (s_eql false rfl rfl (dfalse (by omega)) rfl ?_)
                  refine r_nil ?_
                  refine g_false rfl ?_
                  refine g_skip ?_
                  refine g_seq ?_
                  refine g_region ?_
                  refine r_cons (s_assign (.int .i64 0) rfl rfl ?_)
                  refine r_nil ?_
                  refine g_ret' [.int .i64 0] Try.func11 Try.results11 ⟨rfl, trivial⟩ ?_
                  have H36 : St W w14 F := (((H15.drop 0 rfl).drop 0 rfl).drop 0 rfl)
                  exact ⟨vint (itE_0 (by first | exact okI_of (by assumption) (by omega) | exact okI_of3 (notfalse (by assumption)) (notfalse (by assumption)) (notfalse (by assumption)) (by omega) | exact okI_of3 (by assumption) (by assumption) (by assumption) (by omega)) (by omega)).symm, H36⟩
              · skip
                refine s_neq true rfl rfl (nfalse hc33) rfl ?_
                refine r_cons (r_take rfl rfl ?_)
                refine s_pick_t (.bool true) rfl rfl rfl ?_
                refine r_cons (s_pick_f (.bool true) rfl rfl rfl ?_)
                refine r_cons (s_move (.bool true) rfl rfl ?_)
                refine r_cons (r_pass rfl rfl rfl rfl rfl ?_)
                refine r_cons (r_pass rfl rfl rfl rfl rfl ?_)
                refine r_cons (r_pass rfl rfl rfl rfl rfl ?_)
                refine r_cons (r_pass rfl rfl rfl rfl rfl ?_)
                refine r_cons (r_passN rfl rfl rfl rfl ?_)
                refine r_cons (r_passN rfl rfl rfl rfl ?_)
                refine r_cons (r_passN rfl rfl rfl rfl ?_)
                refine r_cons (r_passN rfl rfl rfl rfl ?_)
                refine r_cons (r_passN rfl rfl rfl rfl ?_)
                refine r_cons (r_pass rfl rfl rfl rfl rfl ?_)
                refine r_cons (s_pick_t (.bool true) rfl rfl rfl ?_)
                refine r_nil ?_
                refine g_true rfl ?_
                refine g_seq ?_
                refine g_region ?_
                refine r_cons (s_assign (.int .i64 243) rfl rfl ?_)
                refine r_nil ?_
                refine g_ret' [.int .i64 243] Try.func11 Try.results11 ⟨rfl, trivial⟩ ?_
                have H37 : St W w14 F := (((H15.drop 0 rfl).drop 0 rfl).drop 0 rfl)
                exact ⟨vint (itE_243 (by first | exact bad_t3 (by assumption) | exact bad_1 (by first | assumption | exact nottrue (by assumption)) | exact bad_2 (by first | assumption | exact nottrue (by assumption)) | exact bad_3 (by first | assumption | exact nottrue (by assumption)) | exact bad_4 (by omega))).symm, H37⟩
            · skip
              refine s_neq true rfl rfl (nfalse hc32) rfl ?_
              refine r_cons (r_take rfl (congrArg some hb16) ?_)
              refine s_pick_t (.bool true) rfl rfl rfl ?_
              refine r_cons (s_pick_f (.bool true) (by exact congrArg Value.bool hb16) rfl rfl ?_)
              refine r_nil ?_
              refine g_true rfl ?_
              refine g_seq ?_
              refine g_region ?_
              refine r_cons (s_assign (.int .i64 243) rfl rfl ?_)
              refine r_nil ?_
              refine g_ret' [.int .i64 243] Try.func11 Try.results11 ⟨rfl, trivial⟩ ?_
              have H38 : St W w14 F := (((H15.drop 0 rfl).drop 0 rfl).drop 0 rfl)
              exact ⟨vint (itE_243 (by first | exact bad_t3 (by assumption) | exact bad_1 (by first | assumption | exact nottrue (by assumption)) | exact bad_2 (by first | assumption | exact nottrue (by assumption)) | exact bad_3 (by first | assumption | exact nottrue (by assumption)) | exact bad_4 (by omega))).symm, H38⟩
set_option maxHeartbeats 4000000 in
set_option maxRecDepth 100000 in
theorem migrate_own {W w : World} {F : List Atom} (x : ItemD) (hok : bsOk x.bs) {ip : Nat} (hp : F[ip]? = some (Im 6 (.slice x.p x.bs.length x.c) x.bs.length (x.bs.flatMap bndCell))) {iq : Nat} (hq : F[iq]? = some (bndsA x.bs)) (H : St W w F) : Calls Try.prog 64 #[.agg #[.int .i64 x.op.v, .int .i64 x.inp.v, .int .i64 x.ep.v, .int .i64 x.kind.v, .slice x.p x.bs.length x.c, .int .i64 x.t.v]] w (Ret fun v w' => ∃ y : ItemD, v = .agg #[.int .i64 y.op.v, .int .i64 y.inp.v, .int .i64 y.ep.v, .int .i64 y.kind.v, .slice y.p y.bs.length y.c, .int .i64 y.t.v] ∧ y.v = x.v ∧ St W w' (BsA y :: bndsA y.bs :: F)) := by
  have H1 := (H.dup (i := ip + 0) (by exact hp) (Im_pers _ _ _ _)).dup (i := iq + 1) (by exact hq) (bndsA_pers _)
  have H2 : St W w (bndsA x.bs :: Im 6 (.slice x.p x.bs.length x.c) x.bs.length (x.bs.flatMap bndCell) :: F) := H1
  refine calls_of_go (n := 8) Try.func64 rfl Try.ntmps64 rfl ?_
  refine g_seq ?_
  refine g_region ?_
  refine r_cons (s_box H2 32 (.agg #[.int .i64 x.op.v, .int .i64 x.inp.v, .int .i64 x.ep.v, .int .i64 x.kind.v, .slice x.p x.bs.length x.c, .int .i64 x.t.v]) rfl (cs := #[.int .i64 x.op.v, .int .i64 x.inp.v, .int .i64 x.ep.v, .int .i64 x.kind.v, .slice x.p x.bs.length x.c, .int .i64 x.t.v]) rfl rfl ?_); intro bk3 w4 H5
  refine r_cons (s_alloc H5 32 ze_32 rfl ?_); intro bk6 w7 H8
  refine r_nil ?_
  refine g_seq ?_
  refine g_region ?_
  refine r_cons (s_fieldAddr 32 4 4 4 30 rfl fi_32_4 rfl rfl ?_)
  refine r_cons (s_loadAgg [.slice x.p x.bs.length x.c] 1 ag_30 rfl (H8.blk_at (i := 1) rfl) (Nat.le_of_ble_eq_true rfl) rfl rfl ?_)
  refine r_cons (s_call [.agg #[.slice x.p x.bs.length x.c]] pl_105 rfl rfl (match_Clone x.bs _ hok.1 hok.2 (ip := 3) rfl (iq := 2) rfl H8) ?_)
  rintro _ w13 ⟨L9, pp10, cc11, rfl, hM12, H14⟩
  refine r_cons (s_fieldAddr 32 4 4 4 30 rfl fi_32_4 rfl rfl ?_)
  refine r_cons (s_storeAgg H14 3 #[.slice pp10 L9.length cc11] 1 rfl rfl rfl sz_30 rfl (by simp [Value.oneCell']) (Nat.le_of_ble_eq_true rfl) (fun o h1 h2 => by first | (simp; done) | (simp; omega)) (cs' := #[.int .i64 x.op.v, .int .i64 x.inp.v, .int .i64 x.ep.v, .int .i64 x.kind.v, .slice pp10 L9.length cc11, .int .i64 x.t.v]) rfl ?_); intro w15 H16
  refine r_nil ?_
  refine g_seq ?_
  refine g_region ?_
  refine r_cons (s_loadAgg [.int .i64 x.op.v, .int .i64 x.inp.v, .int .i64 x.ep.v, .int .i64 x.kind.v, .slice pp10 L9.length cc11, .int .i64 x.t.v] 6 ag_32 rfl (H16.blk_at (i := 3) rfl) (Nat.le_of_ble_eq_true rfl) rfl rfl ?_)
  refine r_cons (s_storeAgg H16 2 #[.int .i64 x.op.v, .int .i64 x.inp.v, .int .i64 x.ep.v, .int .i64 x.kind.v, .slice pp10 L9.length cc11, .int .i64 x.t.v] 6 rfl rfl rfl sz_32 rfl (by simp [Value.oneCell']) (Nat.le_of_ble_eq_true rfl) (fun o h1 h2 => by first | (simp; done) | (simp; omega)) (cs' := #[.int .i64 x.op.v, .int .i64 x.inp.v, .int .i64 x.ep.v, .int .i64 x.kind.v, .slice pp10 L9.length cc11, .int .i64 x.t.v]) rfl ?_); intro w17 H18
  refine r_nil ?_
  refine g_ret' [.agg #[.int .i64 x.op.v, .int .i64 x.inp.v, .int .i64 x.ep.v, .int .i64 x.kind.v, .slice pp10 L9.length cc11, .int .i64 x.t.v]] Try.func64 Try.results64 ⟨(res_cellN rfl ag_32 (H18.blk_at (i := 2) rfl) (Nat.le_of_ble_eq_true rfl) rfl), trivial⟩ ?_
  have H19 : St W w17 (Im 6 (.slice pp10 L9.length cc11) L9.length (L9.flatMap bndCell) :: bndsA L9 :: F) := ((((((H18.move 1 rfl).move 1 rfl).drop 2 rfl).drop 2 rfl).drop 2 rfl).drop 2 rfl)
  exact ⟨⟨x.op, x.inp, x.ep, x.kind, pp10, cc11, L9, x.t⟩, rfl, by unfold ItemD.v; rw [hM12], H19⟩
set_option maxHeartbeats 4000000 in
set_option maxRecDepth 100000 in
theorem ref24_Clone {W w : World} {F : List Atom} (x : ItemD) (hok : bsOk x.bs) {ip : Nat} (hp : F[ip]? = some (Im 6 (.slice x.p x.bs.length x.c) x.bs.length (x.bs.flatMap bndCell))) {iq : Nat} (hq : F[iq]? = some (bndsA x.bs)) (H : St W w F) : Calls Try.prog 75 #[.agg #[.int .i64 x.op.v, .int .i64 x.inp.v, .int .i64 x.ep.v, .int .i64 x.kind.v, .slice x.p x.bs.length x.c, .int .i64 x.t.v]] w (Ret fun v w' => ∃ y : ItemD, v = .agg #[.int .i64 y.op.v, .int .i64 y.inp.v, .int .i64 y.ep.v, .int .i64 y.kind.v, .slice y.p y.bs.length y.c, .int .i64 y.t.v] ∧ y.v = x.v ∧ St W w' (BsA y :: bndsA y.bs :: F)) := by
  have H1 := (H.dup (i := ip + 0) (by exact hp) (Im_pers _ _ _ _)).dup (i := iq + 1) (by exact hq) (bndsA_pers _)
  have H2 : St W w (bndsA x.bs :: Im 6 (.slice x.p x.bs.length x.c) x.bs.length (x.bs.flatMap bndCell) :: F) := H1
  refine calls_of_go (n := 8) Try.func75 rfl Try.ntmps75 rfl ?_
  refine g_seq ?_
  refine g_region ?_
  refine r_cons (s_box H2 32 (.agg #[.int .i64 x.op.v, .int .i64 x.inp.v, .int .i64 x.ep.v, .int .i64 x.kind.v, .slice x.p x.bs.length x.c, .int .i64 x.t.v]) rfl (cs := #[.int .i64 x.op.v, .int .i64 x.inp.v, .int .i64 x.ep.v, .int .i64 x.kind.v, .slice x.p x.bs.length x.c, .int .i64 x.t.v]) rfl rfl ?_); intro bk3 w4 H5
  refine r_cons (s_alloc H5 32 ze_32 rfl ?_); intro bk6 w7 H8
  refine r_nil ?_
  refine g_seq ?_
  refine g_region ?_
  refine r_cons (s_fieldAddr 32 4 4 4 30 rfl fi_32_4 rfl rfl ?_)
  refine r_cons (s_loadAgg [.slice x.p x.bs.length x.c] 1 ag_30 rfl (H8.blk_at (i := 1) rfl) (Nat.le_of_ble_eq_true rfl) rfl rfl ?_)
  refine r_cons (s_call [.agg #[.slice x.p x.bs.length x.c]] pl_108 rfl rfl (ref10_Clone x.bs _ hok.1 hok.2 (ip := 3) rfl (iq := 2) rfl H8) ?_)
  rintro _ w13 ⟨L9, pp10, cc11, rfl, hM12, H14⟩
  refine r_cons (s_fieldAddr 32 4 4 4 30 rfl fi_32_4 rfl rfl ?_)
  refine r_cons (s_storeAgg H14 3 #[.slice pp10 L9.length cc11] 1 rfl rfl rfl sz_30 rfl (by simp [Value.oneCell']) (Nat.le_of_ble_eq_true rfl) (fun o h1 h2 => by first | (simp; done) | (simp; omega)) (cs' := #[.int .i64 x.op.v, .int .i64 x.inp.v, .int .i64 x.ep.v, .int .i64 x.kind.v, .slice pp10 L9.length cc11, .int .i64 x.t.v]) rfl ?_); intro w15 H16
  refine r_nil ?_
  refine g_seq ?_
  refine g_region ?_
  refine r_cons (s_loadAgg [.int .i64 x.op.v, .int .i64 x.inp.v, .int .i64 x.ep.v, .int .i64 x.kind.v, .slice pp10 L9.length cc11, .int .i64 x.t.v] 6 ag_32 rfl (H16.blk_at (i := 3) rfl) (Nat.le_of_ble_eq_true rfl) rfl rfl ?_)
  refine r_cons (s_storeAgg H16 2 #[.int .i64 x.op.v, .int .i64 x.inp.v, .int .i64 x.ep.v, .int .i64 x.kind.v, .slice pp10 L9.length cc11, .int .i64 x.t.v] 6 rfl rfl rfl sz_32 rfl (by simp [Value.oneCell']) (Nat.le_of_ble_eq_true rfl) (fun o h1 h2 => by first | (simp; done) | (simp; omega)) (cs' := #[.int .i64 x.op.v, .int .i64 x.inp.v, .int .i64 x.ep.v, .int .i64 x.kind.v, .slice pp10 L9.length cc11, .int .i64 x.t.v]) rfl ?_); intro w17 H18
  refine r_nil ?_
  refine g_ret' [.agg #[.int .i64 x.op.v, .int .i64 x.inp.v, .int .i64 x.ep.v, .int .i64 x.kind.v, .slice pp10 L9.length cc11, .int .i64 x.t.v]] Try.func75 Try.results75 ⟨(res_cellN rfl ag_32 (H18.blk_at (i := 2) rfl) (Nat.le_of_ble_eq_true rfl) rfl), trivial⟩ ?_
  have H19 : St W w17 (Im 6 (.slice pp10 L9.length cc11) L9.length (L9.flatMap bndCell) :: bndsA L9 :: F) := ((((((H18.move 1 rfl).move 1 rfl).drop 2 rfl).drop 2 rfl).drop 2 rfl).drop 2 rfl)
  exact ⟨⟨x.op, x.inp, x.ep, x.kind, pp10, cc11, L9, x.t⟩, rfl, by unfold ItemD.v; rw [hM12], H19⟩
set_option maxHeartbeats 4000000 in
set_option maxRecDepth 100000 in
theorem ref24_SameItem {W w : World} {F : List Atom} (x y : ItemD) {ip : Nat} (hp : F[ip]? = some (Im 6 (.slice x.p x.bs.length x.c) x.bs.length (x.bs.flatMap bndCell))) {iq : Nat} (hq : F[iq]? = some (bndsA x.bs)) {ip2 : Nat} (hp2 : F[ip2]? = some (Im 6 (.slice y.p y.bs.length y.c) y.bs.length (y.bs.flatMap bndCell))) {iq2 : Nat} (hq2 : F[iq2]? = some (bndsA y.bs)) (H : St W w F) : Calls Try.prog 67 #[.agg #[.int .i64 x.op.v, .int .i64 x.inp.v, .int .i64 x.ep.v, .int .i64 x.kind.v, .slice x.p x.bs.length x.c, .int .i64 x.t.v], .agg #[.int .i64 y.op.v, .int .i64 y.inp.v, .int .i64 y.ep.v, .int .i64 y.kind.v, .slice y.p y.bs.length y.c, .int .i64 y.t.v]] w (Ret fun v w' => v = .bool (sameIt x y) ∧ St W w' F) := by
  have H1 := (H.dup (i := ip + 0) (by exact hp) (Im_pers _ _ _ _)).dup (i := iq + 1) (by exact hq) (bndsA_pers _)
  have H2 : St W w (bndsA x.bs :: Im 6 (.slice x.p x.bs.length x.c) x.bs.length (x.bs.flatMap bndCell) :: F) := H1
  have H3 := (H2.dup (i := ip2 + 2) (by exact hp2) (Im_pers _ _ _ _)).dup (i := iq2 + 3) (by exact hq2) (bndsA_pers _)
  have H4 : St W w (bndsA y.bs :: Im 6 (.slice y.p y.bs.length y.c) y.bs.length (y.bs.flatMap bndCell) :: bndsA x.bs :: Im 6 (.slice x.p x.bs.length x.c) x.bs.length (x.bs.flatMap bndCell) :: F) := H3
  refine calls_of_go (n := 45) Try.func67 rfl Try.ntmps67 rfl ?_
  refine g_seq ?_
  refine g_region ?_
  refine r_cons (s_box H4 32 (.agg #[.int .i64 x.op.v, .int .i64 x.inp.v, .int .i64 x.ep.v, .int .i64 x.kind.v, .slice x.p x.bs.length x.c, .int .i64 x.t.v]) rfl (cs := #[.int .i64 x.op.v, .int .i64 x.inp.v, .int .i64 x.ep.v, .int .i64 x.kind.v, .slice x.p x.bs.length x.c, .int .i64 x.t.v]) rfl rfl ?_); intro bk5 w6 H7
  refine r_cons (s_box H7 32 (.agg #[.int .i64 y.op.v, .int .i64 y.inp.v, .int .i64 y.ep.v, .int .i64 y.kind.v, .slice y.p y.bs.length y.c, .int .i64 y.t.v]) rfl (cs := #[.int .i64 y.op.v, .int .i64 y.inp.v, .int .i64 y.ep.v, .int .i64 y.kind.v, .slice y.p y.bs.length y.c, .int .i64 y.t.v]) rfl rfl ?_); intro bk8 w9 H10
  refine r_cons (s_assign (.bool false) rfl rfl ?_)
  refine r_nil ?_
  refine g_seq ?_
  refine g_region ?_
  refine r_cons (s_fieldAddr 32 0 0 0 3 rfl fi_32_0 rfl rfl ?_)
  refine r_cons (s_load (.int .i64 x.op.v) ag_3 rfl (H10.blk_at (i := 1) rfl) rfl rfl ?_)
  refine r_cons (s_fieldAddr 32 0 0 0 3 rfl fi_32_0 rfl rfl ?_)
  refine r_cons (s_load (.int .i64 y.op.v) ag_3 rfl (H10.blk_at (i := 0) rfl) rfl rfl ?_)
  by_cases hc11 : x.op.v = y.op.v
  · skip
    refine r_cons (s_eql true rfl rfl (dtrue hc11) rfl ?_)
    refine r_cons (s_move (.bool true) rfl rfl ?_)
    refine r_cons (r_take rfl rfl ?_)
    refine s_fieldAddr 32 1 1 1 3 rfl fi_32_1 rfl rfl ?_
    refine r_cons (r_take rfl rfl ?_)
    refine s_load (.int .i64 x.inp.v) ag_3 rfl (H10.blk_at (i := 1) rfl) rfl rfl ?_
    refine r_cons (r_take rfl rfl ?_)
    refine s_fieldAddr 32 1 1 1 3 rfl fi_32_1 rfl rfl ?_
    refine r_cons (r_take rfl rfl ?_)
    refine s_load (.int .i64 y.inp.v) ag_3 rfl (H10.blk_at (i := 0) rfl) rfl rfl ?_
    refine r_cons (r_take rfl rfl ?_)
    by_cases hc12 : x.inp.v = y.inp.v
    · skip
      refine s_eql true rfl rfl (dtrue hc12) rfl ?_
      refine r_cons (s_pick_t (.bool true) rfl rfl rfl ?_)
      refine r_cons (s_move (.bool true) rfl rfl ?_)
      refine r_cons (r_take rfl rfl ?_)
      refine s_fieldAddr 32 2 2 2 2 rfl fi_32_2 rfl rfl ?_
      refine r_cons (r_take rfl rfl ?_)
      refine s_load (.int .i64 x.ep.v) ag_2 rfl (H10.blk_at (i := 1) rfl) rfl rfl ?_
      refine r_cons (r_take rfl rfl ?_)
      refine s_fieldAddr 32 2 2 2 2 rfl fi_32_2 rfl rfl ?_
      refine r_cons (r_take rfl rfl ?_)
      refine s_load (.int .i64 y.ep.v) ag_2 rfl (H10.blk_at (i := 0) rfl) rfl rfl ?_
      refine r_cons (r_take rfl rfl ?_)
      by_cases hc13 : x.ep.v = y.ep.v
      · skip
        refine s_eql true rfl rfl (dtrue hc13) rfl ?_
        refine r_cons (s_pick_t (.bool true) rfl rfl rfl ?_)
        refine r_cons (s_move (.bool true) rfl rfl ?_)
        refine r_cons (r_take rfl rfl ?_)
        refine s_fieldAddr 32 3 3 3 3 rfl fi_32_3 rfl rfl ?_
        refine r_cons (r_take rfl rfl ?_)
        refine s_load (.int .i64 x.kind.v) ag_3 rfl (H10.blk_at (i := 1) rfl) rfl rfl ?_
        refine r_cons (r_take rfl rfl ?_)
        refine s_fieldAddr 32 3 3 3 3 rfl fi_32_3 rfl rfl ?_
        refine r_cons (r_take rfl rfl ?_)
        refine s_load (.int .i64 y.kind.v) ag_3 rfl (H10.blk_at (i := 0) rfl) rfl rfl ?_
        refine r_cons (r_take rfl rfl ?_)
        by_cases hc14 : x.kind.v = y.kind.v
        · skip
          refine s_eql true rfl rfl (dtrue hc14) rfl ?_
          refine r_cons (s_pick_t (.bool true) rfl rfl rfl ?_)
          refine r_cons (s_move (.bool true) rfl rfl ?_)
          refine r_cons (r_take rfl rfl ?_)
          refine s_fieldAddr 32 5 5 5 2 rfl fi_32_5 rfl rfl ?_
          refine r_cons (r_take rfl rfl ?_)
          refine s_load (.int .i64 x.t.v) ag_2 rfl (H10.blk_at (i := 1) rfl) rfl rfl ?_
          refine r_cons (r_take rfl rfl ?_)
          refine s_fieldAddr 32 5 5 5 2 rfl fi_32_5 rfl rfl ?_
          refine r_cons (r_take rfl rfl ?_)
          refine s_load (.int .i64 y.t.v) ag_2 rfl (H10.blk_at (i := 0) rfl) rfl rfl ?_
          refine r_cons (r_take rfl rfl ?_)
          by_cases hc15 : x.t.v = y.t.v
          · skip
            refine s_eql true rfl rfl (dtrue hc15) rfl ?_
            refine r_cons (s_pick_t (.bool true) rfl rfl rfl ?_)
            refine r_cons (s_move (.bool true) rfl rfl ?_)
            refine r_cons (r_take rfl rfl ?_)
            refine s_fieldAddr 32 4 4 4 30 rfl fi_32_4 rfl rfl ?_
            refine r_cons (r_take rfl rfl ?_)
            refine s_loadAgg [.slice x.p x.bs.length x.c] 1 ag_30 rfl (H10.blk_at (i := 1) rfl) (Nat.le_of_ble_eq_true rfl) rfl rfl ?_
            refine r_cons (r_take rfl rfl ?_)
            refine s_fieldAddr 32 4 4 4 30 rfl fi_32_4 rfl rfl ?_
            refine r_cons (r_take rfl rfl ?_)
            refine s_loadAgg [.slice y.p y.bs.length y.c] 1 ag_30 rfl (H10.blk_at (i := 0) rfl) (Nat.le_of_ble_eq_true rfl) rfl rfl ?_
            refine r_cons (r_take rfl rfl ?_)
            refine s_call [.agg #[.slice x.p x.bs.length x.c], .agg #[.slice y.p y.bs.length y.c]] pl_106 rfl rfl (ref10_Same x.bs y.bs _ _ (ip := 5) rfl (iq := 4) rfl (ip2 := 3) rfl (iq2 := 2) rfl H10) ?_
            rintro _ w16 ⟨rfl, H17⟩
            refine r_cons (s_pick_t (.bool (sameBs x.bs y.bs)) rfl rfl rfl ?_)
            refine r_cons (s_assign (.bool (sameBs x.bs y.bs)) rfl rfl ?_)
            refine r_nil ?_
            refine g_ret' [.bool (sameBs x.bs y.bs)] Try.func67 Try.results67 ⟨rfl, trivial⟩ ?_
            have H18 : St W w16 F := ((((((H17.drop 0 rfl).drop 0 rfl).drop 0 rfl).drop 0 rfl).drop 0 rfl).drop 0 rfl)
            exact ⟨congrArg Value.bool (by rw [sameIt_eq]; simp_all), H18⟩
          · skip
            refine s_eql false rfl rfl (dfalse hc15) rfl ?_
            refine r_cons (s_pick_t (.bool false) rfl rfl rfl ?_)
            refine r_cons (s_move (.bool false) rfl rfl ?_)
            refine r_cons (r_pass rfl rfl rfl rfl rfl ?_)
            refine r_cons (r_pass rfl rfl rfl rfl rfl ?_)
            refine r_cons (r_pass rfl rfl rfl rfl rfl ?_)
            refine r_cons (r_pass rfl rfl rfl rfl rfl ?_)
            refine r_cons (r_pass rfl rfl rfl rfl rfl ?_)
            refine r_cons (s_pick_f (.bool false) rfl rfl rfl ?_)
            refine r_cons (s_assign (.bool false) rfl rfl ?_)
            refine r_nil ?_
            refine g_ret' [.bool false] Try.func67 Try.results67 ⟨rfl, trivial⟩ ?_
            have H19 : St W w9 F := ((((((H10.drop 0 rfl).drop 0 rfl).drop 0 rfl).drop 0 rfl).drop 0 rfl).drop 0 rfl)
            exact ⟨congrArg Value.bool (by rw [sameIt_eq]; (try simp only [Bool.and_true, Bool.and_eq_true, Bool.and_eq_false_iff, decide_eq_true_eq, decide_eq_false_iff_not]); simp_all), H19⟩
        · skip
          refine s_eql false rfl rfl (dfalse hc14) rfl ?_
          refine r_cons (s_pick_t (.bool false) rfl rfl rfl ?_)
          refine r_cons (s_move (.bool false) rfl rfl ?_)
          refine r_cons (r_pass rfl rfl rfl rfl rfl ?_)
          refine r_cons (r_pass rfl rfl rfl rfl rfl ?_)
          refine r_cons (r_pass rfl rfl rfl rfl rfl ?_)
          refine r_cons (r_pass rfl rfl rfl rfl rfl ?_)
          refine r_cons (r_pass rfl rfl rfl rfl rfl ?_)
          refine r_cons (s_pick_f (.bool false) rfl rfl rfl ?_)
          refine r_cons (s_move (.bool false) rfl rfl ?_)
          refine r_cons (r_pass rfl rfl rfl rfl rfl ?_)
          refine r_cons (r_pass rfl rfl rfl rfl rfl ?_)
          refine r_cons (r_pass rfl rfl rfl rfl rfl ?_)
          refine r_cons (r_pass rfl rfl rfl rfl rfl ?_)
          refine r_cons (r_pass rfl rfl rfl rfl rfl ?_)
          refine r_cons (s_pick_f (.bool false) rfl rfl rfl ?_)
          refine r_cons (s_assign (.bool false) rfl rfl ?_)
          refine r_nil ?_
          refine g_ret' [.bool false] Try.func67 Try.results67 ⟨rfl, trivial⟩ ?_
          have H20 : St W w9 F := ((((((H10.drop 0 rfl).drop 0 rfl).drop 0 rfl).drop 0 rfl).drop 0 rfl).drop 0 rfl)
          exact ⟨congrArg Value.bool (by rw [sameIt_eq]; (try simp only [Bool.and_true, Bool.and_eq_true, Bool.and_eq_false_iff, decide_eq_true_eq, decide_eq_false_iff_not]); simp_all), H20⟩
      · skip
        refine s_eql false rfl rfl (dfalse hc13) rfl ?_
        refine r_cons (s_pick_t (.bool false) rfl rfl rfl ?_)
        refine r_cons (s_move (.bool false) rfl rfl ?_)
        refine r_cons (r_pass rfl rfl rfl rfl rfl ?_)
        refine r_cons (r_pass rfl rfl rfl rfl rfl ?_)
        refine r_cons (r_pass rfl rfl rfl rfl rfl ?_)
        refine r_cons (r_pass rfl rfl rfl rfl rfl ?_)
        refine r_cons (r_pass rfl rfl rfl rfl rfl ?_)
        refine r_cons (s_pick_f (.bool false) rfl rfl rfl ?_)
        refine r_cons (s_move (.bool false) rfl rfl ?_)
        refine r_cons (r_pass rfl rfl rfl rfl rfl ?_)
        refine r_cons (r_pass rfl rfl rfl rfl rfl ?_)
        refine r_cons (r_pass rfl rfl rfl rfl rfl ?_)
        refine r_cons (r_pass rfl rfl rfl rfl rfl ?_)
        refine r_cons (r_pass rfl rfl rfl rfl rfl ?_)
        refine r_cons (s_pick_f (.bool false) rfl rfl rfl ?_)
        refine r_cons (s_move (.bool false) rfl rfl ?_)
        refine r_cons (r_pass rfl rfl rfl rfl rfl ?_)
        refine r_cons (r_pass rfl rfl rfl rfl rfl ?_)
        refine r_cons (r_pass rfl rfl rfl rfl rfl ?_)
        refine r_cons (r_pass rfl rfl rfl rfl rfl ?_)
        refine r_cons (r_pass rfl rfl rfl rfl rfl ?_)
        refine r_cons (s_pick_f (.bool false) rfl rfl rfl ?_)
        refine r_cons (s_assign (.bool false) rfl rfl ?_)
        refine r_nil ?_
        refine g_ret' [.bool false] Try.func67 Try.results67 ⟨rfl, trivial⟩ ?_
        have H21 : St W w9 F := ((((((H10.drop 0 rfl).drop 0 rfl).drop 0 rfl).drop 0 rfl).drop 0 rfl).drop 0 rfl)
        exact ⟨congrArg Value.bool (by rw [sameIt_eq]; (try simp only [Bool.and_true, Bool.and_eq_true, Bool.and_eq_false_iff, decide_eq_true_eq, decide_eq_false_iff_not]); simp_all), H21⟩
    · skip
      refine s_eql false rfl rfl (dfalse hc12) rfl ?_
      refine r_cons (s_pick_t (.bool false) rfl rfl rfl ?_)
      refine r_cons (s_move (.bool false) rfl rfl ?_)
      refine r_cons (r_pass rfl rfl rfl rfl rfl ?_)
      refine r_cons (r_pass rfl rfl rfl rfl rfl ?_)
      refine r_cons (r_pass rfl rfl rfl rfl rfl ?_)
      refine r_cons (r_pass rfl rfl rfl rfl rfl ?_)
      refine r_cons (r_pass rfl rfl rfl rfl rfl ?_)
      refine r_cons (s_pick_f (.bool false) rfl rfl rfl ?_)
      refine r_cons (s_move (.bool false) rfl rfl ?_)
      refine r_cons (r_pass rfl rfl rfl rfl rfl ?_)
      refine r_cons (r_pass rfl rfl rfl rfl rfl ?_)
      refine r_cons (r_pass rfl rfl rfl rfl rfl ?_)
      refine r_cons (r_pass rfl rfl rfl rfl rfl ?_)
      refine r_cons (r_pass rfl rfl rfl rfl rfl ?_)
      refine r_cons (s_pick_f (.bool false) rfl rfl rfl ?_)
      refine r_cons (s_move (.bool false) rfl rfl ?_)
      refine r_cons (r_pass rfl rfl rfl rfl rfl ?_)
      refine r_cons (r_pass rfl rfl rfl rfl rfl ?_)
      refine r_cons (r_pass rfl rfl rfl rfl rfl ?_)
      refine r_cons (r_pass rfl rfl rfl rfl rfl ?_)
      refine r_cons (r_pass rfl rfl rfl rfl rfl ?_)
      refine r_cons (s_pick_f (.bool false) rfl rfl rfl ?_)
      refine r_cons (s_move (.bool false) rfl rfl ?_)
      refine r_cons (r_pass rfl rfl rfl rfl rfl ?_)
      refine r_cons (r_pass rfl rfl rfl rfl rfl ?_)
      refine r_cons (r_pass rfl rfl rfl rfl rfl ?_)
      refine r_cons (r_pass rfl rfl rfl rfl rfl ?_)
      refine r_cons (r_pass rfl rfl rfl rfl rfl ?_)
      refine r_cons (s_pick_f (.bool false) rfl rfl rfl ?_)
      refine r_cons (s_assign (.bool false) rfl rfl ?_)
      refine r_nil ?_
      refine g_ret' [.bool false] Try.func67 Try.results67 ⟨rfl, trivial⟩ ?_
      have H22 : St W w9 F := ((((((H10.drop 0 rfl).drop 0 rfl).drop 0 rfl).drop 0 rfl).drop 0 rfl).drop 0 rfl)
      exact ⟨congrArg Value.bool (by rw [sameIt_eq]; (try simp only [Bool.and_true, Bool.and_eq_true, Bool.and_eq_false_iff, decide_eq_true_eq, decide_eq_false_iff_not]); simp_all), H22⟩
  · skip
    refine r_cons (s_eql false rfl rfl (dfalse hc11) rfl ?_)
    refine r_cons (s_move (.bool false) rfl rfl ?_)
    refine r_cons (r_pass rfl rfl rfl rfl rfl ?_)
    refine r_cons (r_pass rfl rfl rfl rfl rfl ?_)
    refine r_cons (r_pass rfl rfl rfl rfl rfl ?_)
    refine r_cons (r_pass rfl rfl rfl rfl rfl ?_)
    refine r_cons (r_pass rfl rfl rfl rfl rfl ?_)
    refine r_cons (s_pick_f (.bool false) rfl rfl rfl ?_)
    refine r_cons (s_move (.bool false) rfl rfl ?_)
    refine r_cons (r_pass rfl rfl rfl rfl rfl ?_)
    refine r_cons (r_pass rfl rfl rfl rfl rfl ?_)
    refine r_cons (r_pass rfl rfl rfl rfl rfl ?_)
    refine r_cons (r_pass rfl rfl rfl rfl rfl ?_)
    refine r_cons (r_pass rfl rfl rfl rfl rfl ?_)
    refine r_cons (s_pick_f (.bool false) rfl rfl rfl ?_)
    refine r_cons (s_move (.bool false) rfl rfl ?_)
    refine r_cons (r_pass rfl rfl rfl rfl rfl ?_)
    refine r_cons (r_pass rfl rfl rfl rfl rfl ?_)
    refine r_cons (r_pass rfl rfl rfl rfl rfl ?_)
    refine r_cons (r_pass rfl rfl rfl rfl rfl ?_)
    refine r_cons (r_pass rfl rfl rfl rfl rfl ?_)
    refine r_cons (s_pick_f (.bool false) rfl rfl rfl ?_)
    refine r_cons (s_move (.bool false) rfl rfl ?_)
    refine r_cons (r_pass rfl rfl rfl rfl rfl ?_)
    refine r_cons (r_pass rfl rfl rfl rfl rfl ?_)
    refine r_cons (r_pass rfl rfl rfl rfl rfl ?_)
    refine r_cons (r_pass rfl rfl rfl rfl rfl ?_)
    refine r_cons (r_pass rfl rfl rfl rfl rfl ?_)
    refine r_cons (s_pick_f (.bool false) rfl rfl rfl ?_)
    refine r_cons (s_move (.bool false) rfl rfl ?_)
    refine r_cons (r_pass rfl rfl rfl rfl rfl ?_)
    refine r_cons (r_pass rfl rfl rfl rfl rfl ?_)
    refine r_cons (r_pass rfl rfl rfl rfl rfl ?_)
    refine r_cons (r_pass rfl rfl rfl rfl rfl ?_)
    refine r_cons (r_pass rfl rfl rfl rfl rfl ?_)
    refine r_cons (s_pick_f (.bool false) rfl rfl rfl ?_)
    refine r_cons (s_assign (.bool false) rfl rfl ?_)
    refine r_nil ?_
    refine g_ret' [.bool false] Try.func67 Try.results67 ⟨rfl, trivial⟩ ?_
    have H23 : St W w9 F := ((((((H10.drop 0 rfl).drop 0 rfl).drop 0 rfl).drop 0 rfl).drop 0 rfl).drop 0 rfl)
    exact ⟨congrArg Value.bool (by rw [sameIt_eq]; (try simp only [Bool.and_true, Bool.and_eq_true, Bool.and_eq_false_iff, decide_eq_true_eq, decide_eq_false_iff_not]); simp_all), H23⟩
set_option maxHeartbeats 4000000 in
set_option maxRecDepth 100000 in
theorem migrate_piece {W w : World} {F : List Atom} (o m i : Int) (sp : Option Addr) (sn sc : Nat) (H : St W w F) : Calls Try.prog 72 #[.agg #[.int .i64 o, .int .i64 m, .int .i64 i, .slice sp sn sc]] w (Ret fun v w' => v = .bool (pieceB o m i sn) ∧ St W w' F) := by
  refine calls_of_go (n := 35) Try.func72 rfl Try.ntmps72 rfl ?_
  refine g_seq ?_
  refine g_region ?_
  refine r_cons (s_box H 51 (.agg #[.int .i64 o, .int .i64 m, .int .i64 i, .slice sp sn sc]) rfl (cs := #[.int .i64 o, .int .i64 m, .int .i64 i, .slice sp sn sc]) rfl rfl ?_); intro bk1 w2 H3
  refine r_cons (s_assign (.bool false) rfl rfl ?_)
  refine r_nil ?_
  refine g_seq ?_
  refine g_region ?_
  refine r_cons (s_fieldAddr 51 0 0 0 3 rfl fi_51_0 rfl rfl ?_)
  refine r_cons (s_load (.int .i64 o) ag_3 rfl (H3.blk_at (i := 0) rfl) rfl rfl ?_)
  refine r_cons (s_buildSlice H3 1 1 (cs := #[.int .i64 o]) #[.int .i64 0] el_174 ze_2 (by decide) (by decide) (by kernel_rfl) rfl ?_); intro bk4 w5 H6
  refine r_cons (s_call [.slice (some ⟨bk4, 0, none⟩) 1 1] pl_68 rfl rfl (time1 bk4 o H6) ?_)
  rintro _ w7 ⟨rfl, H8⟩
  refine r_cons (s_move (.bool (timeB o)) rfl rfl ?_)
  by_cases hb9 : (timeB o) = true
  · skip
    refine r_cons (r_take rfl (congrArg some hb9) ?_)
    refine s_fieldAddr 51 1 1 1 3 rfl fi_51_1 rfl rfl ?_
    refine r_cons (r_take rfl (congrArg some hb9) ?_)
    refine s_load (.int .i64 m) ag_3 rfl (H8.blk_at (i := 1) rfl) rfl rfl ?_
    refine r_cons (r_take rfl (congrArg some hb9) ?_)
    by_cases hc10 : (1 : Int) ≤ m
    · skip
      refine s_geq true rfl rfl (dtrue hc10) rfl ?_
      refine r_cons (s_pick_t (.bool true) (by exact congrArg Value.bool hb9) rfl rfl ?_)
      refine r_cons (s_move (.bool true) rfl rfl ?_)
      refine r_cons (r_take rfl rfl ?_)
      refine s_fieldAddr 51 1 1 1 3 rfl fi_51_1 rfl rfl ?_
      refine r_cons (r_take rfl rfl ?_)
      refine s_load (.int .i64 m) ag_3 rfl (H8.blk_at (i := 1) rfl) rfl rfl ?_
      refine r_cons (r_take rfl rfl ?_)
      by_cases hc11 : m ≤ 1024
      · skip
        refine s_leq true rfl rfl (dtrue hc11) rfl ?_
        refine r_cons (s_pick_t (.bool true) rfl rfl rfl ?_)
        refine r_cons (s_move (.bool true) rfl rfl ?_)
        refine r_cons (r_take rfl rfl ?_)
        refine s_fieldAddr 51 2 2 2 3 rfl fi_51_2 rfl rfl ?_
        refine r_cons (r_take rfl rfl ?_)
        refine s_load (.int .i64 i) ag_3 rfl (H8.blk_at (i := 1) rfl) rfl rfl ?_
        refine r_cons (r_take rfl rfl ?_)
        by_cases hc12 : (0 : Int) ≤ i
        · skip
          refine s_geq true rfl rfl (dtrue hc12) rfl ?_
          refine r_cons (s_pick_t (.bool true) rfl rfl rfl ?_)
          refine r_cons (s_move (.bool true) rfl rfl ?_)
          refine r_cons (r_take rfl rfl ?_)
          refine s_fieldAddr 51 2 2 2 3 rfl fi_51_2 rfl rfl ?_
          refine r_cons (r_take rfl rfl ?_)
          refine s_load (.int .i64 i) ag_3 rfl (H8.blk_at (i := 1) rfl) rfl rfl ?_
          refine r_cons (r_take rfl rfl ?_)
          refine s_fieldAddr 51 1 1 1 3 rfl fi_51_1 rfl rfl ?_
          refine r_cons (r_take rfl rfl ?_)
          refine s_load (.int .i64 m) ag_3 rfl (H8.blk_at (i := 1) rfl) rfl rfl ?_
          refine r_cons (r_take rfl rfl ?_)
          by_cases hc13 : i < m
          · skip
            refine s_lss true rfl rfl (dtrue hc13) rfl ?_
            refine r_cons (s_pick_t (.bool true) rfl rfl rfl ?_)
            refine r_cons (s_move (.bool true) rfl rfl ?_)
            refine r_cons (r_take rfl rfl ?_)
            refine s_fieldAddr 51 3 3 3 23 rfl fi_51_3 rfl rfl ?_
            refine r_cons (r_take rfl rfl ?_)
            refine s_load (.slice sp sn sc) ag_23 rfl (H8.blk_at (i := 1) rfl) rfl rfl ?_
            refine r_cons (r_take rfl rfl ?_)
            refine s_len sn rfl ⟨_, un_23⟩ rfl ?_
            refine r_cons (r_take rfl rfl ?_)
            by_cases hc14 : (sn : Int) ≤ 4096
            · skip
              refine s_leq true rfl rfl (dtrue hc14) rfl ?_
              refine r_cons (s_pick_t (.bool true) rfl rfl rfl ?_)
              refine r_cons (s_assign (.bool true) rfl rfl ?_)
              refine r_nil ?_
              refine g_ret' [.bool true] Try.func72 Try.results72 ⟨rfl, trivial⟩ ?_
              have H15 : St W w7 F := ((H8.drop 0 rfl).drop 0 rfl)
              exact ⟨congrArg Value.bool (pieceB_t hb9 (by omega)).symm, H15⟩
            · skip
              refine s_leq false rfl rfl (dfalse hc14) rfl ?_
              refine r_cons (s_pick_t (.bool false) rfl rfl rfl ?_)
              refine r_cons (s_assign (.bool false) rfl rfl ?_)
              refine r_nil ?_
              refine g_ret' [.bool false] Try.func72 Try.results72 ⟨rfl, trivial⟩ ?_
              have H16 : St W w7 F := ((H8.drop 0 rfl).drop 0 rfl)
              exact ⟨congrArg Value.bool (pieceB_2 (by omega)).symm, H16⟩
          · skip
            refine s_lss false rfl rfl (dfalse hc13) rfl ?_
            refine r_cons (s_pick_t (.bool false) rfl rfl rfl ?_)
            refine r_cons (s_move (.bool false) rfl rfl ?_)
            refine r_cons (r_pass rfl rfl rfl rfl rfl ?_)
            refine r_cons (r_pass rfl rfl rfl rfl rfl ?_)
            refine r_cons (r_pass rfl rfl rfl rfl rfl ?_)
            refine r_cons (r_pass rfl rfl rfl rfl rfl ?_)
            refine r_cons (s_pick_f (.bool false) rfl rfl rfl ?_)
            refine r_cons (s_assign (.bool false) rfl rfl ?_)
            refine r_nil ?_
            refine g_ret' [.bool false] Try.func72 Try.results72 ⟨rfl, trivial⟩ ?_
            have H17 : St W w7 F := ((H8.drop 0 rfl).drop 0 rfl)
            exact ⟨congrArg Value.bool (pieceB_2 (by omega)).symm, H17⟩
        · skip
          refine s_geq false rfl rfl (dfalse hc12) rfl ?_
          refine r_cons (s_pick_t (.bool false) rfl rfl rfl ?_)
          refine r_cons (s_move (.bool false) rfl rfl ?_)
          refine r_cons (r_pass rfl rfl rfl rfl rfl ?_)
          refine r_cons (r_pass rfl rfl rfl rfl rfl ?_)
          refine r_cons (r_pass rfl rfl rfl rfl rfl ?_)
          refine r_cons (r_pass rfl rfl rfl rfl rfl ?_)
          refine r_cons (r_pass rfl rfl rfl rfl rfl ?_)
          refine r_cons (s_pick_f (.bool false) rfl rfl rfl ?_)
          refine r_cons (s_move (.bool false) rfl rfl ?_)
          refine r_cons (r_pass rfl rfl rfl rfl rfl ?_)
          refine r_cons (r_pass rfl rfl rfl rfl rfl ?_)
          refine r_cons (r_pass rfl rfl rfl rfl rfl ?_)
          refine r_cons (r_pass rfl rfl rfl rfl rfl ?_)
          refine r_cons (s_pick_f (.bool false) rfl rfl rfl ?_)
          refine r_cons (s_assign (.bool false) rfl rfl ?_)
          refine r_nil ?_
          refine g_ret' [.bool false] Try.func72 Try.results72 ⟨rfl, trivial⟩ ?_
          have H18 : St W w7 F := ((H8.drop 0 rfl).drop 0 rfl)
          exact ⟨congrArg Value.bool (pieceB_2 (by omega)).symm, H18⟩
      · skip
        refine s_leq false rfl rfl (dfalse hc11) rfl ?_
        refine r_cons (s_pick_t (.bool false) rfl rfl rfl ?_)
        refine r_cons (s_move (.bool false) rfl rfl ?_)
        refine r_cons (r_pass rfl rfl rfl rfl rfl ?_)
        refine r_cons (r_pass rfl rfl rfl rfl rfl ?_)
        refine r_cons (r_pass rfl rfl rfl rfl rfl ?_)
        refine r_cons (s_pick_f (.bool false) rfl rfl rfl ?_)
        refine r_cons (s_move (.bool false) rfl rfl ?_)
        refine r_cons (r_pass rfl rfl rfl rfl rfl ?_)
        refine r_cons (r_pass rfl rfl rfl rfl rfl ?_)
        refine r_cons (r_pass rfl rfl rfl rfl rfl ?_)
        refine r_cons (r_pass rfl rfl rfl rfl rfl ?_)
        refine r_cons (r_pass rfl rfl rfl rfl rfl ?_)
        refine r_cons (s_pick_f (.bool false) rfl rfl rfl ?_)
        refine r_cons (s_move (.bool false) rfl rfl ?_)
        refine r_cons (r_pass rfl rfl rfl rfl rfl ?_)
        refine r_cons (r_pass rfl rfl rfl rfl rfl ?_)
        refine r_cons (r_pass rfl rfl rfl rfl rfl ?_)
        refine r_cons (r_pass rfl rfl rfl rfl rfl ?_)
        refine r_cons (s_pick_f (.bool false) rfl rfl rfl ?_)
        refine r_cons (s_assign (.bool false) rfl rfl ?_)
        refine r_nil ?_
        refine g_ret' [.bool false] Try.func72 Try.results72 ⟨rfl, trivial⟩ ?_
        have H19 : St W w7 F := ((H8.drop 0 rfl).drop 0 rfl)
        exact ⟨congrArg Value.bool (pieceB_2 (by omega)).symm, H19⟩
    · skip
      refine s_geq false rfl rfl (dfalse hc10) rfl ?_
      refine r_cons (s_pick_t (.bool false) (by exact congrArg Value.bool hb9) rfl rfl ?_)
      refine r_cons (s_move (.bool false) rfl rfl ?_)
      refine r_cons (r_pass rfl rfl rfl rfl rfl ?_)
      refine r_cons (r_pass rfl rfl rfl rfl rfl ?_)
      refine r_cons (r_pass rfl rfl rfl rfl rfl ?_)
      refine r_cons (s_pick_f (.bool false) rfl rfl rfl ?_)
      refine r_cons (s_move (.bool false) rfl rfl ?_)
      refine r_cons (r_pass rfl rfl rfl rfl rfl ?_)
      refine r_cons (r_pass rfl rfl rfl rfl rfl ?_)
      refine r_cons (r_pass rfl rfl rfl rfl rfl ?_)
      refine r_cons (s_pick_f (.bool false) rfl rfl rfl ?_)
      refine r_cons (s_move (.bool false) rfl rfl ?_)
      refine r_cons (r_pass rfl rfl rfl rfl rfl ?_)
      refine r_cons (r_pass rfl rfl rfl rfl rfl ?_)
      refine r_cons (r_pass rfl rfl rfl rfl rfl ?_)
      refine r_cons (r_pass rfl rfl rfl rfl rfl ?_)
      refine r_cons (r_pass rfl rfl rfl rfl rfl ?_)
      refine r_cons (s_pick_f (.bool false) rfl rfl rfl ?_)
      refine r_cons (s_move (.bool false) rfl rfl ?_)
      refine r_cons (r_pass rfl rfl rfl rfl rfl ?_)
      refine r_cons (r_pass rfl rfl rfl rfl rfl ?_)
      refine r_cons (r_pass rfl rfl rfl rfl rfl ?_)
      refine r_cons (r_pass rfl rfl rfl rfl rfl ?_)
      refine r_cons (s_pick_f (.bool false) rfl rfl rfl ?_)
      refine r_cons (s_assign (.bool false) rfl rfl ?_)
      refine r_nil ?_
      refine g_ret' [.bool false] Try.func72 Try.results72 ⟨rfl, trivial⟩ ?_
      have H20 : St W w7 F := ((H8.drop 0 rfl).drop 0 rfl)
      exact ⟨congrArg Value.bool (pieceB_2 (by omega)).symm, H20⟩
  · have hb9 := eq_false_of_ne_true hb9
    refine r_cons (r_pass rfl (congrArg some hb9) rfl rfl rfl ?_)
    refine r_cons (r_pass rfl (congrArg some hb9) rfl rfl rfl ?_)
    refine r_cons (r_pass rfl (congrArg some hb9) rfl rfl rfl ?_)
    refine r_cons (s_pick_f (.bool false) (by exact congrArg Value.bool hb9) rfl rfl ?_)
    refine r_cons (s_move (.bool false) rfl rfl ?_)
    refine r_cons (r_pass rfl rfl rfl rfl rfl ?_)
    refine r_cons (r_pass rfl rfl rfl rfl rfl ?_)
    refine r_cons (r_pass rfl rfl rfl rfl rfl ?_)
    refine r_cons (s_pick_f (.bool false) rfl rfl rfl ?_)
    refine r_cons (s_move (.bool false) rfl rfl ?_)
    refine r_cons (r_pass rfl rfl rfl rfl rfl ?_)
    refine r_cons (r_pass rfl rfl rfl rfl rfl ?_)
    refine r_cons (r_pass rfl rfl rfl rfl rfl ?_)
    refine r_cons (s_pick_f (.bool false) rfl rfl rfl ?_)
    refine r_cons (s_move (.bool false) rfl rfl ?_)
    refine r_cons (r_pass rfl rfl rfl rfl rfl ?_)
    refine r_cons (r_pass rfl rfl rfl rfl rfl ?_)
    refine r_cons (r_pass rfl rfl rfl rfl rfl ?_)
    refine r_cons (r_pass rfl rfl rfl rfl rfl ?_)
    refine r_cons (r_pass rfl rfl rfl rfl rfl ?_)
    refine r_cons (s_pick_f (.bool false) rfl rfl rfl ?_)
    refine r_cons (s_move (.bool false) rfl rfl ?_)
    refine r_cons (r_pass rfl rfl rfl rfl rfl ?_)
    refine r_cons (r_pass rfl rfl rfl rfl rfl ?_)
    refine r_cons (r_pass rfl rfl rfl rfl rfl ?_)
    refine r_cons (r_pass rfl rfl rfl rfl rfl ?_)
    refine r_cons (s_pick_f (.bool false) rfl rfl rfl ?_)
    refine r_cons (s_assign (.bool false) rfl rfl ?_)
    refine r_nil ?_
    refine g_ret' [.bool false] Try.func72 Try.results72 ⟨rfl, trivial⟩ ?_
    have H21 : St W w7 F := ((H8.drop 0 rfl).drop 0 rfl)
    exact ⟨congrArg Value.bool (pieceB_1 hb9).symm, H21⟩
set_option maxHeartbeats 4000000 in
set_option maxRecDepth 100000 in
theorem ref24_CheckPiece {W w : World} {F : List Atom} (o m i : Int) (sp : Option Addr) (sn sc : Nat) (H : St W w F) : Calls Try.prog 76 #[.agg #[.int .i64 o, .int .i64 m, .int .i64 i, .slice sp sn sc]] w (Ret fun v w' => v = .int .i64 (if pieceB o m i sn = true then (0 : Int) else 242) ∧ St W w' F) := by
  refine calls_of_go (n := 35) Try.func76 rfl Try.ntmps76 rfl ?_
  refine g_seq ?_
  refine g_region ?_
  refine r_cons (s_box H 51 (.agg #[.int .i64 o, .int .i64 m, .int .i64 i, .slice sp sn sc]) rfl (cs := #[.int .i64 o, .int .i64 m, .int .i64 i, .slice sp sn sc]) rfl rfl ?_); intro bk1 w2 H3
  refine r_cons (s_assign (.int .i64 0) rfl rfl ?_)
  refine r_nil ?_
  refine g_seq ?_
  refine g_seq ?_
  refine g_region ?_
  refine r_cons (s_fieldAddr 51 0 0 0 3 rfl fi_51_0 rfl rfl ?_)
  refine r_cons (s_load (.int .i64 o) ag_3 rfl (H3.blk_at (i := 0) rfl) rfl rfl ?_)
  refine r_cons (s_call [.int .i64 o] pl_60 rfl rfl (ref24_time o H3) ?_)
  rintro _ w4 ⟨rfl, H5⟩
  refine r_cons (s_not (timeB o) rfl (!(timeB o)) rfl rfl ?_)
  refine r_cons (s_move (.bool (!(timeB o))) rfl rfl ?_)
  by_cases hb6 : (!(timeB o)) = true
  · skip
    refine r_cons (r_pass rfl (congrArg some hb6) rfl rfl rfl ?_)
    refine r_cons (r_pass rfl (congrArg some hb6) rfl rfl rfl ?_)
    refine r_cons (r_pass rfl (congrArg some hb6) rfl rfl rfl ?_)
    refine r_cons (s_pick_t (.bool true) (by exact congrArg Value.bool hb6) rfl rfl ?_)
    refine r_cons (s_move (.bool true) rfl rfl ?_)
    refine r_cons (r_pass rfl rfl rfl rfl rfl ?_)
    refine r_cons (r_pass rfl rfl rfl rfl rfl ?_)
    refine r_cons (r_pass rfl rfl rfl rfl rfl ?_)
    refine r_cons (s_pick_t (.bool true) rfl rfl rfl ?_)
    refine r_cons (s_move (.bool true) rfl rfl ?_)
    refine r_cons (r_pass rfl rfl rfl rfl rfl ?_)
    refine r_cons (r_pass rfl rfl rfl rfl rfl ?_)
    refine r_cons (r_pass rfl rfl rfl rfl rfl ?_)
    refine r_cons (s_pick_t (.bool true) rfl rfl rfl ?_)
    refine r_cons (s_move (.bool true) rfl rfl ?_)
    refine r_cons (r_pass rfl rfl rfl rfl rfl ?_)
    refine r_cons (r_pass rfl rfl rfl rfl rfl ?_)
    refine r_cons (r_pass rfl rfl rfl rfl rfl ?_)
    refine r_cons (r_pass rfl rfl rfl rfl rfl ?_)
    refine r_cons (r_pass rfl rfl rfl rfl rfl ?_)
    refine r_cons (s_pick_t (.bool true) rfl rfl rfl ?_)
    refine r_cons (s_move (.bool true) rfl rfl ?_)
    refine r_cons (r_pass rfl rfl rfl rfl rfl ?_)
    refine r_cons (r_pass rfl rfl rfl rfl rfl ?_)
    refine r_cons (r_pass rfl rfl rfl rfl rfl ?_)
    refine r_cons (r_pass rfl rfl rfl rfl rfl ?_)
    refine r_cons (s_pick_t (.bool true) rfl rfl rfl ?_)
    refine r_nil ?_
    refine g_true rfl ?_
    refine g_seq ?_
    refine g_region ?_
    refine r_cons (s_assign (.int .i64 242) rfl rfl ?_)
    refine r_nil ?_
    refine g_ret' [.int .i64 242] Try.func76 Try.results76 ⟨rfl, trivial⟩ ?_
    have H7 : St W w4 F := (H5.drop 0 rfl)
    exact ⟨vint (by rw [pieceB_1 (nottrue hb6)]; rfl), H7⟩
  · have hb6 := eq_false_of_ne_true hb6
    refine r_cons (r_take rfl (congrArg some hb6) ?_)
    refine s_fieldAddr 51 1 1 1 3 rfl fi_51_1 rfl rfl ?_
    refine r_cons (r_take rfl (congrArg some hb6) ?_)
    refine s_load (.int .i64 m) ag_3 rfl (H5.blk_at (i := 0) rfl) rfl rfl ?_
    refine r_cons (r_take rfl (congrArg some hb6) ?_)
    by_cases hc8 : m < 1
    · skip
      refine s_lss true rfl rfl (dtrue hc8) rfl ?_
      refine r_cons (s_pick_f (.bool true) (by exact congrArg Value.bool hb6) rfl rfl ?_)
      refine r_cons (s_move (.bool true) rfl rfl ?_)
      refine r_cons (r_pass rfl rfl rfl rfl rfl ?_)
      refine r_cons (r_pass rfl rfl rfl rfl rfl ?_)
      refine r_cons (r_pass rfl rfl rfl rfl rfl ?_)
      refine r_cons (s_pick_t (.bool true) rfl rfl rfl ?_)
      refine r_cons (s_move (.bool true) rfl rfl ?_)
      refine r_cons (r_pass rfl rfl rfl rfl rfl ?_)
      refine r_cons (r_pass rfl rfl rfl rfl rfl ?_)
      refine r_cons (r_pass rfl rfl rfl rfl rfl ?_)
      refine r_cons (s_pick_t (.bool true) rfl rfl rfl ?_)
      refine r_cons (s_move (.bool true) rfl rfl ?_)
      refine r_cons (r_pass rfl rfl rfl rfl rfl ?_)
      refine r_cons (r_pass rfl rfl rfl rfl rfl ?_)
      refine r_cons (r_pass rfl rfl rfl rfl rfl ?_)
      refine r_cons (r_pass rfl rfl rfl rfl rfl ?_)
      refine r_cons (r_pass rfl rfl rfl rfl rfl ?_)
      refine r_cons (s_pick_t (.bool true) rfl rfl rfl ?_)
      refine r_cons (s_move (.bool true) rfl rfl ?_)
      refine r_cons (r_pass rfl rfl rfl rfl rfl ?_)
      refine r_cons (r_pass rfl rfl rfl rfl rfl ?_)
      refine r_cons (r_pass rfl rfl rfl rfl rfl ?_)
      refine r_cons (r_pass rfl rfl rfl rfl rfl ?_)
      refine r_cons (s_pick_t (.bool true) rfl rfl rfl ?_)
      refine r_nil ?_
      refine g_true rfl ?_
      refine g_seq ?_
      refine g_region ?_
      refine r_cons (s_assign (.int .i64 242) rfl rfl ?_)
      refine r_nil ?_
      refine g_ret' [.int .i64 242] Try.func76 Try.results76 ⟨rfl, trivial⟩ ?_
      have H9 : St W w4 F := (H5.drop 0 rfl)
      exact ⟨vint (by rw [pieceB_2 (by omega)]; rfl), H9⟩
    · skip
      refine s_lss false rfl rfl (dfalse hc8) rfl ?_
      refine r_cons (s_pick_f (.bool false) (by exact congrArg Value.bool hb6) rfl rfl ?_)
      refine r_cons (s_move (.bool false) rfl rfl ?_)
      refine r_cons (r_take rfl rfl ?_)
      refine s_fieldAddr 51 1 1 1 3 rfl fi_51_1 rfl rfl ?_
      refine r_cons (r_take rfl rfl ?_)
      refine s_load (.int .i64 m) ag_3 rfl (H5.blk_at (i := 0) rfl) rfl rfl ?_
      refine r_cons (r_take rfl rfl ?_)
      by_cases hc10 : (1024 : Int) < m
      · skip
        refine s_gtr true rfl rfl (dtrue hc10) rfl ?_
        refine r_cons (s_pick_f (.bool true) rfl rfl rfl ?_)
        refine r_cons (s_move (.bool true) rfl rfl ?_)
        refine r_cons (r_pass rfl rfl rfl rfl rfl ?_)
        refine r_cons (r_pass rfl rfl rfl rfl rfl ?_)
        refine r_cons (r_pass rfl rfl rfl rfl rfl ?_)
        refine r_cons (s_pick_t (.bool true) rfl rfl rfl ?_)
        refine r_cons (s_move (.bool true) rfl rfl ?_)
        refine r_cons (r_pass rfl rfl rfl rfl rfl ?_)
        refine r_cons (r_pass rfl rfl rfl rfl rfl ?_)
        refine r_cons (r_pass rfl rfl rfl rfl rfl ?_)
        refine r_cons (r_pass rfl rfl rfl rfl rfl ?_)
        refine r_cons (r_pass rfl rfl rfl rfl rfl ?_)
        refine r_cons (s_pick_t (.bool true) rfl rfl rfl ?_)
        refine r_cons (s_move (.bool true) rfl rfl ?_)
        refine r_cons (r_pass rfl rfl rfl rfl rfl ?_)
        refine r_cons (r_pass rfl rfl rfl rfl rfl ?_)
        refine r_cons (r_pass rfl rfl rfl rfl rfl ?_)
        refine r_cons (r_pass rfl rfl rfl rfl rfl ?_)
        refine r_cons (s_pick_t (.bool true) rfl rfl rfl ?_)
        refine r_nil ?_
        refine g_true rfl ?_
        refine g_seq ?_
        refine g_region ?_
        refine r_cons (s_assign (.int .i64 242) rfl rfl ?_)
        refine r_nil ?_
        refine g_ret' [.int .i64 242] Try.func76 Try.results76 ⟨rfl, trivial⟩ ?_
        have H11 : St W w4 F := (H5.drop 0 rfl)
        exact ⟨vint (by rw [pieceB_2 (by omega)]; rfl), H11⟩
      · skip
        refine s_gtr false rfl rfl (dfalse hc10) rfl ?_
        refine r_cons (s_pick_f (.bool false) rfl rfl rfl ?_)
        refine r_cons (s_move (.bool false) rfl rfl ?_)
        refine r_cons (r_take rfl rfl ?_)
        refine s_fieldAddr 51 2 2 2 3 rfl fi_51_2 rfl rfl ?_
        refine r_cons (r_take rfl rfl ?_)
        refine s_load (.int .i64 i) ag_3 rfl (H5.blk_at (i := 0) rfl) rfl rfl ?_
        refine r_cons (r_take rfl rfl ?_)
        by_cases hc12 : i < 0
        · skip
          refine s_lss true rfl rfl (dtrue hc12) rfl ?_
          refine r_cons (s_pick_f (.bool true) rfl rfl rfl ?_)
          refine r_cons (s_move (.bool true) rfl rfl ?_)
          refine r_cons (r_pass rfl rfl rfl rfl rfl ?_)
          refine r_cons (r_pass rfl rfl rfl rfl rfl ?_)
          refine r_cons (r_pass rfl rfl rfl rfl rfl ?_)
          refine r_cons (r_pass rfl rfl rfl rfl rfl ?_)
          refine r_cons (r_pass rfl rfl rfl rfl rfl ?_)
          refine r_cons (s_pick_t (.bool true) rfl rfl rfl ?_)
          refine r_cons (s_move (.bool true) rfl rfl ?_)
          refine r_cons (r_pass rfl rfl rfl rfl rfl ?_)
          refine r_cons (r_pass rfl rfl rfl rfl rfl ?_)
          refine r_cons (r_pass rfl rfl rfl rfl rfl ?_)
          refine r_cons (r_pass rfl rfl rfl rfl rfl ?_)
          refine r_cons (s_pick_t (.bool true) rfl rfl rfl ?_)
          refine r_nil ?_
          refine g_true rfl ?_
          refine g_seq ?_
          refine g_region ?_
          refine r_cons (s_assign (.int .i64 242) rfl rfl ?_)
          refine r_nil ?_
          refine g_ret' [.int .i64 242] Try.func76 Try.results76 ⟨rfl, trivial⟩ ?_
          have H13 : St W w4 F := (H5.drop 0 rfl)
          exact ⟨vint (by rw [pieceB_2 (by omega)]; rfl), H13⟩
        · skip
          refine s_lss false rfl rfl (dfalse hc12) rfl ?_
          refine r_cons (s_pick_f (.bool false) rfl rfl rfl ?_)
          refine r_cons (s_move (.bool false) rfl rfl ?_)
          refine r_cons (r_take rfl rfl ?_)
          refine s_fieldAddr 51 2 2 2 3 rfl fi_51_2 rfl rfl ?_
          refine r_cons (r_take rfl rfl ?_)
          refine s_load (.int .i64 i) ag_3 rfl (H5.blk_at (i := 0) rfl) rfl rfl ?_
          refine r_cons (r_take rfl rfl ?_)
          refine s_fieldAddr 51 1 1 1 3 rfl fi_51_1 rfl rfl ?_
          refine r_cons (r_take rfl rfl ?_)
          refine s_load (.int .i64 m) ag_3 rfl (H5.blk_at (i := 0) rfl) rfl rfl ?_
          refine r_cons (r_take rfl rfl ?_)
          by_cases hc14 : m ≤ i
          · skip
            refine s_geq true rfl rfl (dtrue hc14) rfl ?_
            refine r_cons (s_pick_f (.bool true) rfl rfl rfl ?_)
            refine r_cons (s_move (.bool true) rfl rfl ?_)
            refine r_cons (r_pass rfl rfl rfl rfl rfl ?_)
            refine r_cons (r_pass rfl rfl rfl rfl rfl ?_)
            refine r_cons (r_pass rfl rfl rfl rfl rfl ?_)
            refine r_cons (r_pass rfl rfl rfl rfl rfl ?_)
            refine r_cons (s_pick_t (.bool true) rfl rfl rfl ?_)
            refine r_nil ?_
            refine g_true rfl ?_
            refine g_seq ?_
            refine g_region ?_
            refine r_cons (s_assign (.int .i64 242) rfl rfl ?_)
            refine r_nil ?_
            refine g_ret' [.int .i64 242] Try.func76 Try.results76 ⟨rfl, trivial⟩ ?_
            have H15 : St W w4 F := (H5.drop 0 rfl)
            exact ⟨vint (by rw [pieceB_2 (by omega)]; rfl), H15⟩
          · skip
            refine s_geq false rfl rfl (dfalse hc14) rfl ?_
            refine r_cons (s_pick_f (.bool false) rfl rfl rfl ?_)
            refine r_cons (s_move (.bool false) rfl rfl ?_)
            refine r_cons (r_take rfl rfl ?_)
            refine s_fieldAddr 51 3 3 3 23 rfl fi_51_3 rfl rfl ?_
            refine r_cons (r_take rfl rfl ?_)
            refine s_load (.slice sp sn sc) ag_23 rfl (H5.blk_at (i := 0) rfl) rfl rfl ?_
            refine r_cons (r_take rfl rfl ?_)
            refine s_len sn rfl ⟨_, un_23⟩ rfl ?_
            refine r_cons (r_take rfl rfl ?_)
            by_cases hc16 : (4096 : Int) < (sn : Int)
            · skip
              refine s_gtr true rfl rfl (dtrue hc16) rfl ?_
              refine r_cons (s_pick_f (.bool true) rfl rfl rfl ?_)
              refine r_nil ?_
              refine g_true rfl ?_
              refine g_seq ?_
              refine g_region ?_
              refine r_cons (s_assign (.int .i64 242) rfl rfl ?_)
              refine r_nil ?_
              refine g_ret' [.int .i64 242] Try.func76 Try.results76 ⟨rfl, trivial⟩ ?_
              have H17 : St W w4 F := (H5.drop 0 rfl)
              exact ⟨vint (by rw [pieceB_2 (by omega)]; rfl), H17⟩
            · skip
              refine s_gtr false rfl rfl (dfalse hc16) rfl ?_
              refine r_cons (s_pick_f (.bool false) rfl rfl rfl ?_)
              refine r_nil ?_
              refine g_false rfl ?_
              refine g_skip ?_
              refine g_seq ?_
              refine g_region ?_
              refine r_cons (s_assign (.int .i64 0) rfl rfl ?_)
              refine r_nil ?_
              refine g_ret' [.int .i64 0] Try.func76 Try.results76 ⟨rfl, trivial⟩ ?_
              have H18 : St W w4 F := (H5.drop 0 rfl)
              exact ⟨vint (by rw [pieceB_t (notfalse hb6) (by omega)]; rfl), H18⟩
set_option maxHeartbeats 4000000 in
set_option maxRecDepth 100000 in
theorem EqualFunc_items {W w : World} {F : List Atom} (L M : List ItemD) (u v : Value) (heq : L.map ItemD.v = M.map ItemD.v) {j k a b : Nat} (hj : F[j]? = some (Im 6 u L.length (L.flatMap itCell))) (hk : F[k]? = some (Im 6 v M.length (M.flatMap itCell))) (ha : F[a]? = some (itsA L)) (hb : F[b]? = some (itsA M)) (H : St W w F) : Calls Try.prog 66 #[u, v, .func (.func 67) #[] #[]] w (Ret fun v w' => v = .bool true ∧ St W w' F) := by
  obtain ⟨pp1, cc2, rfl, hsh3⟩ := Rd.shape (Im.rd H (i := j) hj)
  have H4 := H.dup (i := j) hj (Im_pers _ _ _ _)
  have hmlH4 := Im.len H4 (i := 0) rfl
  obtain ⟨pp5, cc6, rfl, hsh7⟩ := Rd.shape (Im.rd H (i := k) hk)
  have H8 := ((H4.dup (i := k + 1) (by exact hk) (Im_pers _ _ _ _)).dup (i := a + 2) (by exact ha) (itsA_pers _)).dup (i := b + 3) (by exact hb) (itsA_pers _)
  have H9 : St W w (itsA M :: itsA L :: Im 6 (.slice pp5 M.length cc6) M.length (M.flatMap itCell) :: Im 6 (.slice pp1 L.length cc2) L.length (L.flatMap itCell) :: F) := H8
  have hl : L.length = M.length := by simpa using congrArg List.length heq
  refine calls_of_go (n := 32) Try.func66 rfl Try.ntmps66 rfl ?_
  refine g_seq ?_
  refine g_region ?_
  refine r_cons (s_assign (.bool false) rfl rfl ?_)
  refine r_nil ?_
  refine g_seq ?_
  refine g_seq ?_
  refine g_region ?_
  refine r_cons (s_move (.slice pp1 L.length cc2) rfl rfl ?_)
  refine r_cons (s_len L.length rfl ⟨_, un_22⟩ rfl ?_)
  refine r_cons (s_move (.slice pp5 M.length cc6) rfl rfl ?_)
  refine r_cons (s_len M.length rfl ⟨_, un_22⟩ rfl ?_)
  refine r_cons (s_neq false rfl rfl (ntrue (by omega)) rfl ?_)
  refine r_nil ?_
  refine g_false rfl ?_
  refine g_skip ?_
  refine g_seq ?_
  refine g_seq ?_
  refine g_region ?_
  refine r_cons (s_move (.slice pp1 L.length cc2) rfl rfl ?_)
  refine r_cons (s_len L.length rfl ⟨_, un_22⟩ rfl ?_)
  refine r_cons (s_move (.int .i64 0) rfl rfl ?_)
  refine r_nil ?_
  refine g_block ?_
  obtain ⟨pA10, cA11, gA12, oA13, kA14, eA15, zA16, he22, hn17, hp18, hx19, hs20, hml, H21⟩ := Im.open_ H9 (i := 3) rfl
  obtain ⟨rfl, rfl⟩ : pp1 = pA10 ∧ cc2 = cA11 := by injection he22 with a_ b_ c_; exact ⟨a_, c_⟩
  obtain ⟨pA23, cA24, gA25, oA26, kA27, eA28, zA29, he35, hn30, hp31, hx32, hs33, hml, H34⟩ := Im.open_ H21 (i := 3) rfl
  obtain ⟨rfl, rfl⟩ : pp5 = pA23 ∧ cc6 = cA24 := by injection he35 with a_ b_ c_; exact ⟨a_, c_⟩
  refine g_loop_inv (fun (x_ : Nat) => match x_ with | j2 => [(1, .slice pp5 M.length cc6), (2, .func (.func 67) #[] #[]), (6, .bool false), (15, .slice pp1 L.length cc2), (16, .int .i64 (L.length : Int)), (17, .int .i64 (j2 : Int))]) (fun (x_ : Nat) w => match x_ with | j2 => (j2 ≤ L.length) ∧ St W w (imi (0 < M.length) gA25 (.cells kA27 eA28 zA29) :: imi (0 < L.length) gA12 (.cells kA14 eA15 zA16) :: itsA M :: itsA L :: Im 6 (.slice pp5 M.length cc6) M.length (M.flatMap itCell) :: Im 6 (.slice pp1 L.length cc2) L.length (L.flatMap itCell) :: F)) (fun (x_ : Nat) => match x_ with | j2 => L.length - j2) (0) ?_ ?_ ?_
  · exact ⟨by first | rfl | exact vint (by omega), by first | rfl | exact vint (by omega), by first | rfl | exact vint (by omega), by first | rfl | exact vint (by omega), by first | rfl | exact vint (by omega), by first | rfl | exact vint (by omega), trivial⟩
  · exact ⟨(by omega), H34⟩
  · rintro j2 ρ36 w37 ⟨hjn, H38⟩ nx39
    change Ends _ _ (upds ρ36 [(1, .slice pp5 M.length cc6), (2, .func (.func 67) #[] #[]), (6, .bool false), (15, .slice pp1 L.length cc2), (16, .int .i64 (L.length : Int)), (17, .int .i64 (j2 : Int))]) w37
    refine g_seq ?_
    refine g_region ?_
    by_cases hc40 : (j2 : Int) < (L.length : Int)
    · skip
      refine r_cons (s_lss true rfl rfl (dtrue hc40) rfl ?_)
      refine r_nil ?_
      refine g_seq ?_
      refine g_true rfl ?_
      refine g_skip ?_
      refine g_seq ?_
      refine g_block ?_
      refine g_seq ?_
      refine g_region ?_
      refine r_cons (s_move (.int .i64 (j2 : Int)) rfl rfl ?_)
      refine r_cons (s_indexAddr gA12 (off := oA13) (j2 : Int) 6 (oA13 + j2 * 6) (by exact congrArg (fun z_ => Value.slice z_ L.length cc2) (hp18 (by omega))) rfl el_22 (by omega) rfl rfl ?_)
      refine r_cons (s_loadAgg [.int .i64 ((L.getD j2 default).op.v), .int .i64 ((L.getD j2 default).inp.v), .int .i64 ((L.getD j2 default).ep.v), .int .i64 ((L.getD j2 default).kind.v), .slice ((L.getD j2 default).p) ((L.getD j2 default).bs.length) ((L.getD j2 default).c), .int .i64 ((L.getD j2 default).t.v)] 6 ag_32 rfl (H38.imi_at (i := 1) rfl (by omega)) (by have := elem_size (i := j2) (s := 6) (hs20 (by omega)) (by omega); omega) (elem_take itCell_len (hx19 (by omega)) (by omega) default) rfl ?_)
      refine r_cons (s_alloc H38 32 ze_32 rfl ?_); intro bk41 w42 H43
      refine r_cons (s_assign (.int .i64 (j2 : Int)) rfl rfl ?_)
      refine r_cons (s_storeAgg H43 0 #[.int .i64 ((L.getD j2 default).op.v), .int .i64 ((L.getD j2 default).inp.v), .int .i64 ((L.getD j2 default).ep.v), .int .i64 ((L.getD j2 default).kind.v), .slice ((L.getD j2 default).p) ((L.getD j2 default).bs.length) ((L.getD j2 default).c), .int .i64 ((L.getD j2 default).t.v)] 6 rfl rfl rfl sz_32 rfl (by simp [Value.oneCell']) (Nat.le_of_ble_eq_true rfl) (fun o h1 h2 => by first | (simp; done) | (simp; omega)) (cs' := #[.int .i64 ((L.getD j2 default).op.v), .int .i64 ((L.getD j2 default).inp.v), .int .i64 ((L.getD j2 default).ep.v), .int .i64 ((L.getD j2 default).kind.v), .slice ((L.getD j2 default).p) ((L.getD j2 default).bs.length) ((L.getD j2 default).c), .int .i64 ((L.getD j2 default).t.v)]) rfl ?_); intro w44 H45
      refine r_nil ?_
      refine g_seq ?_
      refine g_region ?_
      refine r_cons (s_move (.slice pp5 M.length cc6) rfl rfl ?_)
      refine r_cons (s_move (.int .i64 (j2 : Int)) rfl rfl ?_)
      refine r_cons (s_indexAddr gA25 (off := oA26) (j2 : Int) 6 (oA26 + j2 * 6) (by exact congrArg (fun z_ => Value.slice z_ M.length cc6) (hp31 (by omega))) rfl el_22 (by omega) rfl rfl ?_)
      refine r_cons (s_loadAgg [.int .i64 ((M.getD j2 default).op.v), .int .i64 ((M.getD j2 default).inp.v), .int .i64 ((M.getD j2 default).ep.v), .int .i64 ((M.getD j2 default).kind.v), .slice ((M.getD j2 default).p) ((M.getD j2 default).bs.length) ((M.getD j2 default).c), .int .i64 ((M.getD j2 default).t.v)] 6 ag_32 rfl (H45.imi_at (i := 1) rfl (by omega)) (by have := elem_size (i := j2) (s := 6) (hs33 (by omega)) (by omega); omega) (elem_take itCell_len (hx32 (by omega)) (by omega) default) rfl ?_)
      refine r_cons (s_alloc H45 32 ze_32 rfl ?_); intro bk46 w47 H48
      refine r_cons (s_storeAgg H48 0 #[.int .i64 ((M.getD j2 default).op.v), .int .i64 ((M.getD j2 default).inp.v), .int .i64 ((M.getD j2 default).ep.v), .int .i64 ((M.getD j2 default).kind.v), .slice ((M.getD j2 default).p) ((M.getD j2 default).bs.length) ((M.getD j2 default).c), .int .i64 ((M.getD j2 default).t.v)] 6 rfl rfl rfl sz_32 rfl (by simp [Value.oneCell']) (Nat.le_of_ble_eq_true rfl) (fun o h1 h2 => by first | (simp; done) | (simp; omega)) (cs' := #[.int .i64 ((M.getD j2 default).op.v), .int .i64 ((M.getD j2 default).inp.v), .int .i64 ((M.getD j2 default).ep.v), .int .i64 ((M.getD j2 default).kind.v), .slice ((M.getD j2 default).p) ((M.getD j2 default).bs.length) ((M.getD j2 default).c), .int .i64 ((M.getD j2 default).t.v)]) rfl ?_); intro w49 H50
      refine r_nil ?_
      refine g_seq ?_
      refine g_region ?_
      have H51 : St W w49 (bndsA ((L.getD j2 default).bs) :: blk bk46 (.cells #[.int .i64 ((M.getD j2 default).op.v), .int .i64 ((M.getD j2 default).inp.v), .int .i64 ((M.getD j2 default).ep.v), .int .i64 ((M.getD j2 default).kind.v), .slice ((M.getD j2 default).p) ((M.getD j2 default).bs.length) ((M.getD j2 default).c), .int .i64 ((M.getD j2 default).t.v)] 32 (0, 0)) :: blk bk41 (.cells #[.int .i64 ((L.getD j2 default).op.v), .int .i64 ((L.getD j2 default).inp.v), .int .i64 ((L.getD j2 default).ep.v), .int .i64 ((L.getD j2 default).kind.v), .slice ((L.getD j2 default).p) ((L.getD j2 default).bs.length) ((L.getD j2 default).c), .int .i64 ((L.getD j2 default).t.v)] 32 (0, 0)) :: imi (0 < M.length) gA25 (.cells kA27 eA28 zA29) :: imi (0 < L.length) gA12 (.cells kA14 eA15 zA16) :: itsA M :: itsA L :: Im 6 (.slice pp5 M.length cc6) M.length (M.flatMap itCell) :: Im 6 (.slice pp1 L.length cc2) L.length (L.flatMap itCell) :: F) := itsA_at H50 (i := 5) rfl (j := j2) (by omega)
      have H52 : St W w49 (Im 6 (.slice ((L.getD j2 default).p) ((L.getD j2 default).bs.length) ((L.getD j2 default).c)) ((L.getD j2 default).bs.length) ((L.getD j2 default).bs.flatMap bndCell) :: bndsA ((L.getD j2 default).bs) :: blk bk46 (.cells #[.int .i64 ((M.getD j2 default).op.v), .int .i64 ((M.getD j2 default).inp.v), .int .i64 ((M.getD j2 default).ep.v), .int .i64 ((M.getD j2 default).kind.v), .slice ((M.getD j2 default).p) ((M.getD j2 default).bs.length) ((M.getD j2 default).c), .int .i64 ((M.getD j2 default).t.v)] 32 (0, 0)) :: blk bk41 (.cells #[.int .i64 ((L.getD j2 default).op.v), .int .i64 ((L.getD j2 default).inp.v), .int .i64 ((L.getD j2 default).ep.v), .int .i64 ((L.getD j2 default).kind.v), .slice ((L.getD j2 default).p) ((L.getD j2 default).bs.length) ((L.getD j2 default).c), .int .i64 ((L.getD j2 default).t.v)] 32 (0, 0)) :: imi (0 < M.length) gA25 (.cells kA27 eA28 zA29) :: imi (0 < L.length) gA12 (.cells kA14 eA15 zA16) :: itsA M :: itsA L :: Im 6 (.slice pp5 M.length cc6) M.length (M.flatMap itCell) :: Im 6 (.slice pp1 L.length cc2) L.length (L.flatMap itCell) :: F) := itsA_bs H51 (i := 6) rfl (j := j2) (by omega)
      have H53 : St W w49 (bndsA ((M.getD j2 default).bs) :: Im 6 (.slice ((L.getD j2 default).p) ((L.getD j2 default).bs.length) ((L.getD j2 default).c)) ((L.getD j2 default).bs.length) ((L.getD j2 default).bs.flatMap bndCell) :: bndsA ((L.getD j2 default).bs) :: blk bk46 (.cells #[.int .i64 ((M.getD j2 default).op.v), .int .i64 ((M.getD j2 default).inp.v), .int .i64 ((M.getD j2 default).ep.v), .int .i64 ((M.getD j2 default).kind.v), .slice ((M.getD j2 default).p) ((M.getD j2 default).bs.length) ((M.getD j2 default).c), .int .i64 ((M.getD j2 default).t.v)] 32 (0, 0)) :: blk bk41 (.cells #[.int .i64 ((L.getD j2 default).op.v), .int .i64 ((L.getD j2 default).inp.v), .int .i64 ((L.getD j2 default).ep.v), .int .i64 ((L.getD j2 default).kind.v), .slice ((L.getD j2 default).p) ((L.getD j2 default).bs.length) ((L.getD j2 default).c), .int .i64 ((L.getD j2 default).t.v)] 32 (0, 0)) :: imi (0 < M.length) gA25 (.cells kA27 eA28 zA29) :: imi (0 < L.length) gA12 (.cells kA14 eA15 zA16) :: itsA M :: itsA L :: Im 6 (.slice pp5 M.length cc6) M.length (M.flatMap itCell) :: Im 6 (.slice pp1 L.length cc2) L.length (L.flatMap itCell) :: F) := itsA_at H52 (i := 6) rfl (j := j2) (by omega)
      have H54 : St W w49 (Im 6 (.slice ((M.getD j2 default).p) ((M.getD j2 default).bs.length) ((M.getD j2 default).c)) ((M.getD j2 default).bs.length) ((M.getD j2 default).bs.flatMap bndCell) :: bndsA ((M.getD j2 default).bs) :: Im 6 (.slice ((L.getD j2 default).p) ((L.getD j2 default).bs.length) ((L.getD j2 default).c)) ((L.getD j2 default).bs.length) ((L.getD j2 default).bs.flatMap bndCell) :: bndsA ((L.getD j2 default).bs) :: blk bk46 (.cells #[.int .i64 ((M.getD j2 default).op.v), .int .i64 ((M.getD j2 default).inp.v), .int .i64 ((M.getD j2 default).ep.v), .int .i64 ((M.getD j2 default).kind.v), .slice ((M.getD j2 default).p) ((M.getD j2 default).bs.length) ((M.getD j2 default).c), .int .i64 ((M.getD j2 default).t.v)] 32 (0, 0)) :: blk bk41 (.cells #[.int .i64 ((L.getD j2 default).op.v), .int .i64 ((L.getD j2 default).inp.v), .int .i64 ((L.getD j2 default).ep.v), .int .i64 ((L.getD j2 default).kind.v), .slice ((L.getD j2 default).p) ((L.getD j2 default).bs.length) ((L.getD j2 default).c), .int .i64 ((L.getD j2 default).t.v)] 32 (0, 0)) :: imi (0 < M.length) gA25 (.cells kA27 eA28 zA29) :: imi (0 < L.length) gA12 (.cells kA14 eA15 zA16) :: itsA M :: itsA L :: Im 6 (.slice pp5 M.length cc6) M.length (M.flatMap itCell) :: Im 6 (.slice pp1 L.length cc2) L.length (L.flatMap itCell) :: F) := itsA_bs H53 (i := 7) rfl (j := j2) (by omega)
      have hsm : sameIt (L.getD j2 default) (M.getD j2 default) = true := sameIt_is.2 (its_at heq (by omega))
      refine r_cons (s_move (.func (.func 67) #[] #[]) rfl rfl ?_)
      refine r_cons (s_loadAgg [.int .i64 ((L.getD j2 default).op.v), .int .i64 ((L.getD j2 default).inp.v), .int .i64 ((L.getD j2 default).ep.v), .int .i64 ((L.getD j2 default).kind.v), .slice ((L.getD j2 default).p) ((L.getD j2 default).bs.length) ((L.getD j2 default).c), .int .i64 ((L.getD j2 default).t.v)] 6 ag_32 rfl (H54.blk_at (i := 5) rfl) (Nat.le_of_ble_eq_true rfl) rfl rfl ?_)
      refine r_cons (s_loadAgg [.int .i64 ((M.getD j2 default).op.v), .int .i64 ((M.getD j2 default).inp.v), .int .i64 ((M.getD j2 default).ep.v), .int .i64 ((M.getD j2 default).kind.v), .slice ((M.getD j2 default).p) ((M.getD j2 default).bs.length) ((M.getD j2 default).c), .int .i64 ((M.getD j2 default).t.v)] 6 ag_32 rfl (H54.blk_at (i := 4) rfl) (Nat.le_of_ble_eq_true rfl) rfl rfl ?_)
      refine r_cons (s_callv [] [.agg #[.int .i64 ((L.getD j2 default).op.v), .int .i64 ((L.getD j2 default).inp.v), .int .i64 ((L.getD j2 default).ep.v), .int .i64 ((L.getD j2 default).kind.v), .slice ((L.getD j2 default).p) ((L.getD j2 default).bs.length) ((L.getD j2 default).c), .int .i64 ((L.getD j2 default).t.v)], .agg #[.int .i64 ((M.getD j2 default).op.v), .int .i64 ((M.getD j2 default).inp.v), .int .i64 ((M.getD j2 default).ep.v), .int .i64 ((M.getD j2 default).kind.v), .slice ((M.getD j2 default).p) ((M.getD j2 default).bs.length) ((M.getD j2 default).c), .int .i64 ((M.getD j2 default).t.v)]] rfl pl_67 rfl rfl (ref24_SameItem (L.getD j2 default) (M.getD j2 default) (ip := 2) rfl (iq := 3) rfl (ip2 := 0) rfl (iq2 := 1) rfl H54) ?_)
      rintro _ w55 ⟨rfl, H56⟩
      refine r_cons (s_not (sameIt (L.getD j2 default) (M.getD j2 default)) rfl false (by rw [hsm]; rfl) rfl ?_)
      refine r_nil ?_
      refine g_false rfl ?_
      refine g_skip ?_
      refine g_inBlock ?_
      refine g_region ?_
      refine r_cons (s_add ((j2 : Int) + 1) rfl rfl (wi64 (by omega)) rfl ?_)
      refine r_cons (s_move (.int .i64 ((j2 : Int) + 1)) rfl rfl ?_)
      refine r_nil ?_
      have H57 : St W w55 (imi (0 < M.length) gA25 (.cells kA27 eA28 zA29) :: imi (0 < L.length) gA12 (.cells kA14 eA15 zA16) :: itsA M :: itsA L :: Im 6 (.slice pp5 M.length cc6) M.length (M.flatMap itCell) :: Im 6 (.slice pp1 L.length cc2) L.length (L.flatMap itCell) :: F) := ((((((((((((H56.move 11 rfl).move 11 rfl).move 11 rfl).move 11 rfl).move 11 rfl).move 11 rfl).drop 6 rfl).drop 6 rfl).drop 6 rfl).drop 6 rfl).drop 6 rfl).drop 6 rfl)
      exact nx39 (j2 + 1) _ _ ⟨(by omega), H57⟩ (by first | (dsimp only; omega) | omega) ⟨by first | rfl | exact vint (by omega), by first | rfl | exact vint (by omega), by first | rfl | exact vint (by omega), by first | rfl | exact vint (by omega), by first | rfl | exact vint (by omega), by first | rfl | exact vint (by omega), trivial⟩
    · skip
      refine r_cons (s_lss false rfl rfl (dfalse hc40) rfl ?_)
      refine r_nil ?_
      refine g_seq ?_
      refine g_false rfl ?_
      refine g_exit (by rfl) ?_
      refine g_seq ?_
      refine g_region ?_
      refine r_cons (s_assign (.bool true) rfl rfl ?_)
      refine r_nil ?_
      refine g_ret' [.bool true] Try.func66 Try.results66 ⟨rfl, trivial⟩ ?_
      have H58 : St W w37 F := ((((((H38.drop 0 rfl).drop 0 rfl).drop 0 rfl).drop 0 rfl).drop 0 rfl).drop 0 rfl)
      exact ⟨rfl, H58⟩
set_option maxHeartbeats 4000000 in
set_option maxRecDepth 100000 in
theorem items_ {W w : World} {F : List Atom} (L M : List ItemD) (u v : Value) (heq : L.map ItemD.v = M.map ItemD.v) {j k a b : Nat} (hj : F[j]? = some (Im 6 u L.length (L.flatMap itCell))) (hk : F[k]? = some (Im 6 v M.length (M.flatMap itCell))) (ha : F[a]? = some (itsA L)) (hb : F[b]? = some (itsA M)) (H : St W w F) : Calls Try.prog 15 #[u, v] w (Ret fun v w' => v = .bool true ∧ St W w' F) := by
  refine calls_of_go (n := 8) Try.func15 rfl Try.ntmps15 rfl ?_
  refine g_seq ?_
  refine g_region ?_
  refine r_cons (s_assign (.bool false) rfl rfl ?_)
  refine r_nil ?_
  refine g_seq ?_
  refine g_region ?_
  refine r_cons (s_move (u) rfl rfl ?_)
  refine r_cons (s_move (v) rfl rfl ?_)
  refine r_cons (s_call [u, v, .func (.func 67) #[] #[]] pl_66 rfl rfl (EqualFunc_items L M u v heq hj hk ha hb H) ?_)
  rintro _ w1 ⟨rfl, H2⟩
  refine r_cons (s_assign (.bool true) rfl rfl ?_)
  refine r_nil ?_
  refine g_ret' [.bool true] Try.func15 Try.results15 ⟨rfl, trivial⟩ ?_
  exact ⟨rfl, H2⟩
set_option maxHeartbeats 4000000 in
set_option maxRecDepth 100000 in
theorem bytes_Equal {W w : World} {F : List Atom} (A B : Atom) (u v : Value) (m n : Nat) (xs ys : List UInt8) (hA : RdA A 1 u m (xs.flatMap u8c)) (hB : RdA B 1 v n (ys.flatMap u8c)) {j k : Nat} (hj : F[j]? = some A) (hk : F[k]? = some B) (H : St W w F) : Calls Try.prog 27 #[u, v] w (Ret fun v w' => v = .bool (decide (xs = ys)) ∧ St W w' F) := by
  have hml := (hA _ _ _ j H hj).2
  obtain ⟨pp1, cc2, rfl, hn3⟩ := Rd.shape (hA _ _ _ j H hj).1
  have hml := (hB _ _ _ k H hk).2
  obtain ⟨pp4, cc5, rfl, hn6⟩ := Rd.shape (hB _ _ _ k H hk).1
  refine calls_of_go (n := 10) Try.func27 rfl Try.ntmps27 rfl ?_
  refine g_seq ?_
  refine g_region ?_
  refine r_cons (s_assign (.bool false) rfl rfl ?_)
  refine r_nil ?_
  refine g_seq ?_
  refine g_region ?_
  refine r_cons (s_move (.slice pp1 m cc2) rfl rfl ?_)
  refine r_cons (s_bytes_str (xs := xs) rfl (by rw [bytesV_flat]; exact (hA _ _ _ (j + 0) H (by exact hj)).1) un_23 un_5 un_9 rfl ?_)
  refine r_cons (s_move (.slice pp4 n cc5) rfl rfl ?_)
  refine r_cons (s_bytes_str (xs := ys) rfl (by rw [bytesV_flat]; exact (hB _ _ _ (k + 0) H (by exact hk)).1) un_23 un_5 un_9 rfl ?_)
  refine r_cons (s_seql (decide ((⟨(xs).toArray⟩ : ByteArray) = ⟨(ys).toArray⟩)) rfl rfl rfl rfl ?_)
  refine r_cons (s_assign (.bool (decide ((⟨(xs).toArray⟩ : ByteArray) = ⟨(ys).toArray⟩))) rfl rfl ?_)
  refine r_nil ?_
  refine g_ret' [.bool (decide ((⟨(xs).toArray⟩ : ByteArray) = ⟨(ys).toArray⟩))] Try.func27 Try.results27 ⟨rfl, trivial⟩ ?_
  have H7 : St W w F := H
  exact ⟨congrArg Value.bool lit_bytes, H7⟩
set_option maxHeartbeats 4000000 in
set_option maxRecDepth 100000 in
theorem clone_items {W w : World} {F : List Atom} (A : Atom) (v0 : Value) (n : Nat) (xs : List Value) (hA : RdA A 6 v0 n xs) (hn : n ≤ 1099511627776) {j : Nat} (hj : F[j]? = some A) (H : St W w F) : Calls Try.prog 70 #[v0] w (Ret fun v w' => ∃ p c, v = .slice p n c ∧ St W w' (Row 32 6 (.slice p n c) n xs :: F)) := by
  have hml := (hA _ _ _ j H hj).2
  obtain ⟨pp1, cc2, rfl, hn3⟩ := Rd.shape (hA _ _ _ j H hj).1
  refine calls_of_go (n := 8) Try.func70 rfl Try.ntmps70 rfl ?_
  refine g_seq ?_
  refine g_region ?_
  refine r_cons (s_assign (.slice none 0 0) rfl rfl ?_)
  refine r_nil ?_
  refine g_seq ?_
  refine g_seq ?_
  refine g_region ?_
  refine r_cons (s_move (.slice pp1 n cc2) rfl rfl ?_)
  by_cases hc4 : pp1 = none
  · skip
    refine r_cons (s_sleql true un_22 rfl rfl (isNone_t hc4) rfl ?_)
    refine r_nil ?_
    refine g_true rfl ?_
    refine g_seq ?_
    refine g_region ?_
    refine r_cons (s_assign (.slice none 0 0) rfl rfl ?_)
    refine r_nil ?_
    refine g_ret' [.slice none 0 0] Try.func70 Try.results70 ⟨rfl, trivial⟩ ?_
    have H5 : St W w F := H
    obtain ⟨h1, h2, h3⟩ := hn3 ‹_›
    subst h1 h3
    exact ⟨none, 0, rfl, Row.nil_intro H5 32 6⟩
  · skip
    refine r_cons (s_sleql false un_22 rfl rfl (isNone_f hc4) rfl ?_)
    refine r_nil ?_
    refine g_false rfl ?_
    refine g_skip ?_
    refine g_seq ?_
    refine g_region ?_
    refine r_cons (s_buildSlice0 H 6 el_22 rfl ?_); intro bk6 w7 H8
    have H9 := Row.of_blk (n := 0) (size := 6) H8 (i := 0) rfl (by unfold maxLen; omega) (by simp) (by simp)
    refine r_cons (s_move (.slice pp1 n cc2) rfl rfl ?_)
    refine r_cons (s_append H9 0 rfl rfl rfl (hA _ _ _ (j + 1) H9 (by exact hj)).1 ap_22 (by decide) (by unfold maxLen; omega) (by omega) (n' := n) (xs' := xs) (by omega) (by first | rfl | simp) rfl ?_); intro vv10 w11 H12 hn13
    obtain ⟨pp14, cc15, rfl⟩ := Row.slice H12 (i := 0) rfl
    refine r_cons (s_assign (.slice pp14 n cc15) rfl rfl ?_)
    refine r_nil ?_
    refine g_ret' [.slice pp14 n cc15] Try.func70 Try.results70 ⟨rfl, trivial⟩ ?_
    have H16 : St W w11 (Row 32 6 (.slice pp14 n cc15) n xs :: F) := H12
    exact ⟨_, _, rfl, H16⟩
def layMB_ren : Shelf.Ren := ⟨fun | 5 => 69 | 7 => 107 | n => n, fun | 23 => 96 | 25 => 3 | 3 => 23 | 4 => 4 | 20 => 20 | n => n, fun n => n⟩
theorem layMB : SlLaysW.n5 Try.prog layMB_ren where
  mixed := by kernel_rfl
  f5 := ⟨"maps.Clone[map[int][]byte,int,[]byte]", by decide, Try.func69.trans (congrArg some (by kernel_rfl))⟩
  f7 := Try.func107.trans (congrArg some (by kernel_rfl))
  t4 := Try.underlying4
  a4 := Try.isAgg4
  z4 := Try.sizeOf4
  v4 := Try.zeroValue4
  t20 := Try.underlying20
  a20 := Try.isAgg20
  z20 := Try.sizeOf20
  v20 := Try.zeroValue20
  t23 := Try.underlying96
  a23 := Try.isAgg96
  z23 := Try.sizeOf96
  v23 := Try.zeroValue96
/-- A new place: the program's. -/
def LnA (g : Nat) (s : LdS) : Atom := ex fun q : LnX s => star [blk g (.cells #[.bool true, .bool s.ov, .int .i64 s.op.v, .int .i64 (kOf s.PV), .map (some q.m), .slice q.p q.L.length q.c] 98 (0, 0)), MapA q.m (ents (kI .i64) evD q.E), bdA q.E, wtA 32 s.ov q.p q.c q.L, itsA q.L]
/-- A new place: the document's. -/
def RnA (g : Nat) (s : LdS) : Atom := ex fun q : RnX s => star [blk g (.cells #[.int .i64 s.op.v, .slice q.p q.L.length q.c, .slice q.q q.Ps.length q.d, .bool s.ov] 62 (0, 0)), Im 6 (.slice q.p q.L.length q.c) q.L.length (q.L.flatMap itCell), itsA q.L, Im 4 (.slice q.q q.Ps.length q.d) q.Ps.length (q.Ps.flatMap pcCell), pcA q.Ps]
set_option maxHeartbeats 4000000 in
set_option maxRecDepth 100000 in
theorem Ln_open {W w : World} {F : List Atom} (g : Nat) (s : LdS)  {i : Nat} (hi : F[i]? = some (LnA g s)) (H : St W w F) : Calls Try.prog 71 #[.pointer (some ⟨g, 0, none⟩)] w (Ret fun v w' => v = .int .i64 (opE s.ov) ∧ St W w' F) := by
  have H0 := H.front hi
  refine calls_of_go (n := 18) Try.func71 rfl Try.ntmps71 rfl ?_
  refine g_seq ?_
  refine g_region ?_
  refine r_cons (s_assign (.int .i64 0) rfl rfl ?_)
  refine r_nil ?_
  refine g_seq ?_
  refine g_block ?_
  refine g_seq ?_
  refine g_region ?_
  refine r_cons (s_move (.pointer (some ⟨g, 0, none⟩)) rfl rfl ?_)
  refine r_cons (s_peql false un_44 rfl rfl rfl rfl ?_)
  refine r_cons (s_move (.bool false) rfl rfl ?_)
  refine r_cons (r_take rfl rfl ?_)
  refine s_move (.pointer (some ⟨g, 0, none⟩)) rfl rfl ?_
  refine r_cons (r_take rfl rfl ?_)
  refine s_nilCheck (.pointer (some ⟨g, 0, none⟩)) rfl ⟨_, rfl⟩ rfl ?_
  refine r_cons (r_take rfl rfl ?_)
  refine s_fieldAddr 98 0 0 0 4 rfl fi_98_0 rfl rfl ?_
  refine r_cons (r_take rfl rfl ?_)
  have H1 := H0.move 0 rfl
  obtain ⟨⟨m2, pp3, cc4, E5, L6, hE7, hL8⟩, H9⟩ := St.open_ex H1
  have H10 := St.open_star H9
  have hll := it_len hL8
  have hel := keyed_len hE7
  have H11 : St W w (blk g (.cells #[.bool true, .bool s.ov, .int .i64 s.op.v, .int .i64 (kOf s.PV), .map (some m2), .slice pp3 L6.length cc4] 98 (0, 0)) :: MapA m2 (ents (kI .i64) evD E5) :: bdA E5 :: wtA 32 s.ov pp3 cc4 L6 :: itsA L6 :: (F.set i emp)) := H10
  refine s_load (.bool true) ag_4 rfl (H11.blk_at (i := 0) rfl) rfl rfl ?_
  refine r_cons (r_take rfl rfl ?_)
  refine s_not true rfl false rfl rfl ?_
  refine r_cons (s_pick_f (.bool false) rfl rfl rfl ?_)
  refine r_cons (s_assign (.bool false) rfl rfl ?_)
  refine r_nil ?_
  refine g_false rfl ?_
  refine g_seq ?_
  refine g_region ?_
  refine r_cons (s_move (.pointer (some ⟨g, 0, none⟩)) rfl rfl ?_)
  refine r_cons (s_nilCheck (.pointer (some ⟨g, 0, none⟩)) rfl ⟨_, rfl⟩ rfl ?_)
  refine r_cons (s_fieldAddr 98 1 1 1 4 rfl fi_98_1 rfl rfl ?_)
  refine r_cons (s_load (.bool s.ov) ag_4 rfl (H11.blk_at (i := 0) rfl) rfl rfl ?_)
  refine r_cons (s_assign (.bool s.ov) rfl rfl ?_)
  refine r_nil ?_
  by_cases hb12 : (s.ov) = true
  · skip
    refine g_true (congrArg Value.bool hb12) ?_
    refine g_seq ?_
    refine g_region ?_
    refine r_cons (s_assign (.int .i64 241) rfl rfl ?_)
    refine r_nil ?_
    refine g_ret' [.int .i64 241] Try.func71 Try.results71 ⟨rfl, trivial⟩ ?_
    have H13 : St W w (LnA g s :: (F.set i emp)) := St.shut_ex (⟨m2, pp3, cc4, E5, L6, hE7, hL8⟩ : LnX s) (St.shut_star (ls := [blk g (.cells #[.bool true, .bool s.ov, .int .i64 s.op.v, .int .i64 (kOf s.PV), .map (some m2), .slice pp3 L6.length cc4] 98 (0, 0)), MapA m2 (ents (kI .i64) evD E5), bdA E5, wtA 32 s.ov pp3 cc4 L6, itsA L6]) H11)
    have H14 : St W w (LnA g s :: (F.set i emp)) := H13
    exact ⟨vint (by unfold opE; rw [hb12]; rfl), St.back_same hi H14⟩
  · have hb12 := eq_false_of_ne_true hb12
    refine g_false (congrArg Value.bool hb12) ?_
    refine g_skip ?_
    refine g_inBlock ?_
    refine g_seq ?_
    refine g_region ?_
    refine r_cons (s_assign (.int .i64 0) rfl rfl ?_)
    refine r_nil ?_
    refine g_ret' [.int .i64 0] Try.func71 Try.results71 ⟨rfl, trivial⟩ ?_
    have H15 : St W w (LnA g s :: (F.set i emp)) := St.shut_ex (⟨m2, pp3, cc4, E5, L6, hE7, hL8⟩ : LnX s) (St.shut_star (ls := [blk g (.cells #[.bool true, .bool s.ov, .int .i64 s.op.v, .int .i64 (kOf s.PV), .map (some m2), .slice pp3 L6.length cc4] 98 (0, 0)), MapA m2 (ents (kI .i64) evD E5), bdA E5, wtA 32 s.ov pp3 cc4 L6, itsA L6]) H11)
    have H16 : St W w (LnA g s :: (F.set i emp)) := H15
    exact ⟨vint (by unfold opE; rw [hb12]; rfl), St.back_same hi H16⟩
set_option maxHeartbeats 4000000 in
set_option maxRecDepth 100000 in
theorem Ln_whole {W w : World} {F : List Atom} (g : Nat) (s : LdS)  {i : Nat} (hi : F[i]? = some (LnA g s)) (H : St W w F) : Calls Try.prog 74 #[.pointer (some ⟨g, 0, none⟩)] w (Ret fun v w' => v = .bool (wholeB s) ∧ St W w' F) := by
  have H0 := H.front hi
  refine calls_of_go (n := 20) Try.func74 rfl Try.ntmps74 rfl ?_
  refine g_seq ?_
  refine g_region ?_
  refine r_cons (s_assign (.bool false) rfl rfl ?_)
  refine r_nil ?_
  refine g_seq ?_
  have H1 := H0.move 0 rfl
  obtain ⟨⟨m2, pp3, cc4, E5, L6, hE7, hL8⟩, H9⟩ := St.open_ex H1
  have H10 := St.open_star H9
  have hll := it_len hL8
  have hel := keyed_len hE7
  have H11 : St W w (blk g (.cells #[.bool true, .bool s.ov, .int .i64 s.op.v, .int .i64 (kOf s.PV), .map (some m2), .slice pp3 L6.length cc4] 98 (0, 0)) :: MapA m2 (ents (kI .i64) evD E5) :: bdA E5 :: wtA 32 s.ov pp3 cc4 L6 :: itsA L6 :: (F.set i emp)) := H10
  refine g_quiet (fun w' => St W w' (blk g (.cells #[.bool true, .bool s.ov, .int .i64 s.op.v, .int .i64 (kOf s.PV), .map (some m2), .slice pp3 L6.length cc4] 98 (0, 0)) :: MapA m2 (ents (kI .i64) evD E5) :: bdA E5 :: wtA 32 s.ov pp3 cc4 L6 :: itsA L6 :: (F.set i emp))) mixed (by kernel_rfl) H11.drew ?_
  refine q_cons (q_val rfl rfl rfl (by intro w hw; exact x_move (.pointer (some ⟨g, 0, none⟩)) rfl w) ?_)
  refine q_cons (q_val rfl rfl rfl (by intro w hw; exact x_nilCheck (.pointer (some ⟨g, 0, none⟩)) rfl ⟨_, rfl⟩ w) ?_)
  refine q_cons (q_val rfl rfl rfl (by intro w hw; exact x_fieldAddr 98 3 3 3 3 rfl fi_98_3 rfl w) ?_)
  refine q_cons (q_val rfl rfl rfl (by intro w hw; exact x_load (.int .i64 (kOf s.PV)) ag_3 rfl (hw.blk_at (i := 0) rfl) rfl) ?_)
  by_cases hc12 : (0 : Int) < kOf s.PV
  · skip
    refine q_cons (q_val rfl rfl rfl (by intro w hw; exact x_gtr true rfl rfl (dtrue hc12) w) ?_)
    refine q_cons (q_val rfl rfl rfl (by intro w hw; exact x_move (.bool true) rfl w) ?_)
    refine q_cons (q_take rfl rfl ?_)
    refine q_val rfl rfl rfl (by intro w hw; exact x_move (.pointer (some ⟨g, 0, none⟩)) rfl w) ?_
    refine q_cons (q_take rfl rfl ?_)
    refine q_val rfl rfl rfl (by intro w hw; exact x_nilCheck (.pointer (some ⟨g, 0, none⟩)) rfl ⟨_, rfl⟩ w) ?_
    refine q_cons (q_take rfl rfl ?_)
    refine q_val rfl rfl rfl (by intro w hw; exact x_fieldAddr 98 4 4 4 96 rfl fi_98_4 rfl w) ?_
    refine q_cons (q_take rfl rfl ?_)
    refine q_val rfl rfl rfl (by intro w hw; exact x_load (.map (some m2)) ag_96 rfl (hw.blk_at (i := 0) rfl) rfl) ?_
    refine q_cons (q_take rfl rfl ?_)
    refine q_val rfl rfl rfl (by intro w hw; exact x_lenMap (ek := (kI .i64)) (ev := evD) (L := E5) (MapA.at hw (i := 1) rfl) (E5.length) rfl un_96 rfl) ?_
    refine q_cons (q_take rfl rfl ?_)
    refine q_val rfl rfl rfl (by intro w hw; exact x_move (.pointer (some ⟨g, 0, none⟩)) rfl w) ?_
    refine q_cons (q_take rfl rfl ?_)
    refine q_val rfl rfl rfl (by intro w hw; exact x_nilCheck (.pointer (some ⟨g, 0, none⟩)) rfl ⟨_, rfl⟩ w) ?_
    refine q_cons (q_take rfl rfl ?_)
    refine q_val rfl rfl rfl (by intro w hw; exact x_fieldAddr 98 3 3 3 3 rfl fi_98_3 rfl w) ?_
    refine q_cons (q_take rfl rfl ?_)
    refine q_val rfl rfl rfl (by intro w hw; exact x_load (.int .i64 (kOf s.PV)) ag_3 rfl (hw.blk_at (i := 0) rfl) rfl) ?_
    refine q_cons (q_take rfl rfl ?_)
    by_cases hc13 : (E5.length : Int) = kOf s.PV
    · skip
      refine q_val rfl rfl rfl (by intro w hw; exact x_eql true rfl rfl (dtrue hc13) w) ?_
      refine q_cons (q_val rfl rfl rfl (by intro w hw; exact x_pick_t (.bool true) rfl rfl w) ?_)
      refine q_cons (q_val rfl rfl rfl (by intro w hw; exact x_assign (.bool true) rfl w) ?_)
      refine q_nil ?_
      intro w14 H15
      refine g_ret' [.bool true] Try.func74 Try.results74 ⟨rfl, trivial⟩ ?_
      have H16 : St W w14 (LnA g s :: (F.set i emp)) := St.shut_ex (⟨m2, pp3, cc4, E5, L6, hE7, hL8⟩ : LnX s) (St.shut_star (ls := [blk g (.cells #[.bool true, .bool s.ov, .int .i64 s.op.v, .int .i64 (kOf s.PV), .map (some m2), .slice pp3 L6.length cc4] 98 (0, 0)), MapA m2 (ents (kI .i64) evD E5), bdA E5, wtA 32 s.ov pp3 cc4 L6, itsA L6]) H15)
      have H17 : St W w14 (LnA g s :: (F.set i emp)) := H16
      exact ⟨congrArg Value.bool (whole_is (by omega)).symm, St.back_same hi H17⟩
    · skip
      refine q_val rfl rfl rfl (by intro w hw; exact x_eql false rfl rfl (dfalse hc13) w) ?_
      refine q_cons (q_val rfl rfl rfl (by intro w hw; exact x_pick_t (.bool false) rfl rfl w) ?_)
      refine q_cons (q_val rfl rfl rfl (by intro w hw; exact x_assign (.bool false) rfl w) ?_)
      refine q_nil ?_
      intro w18 H19
      refine g_ret' [.bool false] Try.func74 Try.results74 ⟨rfl, trivial⟩ ?_
      have H20 : St W w18 (LnA g s :: (F.set i emp)) := St.shut_ex (⟨m2, pp3, cc4, E5, L6, hE7, hL8⟩ : LnX s) (St.shut_star (ls := [blk g (.cells #[.bool true, .bool s.ov, .int .i64 s.op.v, .int .i64 (kOf s.PV), .map (some m2), .slice pp3 L6.length cc4] 98 (0, 0)), MapA m2 (ents (kI .i64) evD E5), bdA E5, wtA 32 s.ov pp3 cc4 L6, itsA L6]) H19)
      have H21 : St W w18 (LnA g s :: (F.set i emp)) := H20
      exact ⟨congrArg Value.bool (whole_no (by omega)).symm, St.back_same hi H21⟩
  · skip
    refine q_cons (q_val rfl rfl rfl (by intro w hw; exact x_gtr false rfl rfl (dfalse hc12) w) ?_)
    refine q_cons (q_val rfl rfl rfl (by intro w hw; exact x_move (.bool false) rfl w) ?_)
    refine q_cons (q_pass rfl rfl rfl rfl rfl ?_)
    refine q_cons (q_pass rfl rfl rfl rfl rfl ?_)
    refine q_cons (q_pass rfl rfl rfl rfl rfl ?_)
    refine q_cons (q_pass rfl rfl rfl rfl rfl ?_)
    refine q_cons (q_pass rfl rfl rfl rfl rfl ?_)
    refine q_cons (q_pass rfl rfl rfl rfl rfl ?_)
    refine q_cons (q_pass rfl rfl rfl rfl rfl ?_)
    refine q_cons (q_pass rfl rfl rfl rfl rfl ?_)
    refine q_cons (q_pass rfl rfl rfl rfl rfl ?_)
    refine q_cons (q_pass rfl rfl rfl rfl rfl ?_)
    refine q_cons (q_val rfl rfl rfl (by intro w hw; exact x_pick_f (.bool false) rfl rfl w) ?_)
    refine q_cons (q_val rfl rfl rfl (by intro w hw; exact x_assign (.bool false) rfl w) ?_)
    refine q_nil ?_
    intro w22 H23
    refine g_ret' [.bool false] Try.func74 Try.results74 ⟨rfl, trivial⟩ ?_
    have H24 : St W w22 (LnA g s :: (F.set i emp)) := St.shut_ex (⟨m2, pp3, cc4, E5, L6, hE7, hL8⟩ : LnX s) (St.shut_star (ls := [blk g (.cells #[.bool true, .bool s.ov, .int .i64 s.op.v, .int .i64 (kOf s.PV), .map (some m2), .slice pp3 L6.length cc4] 98 (0, 0)), MapA m2 (ents (kI .i64) evD E5), bdA E5, wtA 32 s.ov pp3 cc4 L6, itsA L6]) H23)
    have H25 : St W w22 (LnA g s :: (F.set i emp)) := H24
    exact ⟨congrArg Value.bool (whole_no (by omega)).symm, St.back_same hi H25⟩
set_option maxHeartbeats 4000000 in
set_option maxRecDepth 100000 in
theorem Ln_Arrive {W w : World} {F : List Atom} (g : Nat) (s : LdS) (x : ItemD) (hs : LOk s) (hok : bsOk x.bs) {i : Nat} (hi : F[i]? = some (LnA g s)) {ip : Nat} (hp : F[ip]? = some (Im 6 (.slice x.p x.bs.length x.c) x.bs.length (x.bs.flatMap bndCell))) {iq : Nat} (hq : F[iq]? = some (bndsA x.bs)) (H : St W w F) : Calls Try.prog 21 #[.pointer (some ⟨g, 0, none⟩), .agg #[.int .i64 x.op.v, .int .i64 x.inp.v, .int .i64 x.ep.v, .int .i64 x.kind.v, .slice x.p x.bs.length x.c, .int .i64 x.t.v]] w (Ret fun v w' => v = .int .i64 (arE s x) ∧ St W w' (F.set i (LnA g (arS s x)))) := by
  have H0 := ((H.dup hp (Im_pers _ _ _ _)).dup (i := iq + 1) (by exact hq) (bndsA_pers _)).front (i := i + 2) (by exact hi)
  have H1 : St W w (LnA g s :: bndsA x.bs :: Im 6 (.slice x.p x.bs.length x.c) x.bs.length (x.bs.flatMap bndCell) :: (F.set i emp)) := H0
  have hvl := hs.vl
  refine calls_of_go (n := 41) Try.func21 rfl Try.ntmps21 rfl ?_
  refine g_seq ?_
  refine g_region ?_
  refine r_cons (s_box H1 32 (.agg #[.int .i64 x.op.v, .int .i64 x.inp.v, .int .i64 x.ep.v, .int .i64 x.kind.v, .slice x.p x.bs.length x.c, .int .i64 x.t.v]) rfl (cs := #[.int .i64 x.op.v, .int .i64 x.inp.v, .int .i64 x.ep.v, .int .i64 x.kind.v, .slice x.p x.bs.length x.c, .int .i64 x.t.v]) rfl rfl ?_); intro bk2 w3 H4
  refine r_cons (s_assign (.int .i64 0) rfl rfl ?_)
  refine r_nil ?_
  refine g_seq ?_
  refine g_seq ?_
  refine g_region ?_
  refine r_cons (s_move (.pointer (some ⟨g, 0, none⟩)) rfl rfl ?_)
  refine r_cons (s_call [.pointer (some ⟨g, 0, none⟩)] pl_71 rfl rfl (Ln_open g s (i := 1) rfl H4) ?_)
  rintro _ w5 ⟨rfl, H6⟩
  refine r_cons (s_assign (.int .i64 (opE s.ov)) rfl rfl ?_)
  refine r_nil ?_
  refine g_seq ?_
  refine g_region ?_
  refine r_cons (s_move (.int .i64 (opE s.ov)) rfl rfl ?_)
  by_cases hc7 : opE s.ov = 0
  · skip
    refine r_cons (s_neq false rfl rfl (ntrue hc7) rfl ?_)
    refine r_nil ?_
    refine g_false rfl ?_
    refine g_skip ?_
    refine g_seq ?_
    refine g_seq ?_
    refine g_region ?_
    refine r_cons (s_loadAgg [.int .i64 x.op.v, .int .i64 x.inp.v, .int .i64 x.ep.v, .int .i64 x.kind.v, .slice x.p x.bs.length x.c, .int .i64 x.t.v] 6 ag_32 rfl (H6.blk_at (i := 0) rfl) (Nat.le_of_ble_eq_true rfl) rfl rfl ?_)
    refine r_cons (s_call [.agg #[.int .i64 x.op.v, .int .i64 x.inp.v, .int .i64 x.ep.v, .int .i64 x.kind.v, .slice x.p x.bs.length x.c, .int .i64 x.t.v]] pl_63 rfl rfl (migrate_CheckItem x (ip := 3) rfl (iq := 2) rfl H6) ?_)
    rintro _ w8 ⟨rfl, H9⟩
    refine r_cons (s_assign (.int .i64 (itE x)) rfl rfl ?_)
    refine r_nil ?_
    refine g_seq ?_
    refine g_region ?_
    refine r_cons (s_move (.int .i64 (itE x)) rfl rfl ?_)
    by_cases hc10 : itE x = 0
    · skip
      refine r_cons (s_neq false rfl rfl (ntrue hc10) rfl ?_)
      refine r_nil ?_
      refine g_false rfl ?_
      refine g_skip ?_
      refine g_seq ?_
      refine g_seq ?_
      have hov := opE_f hc7
      have H11 := H9.move 1 rfl
      obtain ⟨⟨m12, pp13, cc14, E15, L16, hE17, hL18⟩, H19⟩ := St.open_ex H11
      have H20 := St.open_star H19
      have hll := it_len hL18
      have hel := keyed_len hE17
      have H21 : St W w8 (blk g (.cells #[.bool true, .bool s.ov, .int .i64 s.op.v, .int .i64 (kOf s.PV), .map (some m12), .slice pp13 L16.length cc14] 98 (0, 0)) :: MapA m12 (ents (kI .i64) evD E15) :: bdA E15 :: wtA 32 s.ov pp13 cc14 L16 :: itsA L16 :: blk bk2 (.cells #[.int .i64 x.op.v, .int .i64 x.inp.v, .int .i64 x.ep.v, .int .i64 x.kind.v, .slice x.p x.bs.length x.c, .int .i64 x.t.v] 32 (0, 0)) :: bndsA x.bs :: Im 6 (.slice x.p x.bs.length x.c) x.bs.length (x.bs.flatMap bndCell) :: (F.set i emp)) := H20
      have H22 : St W w8 (blk g (.cells #[.bool true, .bool s.ov, .int .i64 s.op.v, .int .i64 (kOf s.PV), .map (some m12), .slice pp13 L16.length cc14] 98 (0, 0)) :: MapA m12 (ents (kI .i64) evD E15) :: bdA E15 :: Row 32 6 (.slice pp13 L16.length cc14) L16.length (L16.flatMap itCell) :: itsA L16 :: blk bk2 (.cells #[.int .i64 x.op.v, .int .i64 x.inp.v, .int .i64 x.ep.v, .int .i64 x.kind.v, .slice x.p x.bs.length x.c, .int .i64 x.t.v] 32 (0, 0)) :: bndsA x.bs :: Im 6 (.slice x.p x.bs.length x.c) x.bs.length (x.bs.flatMap bndCell) :: (F.set i emp)) := by have hx := H21; rw [wt_f hov] at hx; exact hx
      refine g_quiet (fun w' => St W w' (blk g (.cells #[.bool true, .bool s.ov, .int .i64 s.op.v, .int .i64 (kOf s.PV), .map (some m12), .slice pp13 L16.length cc14] 98 (0, 0)) :: MapA m12 (ents (kI .i64) evD E15) :: bdA E15 :: Row 32 6 (.slice pp13 L16.length cc14) L16.length (L16.flatMap itCell) :: itsA L16 :: blk bk2 (.cells #[.int .i64 x.op.v, .int .i64 x.inp.v, .int .i64 x.ep.v, .int .i64 x.kind.v, .slice x.p x.bs.length x.c, .int .i64 x.t.v] 32 (0, 0)) :: bndsA x.bs :: Im 6 (.slice x.p x.bs.length x.c) x.bs.length (x.bs.flatMap bndCell) :: (F.set i emp))) mixed (by kernel_rfl) H22.drew ?_
      refine q_cons (q_val rfl rfl rfl (by intro w hw; exact x_fieldAddr 32 0 0 0 3 rfl fi_32_0 rfl w) ?_)
      refine q_cons (q_val rfl rfl rfl (by intro w hw; exact x_load (.int .i64 x.op.v) ag_3 rfl (hw.blk_at (i := 5) rfl) rfl) ?_)
      refine q_cons (q_val rfl rfl rfl (by intro w hw; exact x_move (.pointer (some ⟨g, 0, none⟩)) rfl w) ?_)
      refine q_cons (q_val rfl rfl rfl (by intro w hw; exact x_nilCheck (.pointer (some ⟨g, 0, none⟩)) rfl ⟨_, rfl⟩ w) ?_)
      refine q_cons (q_val rfl rfl rfl (by intro w hw; exact x_fieldAddr 98 2 2 2 3 rfl fi_98_2 rfl w) ?_)
      refine q_cons (q_val rfl rfl rfl (by intro w hw; exact x_load (.int .i64 s.op.v) ag_3 rfl (hw.blk_at (i := 0) rfl) rfl) ?_)
      by_cases hc23 : x.op.v = s.op.v
      · skip
        refine q_cons (q_val rfl rfl rfl (by intro w hw; exact x_neq false rfl rfl (ntrue hc23) w) ?_)
        refine q_nil ?_
        intro w24 H25
        refine g_false rfl ?_
        refine g_skip ?_
        refine g_seq ?_
        refine g_seq ?_
        refine g_region ?_
        refine r_cons (s_move (.pointer (some ⟨g, 0, none⟩)) rfl rfl ?_)
        refine r_cons (s_nilCheck (.pointer (some ⟨g, 0, none⟩)) rfl ⟨_, rfl⟩ rfl ?_)
        refine r_cons (s_fieldAddr 98 5 5 5 22 rfl fi_98_5 rfl rfl ?_)
        refine r_cons (s_load (.slice pp13 L16.length cc14) ag_22 rfl (H25.blk_at (i := 0) rfl) rfl rfl ?_)
        refine r_cons (s_len L16.length rfl ⟨_, un_22⟩ rfl ?_)
        by_cases hc26 : (4096 : Int) ≤ (L16.length : Int)
        · skip
          refine r_cons (s_geq true rfl rfl (dtrue hc26) rfl ?_)
          refine r_nil ?_
          refine g_true rfl ?_
          refine g_seq ?_
          refine g_region ?_
          refine r_cons (s_assign (.int .i64 6) rfl rfl ?_)
          refine r_nil ?_
          refine g_ret' [.int .i64 6] Try.func21 Try.results21 ⟨rfl, trivial⟩ ?_
          have H27 : St W w24 (Row 32 6 (.slice pp13 L16.length cc14) L16.length (L16.flatMap itCell) :: blk g (.cells #[.bool true, .bool s.ov, .int .i64 s.op.v, .int .i64 (kOf s.PV), .map (some m12), .slice pp13 L16.length cc14] 98 (0, 0)) :: MapA m12 (ents (kI .i64) evD E15) :: bdA E15 :: itsA L16 :: blk bk2 (.cells #[.int .i64 x.op.v, .int .i64 x.inp.v, .int .i64 x.ep.v, .int .i64 x.kind.v, .slice x.p x.bs.length x.c, .int .i64 x.t.v] 32 (0, 0)) :: bndsA x.bs :: Im 6 (.slice x.p x.bs.length x.c) x.bs.length (x.bs.flatMap bndCell) :: (F.set i emp)) := (H25.move 3 rfl)
          have H28 : St W w24 (wtA 32 s.ov pp13 cc14 L16 :: blk g (.cells #[.bool true, .bool s.ov, .int .i64 s.op.v, .int .i64 (kOf s.PV), .map (some m12), .slice pp13 L16.length cc14] 98 (0, 0)) :: MapA m12 (ents (kI .i64) evD E15) :: bdA E15 :: itsA L16 :: blk bk2 (.cells #[.int .i64 x.op.v, .int .i64 x.inp.v, .int .i64 x.ep.v, .int .i64 x.kind.v, .slice x.p x.bs.length x.c, .int .i64 x.t.v] 32 (0, 0)) :: bndsA x.bs :: Im 6 (.slice x.p x.bs.length x.c) x.bs.length (x.bs.flatMap bndCell) :: (F.set i emp)) := wt_of (ov := s.ov) H27
          have H29 : St W w24 (blk g (.cells #[.bool true, .bool s.ov, .int .i64 s.op.v, .int .i64 (kOf s.PV), .map (some m12), .slice pp13 L16.length cc14] 98 (0, 0)) :: MapA m12 (ents (kI .i64) evD E15) :: bdA E15 :: wtA 32 s.ov pp13 cc14 L16 :: itsA L16 :: blk bk2 (.cells #[.int .i64 x.op.v, .int .i64 x.inp.v, .int .i64 x.ep.v, .int .i64 x.kind.v, .slice x.p x.bs.length x.c, .int .i64 x.t.v] 32 (0, 0)) :: bndsA x.bs :: Im 6 (.slice x.p x.bs.length x.c) x.bs.length (x.bs.flatMap bndCell) :: (F.set i emp)) := (((((H28.move 4 rfl).move 1 rfl).move 4 rfl).move 4 rfl).move 4 rfl)
          have H30 : St W w24 (LnA g s :: blk bk2 (.cells #[.int .i64 x.op.v, .int .i64 x.inp.v, .int .i64 x.ep.v, .int .i64 x.kind.v, .slice x.p x.bs.length x.c, .int .i64 x.t.v] 32 (0, 0)) :: bndsA x.bs :: Im 6 (.slice x.p x.bs.length x.c) x.bs.length (x.bs.flatMap bndCell) :: (F.set i emp)) := St.shut_ex (⟨m12, pp13, cc14, E15, L16, hE17, hL18⟩ : LnX s) (St.shut_star (ls := [blk g (.cells #[.bool true, .bool s.ov, .int .i64 s.op.v, .int .i64 (kOf s.PV), .map (some m12), .slice pp13 L16.length cc14] 98 (0, 0)), MapA m12 (ents (kI .i64) evD E15), bdA E15, wtA 32 s.ov pp13 cc14 L16, itsA L16]) H29)
          have H31 : St W w24 (LnA g s :: (F.set i emp)) := (((H30.drop 1 rfl).drop 1 rfl).drop 1 rfl)
          have hov : s.ov = false := opE_f hc7
          have hE9 : arE s x = 6 := by first | exact ar_2 hov (by assumption) | exact ar_3 hov (by assumption) (by assumption) | exact ar_4 hov (by assumption) (by omega) (by omega)
          have hE0 : ¬ arE s x = 0 := by rw [hE9]; first | assumption | decide
          exact ⟨by rw [hE9]; rfl, by rw [arS_no hE0]; exact St.back hi H31⟩
        · skip
          refine r_cons (s_geq false rfl rfl (dfalse hc26) rfl ?_)
          refine r_nil ?_
          refine g_false rfl ?_
          refine g_skip ?_
          refine g_seq ?_
          have H32 : St W w24 (MapA m12 (ents (kI .i64) evD E15) :: bdA E15 :: itsA L16 :: blk bk2 (.cells #[.int .i64 x.op.v, .int .i64 x.inp.v, .int .i64 x.ep.v, .int .i64 x.kind.v, .slice x.p x.bs.length x.c, .int .i64 x.t.v] 32 (0, 0)) :: bndsA x.bs :: Im 6 (.slice x.p x.bs.length x.c) x.bs.length (x.bs.flatMap bndCell) :: blk g (.cells #[.bool true, .bool s.ov, .int .i64 s.op.v, .int .i64 (kOf s.PV), .map (some m12), .slice pp13 L16.length cc14] 98 (0, 0)) :: Row 32 6 (.slice pp13 L16.length cc14) L16.length (L16.flatMap itCell) :: (F.set i emp)) := ((((((((H25.move 3 rfl).move 1 rfl).move 7 rfl).move 7 rfl).move 7 rfl).move 7 rfl).move 7 rfl).move 7 rfl)
          refine g_mix (fun t_ w => St W w (MapA m12 (ents (kI .i64) evD E15) :: bdA E15 :: itsA L16 :: blk bk2 (.cells #[.int .i64 x.op.v, .int .i64 x.inp.v, .int .i64 x.ep.v, .int .i64 x.kind.v, .slice x.p x.bs.length x.c, .int .i64 x.t.v] 32 (0, 0)) :: bndsA x.bs :: Im 6 (.slice x.p x.bs.length x.c) x.bs.length (x.bs.flatMap bndCell) :: t_)) (blk g (.cells #[.bool true, .bool s.ov, .int .i64 s.op.v, .int .i64 (kOf s.PV), .map (some m12), .slice pp13 L16.length cc14] 98 (0, 0)) :: Row 32 6 (.slice pp13 L16.length cc14) L16.length (L16.flatMap itCell) :: (F.set i emp)) mixed 12 rfl H32.drew ?_
          refine f_first 0 (listed' := #[true, false, false, false, false, false, false, false, false, false, false, false]) rfl (by kernel_rfl) (by kernel_rfl) (by kernel_rfl) rfl ?_
          refine f_val rfl rfl rfl (by intro t_ w hw; exact x_move (.pointer (some ⟨g, 0, none⟩)) rfl w) ?_
          refine f_first 1 (listed' := #[true, true, false, false, false, false, false, false, false, false, false, false]) rfl (by kernel_rfl) (by kernel_rfl) (by kernel_rfl) rfl ?_
          refine f_val rfl rfl rfl (by intro t_ w hw; exact x_move (.pointer (some ⟨g, 0, none⟩)) rfl w) ?_
          refine f_first 2 (listed' := #[true, true, true, false, false, false, false, false, false, false, false, false]) rfl (by kernel_rfl) (by kernel_rfl) (by kernel_rfl) rfl ?_
          refine f_val rfl rfl rfl (by intro t_ w hw; exact x_nilCheck (.pointer (some ⟨g, 0, none⟩)) rfl ⟨_, rfl⟩ w) ?_
          refine f_first 3 (listed' := #[true, true, true, true, false, false, false, false, false, false, false, false]) rfl (by kernel_rfl) (by kernel_rfl) (by kernel_rfl) rfl ?_
          refine f_val rfl rfl rfl (by intro t_ w hw; exact x_fieldAddr 98 5 5 5 22 rfl fi_98_5 rfl w) ?_
          refine f_first 5 (listed' := #[true, true, true, true, false, true, false, false, false, false, false, false]) rfl (by kernel_rfl) (by kernel_rfl) (by kernel_rfl) rfl ?_
          refine f_val rfl rfl rfl (by intro t_ w hw; exact x_loadAgg [.int .i64 x.op.v, .int .i64 x.inp.v, .int .i64 x.ep.v, .int .i64 x.kind.v, .slice x.p x.bs.length x.c, .int .i64 x.t.v] 6 ag_32 rfl (hw.blk_at (i := 3) rfl) (Nat.le_of_ble_eq_true rfl) rfl) ?_
          refine f_all (rs := [4, 6]) (by kernel_rfl) (by simp) ?_
          refine a_cons ⟨_, rfl, ?_⟩ (a_cons ⟨_, rfl, ?_⟩ (fun x hx => absurd hx (by simp)))
          · skip
            intro w33 H34
            try dsimp only at H34
            refine s_load (.slice pp13 L16.length cc14) ag_22 rfl (H34.blk_at (i := 6) rfl) rfl rfl ?_
            refine ⟨blk g (.cells #[.bool true, .bool s.ov, .int .i64 s.op.v, .int .i64 (kOf s.PV), .map (some m12), .slice pp13 L16.length cc14] 98 (0, 0)) :: Row 32 6 (.slice pp13 L16.length cc14) L16.length (L16.flatMap itCell) :: (F.set i emp), ?_, H34⟩
            change FReg _ _ _ _ _ #[true, true, true, true, true, true, false, false, false, false, false, false] _ _
            refine f_all (rs := [6]) (by kernel_rfl) (by simp) ?_
            refine a_cons ⟨_, rfl, ?_⟩ (fun x hx => absurd hx (by simp))
            intro w35 H36
            try dsimp only at H36
            refine s_call [.agg #[.int .i64 x.op.v, .int .i64 x.inp.v, .int .i64 x.ep.v, .int .i64 x.kind.v, .slice x.p x.bs.length x.c, .int .i64 x.t.v]] pl_64 rfl rfl (migrate_own x hok (ip := 5) rfl (iq := 4) rfl H36) ?_
            rintro _ w39 ⟨it37, rfl, hy38, H40⟩
            have H41 : St W w39 (MapA m12 (ents (kI .i64) evD E15) :: bdA E15 :: itsA L16 :: blk bk2 (.cells #[.int .i64 x.op.v, .int .i64 x.inp.v, .int .i64 x.ep.v, .int .i64 x.kind.v, .slice x.p x.bs.length x.c, .int .i64 x.t.v] 32 (0, 0)) :: bndsA x.bs :: Im 6 (.slice x.p x.bs.length x.c) x.bs.length (x.bs.flatMap bndCell) :: Im 6 (.slice it37.p it37.bs.length it37.c) it37.bs.length (it37.bs.flatMap bndCell) :: bndsA it37.bs :: blk g (.cells #[.bool true, .bool s.ov, .int .i64 s.op.v, .int .i64 (kOf s.PV), .map (some m12), .slice pp13 L16.length cc14] 98 (0, 0)) :: Row 32 6 (.slice pp13 L16.length cc14) L16.length (L16.flatMap itCell) :: (F.set i emp)) := ((((((((((H40.move 9 rfl).move 9 rfl).move 3 rfl).move 3 rfl).move 9 rfl).move 9 rfl).move 9 rfl).move 9 rfl).move 9 rfl).move 9 rfl)
            refine ⟨Im 6 (.slice it37.p it37.bs.length it37.c) it37.bs.length (it37.bs.flatMap bndCell) :: bndsA it37.bs :: blk g (.cells #[.bool true, .bool s.ov, .int .i64 s.op.v, .int .i64 (kOf s.PV), .map (some m12), .slice pp13 L16.length cc14] 98 (0, 0)) :: Row 32 6 (.slice pp13 L16.length cc14) L16.length (L16.flatMap itCell) :: (F.set i emp), ?_, H41⟩
            change FReg _ _ _ _ _ #[true, true, true, true, true, true, true, false, false, false, false, false] _ _
            refine f_all (rs := [7]) (by kernel_rfl) (by simp) ?_
            refine a_cons ⟨_, rfl, ?_⟩ (fun x hx => absurd hx (by simp))
            intro w42 H43
            try dsimp only at H43
            refine s_buildSlice H43 6 1 (cs := #[.int .i64 it37.op.v, .int .i64 it37.inp.v, .int .i64 it37.ep.v, .int .i64 it37.kind.v, .slice it37.p it37.bs.length it37.c, .int .i64 it37.t.v]) #[.int .i64 0, .int .i64 0, .int .i64 0, .int .i64 0, .slice none 0 0, .int .i64 0] el_22 ze_32 (by decide) (by decide) (by kernel_rfl) rfl ?_; intro bk44 w45 H46
            have H47 : St W w45 (blk bk44 (.cells #[.int .i64 it37.op.v, .int .i64 it37.inp.v, .int .i64 it37.ep.v, .int .i64 it37.kind.v, .slice it37.p it37.bs.length it37.c, .int .i64 it37.t.v] 32 (0, 0)) :: Im 6 (.slice it37.p it37.bs.length it37.c) it37.bs.length (it37.bs.flatMap bndCell) :: bndsA it37.bs :: blk g (.cells #[.bool true, .bool s.ov, .int .i64 s.op.v, .int .i64 (kOf s.PV), .map (some m12), .slice pp13 L16.length cc14] 98 (0, 0)) :: Row 32 6 (.slice pp13 L16.length cc14) L16.length (L16.flatMap itCell) :: MapA m12 (ents (kI .i64) evD E15) :: bdA E15 :: itsA L16 :: blk bk2 (.cells #[.int .i64 x.op.v, .int .i64 x.inp.v, .int .i64 x.ep.v, .int .i64 x.kind.v, .slice x.p x.bs.length x.c, .int .i64 x.t.v] 32 (0, 0)) :: bndsA x.bs :: Im 6 (.slice x.p x.bs.length x.c) x.bs.length (x.bs.flatMap bndCell) :: (F.set i emp)) := (((((H46.move 10 rfl).move 10 rfl).move 10 rfl).move 10 rfl).move 4 rfl)
            have H48 : St W w45 (bdA E15 :: itsA L16 :: blk bk2 (.cells #[.int .i64 x.op.v, .int .i64 x.inp.v, .int .i64 x.ep.v, .int .i64 x.kind.v, .slice x.p x.bs.length x.c, .int .i64 x.t.v] 32 (0, 0)) :: bndsA x.bs :: Im 6 (.slice x.p x.bs.length x.c) x.bs.length (x.bs.flatMap bndCell) :: blk bk44 (.cells #[.int .i64 it37.op.v, .int .i64 it37.inp.v, .int .i64 it37.ep.v, .int .i64 it37.kind.v, .slice it37.p it37.bs.length it37.c, .int .i64 it37.t.v] 32 (0, 0)) :: Im 6 (.slice it37.p it37.bs.length it37.c) it37.bs.length (it37.bs.flatMap bndCell) :: bndsA it37.bs :: blk g (.cells #[.bool true, .bool s.ov, .int .i64 s.op.v, .int .i64 (kOf s.PV), .map (some m12), .slice pp13 L16.length cc14] 98 (0, 0)) :: Row 32 6 (.slice pp13 L16.length cc14) L16.length (L16.flatMap itCell) :: MapA m12 (ents (kI .i64) evD E15) :: (F.set i emp)) := (((((H47.move 10 rfl).move 10 rfl).move 10 rfl).move 10 rfl).move 10 rfl)
            have H49 : St W w45 (MapA m12 (ents (kI .i64) evD E15) :: bdA E15 :: itsA L16 :: blk bk2 (.cells #[.int .i64 x.op.v, .int .i64 x.inp.v, .int .i64 x.ep.v, .int .i64 x.kind.v, .slice x.p x.bs.length x.c, .int .i64 x.t.v] 32 (0, 0)) :: bndsA x.bs :: Im 6 (.slice x.p x.bs.length x.c) x.bs.length (x.bs.flatMap bndCell) :: blk bk44 (.cells #[.int .i64 it37.op.v, .int .i64 it37.inp.v, .int .i64 it37.ep.v, .int .i64 it37.kind.v, .slice it37.p it37.bs.length it37.c, .int .i64 it37.t.v] 32 (0, 0)) :: Im 6 (.slice it37.p it37.bs.length it37.c) it37.bs.length (it37.bs.flatMap bndCell) :: bndsA it37.bs :: blk g (.cells #[.bool true, .bool s.ov, .int .i64 s.op.v, .int .i64 (kOf s.PV), .map (some m12), .slice pp13 L16.length cc14] 98 (0, 0)) :: Row 32 6 (.slice pp13 L16.length cc14) L16.length (L16.flatMap itCell) :: (F.set i emp)) := (H48.move 10 rfl)
            refine ⟨blk bk44 (.cells #[.int .i64 it37.op.v, .int .i64 it37.inp.v, .int .i64 it37.ep.v, .int .i64 it37.kind.v, .slice it37.p it37.bs.length it37.c, .int .i64 it37.t.v] 32 (0, 0)) :: Im 6 (.slice it37.p it37.bs.length it37.c) it37.bs.length (it37.bs.flatMap bndCell) :: bndsA it37.bs :: blk g (.cells #[.bool true, .bool s.ov, .int .i64 s.op.v, .int .i64 (kOf s.PV), .map (some m12), .slice pp13 L16.length cc14] 98 (0, 0)) :: Row 32 6 (.slice pp13 L16.length cc14) L16.length (L16.flatMap itCell) :: (F.set i emp), ?_, H49⟩
            change FReg _ _ _ _ _ #[true, true, true, true, true, true, true, true, false, false, false, false] _ _
            refine f_all (rs := [8]) (by kernel_rfl) (by simp) ?_
            refine a_cons ⟨_, rfl, ?_⟩ (fun x hx => absurd hx (by simp))
            intro w50 H51
            try dsimp only at H51
            refine s_append H51 10 rfl rfl rfl (rd_blk (H51.blk_at (i := 6) rfl) rfl (Nat.le_of_ble_eq_true rfl) (by simp [Value.oneCell'])) ap_22 (by decide) (by unfold maxLen; omega) (by omega) (n' := L16.length + 1) (xs' := L16.flatMap itCell ++ ([.int .i64 it37.op.v, .int .i64 it37.inp.v, .int .i64 it37.ep.v, .int .i64 it37.kind.v, .slice it37.p it37.bs.length it37.c, .int .i64 it37.t.v] : List Value)) (by omega) (by first | rfl | simp) rfl ?_; intro vv52 w53 H54 hn55
            obtain ⟨pp56, cc57, rfl⟩ := Row.slice H54 (i := 10) rfl
            refine ⟨blk bk44 (.cells #[.int .i64 it37.op.v, .int .i64 it37.inp.v, .int .i64 it37.ep.v, .int .i64 it37.kind.v, .slice it37.p it37.bs.length it37.c, .int .i64 it37.t.v] 32 (0, 0)) :: Im 6 (.slice it37.p it37.bs.length it37.c) it37.bs.length (it37.bs.flatMap bndCell) :: bndsA it37.bs :: blk g (.cells #[.bool true, .bool s.ov, .int .i64 s.op.v, .int .i64 (kOf s.PV), .map (some m12), .slice pp13 L16.length cc14] 98 (0, 0)) :: Row 32 6 (.slice pp56 (L16.length + 1) cc57) (L16.length + 1) (L16.flatMap itCell ++ ([.int .i64 it37.op.v, .int .i64 it37.inp.v, .int .i64 it37.ep.v, .int .i64 it37.kind.v, .slice it37.p it37.bs.length it37.c, .int .i64 it37.t.v] : List Value)) :: (F.set i emp), ?_, H54⟩
            change FReg _ _ _ _ _ #[true, true, true, true, true, true, true, true, true, false, false, false] _ _
            refine f_first 9 (listed' := #[true, true, true, true, true, true, true, true, true, true, false, false]) rfl (by kernel_rfl) (by kernel_rfl) (by kernel_rfl) rfl ?_
            refine f_val rfl rfl rfl (by intro t_ w hw; exact x_nilCheck (.pointer (some ⟨g, 0, none⟩)) rfl ⟨_, rfl⟩ w) ?_
            refine f_first 10 (listed' := #[true, true, true, true, true, true, true, true, true, true, true, false]) rfl (by kernel_rfl) (by kernel_rfl) (by kernel_rfl) rfl ?_
            refine f_val rfl rfl rfl (by intro t_ w hw; exact x_fieldAddr 98 5 5 5 22 rfl fi_98_5 rfl w) ?_
            refine f_all (rs := [11]) (by kernel_rfl) (by simp) ?_
            refine a_cons ⟨_, rfl, ?_⟩ (fun x hx => absurd hx (by simp))
            intro w58 H59
            try dsimp only at H59
            refine s_store H59 9 (.slice pp56 (L16.length + 1) cc57) rfl rfl rfl sz_22 rfl (Nat.le_of_ble_eq_true rfl) rfl (cs' := #[.bool true, .bool s.ov, .int .i64 s.op.v, .int .i64 (kOf s.PV), .map (some m12), .slice pp56 (L16.length + 1) cc57]) rfl ?_; intro w60 H61
            refine ⟨blk bk44 (.cells #[.int .i64 it37.op.v, .int .i64 it37.inp.v, .int .i64 it37.ep.v, .int .i64 it37.kind.v, .slice it37.p it37.bs.length it37.c, .int .i64 it37.t.v] 32 (0, 0)) :: Im 6 (.slice it37.p it37.bs.length it37.c) it37.bs.length (it37.bs.flatMap bndCell) :: bndsA it37.bs :: blk g (.cells #[.bool true, .bool s.ov, .int .i64 s.op.v, .int .i64 (kOf s.PV), .map (some m12), .slice pp56 (L16.length + 1) cc57] 98 (0, 0)) :: Row 32 6 (.slice pp56 (L16.length + 1) cc57) (L16.length + 1) (L16.flatMap itCell ++ ([.int .i64 it37.op.v, .int .i64 it37.inp.v, .int .i64 it37.ep.v, .int .i64 it37.kind.v, .slice it37.p it37.bs.length it37.c, .int .i64 it37.t.v] : List Value)) :: (F.set i emp), ?_, H61⟩
            change FReg _ _ _ _ _ #[true, true, true, true, true, true, true, true, true, true, true, true] _ _
            refine f_done (by kernel_rfl) ?_
            intro w62 H63
            refine g_seq ?_
            refine g_region ?_
            refine r_cons (s_assign (.int .i64 0) rfl rfl ?_)
            refine r_nil ?_
            refine g_ret' [.int .i64 0] Try.func21 Try.results21 ⟨rfl, trivial⟩ ?_
            have hE9 : arE s x = 0 := ar_5 hov (by assumption) (by omega) (by omega)
            have H64 : St W w62 (MapA m12 (ents (kI .i64) evD E15) :: bdA E15 :: itsA L16 :: blk bk2 (.cells #[.int .i64 x.op.v, .int .i64 x.inp.v, .int .i64 x.ep.v, .int .i64 x.kind.v, .slice x.p x.bs.length x.c, .int .i64 x.t.v] 32 (0, 0)) :: bndsA x.bs :: Im 6 (.slice x.p x.bs.length x.c) x.bs.length (x.bs.flatMap bndCell) :: blk bk44 (.cells #[.int .i64 it37.op.v, .int .i64 it37.inp.v, .int .i64 it37.ep.v, .int .i64 it37.kind.v, .slice it37.p it37.bs.length it37.c, .int .i64 it37.t.v] 32 (0, 0)) :: Im 6 (.slice it37.p it37.bs.length it37.c) it37.bs.length (it37.bs.flatMap bndCell) :: bndsA it37.bs :: blk g (.cells #[.bool true, .bool s.ov, .int .i64 s.op.v, .int .i64 (kOf s.PV), .map (some m12), .slice pp56 ((L16 ++ [it37]).length) cc57] 98 (0, 0)) :: Row 32 6 (.slice pp56 ((L16 ++ [it37]).length) cc57) ((L16 ++ [it37]).length) ((L16 ++ [it37]).flatMap itCell) :: (F.set i emp)) := by rw [List.flatMap_append, List.length_append]; exact H63
            have H65 : St W w62 (Im 6 (.slice it37.p it37.bs.length it37.c) it37.bs.length (it37.bs.flatMap bndCell) :: bndsA it37.bs :: itsA L16 :: MapA m12 (ents (kI .i64) evD E15) :: bdA E15 :: blk bk2 (.cells #[.int .i64 x.op.v, .int .i64 x.inp.v, .int .i64 x.ep.v, .int .i64 x.kind.v, .slice x.p x.bs.length x.c, .int .i64 x.t.v] 32 (0, 0)) :: bndsA x.bs :: Im 6 (.slice x.p x.bs.length x.c) x.bs.length (x.bs.flatMap bndCell) :: blk bk44 (.cells #[.int .i64 it37.op.v, .int .i64 it37.inp.v, .int .i64 it37.ep.v, .int .i64 it37.kind.v, .slice it37.p it37.bs.length it37.c, .int .i64 it37.t.v] 32 (0, 0)) :: blk g (.cells #[.bool true, .bool s.ov, .int .i64 s.op.v, .int .i64 (kOf s.PV), .map (some m12), .slice pp56 ((L16 ++ [it37]).length) cc57] 98 (0, 0)) :: Row 32 6 (.slice pp56 ((L16 ++ [it37]).length) cc57) ((L16 ++ [it37]).length) ((L16 ++ [it37]).flatMap itCell) :: (F.set i emp)) := (((H64.move 2 rfl).move 8 rfl).move 8 rfl)
            have H66 : St W w62 (itsA (L16 ++ [it37]) :: MapA m12 (ents (kI .i64) evD E15) :: bdA E15 :: blk bk2 (.cells #[.int .i64 x.op.v, .int .i64 x.inp.v, .int .i64 x.ep.v, .int .i64 x.kind.v, .slice x.p x.bs.length x.c, .int .i64 x.t.v] 32 (0, 0)) :: bndsA x.bs :: Im 6 (.slice x.p x.bs.length x.c) x.bs.length (x.bs.flatMap bndCell) :: blk bk44 (.cells #[.int .i64 it37.op.v, .int .i64 it37.inp.v, .int .i64 it37.ep.v, .int .i64 it37.kind.v, .slice it37.p it37.bs.length it37.c, .int .i64 it37.t.v] 32 (0, 0)) :: blk g (.cells #[.bool true, .bool s.ov, .int .i64 s.op.v, .int .i64 (kOf s.PV), .map (some m12), .slice pp56 ((L16 ++ [it37]).length) cc57] 98 (0, 0)) :: Row 32 6 (.slice pp56 ((L16 ++ [it37]).length) cc57) ((L16 ++ [it37]).length) ((L16 ++ [it37]).flatMap itCell) :: (F.set i emp)) := itsA_snoc (x := it37) H65
            have H67 : St W w62 (Row 32 6 (.slice pp56 ((L16 ++ [it37]).length) cc57) ((L16 ++ [it37]).length) ((L16 ++ [it37]).flatMap itCell) :: itsA (L16 ++ [it37]) :: MapA m12 (ents (kI .i64) evD E15) :: bdA E15 :: blk bk2 (.cells #[.int .i64 x.op.v, .int .i64 x.inp.v, .int .i64 x.ep.v, .int .i64 x.kind.v, .slice x.p x.bs.length x.c, .int .i64 x.t.v] 32 (0, 0)) :: bndsA x.bs :: Im 6 (.slice x.p x.bs.length x.c) x.bs.length (x.bs.flatMap bndCell) :: blk bk44 (.cells #[.int .i64 it37.op.v, .int .i64 it37.inp.v, .int .i64 it37.ep.v, .int .i64 it37.kind.v, .slice it37.p it37.bs.length it37.c, .int .i64 it37.t.v] 32 (0, 0)) :: blk g (.cells #[.bool true, .bool s.ov, .int .i64 s.op.v, .int .i64 (kOf s.PV), .map (some m12), .slice pp56 ((L16 ++ [it37]).length) cc57] 98 (0, 0)) :: (F.set i emp)) := (H66.move 8 rfl)
            have H68 : St W w62 (wtA 32 ({ s with V := s.V ++ [x.v] } : LdS).ov pp56 cc57 (L16 ++ [it37]) :: itsA (L16 ++ [it37]) :: MapA m12 (ents (kI .i64) evD E15) :: bdA E15 :: blk bk2 (.cells #[.int .i64 x.op.v, .int .i64 x.inp.v, .int .i64 x.ep.v, .int .i64 x.kind.v, .slice x.p x.bs.length x.c, .int .i64 x.t.v] 32 (0, 0)) :: bndsA x.bs :: Im 6 (.slice x.p x.bs.length x.c) x.bs.length (x.bs.flatMap bndCell) :: blk bk44 (.cells #[.int .i64 it37.op.v, .int .i64 it37.inp.v, .int .i64 it37.ep.v, .int .i64 it37.kind.v, .slice it37.p it37.bs.length it37.c, .int .i64 it37.t.v] 32 (0, 0)) :: blk g (.cells #[.bool true, .bool s.ov, .int .i64 s.op.v, .int .i64 (kOf s.PV), .map (some m12), .slice pp56 ((L16 ++ [it37]).length) cc57] 98 (0, 0)) :: (F.set i emp)) := wt_of (ov := ({ s with V := s.V ++ [x.v] } : LdS).ov) H67
            have H69 : St W w62 (blk g (.cells #[.bool true, .bool s.ov, .int .i64 s.op.v, .int .i64 (kOf s.PV), .map (some m12), .slice pp56 ((L16 ++ [it37]).length) cc57] 98 (0, 0)) :: MapA m12 (ents (kI .i64) evD E15) :: bdA E15 :: wtA 32 ({ s with V := s.V ++ [x.v] } : LdS).ov pp56 cc57 (L16 ++ [it37]) :: itsA (L16 ++ [it37]) :: blk bk2 (.cells #[.int .i64 x.op.v, .int .i64 x.inp.v, .int .i64 x.ep.v, .int .i64 x.kind.v, .slice x.p x.bs.length x.c, .int .i64 x.t.v] 32 (0, 0)) :: bndsA x.bs :: Im 6 (.slice x.p x.bs.length x.c) x.bs.length (x.bs.flatMap bndCell) :: blk bk44 (.cells #[.int .i64 it37.op.v, .int .i64 it37.inp.v, .int .i64 it37.ep.v, .int .i64 it37.kind.v, .slice it37.p it37.bs.length it37.c, .int .i64 it37.t.v] 32 (0, 0)) :: (F.set i emp)) := (((((H68.move 1 rfl).move 1 rfl).move 3 rfl).move 3 rfl).move 8 rfl)
            have H70 : St W w62 (LnA g ({ s with V := s.V ++ [x.v] } : LdS) :: blk bk2 (.cells #[.int .i64 x.op.v, .int .i64 x.inp.v, .int .i64 x.ep.v, .int .i64 x.kind.v, .slice x.p x.bs.length x.c, .int .i64 x.t.v] 32 (0, 0)) :: bndsA x.bs :: Im 6 (.slice x.p x.bs.length x.c) x.bs.length (x.bs.flatMap bndCell) :: blk bk44 (.cells #[.int .i64 it37.op.v, .int .i64 it37.inp.v, .int .i64 it37.ep.v, .int .i64 it37.kind.v, .slice it37.p it37.bs.length it37.c, .int .i64 it37.t.v] 32 (0, 0)) :: (F.set i emp)) := St.shut_ex (⟨m12, pp56, cc57, E15, (L16 ++ [it37]), hE17, (lv_snoc hL18 hy38)⟩ : LnX ({ s with V := s.V ++ [x.v] } : LdS)) (St.shut_star (ls := [blk g (.cells #[.bool true, .bool s.ov, .int .i64 s.op.v, .int .i64 (kOf s.PV), .map (some m12), .slice pp56 ((L16 ++ [it37]).length) cc57] 98 (0, 0)), MapA m12 (ents (kI .i64) evD E15), bdA E15, wtA 32 ({ s with V := s.V ++ [x.v] } : LdS).ov pp56 cc57 (L16 ++ [it37]), itsA (L16 ++ [it37])]) H69)
            have H71 : St W w62 (LnA g ({ s with V := s.V ++ [x.v] } : LdS) :: (F.set i emp)) := ((((H70.drop 1 rfl).drop 1 rfl).drop 1 rfl).drop 1 rfl)
            exact ⟨by rw [hE9]; rfl, by rw [arS_yes hE9]; exact St.back hi H71⟩
          · skip
            intro w72 H73
            try dsimp only at H73
            refine s_call [.agg #[.int .i64 x.op.v, .int .i64 x.inp.v, .int .i64 x.ep.v, .int .i64 x.kind.v, .slice x.p x.bs.length x.c, .int .i64 x.t.v]] pl_64 rfl rfl (migrate_own x hok (ip := 5) rfl (iq := 4) rfl H73) ?_
            rintro _ w76 ⟨it74, rfl, hy75, H77⟩
            have H78 : St W w76 (MapA m12 (ents (kI .i64) evD E15) :: bdA E15 :: itsA L16 :: blk bk2 (.cells #[.int .i64 x.op.v, .int .i64 x.inp.v, .int .i64 x.ep.v, .int .i64 x.kind.v, .slice x.p x.bs.length x.c, .int .i64 x.t.v] 32 (0, 0)) :: bndsA x.bs :: Im 6 (.slice x.p x.bs.length x.c) x.bs.length (x.bs.flatMap bndCell) :: Im 6 (.slice it74.p it74.bs.length it74.c) it74.bs.length (it74.bs.flatMap bndCell) :: bndsA it74.bs :: blk g (.cells #[.bool true, .bool s.ov, .int .i64 s.op.v, .int .i64 (kOf s.PV), .map (some m12), .slice pp13 L16.length cc14] 98 (0, 0)) :: Row 32 6 (.slice pp13 L16.length cc14) L16.length (L16.flatMap itCell) :: (F.set i emp)) := ((((((((((H77.move 9 rfl).move 9 rfl).move 3 rfl).move 3 rfl).move 9 rfl).move 9 rfl).move 9 rfl).move 9 rfl).move 9 rfl).move 9 rfl)
            refine ⟨Im 6 (.slice it74.p it74.bs.length it74.c) it74.bs.length (it74.bs.flatMap bndCell) :: bndsA it74.bs :: blk g (.cells #[.bool true, .bool s.ov, .int .i64 s.op.v, .int .i64 (kOf s.PV), .map (some m12), .slice pp13 L16.length cc14] 98 (0, 0)) :: Row 32 6 (.slice pp13 L16.length cc14) L16.length (L16.flatMap itCell) :: (F.set i emp), ?_, H78⟩
            change FReg _ _ _ _ _ #[true, true, true, true, false, true, true, false, false, false, false, false] _ _
            refine f_all (rs := [4, 7]) (by kernel_rfl) (by simp) ?_
            refine a_cons ⟨_, rfl, ?_⟩ (a_cons ⟨_, rfl, ?_⟩ (fun x hx => absurd hx (by simp)))
            · skip
              intro w79 H80
              try dsimp only at H80
              refine s_load (.slice pp13 L16.length cc14) ag_22 rfl (H80.blk_at (i := 8) rfl) rfl rfl ?_
              refine ⟨Im 6 (.slice it74.p it74.bs.length it74.c) it74.bs.length (it74.bs.flatMap bndCell) :: bndsA it74.bs :: blk g (.cells #[.bool true, .bool s.ov, .int .i64 s.op.v, .int .i64 (kOf s.PV), .map (some m12), .slice pp13 L16.length cc14] 98 (0, 0)) :: Row 32 6 (.slice pp13 L16.length cc14) L16.length (L16.flatMap itCell) :: (F.set i emp), ?_, H80⟩
              change FReg _ _ _ _ _ #[true, true, true, true, true, true, true, false, false, false, false, false] _ _
              refine f_all (rs := [7]) (by kernel_rfl) (by simp) ?_
              refine a_cons ⟨_, rfl, ?_⟩ (fun x hx => absurd hx (by simp))
              intro w81 H82
              try dsimp only at H82
              refine s_buildSlice H82 6 1 (cs := #[.int .i64 it74.op.v, .int .i64 it74.inp.v, .int .i64 it74.ep.v, .int .i64 it74.kind.v, .slice it74.p it74.bs.length it74.c, .int .i64 it74.t.v]) #[.int .i64 0, .int .i64 0, .int .i64 0, .int .i64 0, .slice none 0 0, .int .i64 0] el_22 ze_32 (by decide) (by decide) (by kernel_rfl) rfl ?_; intro bk83 w84 H85
              have H86 : St W w84 (blk bk83 (.cells #[.int .i64 it74.op.v, .int .i64 it74.inp.v, .int .i64 it74.ep.v, .int .i64 it74.kind.v, .slice it74.p it74.bs.length it74.c, .int .i64 it74.t.v] 32 (0, 0)) :: Im 6 (.slice it74.p it74.bs.length it74.c) it74.bs.length (it74.bs.flatMap bndCell) :: bndsA it74.bs :: blk g (.cells #[.bool true, .bool s.ov, .int .i64 s.op.v, .int .i64 (kOf s.PV), .map (some m12), .slice pp13 L16.length cc14] 98 (0, 0)) :: Row 32 6 (.slice pp13 L16.length cc14) L16.length (L16.flatMap itCell) :: MapA m12 (ents (kI .i64) evD E15) :: bdA E15 :: itsA L16 :: blk bk2 (.cells #[.int .i64 x.op.v, .int .i64 x.inp.v, .int .i64 x.ep.v, .int .i64 x.kind.v, .slice x.p x.bs.length x.c, .int .i64 x.t.v] 32 (0, 0)) :: bndsA x.bs :: Im 6 (.slice x.p x.bs.length x.c) x.bs.length (x.bs.flatMap bndCell) :: (F.set i emp)) := (((((H85.move 10 rfl).move 10 rfl).move 10 rfl).move 10 rfl).move 4 rfl)
              have H87 : St W w84 (bdA E15 :: itsA L16 :: blk bk2 (.cells #[.int .i64 x.op.v, .int .i64 x.inp.v, .int .i64 x.ep.v, .int .i64 x.kind.v, .slice x.p x.bs.length x.c, .int .i64 x.t.v] 32 (0, 0)) :: bndsA x.bs :: Im 6 (.slice x.p x.bs.length x.c) x.bs.length (x.bs.flatMap bndCell) :: blk bk83 (.cells #[.int .i64 it74.op.v, .int .i64 it74.inp.v, .int .i64 it74.ep.v, .int .i64 it74.kind.v, .slice it74.p it74.bs.length it74.c, .int .i64 it74.t.v] 32 (0, 0)) :: Im 6 (.slice it74.p it74.bs.length it74.c) it74.bs.length (it74.bs.flatMap bndCell) :: bndsA it74.bs :: blk g (.cells #[.bool true, .bool s.ov, .int .i64 s.op.v, .int .i64 (kOf s.PV), .map (some m12), .slice pp13 L16.length cc14] 98 (0, 0)) :: Row 32 6 (.slice pp13 L16.length cc14) L16.length (L16.flatMap itCell) :: MapA m12 (ents (kI .i64) evD E15) :: (F.set i emp)) := (((((H86.move 10 rfl).move 10 rfl).move 10 rfl).move 10 rfl).move 10 rfl)
              have H88 : St W w84 (MapA m12 (ents (kI .i64) evD E15) :: bdA E15 :: itsA L16 :: blk bk2 (.cells #[.int .i64 x.op.v, .int .i64 x.inp.v, .int .i64 x.ep.v, .int .i64 x.kind.v, .slice x.p x.bs.length x.c, .int .i64 x.t.v] 32 (0, 0)) :: bndsA x.bs :: Im 6 (.slice x.p x.bs.length x.c) x.bs.length (x.bs.flatMap bndCell) :: blk bk83 (.cells #[.int .i64 it74.op.v, .int .i64 it74.inp.v, .int .i64 it74.ep.v, .int .i64 it74.kind.v, .slice it74.p it74.bs.length it74.c, .int .i64 it74.t.v] 32 (0, 0)) :: Im 6 (.slice it74.p it74.bs.length it74.c) it74.bs.length (it74.bs.flatMap bndCell) :: bndsA it74.bs :: blk g (.cells #[.bool true, .bool s.ov, .int .i64 s.op.v, .int .i64 (kOf s.PV), .map (some m12), .slice pp13 L16.length cc14] 98 (0, 0)) :: Row 32 6 (.slice pp13 L16.length cc14) L16.length (L16.flatMap itCell) :: (F.set i emp)) := (H87.move 10 rfl)
              refine ⟨blk bk83 (.cells #[.int .i64 it74.op.v, .int .i64 it74.inp.v, .int .i64 it74.ep.v, .int .i64 it74.kind.v, .slice it74.p it74.bs.length it74.c, .int .i64 it74.t.v] 32 (0, 0)) :: Im 6 (.slice it74.p it74.bs.length it74.c) it74.bs.length (it74.bs.flatMap bndCell) :: bndsA it74.bs :: blk g (.cells #[.bool true, .bool s.ov, .int .i64 s.op.v, .int .i64 (kOf s.PV), .map (some m12), .slice pp13 L16.length cc14] 98 (0, 0)) :: Row 32 6 (.slice pp13 L16.length cc14) L16.length (L16.flatMap itCell) :: (F.set i emp), ?_, H88⟩
              change FReg _ _ _ _ _ #[true, true, true, true, true, true, true, true, false, false, false, false] _ _
              refine f_all (rs := [8]) (by kernel_rfl) (by simp) ?_
              refine a_cons ⟨_, rfl, ?_⟩ (fun x hx => absurd hx (by simp))
              intro w89 H90
              try dsimp only at H90
              refine s_append H90 10 rfl rfl rfl (rd_blk (H90.blk_at (i := 6) rfl) rfl (Nat.le_of_ble_eq_true rfl) (by simp [Value.oneCell'])) ap_22 (by decide) (by unfold maxLen; omega) (by omega) (n' := L16.length + 1) (xs' := L16.flatMap itCell ++ ([.int .i64 it74.op.v, .int .i64 it74.inp.v, .int .i64 it74.ep.v, .int .i64 it74.kind.v, .slice it74.p it74.bs.length it74.c, .int .i64 it74.t.v] : List Value)) (by omega) (by first | rfl | simp) rfl ?_; intro vv91 w92 H93 hn94
              obtain ⟨pp95, cc96, rfl⟩ := Row.slice H93 (i := 10) rfl
              refine ⟨blk bk83 (.cells #[.int .i64 it74.op.v, .int .i64 it74.inp.v, .int .i64 it74.ep.v, .int .i64 it74.kind.v, .slice it74.p it74.bs.length it74.c, .int .i64 it74.t.v] 32 (0, 0)) :: Im 6 (.slice it74.p it74.bs.length it74.c) it74.bs.length (it74.bs.flatMap bndCell) :: bndsA it74.bs :: blk g (.cells #[.bool true, .bool s.ov, .int .i64 s.op.v, .int .i64 (kOf s.PV), .map (some m12), .slice pp13 L16.length cc14] 98 (0, 0)) :: Row 32 6 (.slice pp95 (L16.length + 1) cc96) (L16.length + 1) (L16.flatMap itCell ++ ([.int .i64 it74.op.v, .int .i64 it74.inp.v, .int .i64 it74.ep.v, .int .i64 it74.kind.v, .slice it74.p it74.bs.length it74.c, .int .i64 it74.t.v] : List Value)) :: (F.set i emp), ?_, H93⟩
              change FReg _ _ _ _ _ #[true, true, true, true, true, true, true, true, true, false, false, false] _ _
              refine f_first 9 (listed' := #[true, true, true, true, true, true, true, true, true, true, false, false]) rfl (by kernel_rfl) (by kernel_rfl) (by kernel_rfl) rfl ?_
              refine f_val rfl rfl rfl (by intro t_ w hw; exact x_nilCheck (.pointer (some ⟨g, 0, none⟩)) rfl ⟨_, rfl⟩ w) ?_
              refine f_first 10 (listed' := #[true, true, true, true, true, true, true, true, true, true, true, false]) rfl (by kernel_rfl) (by kernel_rfl) (by kernel_rfl) rfl ?_
              refine f_val rfl rfl rfl (by intro t_ w hw; exact x_fieldAddr 98 5 5 5 22 rfl fi_98_5 rfl w) ?_
              refine f_all (rs := [11]) (by kernel_rfl) (by simp) ?_
              refine a_cons ⟨_, rfl, ?_⟩ (fun x hx => absurd hx (by simp))
              intro w97 H98
              try dsimp only at H98
              refine s_store H98 9 (.slice pp95 (L16.length + 1) cc96) rfl rfl rfl sz_22 rfl (Nat.le_of_ble_eq_true rfl) rfl (cs' := #[.bool true, .bool s.ov, .int .i64 s.op.v, .int .i64 (kOf s.PV), .map (some m12), .slice pp95 (L16.length + 1) cc96]) rfl ?_; intro w99 H100
              refine ⟨blk bk83 (.cells #[.int .i64 it74.op.v, .int .i64 it74.inp.v, .int .i64 it74.ep.v, .int .i64 it74.kind.v, .slice it74.p it74.bs.length it74.c, .int .i64 it74.t.v] 32 (0, 0)) :: Im 6 (.slice it74.p it74.bs.length it74.c) it74.bs.length (it74.bs.flatMap bndCell) :: bndsA it74.bs :: blk g (.cells #[.bool true, .bool s.ov, .int .i64 s.op.v, .int .i64 (kOf s.PV), .map (some m12), .slice pp95 (L16.length + 1) cc96] 98 (0, 0)) :: Row 32 6 (.slice pp95 (L16.length + 1) cc96) (L16.length + 1) (L16.flatMap itCell ++ ([.int .i64 it74.op.v, .int .i64 it74.inp.v, .int .i64 it74.ep.v, .int .i64 it74.kind.v, .slice it74.p it74.bs.length it74.c, .int .i64 it74.t.v] : List Value)) :: (F.set i emp), ?_, H100⟩
              change FReg _ _ _ _ _ #[true, true, true, true, true, true, true, true, true, true, true, true] _ _
              refine f_done (by kernel_rfl) ?_
              intro w101 H102
              refine g_seq ?_
              refine g_region ?_
              refine r_cons (s_assign (.int .i64 0) rfl rfl ?_)
              refine r_nil ?_
              refine g_ret' [.int .i64 0] Try.func21 Try.results21 ⟨rfl, trivial⟩ ?_
              have hE9 : arE s x = 0 := ar_5 hov (by assumption) (by omega) (by omega)
              have H103 : St W w101 (MapA m12 (ents (kI .i64) evD E15) :: bdA E15 :: itsA L16 :: blk bk2 (.cells #[.int .i64 x.op.v, .int .i64 x.inp.v, .int .i64 x.ep.v, .int .i64 x.kind.v, .slice x.p x.bs.length x.c, .int .i64 x.t.v] 32 (0, 0)) :: bndsA x.bs :: Im 6 (.slice x.p x.bs.length x.c) x.bs.length (x.bs.flatMap bndCell) :: blk bk83 (.cells #[.int .i64 it74.op.v, .int .i64 it74.inp.v, .int .i64 it74.ep.v, .int .i64 it74.kind.v, .slice it74.p it74.bs.length it74.c, .int .i64 it74.t.v] 32 (0, 0)) :: Im 6 (.slice it74.p it74.bs.length it74.c) it74.bs.length (it74.bs.flatMap bndCell) :: bndsA it74.bs :: blk g (.cells #[.bool true, .bool s.ov, .int .i64 s.op.v, .int .i64 (kOf s.PV), .map (some m12), .slice pp95 ((L16 ++ [it74]).length) cc96] 98 (0, 0)) :: Row 32 6 (.slice pp95 ((L16 ++ [it74]).length) cc96) ((L16 ++ [it74]).length) ((L16 ++ [it74]).flatMap itCell) :: (F.set i emp)) := by rw [List.flatMap_append, List.length_append]; exact H102
              have H104 : St W w101 (Im 6 (.slice it74.p it74.bs.length it74.c) it74.bs.length (it74.bs.flatMap bndCell) :: bndsA it74.bs :: itsA L16 :: MapA m12 (ents (kI .i64) evD E15) :: bdA E15 :: blk bk2 (.cells #[.int .i64 x.op.v, .int .i64 x.inp.v, .int .i64 x.ep.v, .int .i64 x.kind.v, .slice x.p x.bs.length x.c, .int .i64 x.t.v] 32 (0, 0)) :: bndsA x.bs :: Im 6 (.slice x.p x.bs.length x.c) x.bs.length (x.bs.flatMap bndCell) :: blk bk83 (.cells #[.int .i64 it74.op.v, .int .i64 it74.inp.v, .int .i64 it74.ep.v, .int .i64 it74.kind.v, .slice it74.p it74.bs.length it74.c, .int .i64 it74.t.v] 32 (0, 0)) :: blk g (.cells #[.bool true, .bool s.ov, .int .i64 s.op.v, .int .i64 (kOf s.PV), .map (some m12), .slice pp95 ((L16 ++ [it74]).length) cc96] 98 (0, 0)) :: Row 32 6 (.slice pp95 ((L16 ++ [it74]).length) cc96) ((L16 ++ [it74]).length) ((L16 ++ [it74]).flatMap itCell) :: (F.set i emp)) := (((H103.move 2 rfl).move 8 rfl).move 8 rfl)
              have H105 : St W w101 (itsA (L16 ++ [it74]) :: MapA m12 (ents (kI .i64) evD E15) :: bdA E15 :: blk bk2 (.cells #[.int .i64 x.op.v, .int .i64 x.inp.v, .int .i64 x.ep.v, .int .i64 x.kind.v, .slice x.p x.bs.length x.c, .int .i64 x.t.v] 32 (0, 0)) :: bndsA x.bs :: Im 6 (.slice x.p x.bs.length x.c) x.bs.length (x.bs.flatMap bndCell) :: blk bk83 (.cells #[.int .i64 it74.op.v, .int .i64 it74.inp.v, .int .i64 it74.ep.v, .int .i64 it74.kind.v, .slice it74.p it74.bs.length it74.c, .int .i64 it74.t.v] 32 (0, 0)) :: blk g (.cells #[.bool true, .bool s.ov, .int .i64 s.op.v, .int .i64 (kOf s.PV), .map (some m12), .slice pp95 ((L16 ++ [it74]).length) cc96] 98 (0, 0)) :: Row 32 6 (.slice pp95 ((L16 ++ [it74]).length) cc96) ((L16 ++ [it74]).length) ((L16 ++ [it74]).flatMap itCell) :: (F.set i emp)) := itsA_snoc (x := it74) H104
              have H106 : St W w101 (Row 32 6 (.slice pp95 ((L16 ++ [it74]).length) cc96) ((L16 ++ [it74]).length) ((L16 ++ [it74]).flatMap itCell) :: itsA (L16 ++ [it74]) :: MapA m12 (ents (kI .i64) evD E15) :: bdA E15 :: blk bk2 (.cells #[.int .i64 x.op.v, .int .i64 x.inp.v, .int .i64 x.ep.v, .int .i64 x.kind.v, .slice x.p x.bs.length x.c, .int .i64 x.t.v] 32 (0, 0)) :: bndsA x.bs :: Im 6 (.slice x.p x.bs.length x.c) x.bs.length (x.bs.flatMap bndCell) :: blk bk83 (.cells #[.int .i64 it74.op.v, .int .i64 it74.inp.v, .int .i64 it74.ep.v, .int .i64 it74.kind.v, .slice it74.p it74.bs.length it74.c, .int .i64 it74.t.v] 32 (0, 0)) :: blk g (.cells #[.bool true, .bool s.ov, .int .i64 s.op.v, .int .i64 (kOf s.PV), .map (some m12), .slice pp95 ((L16 ++ [it74]).length) cc96] 98 (0, 0)) :: (F.set i emp)) := (H105.move 8 rfl)
              have H107 : St W w101 (wtA 32 ({ s with V := s.V ++ [x.v] } : LdS).ov pp95 cc96 (L16 ++ [it74]) :: itsA (L16 ++ [it74]) :: MapA m12 (ents (kI .i64) evD E15) :: bdA E15 :: blk bk2 (.cells #[.int .i64 x.op.v, .int .i64 x.inp.v, .int .i64 x.ep.v, .int .i64 x.kind.v, .slice x.p x.bs.length x.c, .int .i64 x.t.v] 32 (0, 0)) :: bndsA x.bs :: Im 6 (.slice x.p x.bs.length x.c) x.bs.length (x.bs.flatMap bndCell) :: blk bk83 (.cells #[.int .i64 it74.op.v, .int .i64 it74.inp.v, .int .i64 it74.ep.v, .int .i64 it74.kind.v, .slice it74.p it74.bs.length it74.c, .int .i64 it74.t.v] 32 (0, 0)) :: blk g (.cells #[.bool true, .bool s.ov, .int .i64 s.op.v, .int .i64 (kOf s.PV), .map (some m12), .slice pp95 ((L16 ++ [it74]).length) cc96] 98 (0, 0)) :: (F.set i emp)) := wt_of (ov := ({ s with V := s.V ++ [x.v] } : LdS).ov) H106
              have H108 : St W w101 (blk g (.cells #[.bool true, .bool s.ov, .int .i64 s.op.v, .int .i64 (kOf s.PV), .map (some m12), .slice pp95 ((L16 ++ [it74]).length) cc96] 98 (0, 0)) :: MapA m12 (ents (kI .i64) evD E15) :: bdA E15 :: wtA 32 ({ s with V := s.V ++ [x.v] } : LdS).ov pp95 cc96 (L16 ++ [it74]) :: itsA (L16 ++ [it74]) :: blk bk2 (.cells #[.int .i64 x.op.v, .int .i64 x.inp.v, .int .i64 x.ep.v, .int .i64 x.kind.v, .slice x.p x.bs.length x.c, .int .i64 x.t.v] 32 (0, 0)) :: bndsA x.bs :: Im 6 (.slice x.p x.bs.length x.c) x.bs.length (x.bs.flatMap bndCell) :: blk bk83 (.cells #[.int .i64 it74.op.v, .int .i64 it74.inp.v, .int .i64 it74.ep.v, .int .i64 it74.kind.v, .slice it74.p it74.bs.length it74.c, .int .i64 it74.t.v] 32 (0, 0)) :: (F.set i emp)) := (((((H107.move 1 rfl).move 1 rfl).move 3 rfl).move 3 rfl).move 8 rfl)
              have H109 : St W w101 (LnA g ({ s with V := s.V ++ [x.v] } : LdS) :: blk bk2 (.cells #[.int .i64 x.op.v, .int .i64 x.inp.v, .int .i64 x.ep.v, .int .i64 x.kind.v, .slice x.p x.bs.length x.c, .int .i64 x.t.v] 32 (0, 0)) :: bndsA x.bs :: Im 6 (.slice x.p x.bs.length x.c) x.bs.length (x.bs.flatMap bndCell) :: blk bk83 (.cells #[.int .i64 it74.op.v, .int .i64 it74.inp.v, .int .i64 it74.ep.v, .int .i64 it74.kind.v, .slice it74.p it74.bs.length it74.c, .int .i64 it74.t.v] 32 (0, 0)) :: (F.set i emp)) := St.shut_ex (⟨m12, pp95, cc96, E15, (L16 ++ [it74]), hE17, (lv_snoc hL18 hy75)⟩ : LnX ({ s with V := s.V ++ [x.v] } : LdS)) (St.shut_star (ls := [blk g (.cells #[.bool true, .bool s.ov, .int .i64 s.op.v, .int .i64 (kOf s.PV), .map (some m12), .slice pp95 ((L16 ++ [it74]).length) cc96] 98 (0, 0)), MapA m12 (ents (kI .i64) evD E15), bdA E15, wtA 32 ({ s with V := s.V ++ [x.v] } : LdS).ov pp95 cc96 (L16 ++ [it74]), itsA (L16 ++ [it74])]) H108)
              have H110 : St W w101 (LnA g ({ s with V := s.V ++ [x.v] } : LdS) :: (F.set i emp)) := ((((H109.drop 1 rfl).drop 1 rfl).drop 1 rfl).drop 1 rfl)
              exact ⟨by rw [hE9]; rfl, by rw [arS_yes hE9]; exact St.back hi H110⟩
            · skip
              intro w111 H112
              try dsimp only at H112
              refine s_buildSlice H112 6 1 (cs := #[.int .i64 it74.op.v, .int .i64 it74.inp.v, .int .i64 it74.ep.v, .int .i64 it74.kind.v, .slice it74.p it74.bs.length it74.c, .int .i64 it74.t.v]) #[.int .i64 0, .int .i64 0, .int .i64 0, .int .i64 0, .slice none 0 0, .int .i64 0] el_22 ze_32 (by decide) (by decide) (by kernel_rfl) rfl ?_; intro bk113 w114 H115
              have H116 : St W w114 (blk bk113 (.cells #[.int .i64 it74.op.v, .int .i64 it74.inp.v, .int .i64 it74.ep.v, .int .i64 it74.kind.v, .slice it74.p it74.bs.length it74.c, .int .i64 it74.t.v] 32 (0, 0)) :: Im 6 (.slice it74.p it74.bs.length it74.c) it74.bs.length (it74.bs.flatMap bndCell) :: bndsA it74.bs :: blk g (.cells #[.bool true, .bool s.ov, .int .i64 s.op.v, .int .i64 (kOf s.PV), .map (some m12), .slice pp13 L16.length cc14] 98 (0, 0)) :: Row 32 6 (.slice pp13 L16.length cc14) L16.length (L16.flatMap itCell) :: MapA m12 (ents (kI .i64) evD E15) :: bdA E15 :: itsA L16 :: blk bk2 (.cells #[.int .i64 x.op.v, .int .i64 x.inp.v, .int .i64 x.ep.v, .int .i64 x.kind.v, .slice x.p x.bs.length x.c, .int .i64 x.t.v] 32 (0, 0)) :: bndsA x.bs :: Im 6 (.slice x.p x.bs.length x.c) x.bs.length (x.bs.flatMap bndCell) :: (F.set i emp)) := (((((H115.move 10 rfl).move 10 rfl).move 10 rfl).move 10 rfl).move 4 rfl)
              have H117 : St W w114 (bdA E15 :: itsA L16 :: blk bk2 (.cells #[.int .i64 x.op.v, .int .i64 x.inp.v, .int .i64 x.ep.v, .int .i64 x.kind.v, .slice x.p x.bs.length x.c, .int .i64 x.t.v] 32 (0, 0)) :: bndsA x.bs :: Im 6 (.slice x.p x.bs.length x.c) x.bs.length (x.bs.flatMap bndCell) :: blk bk113 (.cells #[.int .i64 it74.op.v, .int .i64 it74.inp.v, .int .i64 it74.ep.v, .int .i64 it74.kind.v, .slice it74.p it74.bs.length it74.c, .int .i64 it74.t.v] 32 (0, 0)) :: Im 6 (.slice it74.p it74.bs.length it74.c) it74.bs.length (it74.bs.flatMap bndCell) :: bndsA it74.bs :: blk g (.cells #[.bool true, .bool s.ov, .int .i64 s.op.v, .int .i64 (kOf s.PV), .map (some m12), .slice pp13 L16.length cc14] 98 (0, 0)) :: Row 32 6 (.slice pp13 L16.length cc14) L16.length (L16.flatMap itCell) :: MapA m12 (ents (kI .i64) evD E15) :: (F.set i emp)) := (((((H116.move 10 rfl).move 10 rfl).move 10 rfl).move 10 rfl).move 10 rfl)
              have H118 : St W w114 (MapA m12 (ents (kI .i64) evD E15) :: bdA E15 :: itsA L16 :: blk bk2 (.cells #[.int .i64 x.op.v, .int .i64 x.inp.v, .int .i64 x.ep.v, .int .i64 x.kind.v, .slice x.p x.bs.length x.c, .int .i64 x.t.v] 32 (0, 0)) :: bndsA x.bs :: Im 6 (.slice x.p x.bs.length x.c) x.bs.length (x.bs.flatMap bndCell) :: blk bk113 (.cells #[.int .i64 it74.op.v, .int .i64 it74.inp.v, .int .i64 it74.ep.v, .int .i64 it74.kind.v, .slice it74.p it74.bs.length it74.c, .int .i64 it74.t.v] 32 (0, 0)) :: Im 6 (.slice it74.p it74.bs.length it74.c) it74.bs.length (it74.bs.flatMap bndCell) :: bndsA it74.bs :: blk g (.cells #[.bool true, .bool s.ov, .int .i64 s.op.v, .int .i64 (kOf s.PV), .map (some m12), .slice pp13 L16.length cc14] 98 (0, 0)) :: Row 32 6 (.slice pp13 L16.length cc14) L16.length (L16.flatMap itCell) :: (F.set i emp)) := (H117.move 10 rfl)
              refine ⟨blk bk113 (.cells #[.int .i64 it74.op.v, .int .i64 it74.inp.v, .int .i64 it74.ep.v, .int .i64 it74.kind.v, .slice it74.p it74.bs.length it74.c, .int .i64 it74.t.v] 32 (0, 0)) :: Im 6 (.slice it74.p it74.bs.length it74.c) it74.bs.length (it74.bs.flatMap bndCell) :: bndsA it74.bs :: blk g (.cells #[.bool true, .bool s.ov, .int .i64 s.op.v, .int .i64 (kOf s.PV), .map (some m12), .slice pp13 L16.length cc14] 98 (0, 0)) :: Row 32 6 (.slice pp13 L16.length cc14) L16.length (L16.flatMap itCell) :: (F.set i emp), ?_, H118⟩
              change FReg _ _ _ _ _ #[true, true, true, true, false, true, true, true, false, false, false, false] _ _
              refine f_all (rs := [4]) (by kernel_rfl) (by simp) ?_
              refine a_cons ⟨_, rfl, ?_⟩ (fun x hx => absurd hx (by simp))
              intro w119 H120
              try dsimp only at H120
              refine s_load (.slice pp13 L16.length cc14) ag_22 rfl (H120.blk_at (i := 9) rfl) rfl rfl ?_
              refine ⟨blk bk113 (.cells #[.int .i64 it74.op.v, .int .i64 it74.inp.v, .int .i64 it74.ep.v, .int .i64 it74.kind.v, .slice it74.p it74.bs.length it74.c, .int .i64 it74.t.v] 32 (0, 0)) :: Im 6 (.slice it74.p it74.bs.length it74.c) it74.bs.length (it74.bs.flatMap bndCell) :: bndsA it74.bs :: blk g (.cells #[.bool true, .bool s.ov, .int .i64 s.op.v, .int .i64 (kOf s.PV), .map (some m12), .slice pp13 L16.length cc14] 98 (0, 0)) :: Row 32 6 (.slice pp13 L16.length cc14) L16.length (L16.flatMap itCell) :: (F.set i emp), ?_, H120⟩
              change FReg _ _ _ _ _ #[true, true, true, true, true, true, true, true, false, false, false, false] _ _
              refine f_all (rs := [8]) (by kernel_rfl) (by simp) ?_
              refine a_cons ⟨_, rfl, ?_⟩ (fun x hx => absurd hx (by simp))
              intro w121 H122
              try dsimp only at H122
              refine s_append H122 10 rfl rfl rfl (rd_blk (H122.blk_at (i := 6) rfl) rfl (Nat.le_of_ble_eq_true rfl) (by simp [Value.oneCell'])) ap_22 (by decide) (by unfold maxLen; omega) (by omega) (n' := L16.length + 1) (xs' := L16.flatMap itCell ++ ([.int .i64 it74.op.v, .int .i64 it74.inp.v, .int .i64 it74.ep.v, .int .i64 it74.kind.v, .slice it74.p it74.bs.length it74.c, .int .i64 it74.t.v] : List Value)) (by omega) (by first | rfl | simp) rfl ?_; intro vv123 w124 H125 hn126
              obtain ⟨pp127, cc128, rfl⟩ := Row.slice H125 (i := 10) rfl
              refine ⟨blk bk113 (.cells #[.int .i64 it74.op.v, .int .i64 it74.inp.v, .int .i64 it74.ep.v, .int .i64 it74.kind.v, .slice it74.p it74.bs.length it74.c, .int .i64 it74.t.v] 32 (0, 0)) :: Im 6 (.slice it74.p it74.bs.length it74.c) it74.bs.length (it74.bs.flatMap bndCell) :: bndsA it74.bs :: blk g (.cells #[.bool true, .bool s.ov, .int .i64 s.op.v, .int .i64 (kOf s.PV), .map (some m12), .slice pp13 L16.length cc14] 98 (0, 0)) :: Row 32 6 (.slice pp127 (L16.length + 1) cc128) (L16.length + 1) (L16.flatMap itCell ++ ([.int .i64 it74.op.v, .int .i64 it74.inp.v, .int .i64 it74.ep.v, .int .i64 it74.kind.v, .slice it74.p it74.bs.length it74.c, .int .i64 it74.t.v] : List Value)) :: (F.set i emp), ?_, H125⟩
              change FReg _ _ _ _ _ #[true, true, true, true, true, true, true, true, true, false, false, false] _ _
              refine f_first 9 (listed' := #[true, true, true, true, true, true, true, true, true, true, false, false]) rfl (by kernel_rfl) (by kernel_rfl) (by kernel_rfl) rfl ?_
              refine f_val rfl rfl rfl (by intro t_ w hw; exact x_nilCheck (.pointer (some ⟨g, 0, none⟩)) rfl ⟨_, rfl⟩ w) ?_
              refine f_first 10 (listed' := #[true, true, true, true, true, true, true, true, true, true, true, false]) rfl (by kernel_rfl) (by kernel_rfl) (by kernel_rfl) rfl ?_
              refine f_val rfl rfl rfl (by intro t_ w hw; exact x_fieldAddr 98 5 5 5 22 rfl fi_98_5 rfl w) ?_
              refine f_all (rs := [11]) (by kernel_rfl) (by simp) ?_
              refine a_cons ⟨_, rfl, ?_⟩ (fun x hx => absurd hx (by simp))
              intro w129 H130
              try dsimp only at H130
              refine s_store H130 9 (.slice pp127 (L16.length + 1) cc128) rfl rfl rfl sz_22 rfl (Nat.le_of_ble_eq_true rfl) rfl (cs' := #[.bool true, .bool s.ov, .int .i64 s.op.v, .int .i64 (kOf s.PV), .map (some m12), .slice pp127 (L16.length + 1) cc128]) rfl ?_; intro w131 H132
              refine ⟨blk bk113 (.cells #[.int .i64 it74.op.v, .int .i64 it74.inp.v, .int .i64 it74.ep.v, .int .i64 it74.kind.v, .slice it74.p it74.bs.length it74.c, .int .i64 it74.t.v] 32 (0, 0)) :: Im 6 (.slice it74.p it74.bs.length it74.c) it74.bs.length (it74.bs.flatMap bndCell) :: bndsA it74.bs :: blk g (.cells #[.bool true, .bool s.ov, .int .i64 s.op.v, .int .i64 (kOf s.PV), .map (some m12), .slice pp127 (L16.length + 1) cc128] 98 (0, 0)) :: Row 32 6 (.slice pp127 (L16.length + 1) cc128) (L16.length + 1) (L16.flatMap itCell ++ ([.int .i64 it74.op.v, .int .i64 it74.inp.v, .int .i64 it74.ep.v, .int .i64 it74.kind.v, .slice it74.p it74.bs.length it74.c, .int .i64 it74.t.v] : List Value)) :: (F.set i emp), ?_, H132⟩
              change FReg _ _ _ _ _ #[true, true, true, true, true, true, true, true, true, true, true, true] _ _
              refine f_done (by kernel_rfl) ?_
              intro w133 H134
              refine g_seq ?_
              refine g_region ?_
              refine r_cons (s_assign (.int .i64 0) rfl rfl ?_)
              refine r_nil ?_
              refine g_ret' [.int .i64 0] Try.func21 Try.results21 ⟨rfl, trivial⟩ ?_
              have hE9 : arE s x = 0 := ar_5 hov (by assumption) (by omega) (by omega)
              have H135 : St W w133 (MapA m12 (ents (kI .i64) evD E15) :: bdA E15 :: itsA L16 :: blk bk2 (.cells #[.int .i64 x.op.v, .int .i64 x.inp.v, .int .i64 x.ep.v, .int .i64 x.kind.v, .slice x.p x.bs.length x.c, .int .i64 x.t.v] 32 (0, 0)) :: bndsA x.bs :: Im 6 (.slice x.p x.bs.length x.c) x.bs.length (x.bs.flatMap bndCell) :: blk bk113 (.cells #[.int .i64 it74.op.v, .int .i64 it74.inp.v, .int .i64 it74.ep.v, .int .i64 it74.kind.v, .slice it74.p it74.bs.length it74.c, .int .i64 it74.t.v] 32 (0, 0)) :: Im 6 (.slice it74.p it74.bs.length it74.c) it74.bs.length (it74.bs.flatMap bndCell) :: bndsA it74.bs :: blk g (.cells #[.bool true, .bool s.ov, .int .i64 s.op.v, .int .i64 (kOf s.PV), .map (some m12), .slice pp127 ((L16 ++ [it74]).length) cc128] 98 (0, 0)) :: Row 32 6 (.slice pp127 ((L16 ++ [it74]).length) cc128) ((L16 ++ [it74]).length) ((L16 ++ [it74]).flatMap itCell) :: (F.set i emp)) := by rw [List.flatMap_append, List.length_append]; exact H134
              have H136 : St W w133 (Im 6 (.slice it74.p it74.bs.length it74.c) it74.bs.length (it74.bs.flatMap bndCell) :: bndsA it74.bs :: itsA L16 :: MapA m12 (ents (kI .i64) evD E15) :: bdA E15 :: blk bk2 (.cells #[.int .i64 x.op.v, .int .i64 x.inp.v, .int .i64 x.ep.v, .int .i64 x.kind.v, .slice x.p x.bs.length x.c, .int .i64 x.t.v] 32 (0, 0)) :: bndsA x.bs :: Im 6 (.slice x.p x.bs.length x.c) x.bs.length (x.bs.flatMap bndCell) :: blk bk113 (.cells #[.int .i64 it74.op.v, .int .i64 it74.inp.v, .int .i64 it74.ep.v, .int .i64 it74.kind.v, .slice it74.p it74.bs.length it74.c, .int .i64 it74.t.v] 32 (0, 0)) :: blk g (.cells #[.bool true, .bool s.ov, .int .i64 s.op.v, .int .i64 (kOf s.PV), .map (some m12), .slice pp127 ((L16 ++ [it74]).length) cc128] 98 (0, 0)) :: Row 32 6 (.slice pp127 ((L16 ++ [it74]).length) cc128) ((L16 ++ [it74]).length) ((L16 ++ [it74]).flatMap itCell) :: (F.set i emp)) := (((H135.move 2 rfl).move 8 rfl).move 8 rfl)
              have H137 : St W w133 (itsA (L16 ++ [it74]) :: MapA m12 (ents (kI .i64) evD E15) :: bdA E15 :: blk bk2 (.cells #[.int .i64 x.op.v, .int .i64 x.inp.v, .int .i64 x.ep.v, .int .i64 x.kind.v, .slice x.p x.bs.length x.c, .int .i64 x.t.v] 32 (0, 0)) :: bndsA x.bs :: Im 6 (.slice x.p x.bs.length x.c) x.bs.length (x.bs.flatMap bndCell) :: blk bk113 (.cells #[.int .i64 it74.op.v, .int .i64 it74.inp.v, .int .i64 it74.ep.v, .int .i64 it74.kind.v, .slice it74.p it74.bs.length it74.c, .int .i64 it74.t.v] 32 (0, 0)) :: blk g (.cells #[.bool true, .bool s.ov, .int .i64 s.op.v, .int .i64 (kOf s.PV), .map (some m12), .slice pp127 ((L16 ++ [it74]).length) cc128] 98 (0, 0)) :: Row 32 6 (.slice pp127 ((L16 ++ [it74]).length) cc128) ((L16 ++ [it74]).length) ((L16 ++ [it74]).flatMap itCell) :: (F.set i emp)) := itsA_snoc (x := it74) H136
              have H138 : St W w133 (Row 32 6 (.slice pp127 ((L16 ++ [it74]).length) cc128) ((L16 ++ [it74]).length) ((L16 ++ [it74]).flatMap itCell) :: itsA (L16 ++ [it74]) :: MapA m12 (ents (kI .i64) evD E15) :: bdA E15 :: blk bk2 (.cells #[.int .i64 x.op.v, .int .i64 x.inp.v, .int .i64 x.ep.v, .int .i64 x.kind.v, .slice x.p x.bs.length x.c, .int .i64 x.t.v] 32 (0, 0)) :: bndsA x.bs :: Im 6 (.slice x.p x.bs.length x.c) x.bs.length (x.bs.flatMap bndCell) :: blk bk113 (.cells #[.int .i64 it74.op.v, .int .i64 it74.inp.v, .int .i64 it74.ep.v, .int .i64 it74.kind.v, .slice it74.p it74.bs.length it74.c, .int .i64 it74.t.v] 32 (0, 0)) :: blk g (.cells #[.bool true, .bool s.ov, .int .i64 s.op.v, .int .i64 (kOf s.PV), .map (some m12), .slice pp127 ((L16 ++ [it74]).length) cc128] 98 (0, 0)) :: (F.set i emp)) := (H137.move 8 rfl)
              have H139 : St W w133 (wtA 32 ({ s with V := s.V ++ [x.v] } : LdS).ov pp127 cc128 (L16 ++ [it74]) :: itsA (L16 ++ [it74]) :: MapA m12 (ents (kI .i64) evD E15) :: bdA E15 :: blk bk2 (.cells #[.int .i64 x.op.v, .int .i64 x.inp.v, .int .i64 x.ep.v, .int .i64 x.kind.v, .slice x.p x.bs.length x.c, .int .i64 x.t.v] 32 (0, 0)) :: bndsA x.bs :: Im 6 (.slice x.p x.bs.length x.c) x.bs.length (x.bs.flatMap bndCell) :: blk bk113 (.cells #[.int .i64 it74.op.v, .int .i64 it74.inp.v, .int .i64 it74.ep.v, .int .i64 it74.kind.v, .slice it74.p it74.bs.length it74.c, .int .i64 it74.t.v] 32 (0, 0)) :: blk g (.cells #[.bool true, .bool s.ov, .int .i64 s.op.v, .int .i64 (kOf s.PV), .map (some m12), .slice pp127 ((L16 ++ [it74]).length) cc128] 98 (0, 0)) :: (F.set i emp)) := wt_of (ov := ({ s with V := s.V ++ [x.v] } : LdS).ov) H138
              have H140 : St W w133 (blk g (.cells #[.bool true, .bool s.ov, .int .i64 s.op.v, .int .i64 (kOf s.PV), .map (some m12), .slice pp127 ((L16 ++ [it74]).length) cc128] 98 (0, 0)) :: MapA m12 (ents (kI .i64) evD E15) :: bdA E15 :: wtA 32 ({ s with V := s.V ++ [x.v] } : LdS).ov pp127 cc128 (L16 ++ [it74]) :: itsA (L16 ++ [it74]) :: blk bk2 (.cells #[.int .i64 x.op.v, .int .i64 x.inp.v, .int .i64 x.ep.v, .int .i64 x.kind.v, .slice x.p x.bs.length x.c, .int .i64 x.t.v] 32 (0, 0)) :: bndsA x.bs :: Im 6 (.slice x.p x.bs.length x.c) x.bs.length (x.bs.flatMap bndCell) :: blk bk113 (.cells #[.int .i64 it74.op.v, .int .i64 it74.inp.v, .int .i64 it74.ep.v, .int .i64 it74.kind.v, .slice it74.p it74.bs.length it74.c, .int .i64 it74.t.v] 32 (0, 0)) :: (F.set i emp)) := (((((H139.move 1 rfl).move 1 rfl).move 3 rfl).move 3 rfl).move 8 rfl)
              have H141 : St W w133 (LnA g ({ s with V := s.V ++ [x.v] } : LdS) :: blk bk2 (.cells #[.int .i64 x.op.v, .int .i64 x.inp.v, .int .i64 x.ep.v, .int .i64 x.kind.v, .slice x.p x.bs.length x.c, .int .i64 x.t.v] 32 (0, 0)) :: bndsA x.bs :: Im 6 (.slice x.p x.bs.length x.c) x.bs.length (x.bs.flatMap bndCell) :: blk bk113 (.cells #[.int .i64 it74.op.v, .int .i64 it74.inp.v, .int .i64 it74.ep.v, .int .i64 it74.kind.v, .slice it74.p it74.bs.length it74.c, .int .i64 it74.t.v] 32 (0, 0)) :: (F.set i emp)) := St.shut_ex (⟨m12, pp127, cc128, E15, (L16 ++ [it74]), hE17, (lv_snoc hL18 hy75)⟩ : LnX ({ s with V := s.V ++ [x.v] } : LdS)) (St.shut_star (ls := [blk g (.cells #[.bool true, .bool s.ov, .int .i64 s.op.v, .int .i64 (kOf s.PV), .map (some m12), .slice pp127 ((L16 ++ [it74]).length) cc128] 98 (0, 0)), MapA m12 (ents (kI .i64) evD E15), bdA E15, wtA 32 ({ s with V := s.V ++ [x.v] } : LdS).ov pp127 cc128 (L16 ++ [it74]), itsA (L16 ++ [it74])]) H140)
              have H142 : St W w133 (LnA g ({ s with V := s.V ++ [x.v] } : LdS) :: (F.set i emp)) := ((((H141.drop 1 rfl).drop 1 rfl).drop 1 rfl).drop 1 rfl)
              exact ⟨by rw [hE9]; rfl, by rw [arS_yes hE9]; exact St.back hi H142⟩
      · skip
        refine q_cons (q_val rfl rfl rfl (by intro w hw; exact x_neq true rfl rfl (nfalse hc23) w) ?_)
        refine q_nil ?_
        intro w143 H144
        refine g_true rfl ?_
        refine g_seq ?_
        refine g_region ?_
        refine r_cons (s_assign (.int .i64 243) rfl rfl ?_)
        refine r_nil ?_
        refine g_ret' [.int .i64 243] Try.func21 Try.results21 ⟨rfl, trivial⟩ ?_
        have H145 : St W w143 (Row 32 6 (.slice pp13 L16.length cc14) L16.length (L16.flatMap itCell) :: blk g (.cells #[.bool true, .bool s.ov, .int .i64 s.op.v, .int .i64 (kOf s.PV), .map (some m12), .slice pp13 L16.length cc14] 98 (0, 0)) :: MapA m12 (ents (kI .i64) evD E15) :: bdA E15 :: itsA L16 :: blk bk2 (.cells #[.int .i64 x.op.v, .int .i64 x.inp.v, .int .i64 x.ep.v, .int .i64 x.kind.v, .slice x.p x.bs.length x.c, .int .i64 x.t.v] 32 (0, 0)) :: bndsA x.bs :: Im 6 (.slice x.p x.bs.length x.c) x.bs.length (x.bs.flatMap bndCell) :: (F.set i emp)) := (H144.move 3 rfl)
        have H146 : St W w143 (wtA 32 s.ov pp13 cc14 L16 :: blk g (.cells #[.bool true, .bool s.ov, .int .i64 s.op.v, .int .i64 (kOf s.PV), .map (some m12), .slice pp13 L16.length cc14] 98 (0, 0)) :: MapA m12 (ents (kI .i64) evD E15) :: bdA E15 :: itsA L16 :: blk bk2 (.cells #[.int .i64 x.op.v, .int .i64 x.inp.v, .int .i64 x.ep.v, .int .i64 x.kind.v, .slice x.p x.bs.length x.c, .int .i64 x.t.v] 32 (0, 0)) :: bndsA x.bs :: Im 6 (.slice x.p x.bs.length x.c) x.bs.length (x.bs.flatMap bndCell) :: (F.set i emp)) := wt_of (ov := s.ov) H145
        have H147 : St W w143 (blk g (.cells #[.bool true, .bool s.ov, .int .i64 s.op.v, .int .i64 (kOf s.PV), .map (some m12), .slice pp13 L16.length cc14] 98 (0, 0)) :: MapA m12 (ents (kI .i64) evD E15) :: bdA E15 :: wtA 32 s.ov pp13 cc14 L16 :: itsA L16 :: blk bk2 (.cells #[.int .i64 x.op.v, .int .i64 x.inp.v, .int .i64 x.ep.v, .int .i64 x.kind.v, .slice x.p x.bs.length x.c, .int .i64 x.t.v] 32 (0, 0)) :: bndsA x.bs :: Im 6 (.slice x.p x.bs.length x.c) x.bs.length (x.bs.flatMap bndCell) :: (F.set i emp)) := (((((H146.move 4 rfl).move 1 rfl).move 4 rfl).move 4 rfl).move 4 rfl)
        have H148 : St W w143 (LnA g s :: blk bk2 (.cells #[.int .i64 x.op.v, .int .i64 x.inp.v, .int .i64 x.ep.v, .int .i64 x.kind.v, .slice x.p x.bs.length x.c, .int .i64 x.t.v] 32 (0, 0)) :: bndsA x.bs :: Im 6 (.slice x.p x.bs.length x.c) x.bs.length (x.bs.flatMap bndCell) :: (F.set i emp)) := St.shut_ex (⟨m12, pp13, cc14, E15, L16, hE17, hL18⟩ : LnX s) (St.shut_star (ls := [blk g (.cells #[.bool true, .bool s.ov, .int .i64 s.op.v, .int .i64 (kOf s.PV), .map (some m12), .slice pp13 L16.length cc14] 98 (0, 0)), MapA m12 (ents (kI .i64) evD E15), bdA E15, wtA 32 s.ov pp13 cc14 L16, itsA L16]) H147)
        have H149 : St W w143 (LnA g s :: (F.set i emp)) := (((H148.drop 1 rfl).drop 1 rfl).drop 1 rfl)
        have hov : s.ov = false := opE_f hc7
        have hE9 : arE s x = 243 := by first | exact ar_2 hov (by assumption) | exact ar_3 hov (by assumption) (by assumption) | exact ar_4 hov (by assumption) (by omega) (by omega)
        have hE0 : ¬ arE s x = 0 := by rw [hE9]; first | assumption | decide
        exact ⟨by rw [hE9]; rfl, by rw [arS_no hE0]; exact St.back hi H149⟩
    · skip
      refine r_cons (s_neq true rfl rfl (nfalse hc10) rfl ?_)
      refine r_nil ?_
      refine g_true rfl ?_
      refine g_seq ?_
      refine g_region ?_
      refine r_cons (s_move (.int .i64 (itE x)) rfl rfl ?_)
      refine r_cons (s_assign (.int .i64 (itE x)) rfl rfl ?_)
      refine r_nil ?_
      refine g_ret' [.int .i64 (itE x)] Try.func21 Try.results21 ⟨rfl, trivial⟩ ?_
      have H150 : St W w8 (LnA g s :: (F.set i emp)) := ((((H9.move 1 rfl).drop 1 rfl).drop 1 rfl).drop 1 rfl)
      have hov : s.ov = false := opE_f hc7
      have hE9 : arE s x = itE x := by first | exact ar_2 hov (by assumption) | exact ar_3 hov (by assumption) (by assumption) | exact ar_4 hov (by assumption) (by omega) (by omega)
      have hE0 : ¬ arE s x = 0 := by rw [hE9]; first | assumption | decide
      exact ⟨by rw [hE9]; rfl, by rw [arS_no hE0]; exact St.back hi H150⟩
  · skip
    refine r_cons (s_neq true rfl rfl (nfalse hc7) rfl ?_)
    refine r_nil ?_
    refine g_true rfl ?_
    refine g_seq ?_
    refine g_region ?_
    refine r_cons (s_move (.int .i64 (opE s.ov)) rfl rfl ?_)
    refine r_cons (s_assign (.int .i64 (opE s.ov)) rfl rfl ?_)
    refine r_nil ?_
    refine g_ret' [.int .i64 (opE s.ov)] Try.func21 Try.results21 ⟨rfl, trivial⟩ ?_
    have H151 : St W w5 (LnA g s :: (F.set i emp)) := ((((H6.move 1 rfl).drop 1 rfl).drop 1 rfl).drop 1 rfl)
    have h9 := opE_t hc7
    have hE9 : arE s x = opE s.ov := by rw [ar_1 h9, h9]; rfl
    have hE0 : ¬ arE s x = 0 := by rw [hE9]; first | assumption | decide
    exact ⟨by rw [hE9]; rfl, by rw [arS_no hE0]; exact St.back hi H151⟩
set_option maxHeartbeats 4000000 in
set_option maxRecDepth 100000 in
theorem Ln_Waiting {W w : World} {F : List Atom} (g : Nat) (s : LdS)  {i : Nat} (hi : F[i]? = some (LnA g s)) (H : St W w F) : Calls Try.prog 28 #[.pointer (some ⟨g, 0, none⟩)] w (Ret fun v w' => v = .int .i64 (lwN s : Nat) ∧ St W w' F) := by
  have H0 := H.front hi
  refine calls_of_go (n := 11) Try.func28 rfl Try.ntmps28 rfl ?_
  refine g_seq ?_
  refine g_region ?_
  refine r_cons (s_assign (.int .i64 0) rfl rfl ?_)
  refine r_nil ?_
  refine g_seq ?_
  refine g_seq ?_
  refine g_region ?_
  refine r_cons (s_move (.pointer (some ⟨g, 0, none⟩)) rfl rfl ?_)
  refine r_cons (s_call [.pointer (some ⟨g, 0, none⟩)] pl_71 rfl rfl (Ln_open g s (i := 0) rfl H0) ?_)
  rintro _ w1 ⟨rfl, H2⟩
  by_cases hc3 : opE s.ov = 0
  · skip
    refine r_cons (s_neq false rfl rfl (ntrue hc3) rfl ?_)
    refine r_nil ?_
    refine g_false rfl ?_
    refine g_skip ?_
    refine g_seq ?_
    refine g_region ?_
    refine r_cons (s_move (.pointer (some ⟨g, 0, none⟩)) rfl rfl ?_)
    refine r_cons (s_nilCheck (.pointer (some ⟨g, 0, none⟩)) rfl ⟨_, rfl⟩ rfl ?_)
    refine r_cons (s_fieldAddr 98 5 5 5 22 rfl fi_98_5 rfl rfl ?_)
    have H4 := H2.move 0 rfl
    obtain ⟨⟨m5, pp6, cc7, E8, L9, hE10, hL11⟩, H12⟩ := St.open_ex H4
    have H13 := St.open_star H12
    have hll := it_len hL11
    have hel := keyed_len hE10
    have H14 : St W w1 (blk g (.cells #[.bool true, .bool s.ov, .int .i64 s.op.v, .int .i64 (kOf s.PV), .map (some m5), .slice pp6 L9.length cc7] 98 (0, 0)) :: MapA m5 (ents (kI .i64) evD E8) :: bdA E8 :: wtA 32 s.ov pp6 cc7 L9 :: itsA L9 :: (F.set i emp)) := H13
    refine r_cons (s_load (.slice pp6 L9.length cc7) ag_22 rfl (H14.blk_at (i := 0) rfl) rfl rfl ?_)
    refine r_cons (s_len L9.length rfl ⟨_, un_22⟩ rfl ?_)
    refine r_cons (s_assign (.int .i64 (L9.length : Int)) rfl rfl ?_)
    refine r_nil ?_
    refine g_ret' [.int .i64 (L9.length : Int)] Try.func28 Try.results28 ⟨rfl, trivial⟩ ?_
    have H15 : St W w1 (LnA g s :: (F.set i emp)) := St.shut_ex (⟨m5, pp6, cc7, E8, L9, hE10, hL11⟩ : LnX s) (St.shut_star (ls := [blk g (.cells #[.bool true, .bool s.ov, .int .i64 s.op.v, .int .i64 (kOf s.PV), .map (some m5), .slice pp6 L9.length cc7] 98 (0, 0)), MapA m5 (ents (kI .i64) evD E8), bdA E8, wtA 32 s.ov pp6 cc7 L9, itsA L9]) H14)
    have H16 : St W w1 (LnA g s :: (F.set i emp)) := H15
    exact ⟨vint (by unfold lwN; rw [if_neg (by rw [opE_f hc3]; simp), hll]), St.back_same hi H16⟩
  · skip
    refine r_cons (s_neq true rfl rfl (nfalse hc3) rfl ?_)
    refine r_nil ?_
    refine g_true rfl ?_
    refine g_seq ?_
    refine g_region ?_
    refine r_cons (s_assign (.int .i64 0) rfl rfl ?_)
    refine r_nil ?_
    refine g_ret' [.int .i64 0] Try.func28 Try.results28 ⟨rfl, trivial⟩ ?_
    have H17 : St W w1 (LnA g s :: (F.set i emp)) := H2
    exact ⟨vint (by unfold lwN; rw [if_pos (opE_t hc3), show ((0 : Nat) : Int) = 0 from rfl]), St.back_same hi H17⟩
end Sl
