/- Walks of the program's functions. Printed by a program of this claim's author. No condition. -/
import Derived.Test.YtkclljglobeplaaSlCG
import Derived.Test.YtkclljglobeplaaSlQ
import Derived.Test.YtkclljglobeplaaProg
import Derived.Test.YtkclljglobeplaaWalkCheckPatterns1
namespace Sl
open _root_.Go _root_.Go.RowKit _root_.Go.Proofs
set_option linter.all false
set_option maxHeartbeats 4000000 in
set_option maxRecDepth 100000 in
theorem check_Cond {W w : World} {F : List Atom} (c : CondV) (vars : List Str) (vv : Value) {jv : Nat} (hv : F[jv]? = some (Im 1 vv vars.length (vars.flatMap strCell))) (H : St W w F) : Calls Try.prog 28 #[.agg #[.string c.left.var.v, .string c.left.attr.v, .int .i64 c.left.val.kind.v, .int .i64 c.left.val.n.v, .string c.left.val.s.v, .int .i64 c.rel.v, .string c.right.var.v, .string c.right.attr.v, .int .i64 c.right.val.kind.v, .int .i64 c.right.val.n.v, .string c.right.val.s.v], vv] w (Ret fun v w' => v = .int .i64 (condE c vars) ∧ St W w' F) := by
  obtain ⟨pp1, cc2, rfl, hn3⟩ := Rd.shape (Im.rd H (i := jv) hv)
  have H4 := H.dup (i := jv + 0) (by exact hv) (Im_pers _ _ _ _)
  have H5 : St W w (Im 1 (.slice pp1 vars.length cc2) vars.length (vars.flatMap strCell) :: F) := H4
  refine calls_of_go (n := 39) Try.func28 rfl Try.ntmps28 rfl ?_
  refine g_seq ?_
  refine g_region ?_
  refine r_cons (s_box H5 43 (.agg #[.string c.left.var.v, .string c.left.attr.v, .int .i64 c.left.val.kind.v, .int .i64 c.left.val.n.v, .string c.left.val.s.v, .int .i64 c.rel.v, .string c.right.var.v, .string c.right.attr.v, .int .i64 c.right.val.kind.v, .int .i64 c.right.val.n.v, .string c.right.val.s.v]) rfl (cs := #[.string c.left.var.v, .string c.left.attr.v, .int .i64 c.left.val.kind.v, .int .i64 c.left.val.n.v, .string c.left.val.s.v, .int .i64 c.rel.v, .string c.right.var.v, .string c.right.attr.v, .int .i64 c.right.val.kind.v, .int .i64 c.right.val.n.v, .string c.right.val.s.v]) rfl rfl ?_); intro bk6 w7 H8
  refine r_cons (s_assign (.int .i64 0) rfl rfl ?_)
  refine r_nil ?_
  refine g_seq ?_
  refine g_seq ?_
  refine g_region ?_
  refine r_cons (s_fieldAddr 43 1 5 5 3 rfl fi_43_1 rfl rfl ?_)
  refine r_cons (s_load (.int .i64 c.rel.v) ag_3 rfl (H8.blk_at (i := 0) rfl) rfl rfl ?_)
  by_cases hc9 : c.rel.v < 1
  · skip
    refine r_cons (s_lss true rfl rfl (dtrue hc9) rfl ?_)
    refine r_cons (s_move (.bool true) rfl rfl ?_)
    refine r_cons (r_pass rfl rfl rfl rfl rfl ?_)
    refine r_cons (r_pass rfl rfl rfl rfl rfl ?_)
    refine r_cons (r_pass rfl rfl rfl rfl rfl ?_)
    refine r_cons (s_pick_t (.bool true) rfl rfl rfl ?_)
    refine r_cons (s_move (.bool true) rfl rfl ?_)
    refine r_cons (r_pass rfl rfl rfl rfl rfl ?_)
    refine r_cons (r_pass rfl rfl rfl rfl rfl ?_)
    refine r_cons (r_pass rfl rfl rfl rfl rfl ?_)
    refine r_cons (r_pass rfl rfl rfl rfl rfl ?_)
    refine r_cons (r_pass rfl rfl rfl rfl rfl ?_)
    refine r_cons (s_pick_t (.bool true) rfl rfl rfl ?_)
    refine r_cons (s_move (.bool true) rfl rfl ?_)
    refine r_cons (r_pass rfl rfl rfl rfl rfl ?_)
    refine r_cons (r_pass rfl rfl rfl rfl rfl ?_)
    refine r_cons (r_pass rfl rfl rfl rfl rfl ?_)
    refine r_cons (r_pass rfl rfl rfl rfl rfl ?_)
    refine r_cons (r_pass rfl rfl rfl rfl rfl ?_)
    refine r_cons (s_pick_t (.bool true) rfl rfl rfl ?_)
    refine r_cons (s_move (.bool true) rfl rfl ?_)
    refine r_cons (r_pass rfl rfl rfl rfl rfl ?_)
    refine r_cons (r_pass rfl rfl rfl rfl rfl ?_)
    refine r_cons (r_pass rfl rfl rfl rfl rfl ?_)
    refine r_cons (r_pass rfl rfl rfl rfl rfl ?_)
    refine r_cons (r_pass rfl rfl rfl rfl rfl ?_)
    refine r_cons (r_passN rfl rfl rfl rfl ?_)
    refine r_cons (r_passN rfl rfl rfl rfl ?_)
    refine r_cons (r_passN rfl rfl rfl rfl ?_)
    refine r_cons (r_passN rfl rfl rfl rfl ?_)
    refine r_cons (r_pass rfl rfl rfl rfl rfl ?_)
    refine r_cons (s_pick_t (.bool true) rfl rfl rfl ?_)
    refine r_nil ?_
    refine g_true rfl ?_
    refine g_seq ?_
    refine g_region ?_
    refine r_cons (s_assign (.int .i64 74) rfl rfl ?_)
    refine r_nil ?_
    refine g_ret' [.int .i64 74] Try.func28 Try.results28 ⟨rfl, trivial⟩ ?_
    have H10 : St W w7 F := ((H8.drop 0 rfl).drop 0 rfl)
    exact ⟨vint (by unfold condE; rw [if_pos (by simp [hc9])]), H10⟩
  · skip
    refine r_cons (s_lss false rfl rfl (dfalse hc9) rfl ?_)
    refine r_cons (s_move (.bool false) rfl rfl ?_)
    refine r_cons (r_take rfl rfl ?_)
    refine s_fieldAddr 43 1 5 5 3 rfl fi_43_1 rfl rfl ?_
    refine r_cons (r_take rfl rfl ?_)
    refine s_load (.int .i64 c.rel.v) ag_3 rfl (H8.blk_at (i := 0) rfl) rfl rfl ?_
    refine r_cons (r_take rfl rfl ?_)
    by_cases hc11 : (6 : Int) < c.rel.v
    · skip
      refine s_gtr true rfl rfl (dtrue hc11) rfl ?_
      refine r_cons (s_pick_f (.bool true) rfl rfl rfl ?_)
      refine r_cons (s_move (.bool true) rfl rfl ?_)
      refine r_cons (r_pass rfl rfl rfl rfl rfl ?_)
      refine r_cons (r_pass rfl rfl rfl rfl rfl ?_)
      refine r_cons (r_pass rfl rfl rfl rfl rfl ?_)
      refine r_cons (r_pass rfl rfl rfl rfl rfl ?_)
      refine r_cons (r_pass rfl rfl rfl rfl rfl ?_)
      refine r_cons (s_pick_t (.bool true) rfl rfl rfl ?_)
      refine r_cons (s_move (.bool true) rfl rfl ?_)
      refine r_cons (r_pass rfl rfl rfl rfl rfl ?_)
      refine r_cons (r_pass rfl rfl rfl rfl rfl ?_)
      refine r_cons (r_pass rfl rfl rfl rfl rfl ?_)
      refine r_cons (r_pass rfl rfl rfl rfl rfl ?_)
      refine r_cons (r_pass rfl rfl rfl rfl rfl ?_)
      refine r_cons (s_pick_t (.bool true) rfl rfl rfl ?_)
      refine r_cons (s_move (.bool true) rfl rfl ?_)
      refine r_cons (r_pass rfl rfl rfl rfl rfl ?_)
      refine r_cons (r_pass rfl rfl rfl rfl rfl ?_)
      refine r_cons (r_pass rfl rfl rfl rfl rfl ?_)
      refine r_cons (r_pass rfl rfl rfl rfl rfl ?_)
      refine r_cons (r_pass rfl rfl rfl rfl rfl ?_)
      refine r_cons (r_passN rfl rfl rfl rfl ?_)
      refine r_cons (r_passN rfl rfl rfl rfl ?_)
      refine r_cons (r_passN rfl rfl rfl rfl ?_)
      refine r_cons (r_passN rfl rfl rfl rfl ?_)
      refine r_cons (r_pass rfl rfl rfl rfl rfl ?_)
      refine r_cons (s_pick_t (.bool true) rfl rfl rfl ?_)
      refine r_nil ?_
      refine g_true rfl ?_
      refine g_seq ?_
      refine g_region ?_
      refine r_cons (s_assign (.int .i64 74) rfl rfl ?_)
      refine r_nil ?_
      refine g_ret' [.int .i64 74] Try.func28 Try.results28 ⟨rfl, trivial⟩ ?_
      have H12 : St W w7 F := ((H8.drop 0 rfl).drop 0 rfl)
      exact ⟨vint (by unfold condE; rw [if_pos (by simp [hc9, hc11])]), H12⟩
    · skip
      refine s_gtr false rfl rfl (dfalse hc11) rfl ?_
      refine r_cons (s_pick_f (.bool false) rfl rfl rfl ?_)
      refine r_cons (s_move (.bool false) rfl rfl ?_)
      refine r_cons (r_take rfl rfl ?_)
      refine s_fieldAddr 43 0 0 0 41 rfl fi_43_0 rfl rfl ?_
      refine r_cons (r_take rfl rfl ?_)
      refine s_loadAgg [.string c.left.var.v, .string c.left.attr.v, .int .i64 c.left.val.kind.v, .int .i64 c.left.val.n.v, .string c.left.val.s.v] 5 ag_41 rfl (H8.blk_at (i := 0) rfl) (Nat.le_of_ble_eq_true rfl) rfl rfl ?_
      refine r_cons (r_take rfl rfl ?_)
      refine s_move (.slice pp1 vars.length cc2) rfl rfl ?_
      refine r_cons (r_take rfl rfl ?_)
      refine s_call [.agg #[.string c.left.var.v, .string c.left.attr.v, .int .i64 c.left.val.kind.v, .int .i64 c.left.val.n.v, .string c.left.val.s.v], .slice pp1 vars.length cc2] pl_46 rfl rfl (check_operand c.left vars (.slice pp1 vars.length cc2) (jv := 1) rfl H8) ?_
      rintro _ w13 ⟨rfl, H14⟩
      refine r_cons (r_take rfl rfl ?_)
      refine s_not (opE c.left vars) rfl (!(opE c.left vars)) rfl rfl ?_
      refine r_cons (s_pick_f (.bool (!(opE c.left vars))) rfl rfl rfl ?_)
      refine r_cons (s_move (.bool (!(opE c.left vars))) rfl rfl ?_)
      by_cases hb15 : (!(opE c.left vars)) = true
      · skip
        refine r_cons (r_pass rfl (congrArg some hb15) rfl rfl rfl ?_)
        refine r_cons (r_pass rfl (congrArg some hb15) rfl rfl rfl ?_)
        refine r_cons (r_pass rfl (congrArg some hb15) rfl rfl rfl ?_)
        refine r_cons (r_pass rfl (congrArg some hb15) rfl rfl rfl ?_)
        refine r_cons (r_pass rfl (congrArg some hb15) rfl rfl rfl ?_)
        refine r_cons (s_pick_t (.bool true) (by exact congrArg Value.bool hb15) rfl rfl ?_)
        refine r_cons (s_move (.bool true) rfl rfl ?_)
        refine r_cons (r_pass rfl rfl rfl rfl rfl ?_)
        refine r_cons (r_pass rfl rfl rfl rfl rfl ?_)
        refine r_cons (r_pass rfl rfl rfl rfl rfl ?_)
        refine r_cons (r_pass rfl rfl rfl rfl rfl ?_)
        refine r_cons (r_pass rfl rfl rfl rfl rfl ?_)
        refine r_cons (r_passN rfl rfl rfl rfl ?_)
        refine r_cons (r_passN rfl rfl rfl rfl ?_)
        refine r_cons (r_passN rfl rfl rfl rfl ?_)
        refine r_cons (r_passN rfl rfl rfl rfl ?_)
        refine r_cons (r_pass rfl rfl rfl rfl rfl ?_)
        refine r_cons (s_pick_t (.bool true) rfl rfl rfl ?_)
        refine r_nil ?_
        refine g_true rfl ?_
        refine g_seq ?_
        refine g_region ?_
        refine r_cons (s_assign (.int .i64 74) rfl rfl ?_)
        refine r_nil ?_
        refine g_ret' [.int .i64 74] Try.func28 Try.results28 ⟨rfl, trivial⟩ ?_
        have hb16 : ((opE c.left vars)) = false := by simpa using hb15
        have H17 : St W w13 F := ((H14.drop 0 rfl).drop 0 rfl)
        exact ⟨vint (by unfold condE; rw [if_pos (by simp [hc9, hc11, hb16])]), H17⟩
      · have hb15 := eq_false_of_ne_true hb15
        refine r_cons (r_take rfl (congrArg some hb15) ?_)
        refine s_fieldAddr 43 2 6 6 41 rfl fi_43_2 rfl rfl ?_
        refine r_cons (r_take rfl (congrArg some hb15) ?_)
        refine s_loadAgg [.string c.right.var.v, .string c.right.attr.v, .int .i64 c.right.val.kind.v, .int .i64 c.right.val.n.v, .string c.right.val.s.v] 5 ag_41 rfl (H14.blk_at (i := 0) rfl) (Nat.le_of_ble_eq_true rfl) rfl rfl ?_
        refine r_cons (r_take rfl (congrArg some hb15) ?_)
        refine s_move (.slice pp1 vars.length cc2) rfl rfl ?_
        refine r_cons (r_take rfl (congrArg some hb15) ?_)
        refine s_call [.agg #[.string c.right.var.v, .string c.right.attr.v, .int .i64 c.right.val.kind.v, .int .i64 c.right.val.n.v, .string c.right.val.s.v], .slice pp1 vars.length cc2] pl_46 rfl rfl (check_operand c.right vars (.slice pp1 vars.length cc2) (jv := 1) rfl H14) ?_
        rintro _ w18 ⟨rfl, H19⟩
        refine r_cons (r_take rfl (congrArg some hb15) ?_)
        refine s_not (opE c.right vars) rfl (!(opE c.right vars)) rfl rfl ?_
        refine r_cons (s_pick_f (.bool (!(opE c.right vars))) (by exact congrArg Value.bool hb15) rfl rfl ?_)
        refine r_cons (s_move (.bool (!(opE c.right vars))) rfl rfl ?_)
        by_cases hb20 : (!(opE c.right vars)) = true
        · skip
          refine r_cons (r_pass rfl (congrArg some hb20) rfl rfl rfl ?_)
          refine r_cons (r_pass rfl (congrArg some hb20) rfl rfl rfl ?_)
          refine r_cons (r_pass rfl (congrArg some hb20) rfl rfl rfl ?_)
          refine r_cons (r_pass rfl (congrArg some hb20) rfl rfl rfl ?_)
          refine r_cons (r_pass rfl (congrArg some hb20) rfl rfl rfl ?_)
          refine r_cons (r_passN rfl rfl rfl rfl ?_)
          refine r_cons (r_passN rfl rfl rfl rfl ?_)
          refine r_cons (r_passN rfl rfl rfl rfl ?_)
          refine r_cons (r_passN rfl rfl rfl rfl ?_)
          refine r_cons (r_pass rfl (congrArg some hb20) rfl rfl rfl ?_)
          refine r_cons (s_pick_t (.bool true) (by exact congrArg Value.bool hb20) rfl rfl ?_)
          refine r_nil ?_
          refine g_true rfl ?_
          refine g_seq ?_
          refine g_region ?_
          refine r_cons (s_assign (.int .i64 74) rfl rfl ?_)
          refine r_nil ?_
          refine g_ret' [.int .i64 74] Try.func28 Try.results28 ⟨rfl, trivial⟩ ?_
          have hb21 : ((opE c.left vars)) = true := by simpa using hb15
          have hb22 : ((opE c.right vars)) = false := by simpa using hb20
          have H23 : St W w18 F := ((H19.drop 0 rfl).drop 0 rfl)
          exact ⟨vint (by unfold condE; rw [if_pos (by simp [hc9, hc11, hb21, hb22])]), H23⟩
        · have hb20 := eq_false_of_ne_true hb20
          refine r_cons (r_take rfl (congrArg some hb20) ?_)
          refine s_fieldAddr 43 0 0 0 41 rfl fi_43_0 rfl rfl ?_
          refine r_cons (r_take rfl (congrArg some hb20) ?_)
          refine s_fieldAddr 41 1 1 1 9 rfl fi_41_1 rfl rfl ?_
          refine r_cons (r_take rfl (congrArg some hb20) ?_)
          refine s_load (.string c.left.attr.v) ag_9 rfl (H19.blk_at (i := 0) rfl) rfl rfl ?_
          refine r_cons (r_take rfl (congrArg some hb20) ?_)
          by_cases hc24 : c.left.attr.v = ByteArray.empty
          · skip
            refine s_seql true rfl rfl (dtrue hc24) rfl ?_
            refine r_cons (r_take rfl (congrArg some hb20) ?_)
            refine s_move (.bool true) rfl rfl ?_
            refine r_cons (r_take rfl rfl ?_)
            refine s_fieldAddr 43 2 6 6 41 rfl fi_43_2 rfl rfl ?_
            refine r_cons (r_take rfl rfl ?_)
            refine s_fieldAddr 41 1 1 7 9 rfl fi_41_1 rfl rfl ?_
            refine r_cons (r_take rfl rfl ?_)
            refine s_load (.string c.right.attr.v) ag_9 rfl (H19.blk_at (i := 0) rfl) rfl rfl ?_
            refine r_cons (r_take rfl rfl ?_)
            by_cases hc25 : c.right.attr.v = ByteArray.empty
            · skip
              refine s_seql true rfl rfl (dtrue hc25) rfl ?_
              refine r_cons (r_take rfl (congrArg some hb20) ?_)
              refine s_pick_t (.bool true) rfl rfl rfl ?_
              refine r_cons (s_pick_f (.bool true) (by exact congrArg Value.bool hb20) rfl rfl ?_)
              refine r_nil ?_
              refine g_true rfl ?_
              refine g_seq ?_
              refine g_region ?_
              refine r_cons (s_assign (.int .i64 74) rfl rfl ?_)
              refine r_nil ?_
              refine g_ret' [.int .i64 74] Try.func28 Try.results28 ⟨rfl, trivial⟩ ?_
              have hb26 : ((opE c.left vars)) = true := by simpa using hb15
              have hb27 : ((opE c.right vars)) = true := by simpa using hb20
              have H28 : St W w18 F := ((H19.drop 0 rfl).drop 0 rfl)
              exact ⟨vint (by unfold condE; rw [if_pos (by simp [hc9, hc11, hc24, hc25, hb26, hb27])]), H28⟩
            · skip
              refine s_seql false rfl rfl (dfalse hc25) rfl ?_
              refine r_cons (r_take rfl (congrArg some hb20) ?_)
              refine s_pick_t (.bool false) rfl rfl rfl ?_
              refine r_cons (s_pick_f (.bool false) (by exact congrArg Value.bool hb20) rfl rfl ?_)
              refine r_nil ?_
              refine g_false rfl ?_
              refine g_skip ?_
              refine g_seq ?_
              refine g_region ?_
              refine r_cons (s_assign (.int .i64 0) rfl rfl ?_)
              refine r_nil ?_
              refine g_ret' [.int .i64 0] Try.func28 Try.results28 ⟨rfl, trivial⟩ ?_
              have hb29 : ((opE c.left vars)) = true := by simpa using hb15
              have hb30 : ((opE c.right vars)) = true := by simpa using hb20
              have H31 : St W w18 F := ((H19.drop 0 rfl).drop 0 rfl)
              exact ⟨vint (by unfold condE; rw [if_neg (by simp [hc9, hc11, hc24, hc25, hb29, hb30])]), H31⟩
          · skip
            refine s_seql false rfl rfl (dfalse hc24) rfl ?_
            refine r_cons (r_take rfl (congrArg some hb20) ?_)
            refine s_move (.bool false) rfl rfl ?_
            refine r_cons (r_pass rfl rfl rfl rfl rfl ?_)
            refine r_cons (r_pass rfl rfl rfl rfl rfl ?_)
            refine r_cons (r_pass rfl rfl rfl rfl rfl ?_)
            refine r_cons (r_pass rfl rfl rfl rfl rfl ?_)
            refine r_cons (r_take rfl (congrArg some hb20) ?_)
            refine s_pick_f (.bool false) rfl rfl rfl ?_
            refine r_cons (s_pick_f (.bool false) (by exact congrArg Value.bool hb20) rfl rfl ?_)
            refine r_nil ?_
            refine g_false rfl ?_
            refine g_skip ?_
            refine g_seq ?_
            refine g_region ?_
            refine r_cons (s_assign (.int .i64 0) rfl rfl ?_)
            refine r_nil ?_
            refine g_ret' [.int .i64 0] Try.func28 Try.results28 ⟨rfl, trivial⟩ ?_
            have hb32 : ((opE c.left vars)) = true := by simpa using hb15
            have hb33 : ((opE c.right vars)) = true := by simpa using hb20
            have H34 : St W w18 F := ((H19.drop 0 rfl).drop 0 rfl)
            exact ⟨vint (by unfold condE; rw [if_neg (by simp [hc9, hc11, hc24, hb32, hb33])]), H34⟩
set_option maxHeartbeats 4000000 in
set_option maxRecDepth 100000 in
theorem ref07_Cond {W w : World} {F : List Atom} (c : CondV) (vars : List Str) (vv : Value) {jv : Nat} (hv : F[jv]? = some (Im 1 vv vars.length (vars.flatMap strCell))) (H : St W w F) : Calls Try.prog 29 #[.agg #[.string c.left.var.v, .string c.left.attr.v, .int .i64 c.left.val.kind.v, .int .i64 c.left.val.n.v, .string c.left.val.s.v, .int .i64 c.rel.v, .string c.right.var.v, .string c.right.attr.v, .int .i64 c.right.val.kind.v, .int .i64 c.right.val.n.v, .string c.right.val.s.v], vv] w (Ret fun v w' => v = .int .i64 (condE c vars) ∧ St W w' F) := by
  obtain ⟨pp1, cc2, rfl, hn3⟩ := Rd.shape (Im.rd H (i := jv) hv)
  have H4 := H.dup (i := jv + 0) (by exact hv) (Im_pers _ _ _ _)
  have H5 : St W w (Im 1 (.slice pp1 vars.length cc2) vars.length (vars.flatMap strCell) :: F) := H4
  refine calls_of_go (n := 39) Try.func29 rfl Try.ntmps29 rfl ?_
  refine g_seq ?_
  refine g_region ?_
  refine r_cons (s_box H5 43 (.agg #[.string c.left.var.v, .string c.left.attr.v, .int .i64 c.left.val.kind.v, .int .i64 c.left.val.n.v, .string c.left.val.s.v, .int .i64 c.rel.v, .string c.right.var.v, .string c.right.attr.v, .int .i64 c.right.val.kind.v, .int .i64 c.right.val.n.v, .string c.right.val.s.v]) rfl (cs := #[.string c.left.var.v, .string c.left.attr.v, .int .i64 c.left.val.kind.v, .int .i64 c.left.val.n.v, .string c.left.val.s.v, .int .i64 c.rel.v, .string c.right.var.v, .string c.right.attr.v, .int .i64 c.right.val.kind.v, .int .i64 c.right.val.n.v, .string c.right.val.s.v]) rfl rfl ?_); intro bk6 w7 H8
  refine r_cons (s_assign (.int .i64 0) rfl rfl ?_)
  refine r_nil ?_
  refine g_seq ?_
  refine g_seq ?_
  refine g_region ?_
  refine r_cons (s_fieldAddr 43 1 5 5 3 rfl fi_43_1 rfl rfl ?_)
  refine r_cons (s_load (.int .i64 c.rel.v) ag_3 rfl (H8.blk_at (i := 0) rfl) rfl rfl ?_)
  by_cases hc9 : c.rel.v < 1
  · skip
    refine r_cons (s_lss true rfl rfl (dtrue hc9) rfl ?_)
    refine r_cons (s_move (.bool true) rfl rfl ?_)
    refine r_cons (r_pass rfl rfl rfl rfl rfl ?_)
    refine r_cons (r_pass rfl rfl rfl rfl rfl ?_)
    refine r_cons (r_pass rfl rfl rfl rfl rfl ?_)
    refine r_cons (s_pick_t (.bool true) rfl rfl rfl ?_)
    refine r_cons (s_move (.bool true) rfl rfl ?_)
    refine r_cons (r_pass rfl rfl rfl rfl rfl ?_)
    refine r_cons (r_pass rfl rfl rfl rfl rfl ?_)
    refine r_cons (r_pass rfl rfl rfl rfl rfl ?_)
    refine r_cons (r_pass rfl rfl rfl rfl rfl ?_)
    refine r_cons (r_pass rfl rfl rfl rfl rfl ?_)
    refine r_cons (s_pick_t (.bool true) rfl rfl rfl ?_)
    refine r_cons (s_move (.bool true) rfl rfl ?_)
    refine r_cons (r_pass rfl rfl rfl rfl rfl ?_)
    refine r_cons (r_pass rfl rfl rfl rfl rfl ?_)
    refine r_cons (r_pass rfl rfl rfl rfl rfl ?_)
    refine r_cons (r_pass rfl rfl rfl rfl rfl ?_)
    refine r_cons (r_pass rfl rfl rfl rfl rfl ?_)
    refine r_cons (s_pick_t (.bool true) rfl rfl rfl ?_)
    refine r_cons (s_move (.bool true) rfl rfl ?_)
    refine r_cons (r_pass rfl rfl rfl rfl rfl ?_)
    refine r_cons (r_pass rfl rfl rfl rfl rfl ?_)
    refine r_cons (r_pass rfl rfl rfl rfl rfl ?_)
    refine r_cons (r_pass rfl rfl rfl rfl rfl ?_)
    refine r_cons (r_pass rfl rfl rfl rfl rfl ?_)
    refine r_cons (r_passN rfl rfl rfl rfl ?_)
    refine r_cons (r_passN rfl rfl rfl rfl ?_)
    refine r_cons (r_passN rfl rfl rfl rfl ?_)
    refine r_cons (r_passN rfl rfl rfl rfl ?_)
    refine r_cons (r_pass rfl rfl rfl rfl rfl ?_)
    refine r_cons (s_pick_t (.bool true) rfl rfl rfl ?_)
    refine r_nil ?_
    refine g_true rfl ?_
    refine g_seq ?_
    refine g_region ?_
    refine r_cons (s_assign (.int .i64 74) rfl rfl ?_)
    refine r_nil ?_
    refine g_ret' [.int .i64 74] Try.func29 Try.results29 ⟨rfl, trivial⟩ ?_
    have H10 : St W w7 F := ((H8.drop 0 rfl).drop 0 rfl)
    exact ⟨vint (by unfold condE; rw [if_pos (by simp [hc9])]), H10⟩
  · skip
    refine r_cons (s_lss false rfl rfl (dfalse hc9) rfl ?_)
    refine r_cons (s_move (.bool false) rfl rfl ?_)
    refine r_cons (r_take rfl rfl ?_)
    refine s_fieldAddr 43 1 5 5 3 rfl fi_43_1 rfl rfl ?_
    refine r_cons (r_take rfl rfl ?_)
    refine s_load (.int .i64 c.rel.v) ag_3 rfl (H8.blk_at (i := 0) rfl) rfl rfl ?_
    refine r_cons (r_take rfl rfl ?_)
    by_cases hc11 : (6 : Int) < c.rel.v
    · skip
      refine s_gtr true rfl rfl (dtrue hc11) rfl ?_
      refine r_cons (s_pick_f (.bool true) rfl rfl rfl ?_)
      refine r_cons (s_move (.bool true) rfl rfl ?_)
      refine r_cons (r_pass rfl rfl rfl rfl rfl ?_)
      refine r_cons (r_pass rfl rfl rfl rfl rfl ?_)
      refine r_cons (r_pass rfl rfl rfl rfl rfl ?_)
      refine r_cons (r_pass rfl rfl rfl rfl rfl ?_)
      refine r_cons (r_pass rfl rfl rfl rfl rfl ?_)
      refine r_cons (s_pick_t (.bool true) rfl rfl rfl ?_)
      refine r_cons (s_move (.bool true) rfl rfl ?_)
      refine r_cons (r_pass rfl rfl rfl rfl rfl ?_)
      refine r_cons (r_pass rfl rfl rfl rfl rfl ?_)
      refine r_cons (r_pass rfl rfl rfl rfl rfl ?_)
      refine r_cons (r_pass rfl rfl rfl rfl rfl ?_)
      refine r_cons (r_pass rfl rfl rfl rfl rfl ?_)
      refine r_cons (s_pick_t (.bool true) rfl rfl rfl ?_)
      refine r_cons (s_move (.bool true) rfl rfl ?_)
      refine r_cons (r_pass rfl rfl rfl rfl rfl ?_)
      refine r_cons (r_pass rfl rfl rfl rfl rfl ?_)
      refine r_cons (r_pass rfl rfl rfl rfl rfl ?_)
      refine r_cons (r_pass rfl rfl rfl rfl rfl ?_)
      refine r_cons (r_pass rfl rfl rfl rfl rfl ?_)
      refine r_cons (r_passN rfl rfl rfl rfl ?_)
      refine r_cons (r_passN rfl rfl rfl rfl ?_)
      refine r_cons (r_passN rfl rfl rfl rfl ?_)
      refine r_cons (r_passN rfl rfl rfl rfl ?_)
      refine r_cons (r_pass rfl rfl rfl rfl rfl ?_)
      refine r_cons (s_pick_t (.bool true) rfl rfl rfl ?_)
      refine r_nil ?_
      refine g_true rfl ?_
      refine g_seq ?_
      refine g_region ?_
      refine r_cons (s_assign (.int .i64 74) rfl rfl ?_)
      refine r_nil ?_
      refine g_ret' [.int .i64 74] Try.func29 Try.results29 ⟨rfl, trivial⟩ ?_
      have H12 : St W w7 F := ((H8.drop 0 rfl).drop 0 rfl)
      exact ⟨vint (by unfold condE; rw [if_pos (by simp [hc9, hc11])]), H12⟩
    · skip
      refine s_gtr false rfl rfl (dfalse hc11) rfl ?_
      refine r_cons (s_pick_f (.bool false) rfl rfl rfl ?_)
      refine r_cons (s_move (.bool false) rfl rfl ?_)
      refine r_cons (r_take rfl rfl ?_)
      refine s_fieldAddr 43 0 0 0 41 rfl fi_43_0 rfl rfl ?_
      refine r_cons (r_take rfl rfl ?_)
      refine s_loadAgg [.string c.left.var.v, .string c.left.attr.v, .int .i64 c.left.val.kind.v, .int .i64 c.left.val.n.v, .string c.left.val.s.v] 5 ag_41 rfl (H8.blk_at (i := 0) rfl) (Nat.le_of_ble_eq_true rfl) rfl rfl ?_
      refine r_cons (r_take rfl rfl ?_)
      refine s_move (.slice pp1 vars.length cc2) rfl rfl ?_
      refine r_cons (r_take rfl rfl ?_)
      refine s_call [.agg #[.string c.left.var.v, .string c.left.attr.v, .int .i64 c.left.val.kind.v, .int .i64 c.left.val.n.v, .string c.left.val.s.v], .slice pp1 vars.length cc2] pl_47 rfl rfl (ref07_operand c.left vars (.slice pp1 vars.length cc2) (jv := 1) rfl H8) ?_
      rintro _ w13 ⟨rfl, H14⟩
      refine r_cons (r_take rfl rfl ?_)
      refine s_not (opE c.left vars) rfl (!(opE c.left vars)) rfl rfl ?_
      refine r_cons (s_pick_f (.bool (!(opE c.left vars))) rfl rfl rfl ?_)
      refine r_cons (s_move (.bool (!(opE c.left vars))) rfl rfl ?_)
      by_cases hb15 : (!(opE c.left vars)) = true
      · skip
        refine r_cons (r_pass rfl (congrArg some hb15) rfl rfl rfl ?_)
        refine r_cons (r_pass rfl (congrArg some hb15) rfl rfl rfl ?_)
        refine r_cons (r_pass rfl (congrArg some hb15) rfl rfl rfl ?_)
        refine r_cons (r_pass rfl (congrArg some hb15) rfl rfl rfl ?_)
        refine r_cons (r_pass rfl (congrArg some hb15) rfl rfl rfl ?_)
        refine r_cons (s_pick_t (.bool true) (by exact congrArg Value.bool hb15) rfl rfl ?_)
        refine r_cons (s_move (.bool true) rfl rfl ?_)
        refine r_cons (r_pass rfl rfl rfl rfl rfl ?_)
        refine r_cons (r_pass rfl rfl rfl rfl rfl ?_)
        refine r_cons (r_pass rfl rfl rfl rfl rfl ?_)
        refine r_cons (r_pass rfl rfl rfl rfl rfl ?_)
        refine r_cons (r_pass rfl rfl rfl rfl rfl ?_)
        refine r_cons (r_passN rfl rfl rfl rfl ?_)
        refine r_cons (r_passN rfl rfl rfl rfl ?_)
        refine r_cons (r_passN rfl rfl rfl rfl ?_)
        refine r_cons (r_passN rfl rfl rfl rfl ?_)
        refine r_cons (r_pass rfl rfl rfl rfl rfl ?_)
        refine r_cons (s_pick_t (.bool true) rfl rfl rfl ?_)
        refine r_nil ?_
        refine g_true rfl ?_
        refine g_seq ?_
        refine g_region ?_
        refine r_cons (s_assign (.int .i64 74) rfl rfl ?_)
        refine r_nil ?_
        refine g_ret' [.int .i64 74] Try.func29 Try.results29 ⟨rfl, trivial⟩ ?_
        have hb16 : ((opE c.left vars)) = false := by simpa using hb15
        have H17 : St W w13 F := ((H14.drop 0 rfl).drop 0 rfl)
        exact ⟨vint (by unfold condE; rw [if_pos (by simp [hc9, hc11, hb16])]), H17⟩
      · have hb15 := eq_false_of_ne_true hb15
        refine r_cons (r_take rfl (congrArg some hb15) ?_)
        refine s_fieldAddr 43 2 6 6 41 rfl fi_43_2 rfl rfl ?_
        refine r_cons (r_take rfl (congrArg some hb15) ?_)
        refine s_loadAgg [.string c.right.var.v, .string c.right.attr.v, .int .i64 c.right.val.kind.v, .int .i64 c.right.val.n.v, .string c.right.val.s.v] 5 ag_41 rfl (H14.blk_at (i := 0) rfl) (Nat.le_of_ble_eq_true rfl) rfl rfl ?_
        refine r_cons (r_take rfl (congrArg some hb15) ?_)
        refine s_move (.slice pp1 vars.length cc2) rfl rfl ?_
        refine r_cons (r_take rfl (congrArg some hb15) ?_)
        refine s_call [.agg #[.string c.right.var.v, .string c.right.attr.v, .int .i64 c.right.val.kind.v, .int .i64 c.right.val.n.v, .string c.right.val.s.v], .slice pp1 vars.length cc2] pl_47 rfl rfl (ref07_operand c.right vars (.slice pp1 vars.length cc2) (jv := 1) rfl H14) ?_
        rintro _ w18 ⟨rfl, H19⟩
        refine r_cons (r_take rfl (congrArg some hb15) ?_)
        refine s_not (opE c.right vars) rfl (!(opE c.right vars)) rfl rfl ?_
        refine r_cons (s_pick_f (.bool (!(opE c.right vars))) (by exact congrArg Value.bool hb15) rfl rfl ?_)
        refine r_cons (s_move (.bool (!(opE c.right vars))) rfl rfl ?_)
        by_cases hb20 : (!(opE c.right vars)) = true
        · skip
          refine r_cons (r_pass rfl (congrArg some hb20) rfl rfl rfl ?_)
          refine r_cons (r_pass rfl (congrArg some hb20) rfl rfl rfl ?_)
          refine r_cons (r_pass rfl (congrArg some hb20) rfl rfl rfl ?_)
          refine r_cons (r_pass rfl (congrArg some hb20) rfl rfl rfl ?_)
          refine r_cons (r_pass rfl (congrArg some hb20) rfl rfl rfl ?_)
          refine r_cons (r_passN rfl rfl rfl rfl ?_)
          refine r_cons (r_passN rfl rfl rfl rfl ?_)
          refine r_cons (r_passN rfl rfl rfl rfl ?_)
          refine r_cons (r_passN rfl rfl rfl rfl ?_)
          refine r_cons (r_pass rfl (congrArg some hb20) rfl rfl rfl ?_)
          refine r_cons (s_pick_t (.bool true) (by exact congrArg Value.bool hb20) rfl rfl ?_)
          refine r_nil ?_
          refine g_true rfl ?_
          refine g_seq ?_
          refine g_region ?_
          refine r_cons (s_assign (.int .i64 74) rfl rfl ?_)
          refine r_nil ?_
          refine g_ret' [.int .i64 74] Try.func29 Try.results29 ⟨rfl, trivial⟩ ?_
          have hb21 : ((opE c.left vars)) = true := by simpa using hb15
          have hb22 : ((opE c.right vars)) = false := by simpa using hb20
          have H23 : St W w18 F := ((H19.drop 0 rfl).drop 0 rfl)
          exact ⟨vint (by unfold condE; rw [if_pos (by simp [hc9, hc11, hb21, hb22])]), H23⟩
        · have hb20 := eq_false_of_ne_true hb20
          refine r_cons (r_take rfl (congrArg some hb20) ?_)
          refine s_fieldAddr 43 0 0 0 41 rfl fi_43_0 rfl rfl ?_
          refine r_cons (r_take rfl (congrArg some hb20) ?_)
          refine s_fieldAddr 41 1 1 1 9 rfl fi_41_1 rfl rfl ?_
          refine r_cons (r_take rfl (congrArg some hb20) ?_)
          refine s_load (.string c.left.attr.v) ag_9 rfl (H19.blk_at (i := 0) rfl) rfl rfl ?_
          refine r_cons (r_take rfl (congrArg some hb20) ?_)
          by_cases hc24 : c.left.attr.v = ByteArray.empty
          · skip
            refine s_seql true rfl rfl (dtrue hc24) rfl ?_
            refine r_cons (r_take rfl (congrArg some hb20) ?_)
            refine s_move (.bool true) rfl rfl ?_
            refine r_cons (r_take rfl rfl ?_)
            refine s_fieldAddr 43 2 6 6 41 rfl fi_43_2 rfl rfl ?_
            refine r_cons (r_take rfl rfl ?_)
            refine s_fieldAddr 41 1 1 7 9 rfl fi_41_1 rfl rfl ?_
            refine r_cons (r_take rfl rfl ?_)
            refine s_load (.string c.right.attr.v) ag_9 rfl (H19.blk_at (i := 0) rfl) rfl rfl ?_
            refine r_cons (r_take rfl rfl ?_)
            by_cases hc25 : c.right.attr.v = ByteArray.empty
            · skip
              refine s_seql true rfl rfl (dtrue hc25) rfl ?_
              refine r_cons (r_take rfl (congrArg some hb20) ?_)
              refine s_pick_t (.bool true) rfl rfl rfl ?_
              refine r_cons (s_pick_f (.bool true) (by exact congrArg Value.bool hb20) rfl rfl ?_)
              refine r_nil ?_
              refine g_true rfl ?_
              refine g_seq ?_
              refine g_region ?_
              refine r_cons (s_assign (.int .i64 74) rfl rfl ?_)
              refine r_nil ?_
              refine g_ret' [.int .i64 74] Try.func29 Try.results29 ⟨rfl, trivial⟩ ?_
              have hb26 : ((opE c.left vars)) = true := by simpa using hb15
              have hb27 : ((opE c.right vars)) = true := by simpa using hb20
              have H28 : St W w18 F := ((H19.drop 0 rfl).drop 0 rfl)
              exact ⟨vint (by unfold condE; rw [if_pos (by simp [hc9, hc11, hc24, hc25, hb26, hb27])]), H28⟩
            · skip
              refine s_seql false rfl rfl (dfalse hc25) rfl ?_
              refine r_cons (r_take rfl (congrArg some hb20) ?_)
              refine s_pick_t (.bool false) rfl rfl rfl ?_
              refine r_cons (s_pick_f (.bool false) (by exact congrArg Value.bool hb20) rfl rfl ?_)
              refine r_nil ?_
              refine g_false rfl ?_
              refine g_skip ?_
              refine g_seq ?_
              refine g_region ?_
              refine r_cons (s_assign (.int .i64 0) rfl rfl ?_)
              refine r_nil ?_
              refine g_ret' [.int .i64 0] Try.func29 Try.results29 ⟨rfl, trivial⟩ ?_
              have hb29 : ((opE c.left vars)) = true := by simpa using hb15
              have hb30 : ((opE c.right vars)) = true := by simpa using hb20
              have H31 : St W w18 F := ((H19.drop 0 rfl).drop 0 rfl)
              exact ⟨vint (by unfold condE; rw [if_neg (by simp [hc9, hc11, hc24, hc25, hb29, hb30])]), H31⟩
          · skip
            refine s_seql false rfl rfl (dfalse hc24) rfl ?_
            refine r_cons (r_take rfl (congrArg some hb20) ?_)
            refine s_move (.bool false) rfl rfl ?_
            refine r_cons (r_pass rfl rfl rfl rfl rfl ?_)
            refine r_cons (r_pass rfl rfl rfl rfl rfl ?_)
            refine r_cons (r_pass rfl rfl rfl rfl rfl ?_)
            refine r_cons (r_pass rfl rfl rfl rfl rfl ?_)
            refine r_cons (r_take rfl (congrArg some hb20) ?_)
            refine s_pick_f (.bool false) rfl rfl rfl ?_
            refine r_cons (s_pick_f (.bool false) (by exact congrArg Value.bool hb20) rfl rfl ?_)
            refine r_nil ?_
            refine g_false rfl ?_
            refine g_skip ?_
            refine g_seq ?_
            refine g_region ?_
            refine r_cons (s_assign (.int .i64 0) rfl rfl ?_)
            refine r_nil ?_
            refine g_ret' [.int .i64 0] Try.func29 Try.results29 ⟨rfl, trivial⟩ ?_
            have hb32 : ((opE c.left vars)) = true := by simpa using hb15
            have hb33 : ((opE c.right vars)) = true := by simpa using hb20
            have H34 : St W w18 F := ((H19.drop 0 rfl).drop 0 rfl)
            exact ⟨vint (by unfold condE; rw [if_neg (by simp [hc9, hc11, hc24, hb32, hb33])]), H34⟩
set_option maxHeartbeats 4000000 in
set_option maxRecDepth 100000 in
theorem check_conds {W w : World} {F : List Atom} (l : List CondV) (lv : Value) (vars : List Str) (vv : Value) {m : Nat} (hm : F[m]? = some (Im 11 lv l.length (l.flatMap condCell))) {jv : Nat} (hv : F[jv]? = some (Im 1 vv vars.length (vars.flatMap strCell))) (H : St W w F) : Calls Try.prog 38 #[lv, vv] w (Ret fun v w' => v = .int .i64 (condsE l vars) ∧ St W w' F) := by
  obtain ⟨pp1, cc2, rfl, hn3⟩ := Rd.shape (Im.rd H (i := m) hm)
  have H4 := H.dup (i := m + 0) (by exact hm) (Im_pers _ _ _ _)
  have H5 : St W w (Im 11 (.slice pp1 l.length cc2) l.length (l.flatMap condCell) :: F) := H4
  obtain ⟨pp6, cc7, rfl, hn8⟩ := Rd.shape (Im.rd H (i := jv) hv)
  have H9 := H5.dup (i := jv + 1) (by exact hv) (Im_pers _ _ _ _)
  have H10 : St W w (Im 1 (.slice pp6 vars.length cc7) vars.length (vars.flatMap strCell) :: Im 11 (.slice pp1 l.length cc2) l.length (l.flatMap condCell) :: F) := H9
  obtain ⟨pA11, cA12, gA13, oA14, kA15, eA16, zA17, he23, hn18, hp19, hx20, hs21, hml, H22⟩ := Im.open_ H10 (i := 1) rfl
  obtain ⟨rfl, rfl⟩ : pp1 = pA11 ∧ cc2 = cA12 := by injection he23 with a_ b_ c_; exact ⟨a_, c_⟩
  refine calls_of_go (n := 24) Try.func38 rfl Try.ntmps38 rfl ?_
  refine g_seq ?_
  refine g_region ?_
  refine r_cons (s_assign (.int .i64 0) rfl rfl ?_)
  refine r_nil ?_
  refine g_seq ?_
  refine g_seq ?_
  refine g_region ?_
  refine r_cons (s_move (.slice pp1 l.length cc2) rfl rfl ?_)
  refine r_cons (s_len l.length rfl ⟨_, un_22⟩ rfl ?_)
  by_cases hc24 : (16 : Int) < (l.length : Int)
  · skip
    refine r_cons (s_gtr true rfl rfl (dtrue hc24) rfl ?_)
    refine r_nil ?_
    refine g_true rfl ?_
    refine g_seq ?_
    refine g_region ?_
    refine r_cons (s_assign (.int .i64 74) rfl rfl ?_)
    refine r_nil ?_
    refine g_ret' [.int .i64 74] Try.func38 Try.results38 ⟨rfl, trivial⟩ ?_
    have H25 : St W w F := (((H22.drop 0 rfl).drop 0 rfl).drop 0 rfl)
    exact ⟨vint (by unfold condsE; rw [if_pos (by omega)]), H25⟩
  · skip
    refine r_cons (s_gtr false rfl rfl (dfalse hc24) rfl ?_)
    refine r_nil ?_
    refine g_false rfl ?_
    refine g_skip ?_
    refine g_seq ?_
    refine g_seq ?_
    refine g_region ?_
    refine r_cons (s_move (.slice pp1 l.length cc2) rfl rfl ?_)
    refine r_cons (s_len l.length rfl ⟨_, un_22⟩ rfl ?_)
    refine r_cons (s_move (.int .i64 0) rfl rfl ?_)
    refine r_nil ?_
    refine g_block ?_
    have H26 : St W w (imi (0 < l.length) gA13 (.cells kA15 eA16 zA17) :: Im 1 (.slice pp6 vars.length cc7) vars.length (vars.flatMap strCell) :: Im 11 (.slice pp1 l.length cc2) l.length (l.flatMap condCell) :: F) := (((H22.move 2 rfl).move 2 rfl).move 2 rfl)
    refine g_loop_inv (fun (x_ : Nat) => match x_ with | j => [(1, .slice pp6 vars.length cc7), (4, .int .i64 0), (11, .slice pp1 l.length cc2), (12, .int .i64 (l.length : Int)), (13, .int .i64 (j : Int))]) (fun (x_ : Nat) w => match x_ with | j => (j ≤ l.length) ∧ (∀ q, q < j → condE (l.getD q default) vars = 0) ∧ St W w (imi (0 < l.length) gA13 (.cells kA15 eA16 zA17) :: Im 1 (.slice pp6 vars.length cc7) vars.length (vars.flatMap strCell) :: Im 11 (.slice pp1 l.length cc2) l.length (l.flatMap condCell) :: F)) (fun (x_ : Nat) => match x_ with | j => l.length - j) (0) ?_ ?_ ?_
    · exact ⟨by first | rfl | exact vint (by omega), by first | rfl | exact vint (by omega), by first | rfl | exact vint (by omega), by first | rfl | exact vint (by omega), by first | rfl | exact vint (by omega), trivial⟩
    · exact ⟨(by omega), (fun q hq => by omega), H26⟩
    · rintro j ρ27 w28 ⟨hjn, hz, H29⟩ nx30
      change Ends _ _ (upds ρ27 [(1, .slice pp6 vars.length cc7), (4, .int .i64 0), (11, .slice pp1 l.length cc2), (12, .int .i64 (l.length : Int)), (13, .int .i64 (j : Int))]) w28
      refine g_seq ?_
      refine g_region ?_
      by_cases hc31 : (j : Int) < (l.length : Int)
      · skip
        refine r_cons (s_lss true rfl rfl (dtrue hc31) rfl ?_)
        refine r_nil ?_
        refine g_seq ?_
        refine g_true rfl ?_
        refine g_skip ?_
        refine g_seq ?_
        refine g_block ?_
        refine g_seq ?_
        refine g_region ?_
        refine r_cons (s_indexAddr gA13 (off := oA14) (j : Int) 11 (oA14 + j * 11) (by exact congrArg (fun z_ => Value.slice z_ l.length cc2) (hp19 (by omega))) rfl el_22 (by omega) rfl rfl ?_)
        refine r_cons (s_loadAgg [.string ((l.getD j default).left.var.v), .string ((l.getD j default).left.attr.v), .int .i64 ((l.getD j default).left.val.kind.v), .int .i64 ((l.getD j default).left.val.n.v), .string ((l.getD j default).left.val.s.v), .int .i64 ((l.getD j default).rel.v), .string ((l.getD j default).right.var.v), .string ((l.getD j default).right.attr.v), .int .i64 ((l.getD j default).right.val.kind.v), .int .i64 ((l.getD j default).right.val.n.v), .string ((l.getD j default).right.val.s.v)] 11 ag_43 rfl (H29.imi_at (i := 0) rfl (by omega)) (by have := elem_size (i := j) (s := 11) (hs21 (by omega)) (by omega); omega) (elem_take condCell_len (hx20 (by omega)) (by omega) default) rfl ?_)
        refine r_cons (s_alloc H29 43 ze_43 rfl ?_); intro bk32 w33 H34
        refine r_cons (s_storeAgg H34 0 #[.string ((l.getD j default).left.var.v), .string ((l.getD j default).left.attr.v), .int .i64 ((l.getD j default).left.val.kind.v), .int .i64 ((l.getD j default).left.val.n.v), .string ((l.getD j default).left.val.s.v), .int .i64 ((l.getD j default).rel.v), .string ((l.getD j default).right.var.v), .string ((l.getD j default).right.attr.v), .int .i64 ((l.getD j default).right.val.kind.v), .int .i64 ((l.getD j default).right.val.n.v), .string ((l.getD j default).right.val.s.v)] 11 rfl rfl rfl sz_43 rfl (by simp [Value.oneCell']) (Nat.le_of_ble_eq_true rfl) (fun o h1 h2 => by first | (simp; done) | (simp; omega)) (cs' := #[.string ((l.getD j default).left.var.v), .string ((l.getD j default).left.attr.v), .int .i64 ((l.getD j default).left.val.kind.v), .int .i64 ((l.getD j default).left.val.n.v), .string ((l.getD j default).left.val.s.v), .int .i64 ((l.getD j default).rel.v), .string ((l.getD j default).right.var.v), .string ((l.getD j default).right.attr.v), .int .i64 ((l.getD j default).right.val.kind.v), .int .i64 ((l.getD j default).right.val.n.v), .string ((l.getD j default).right.val.s.v)]) (by kernel_rfl) ?_); intro w35 H36
        refine r_nil ?_
        refine g_seq ?_
        refine g_region ?_
        refine r_cons (s_loadAgg [.string ((l.getD j default).left.var.v), .string ((l.getD j default).left.attr.v), .int .i64 ((l.getD j default).left.val.kind.v), .int .i64 ((l.getD j default).left.val.n.v), .string ((l.getD j default).left.val.s.v), .int .i64 ((l.getD j default).rel.v), .string ((l.getD j default).right.var.v), .string ((l.getD j default).right.attr.v), .int .i64 ((l.getD j default).right.val.kind.v), .int .i64 ((l.getD j default).right.val.n.v), .string ((l.getD j default).right.val.s.v)] 11 ag_43 rfl (H36.blk_at (i := 0) rfl) (Nat.le_of_ble_eq_true rfl) rfl rfl ?_)
        refine r_cons (s_move (.slice pp6 vars.length cc7) rfl rfl ?_)
        refine r_cons (s_call [.agg #[.string ((l.getD j default).left.var.v), .string ((l.getD j default).left.attr.v), .int .i64 ((l.getD j default).left.val.kind.v), .int .i64 ((l.getD j default).left.val.n.v), .string ((l.getD j default).left.val.s.v), .int .i64 ((l.getD j default).rel.v), .string ((l.getD j default).right.var.v), .string ((l.getD j default).right.attr.v), .int .i64 ((l.getD j default).right.val.kind.v), .int .i64 ((l.getD j default).right.val.n.v), .string ((l.getD j default).right.val.s.v)], .slice pp6 vars.length cc7] pl_28 rfl rfl (check_Cond (l.getD j default) vars (.slice pp6 vars.length cc7) (jv := 2) rfl H36) ?_)
        rintro _ w37 ⟨rfl, H38⟩
        refine r_cons (s_assign (.int .i64 (condE (l.getD j default) vars)) rfl rfl ?_)
        refine r_nil ?_
        refine g_seq ?_
        refine g_region ?_
        refine r_cons (s_move (.int .i64 (condE (l.getD j default) vars)) rfl rfl ?_)
        by_cases hc39 : condE (l.getD j default) vars = 0
        · skip
          refine r_cons (s_neq false rfl rfl (ntrue hc39) rfl ?_)
          refine r_nil ?_
          refine g_false rfl ?_
          refine g_skip ?_
          refine g_inBlock ?_
          refine g_region ?_
          refine r_cons (s_add ((j : Int) + 1) rfl rfl (wi64 (by omega)) rfl ?_)
          refine r_cons (s_move (.int .i64 ((j : Int) + 1)) rfl rfl ?_)
          refine r_nil ?_
          have H40 : St W w37 (imi (0 < l.length) gA13 (.cells kA15 eA16 zA17) :: Im 1 (.slice pp6 vars.length cc7) vars.length (vars.flatMap strCell) :: Im 11 (.slice pp1 l.length cc2) l.length (l.flatMap condCell) :: F) := ((((H38.move 3 rfl).move 3 rfl).move 3 rfl).drop 3 rfl)
          exact nx30 (j + 1) _ _ ⟨(by omega), (fun q hq => (Nat.lt_or_ge q j).elim (hz q) (fun h => by rw [show q = j from by omega]; exact hc39)), H40⟩ (by first | (dsimp only; omega) | omega) ⟨by first | rfl | exact vint (by omega), by first | rfl | exact vint (by omega), by first | rfl | exact vint (by omega), by first | rfl | exact vint (by omega), by first | rfl | exact vint (by omega), trivial⟩
        · skip
          refine r_cons (s_neq true rfl rfl (nfalse hc39) rfl ?_)
          refine r_nil ?_
          refine g_true rfl ?_
          refine g_seq ?_
          refine g_region ?_
          refine r_cons (s_move (.int .i64 (condE (l.getD j default) vars)) rfl rfl ?_)
          refine r_cons (s_assign (.int .i64 (condE (l.getD j default) vars)) rfl rfl ?_)
          refine r_nil ?_
          refine g_ret' [.int .i64 (condE (l.getD j default) vars)] Try.func38 Try.results38 ⟨rfl, trivial⟩ ?_
          have H41 : St W w37 F := ((((H38.drop 0 rfl).drop 0 rfl).drop 0 rfl).drop 0 rfl)
          exact ⟨vint (by unfold condsE; rw [if_neg (by omega)]; exact firstE_at (f := (fun c => condE c vars)) hz (by omega) (by omega)), H41⟩
      · skip
        refine r_cons (s_lss false rfl rfl (dfalse hc31) rfl ?_)
        refine r_nil ?_
        refine g_seq ?_
        refine g_false rfl ?_
        refine g_exit (by rfl) ?_
        refine g_seq ?_
        refine g_region ?_
        refine r_cons (s_assign (.int .i64 0) rfl rfl ?_)
        refine r_nil ?_
        refine g_ret' [.int .i64 0] Try.func38 Try.results38 ⟨rfl, trivial⟩ ?_
        have H42 : St W w28 F := (((H29.drop 0 rfl).drop 0 rfl).drop 0 rfl)
        exact ⟨vint (by unfold condsE; rw [if_neg (by omega)]; exact firstE_end (f := (fun c => condE c vars)) hz (by omega)), H42⟩
set_option maxHeartbeats 4000000 in
set_option maxRecDepth 100000 in
theorem check_node_r (N : Nat) : ∀ (n : NodeD), sizeOf n < N → ∀ {W w : World} {F : List Atom}  {i : Nat} (hi : F[i]? = some (NodeA n)) (H : St W w F), Calls Try.prog 40 #[.agg #[.int .i64 n.kind.v, .string n.var.v, .string n.typ.v, .slice n.tp n.tests.length n.tc, .slice n.kp n.kids.length n.kc]] w (Ret fun v w' => v = .int .i64 (nodeE n) ∧ St W w' F) := by
  induction N with | zero => exact fun n hN => absurd hN (Nat.not_lt_zero _) | succ N ih => ?_
  intro n hN W w F i hi H
  have H1 := NodeA.kids H (i := i + 0) (by exact hi)
  have H2 := NodeA.tests H1 (i := i + 2) (by exact hi)
  have H3 : St W w (Im 11 (.slice n.tp n.tests.length n.tc) n.tests.length (n.tests.flatMap condCell) :: Im 5 (.slice n.kp n.kids.length n.kc) n.kids.length (n.kids.flatMap nodeCell) :: NodesA n.kids :: F) := H2
  refine calls_of_go (n := 70) Try.func40 rfl Try.ntmps40 rfl ?_
  refine g_seq ?_
  refine g_region ?_
  refine r_cons (s_box H3 25 (.agg #[.int .i64 n.kind.v, .string n.var.v, .string n.typ.v, .slice n.tp n.tests.length n.tc, .slice n.kp n.kids.length n.kc]) rfl (cs := #[.int .i64 n.kind.v, .string n.var.v, .string n.typ.v, .slice n.tp n.tests.length n.tc, .slice n.kp n.kids.length n.kc]) rfl rfl ?_); intro bk4 w5 H6
  refine r_cons (s_assign (.int .i64 0) rfl rfl ?_)
  refine r_nil ?_
  refine g_seq ?_
  refine g_seq ?_
  refine g_region ?_
  refine r_cons (s_fieldAddr 25 0 0 0 3 rfl fi_25_0 rfl rfl ?_)
  refine r_cons (s_load (.int .i64 n.kind.v) ag_3 rfl (H6.blk_at (i := 0) rfl) rfl rfl ?_)
  refine r_nil ?_
  refine g_block ?_
  refine g_seq ?_
  refine g_region ?_
  by_cases hc7 : n.kind.v = 1
  · skip
    refine r_cons (s_eql true rfl rfl (dtrue hc7) rfl ?_)
    refine r_cons (s_assign (.bool true) rfl rfl ?_)
    refine r_nil ?_
    refine g_true rfl ?_
    refine g_seq ?_
    refine g_seq ?_
    refine g_region ?_
    refine r_cons (s_fieldAddr 25 4 4 4 23 rfl fi_25_4 rfl rfl ?_)
    refine r_cons (s_load (.slice n.kp n.kids.length n.kc) ag_23 rfl (H6.blk_at (i := 0) rfl) rfl rfl ?_)
    refine r_cons (s_len n.kids.length rfl ⟨_, un_23⟩ rfl ?_)
    by_cases hc8 : (0 : Int) < (n.kids.length : Int)
    · skip
      refine r_cons (s_gtr true rfl rfl (dtrue hc8) rfl ?_)
      refine r_cons (s_move (.bool true) rfl rfl ?_)
      refine r_cons (r_pass rfl rfl rfl rfl rfl ?_)
      refine r_cons (r_pass rfl rfl rfl rfl rfl ?_)
      refine r_cons (r_pass rfl rfl rfl rfl rfl ?_)
      refine r_cons (r_pass rfl rfl rfl rfl rfl ?_)
      refine r_cons (s_pick_t (.bool true) rfl rfl rfl ?_)
      refine r_cons (s_move (.bool true) rfl rfl ?_)
      refine r_cons (r_pass rfl rfl rfl rfl rfl ?_)
      refine r_cons (r_pass rfl rfl rfl rfl rfl ?_)
      refine r_cons (r_pass rfl rfl rfl rfl rfl ?_)
      refine r_cons (r_pass rfl rfl rfl rfl rfl ?_)
      refine r_cons (s_pick_t (.bool true) rfl rfl rfl ?_)
      refine r_nil ?_
      refine g_true rfl ?_
      refine g_seq ?_
      refine g_region ?_
      refine r_cons (s_assign (.int .i64 71) rfl rfl ?_)
      refine r_nil ?_
      refine g_ret' [.int .i64 71] Try.func40 Try.results40 ⟨rfl, trivial⟩ ?_
      have hN9 : (0 < n.kids.length) := by omega
      have ho10 : ownE n.kind.v n.var.v n.typ.v n.tests n.kids.length = 71 := by unfold ownE; simp [hc7, hN9]
      have H11 : St W w5 F := ((((H6.drop 0 rfl).drop 0 rfl).drop 0 rfl).drop 0 rfl)
      exact ⟨vint (nodeE_own ho10 (by omega)), H11⟩
    · skip
      refine r_cons (s_gtr false rfl rfl (dfalse hc8) rfl ?_)
      refine r_cons (s_move (.bool false) rfl rfl ?_)
      refine r_cons (r_take rfl rfl ?_)
      refine s_fieldAddr 25 1 1 1 9 rfl fi_25_1 rfl rfl ?_
      refine r_cons (r_take rfl rfl ?_)
      refine s_load (.string n.var.v) ag_9 rfl (H6.blk_at (i := 0) rfl) rfl rfl ?_
      refine r_cons (r_take rfl rfl ?_)
      refine s_call [.string n.var.v] pl_37 rfl rfl (value_Name n.var.v n.var.ok H6) ?_
      rintro _ w12 ⟨rfl, H13⟩
      refine r_cons (r_take rfl rfl ?_)
      refine s_not (nameB n.var.v) rfl (!(nameB n.var.v)) rfl rfl ?_
      refine r_cons (s_pick_f (.bool (!(nameB n.var.v))) rfl rfl rfl ?_)
      refine r_cons (s_move (.bool (!(nameB n.var.v))) rfl rfl ?_)
      by_cases hb14 : (!(nameB n.var.v)) = true
      · skip
        refine r_cons (r_pass rfl (congrArg some hb14) rfl rfl rfl ?_)
        refine r_cons (r_pass rfl (congrArg some hb14) rfl rfl rfl ?_)
        refine r_cons (r_pass rfl (congrArg some hb14) rfl rfl rfl ?_)
        refine r_cons (r_pass rfl (congrArg some hb14) rfl rfl rfl ?_)
        refine r_cons (s_pick_t (.bool true) (by exact congrArg Value.bool hb14) rfl rfl ?_)
        refine r_nil ?_
        refine g_true rfl ?_
        refine g_seq ?_
        refine g_region ?_
        refine r_cons (s_assign (.int .i64 71) rfl rfl ?_)
        refine r_nil ?_
        refine g_ret' [.int .i64 71] Try.func40 Try.results40 ⟨rfl, trivial⟩ ?_
        have hN15 : ¬ (0 < n.kids.length) := by omega
        have hb16 : ((nameB n.var.v)) = false := by simpa using hb14
        have ho17 : ownE n.kind.v n.var.v n.typ.v n.tests n.kids.length = 71 := by unfold ownE; simp [hc7, hN15, hb16]
        have H18 : St W w12 F := ((((H13.drop 0 rfl).drop 0 rfl).drop 0 rfl).drop 0 rfl)
        exact ⟨vint (nodeE_own ho17 (by omega)), H18⟩
      · have hb14 := eq_false_of_ne_true hb14
        refine r_cons (r_take rfl (congrArg some hb14) ?_)
        refine s_fieldAddr 25 2 2 2 9 rfl fi_25_2 rfl rfl ?_
        refine r_cons (r_take rfl (congrArg some hb14) ?_)
        refine s_load (.string n.typ.v) ag_9 rfl (H13.blk_at (i := 0) rfl) rfl rfl ?_
        refine r_cons (r_take rfl (congrArg some hb14) ?_)
        refine s_call [.string n.typ.v] pl_37 rfl rfl (value_Name n.typ.v n.typ.ok H13) ?_
        rintro _ w19 ⟨rfl, H20⟩
        refine r_cons (r_take rfl (congrArg some hb14) ?_)
        refine s_not (nameB n.typ.v) rfl (!(nameB n.typ.v)) rfl rfl ?_
        refine r_cons (s_pick_f (.bool (!(nameB n.typ.v))) (by exact congrArg Value.bool hb14) rfl rfl ?_)
        refine r_nil ?_
        by_cases hb21 : (!(nameB n.typ.v)) = true
        · skip
          refine g_true (congrArg Value.bool hb21) ?_
          refine g_seq ?_
          refine g_region ?_
          refine r_cons (s_assign (.int .i64 71) rfl rfl ?_)
          refine r_nil ?_
          refine g_ret' [.int .i64 71] Try.func40 Try.results40 ⟨rfl, trivial⟩ ?_
          have hN22 : ¬ (0 < n.kids.length) := by omega
          have hb23 : ((nameB n.var.v)) = true := by simpa using hb14
          have hb24 : ((nameB n.typ.v)) = false := by simpa using hb21
          have ho25 : ownE n.kind.v n.var.v n.typ.v n.tests n.kids.length = 71 := by unfold ownE; simp [hc7, hN22, hb23, hb24]
          have H26 : St W w19 F := ((((H20.drop 0 rfl).drop 0 rfl).drop 0 rfl).drop 0 rfl)
          exact ⟨vint (nodeE_own ho25 (by omega)), H26⟩
        · have hb21 := eq_false_of_ne_true hb21
          refine g_false (congrArg Value.bool hb21) ?_
          refine g_skip ?_
          refine g_seq ?_
          refine g_region ?_
          refine r_cons (s_fieldAddr 25 3 3 3 22 rfl fi_25_3 rfl rfl ?_)
          refine r_cons (s_load (.slice n.tp n.tests.length n.tc) ag_22 rfl (H20.blk_at (i := 0) rfl) rfl rfl ?_)
          have H27 : St W w19 (Im 1 (.slice none 0 0) (([] : List Str).length) (([] : List Str).flatMap strCell) :: blk bk4 (.cells #[.int .i64 n.kind.v, .string n.var.v, .string n.typ.v, .slice n.tp n.tests.length n.tc, .slice n.kp n.kids.length n.kc] 25 (0, 0)) :: Im 11 (.slice n.tp n.tests.length n.tc) n.tests.length (n.tests.flatMap condCell) :: Im 5 (.slice n.kp n.kids.length n.kc) n.kids.length (n.kids.flatMap nodeCell) :: NodesA n.kids :: F) := Row.im (Row.nil_intro H20 9 1) (i := 0) rfl
          refine r_cons (s_call [.slice n.tp n.tests.length n.tc, .slice none 0 0] pl_38 rfl rfl (check_conds n.tests (.slice n.tp n.tests.length n.tc) ([] : List Str) (.slice none 0 0) (m := 2) rfl (jv := 0) rfl H27) ?_)
          rintro _ w28 ⟨rfl, H29⟩
          refine r_cons (s_assign (.int .i64 (condsE n.tests ([] : List Str))) rfl rfl ?_)
          refine r_nil ?_
          refine g_seq ?_
          refine g_region ?_
          refine r_cons (s_move (.int .i64 (condsE n.tests ([] : List Str))) rfl rfl ?_)
          by_cases hc30 : condsE n.tests ([] : List Str) = 0
          · skip
            refine r_cons (s_neq false rfl rfl (ntrue hc30) rfl ?_)
            refine r_nil ?_
            refine g_false rfl ?_
            refine g_skip ?_
            refine g_inBlock ?_
            refine g_seq ?_
            refine g_seq ?_
            refine g_region ?_
            refine r_cons (s_fieldAddr 25 4 4 4 23 rfl fi_25_4 rfl rfl ?_)
            refine r_cons (s_load (.slice n.kp n.kids.length n.kc) ag_23 rfl (H29.blk_at (i := 1) rfl) rfl rfl ?_)
            refine r_cons (s_len n.kids.length rfl ⟨_, un_23⟩ rfl ?_)
            refine r_cons (s_move (.int .i64 0) rfl rfl ?_)
            refine r_nil ?_
            refine g_block ?_
            have hN31 : ¬ (0 < n.kids.length) := by omega
            have hb32 : ((nameB n.var.v)) = true := by simpa using hb14
            have hb33 : ((nameB n.typ.v)) = true := by simpa using hb21
            have ho34 : ownE n.kind.v n.var.v n.typ.v n.tests n.kids.length = 0 := by unfold ownE; simp [hc7, hN31, hc30, hb32, hb33]
            obtain ⟨pA35, cA36, gA37, oA38, kA39, eA40, zA41, he47, hn42, hp43, hx44, hs45, hml, H46⟩ := Im.open_ H29 (i := 3) rfl
            obtain ⟨rfl, rfl⟩ : n.kp = pA35 ∧ n.kc = cA36 := by injection he47 with a_ b_ c_; exact ⟨a_, c_⟩
            have H48 : St W w28 (imi (0 < n.kids.length) gA37 (.cells kA39 eA40 zA41) :: Im 1 (.slice none 0 0) (([] : List Str).length) (([] : List Str).flatMap strCell) :: Im 11 (.slice n.tp n.tests.length n.tc) n.tests.length (n.tests.flatMap condCell) :: Im 5 (.slice n.kp n.kids.length n.kc) n.kids.length (n.kids.flatMap nodeCell) :: NodesA n.kids :: F) := ((((((H46.move 5 rfl).move 5 rfl).move 5 rfl).move 4 rfl).move 4 rfl).drop 5 rfl)
            refine g_loop_inv (fun (x_ : Nat) => match x_ with | j => [(2, .int .i64 0), (58, .slice n.kp n.kids.length n.kc), (59, .int .i64 (n.kids.length : Int)), (60, .int .i64 (j : Int))]) (fun (x_ : Nat) w => match x_ with | j => (j ≤ n.kids.length) ∧ (∀ q, q < j → nodeE (n.kids.getD q default) = 0) ∧ St W w (imi (0 < n.kids.length) gA37 (.cells kA39 eA40 zA41) :: Im 1 (.slice none 0 0) (([] : List Str).length) (([] : List Str).flatMap strCell) :: Im 11 (.slice n.tp n.tests.length n.tc) n.tests.length (n.tests.flatMap condCell) :: Im 5 (.slice n.kp n.kids.length n.kc) n.kids.length (n.kids.flatMap nodeCell) :: NodesA n.kids :: F)) (fun (x_ : Nat) => match x_ with | j => n.kids.length - j) (0) ?_ ?_ ?_
            · exact ⟨by first | rfl | exact vint (by omega), by first | rfl | exact vint (by omega), by first | rfl | exact vint (by omega), by first | rfl | exact vint (by omega), trivial⟩
            · exact ⟨(by omega), (fun q hq => by omega), H48⟩
            · rintro j ρ49 w50 ⟨hjl, hz, H51⟩ nx52
              change Ends _ _ (upds ρ49 [(2, .int .i64 0), (58, .slice n.kp n.kids.length n.kc), (59, .int .i64 (n.kids.length : Int)), (60, .int .i64 (j : Int))]) w50
              refine g_seq ?_
              refine g_region ?_
              by_cases hc53 : (j : Int) < (n.kids.length : Int)
              · skip
                refine r_cons (s_lss true rfl rfl (dtrue hc53) rfl ?_)
                refine r_nil ?_
                refine g_seq ?_
                refine g_true rfl ?_
                refine g_skip ?_
                refine g_seq ?_
                refine g_block ?_
                refine g_seq ?_
                refine g_region ?_
                refine r_cons (s_indexAddr gA37 (off := oA38) (j : Int) 5 (oA38 + j * 5) (by exact congrArg (fun z_ => Value.slice z_ n.kids.length n.kc) (hp43 (by omega))) rfl el_23 (by omega) rfl rfl ?_)
                refine r_cons (s_loadAgg [.int .i64 ((n.kids.getD j default).kind.v), .string ((n.kids.getD j default).var.v), .string ((n.kids.getD j default).typ.v), .slice ((n.kids.getD j default).tp) ((n.kids.getD j default).tests.length) ((n.kids.getD j default).tc), .slice ((n.kids.getD j default).kp) ((n.kids.getD j default).kids.length) ((n.kids.getD j default).kc)] 5 ag_25 rfl (H51.imi_at (i := 0) rfl (by omega)) (by have := elem_size (i := j) (s := 5) (hs45 (by omega)) (by omega); omega) (elem_take nodeCell_len (hx44 (by omega)) (by omega) default) rfl ?_)
                refine r_cons (s_alloc H51 25 ze_25 rfl ?_); intro bk54 w55 H56
                refine r_cons (s_storeAgg H56 0 #[.int .i64 ((n.kids.getD j default).kind.v), .string ((n.kids.getD j default).var.v), .string ((n.kids.getD j default).typ.v), .slice ((n.kids.getD j default).tp) ((n.kids.getD j default).tests.length) ((n.kids.getD j default).tc), .slice ((n.kids.getD j default).kp) ((n.kids.getD j default).kids.length) ((n.kids.getD j default).kc)] 5 rfl rfl rfl sz_25 rfl (by simp [Value.oneCell']) (Nat.le_of_ble_eq_true rfl) (fun o h1 h2 => by first | (simp; done) | (simp; omega)) (cs' := #[.int .i64 ((n.kids.getD j default).kind.v), .string ((n.kids.getD j default).var.v), .string ((n.kids.getD j default).typ.v), .slice ((n.kids.getD j default).tp) ((n.kids.getD j default).tests.length) ((n.kids.getD j default).tc), .slice ((n.kids.getD j default).kp) ((n.kids.getD j default).kids.length) ((n.kids.getD j default).kc)]) rfl ?_); intro w57 H58
                refine r_nil ?_
                refine g_seq ?_
                refine g_region ?_
                refine r_cons (s_loadAgg [.int .i64 ((n.kids.getD j default).kind.v), .string ((n.kids.getD j default).var.v), .string ((n.kids.getD j default).typ.v), .slice ((n.kids.getD j default).tp) ((n.kids.getD j default).tests.length) ((n.kids.getD j default).tc), .slice ((n.kids.getD j default).kp) ((n.kids.getD j default).kids.length) ((n.kids.getD j default).kc)] 5 ag_25 rfl (H58.blk_at (i := 0) rfl) (Nat.le_of_ble_eq_true rfl) rfl rfl ?_)
                have H59 := NodesA.at H58 (i := 5) rfl (j := j) (by omega)
                refine r_cons (s_call [.agg #[.int .i64 ((n.kids.getD j default).kind.v), .string ((n.kids.getD j default).var.v), .string ((n.kids.getD j default).typ.v), .slice ((n.kids.getD j default).tp) ((n.kids.getD j default).tests.length) ((n.kids.getD j default).tc), .slice ((n.kids.getD j default).kp) ((n.kids.getD j default).kids.length) ((n.kids.getD j default).kc)]] pl_40 rfl rfl (ih (n.kids.getD j default) (by have h9 := kid_lt (n := n) (j := j) (by omega); omega) (i := 0) rfl H59) ?_)
                rintro _ w60 ⟨rfl, H61⟩
                refine r_cons (s_assign (.int .i64 (nodeE (n.kids.getD j default))) rfl rfl ?_)
                refine r_nil ?_
                refine g_seq ?_
                refine g_region ?_
                refine r_cons (s_move (.int .i64 (nodeE (n.kids.getD j default))) rfl rfl ?_)
                by_cases hc62 : nodeE (n.kids.getD j default) = 0
                · skip
                  refine r_cons (s_neq false rfl rfl (ntrue hc62) rfl ?_)
                  refine r_nil ?_
                  refine g_false rfl ?_
                  refine g_skip ?_
                  refine g_inBlock ?_
                  refine g_region ?_
                  refine r_cons (s_add ((j : Int) + 1) rfl rfl (wi64 (by omega)) rfl ?_)
                  refine r_cons (s_move (.int .i64 ((j : Int) + 1)) rfl rfl ?_)
                  refine r_nil ?_
                  have H63 : St W w60 (imi (0 < n.kids.length) gA37 (.cells kA39 eA40 zA41) :: Im 1 (.slice none 0 0) (([] : List Str).length) (([] : List Str).flatMap strCell) :: Im 11 (.slice n.tp n.tests.length n.tc) n.tests.length (n.tests.flatMap condCell) :: Im 5 (.slice n.kp n.kids.length n.kc) n.kids.length (n.kids.flatMap nodeCell) :: NodesA n.kids :: F) := (((((((H61.move 6 rfl).move 6 rfl).move 6 rfl).move 6 rfl).move 6 rfl).drop 5 rfl).drop 5 rfl)
                  exact nx52 (j + 1) _ _ ⟨(by omega), (fun q hq => (Nat.lt_or_ge q j).elim (hz q) (fun h => by rw [show q = j from by omega]; exact hc62)), H63⟩ (by first | (dsimp only; omega) | omega) ⟨by first | rfl | exact vint (by omega), by first | rfl | exact vint (by omega), by first | rfl | exact vint (by omega), by first | rfl | exact vint (by omega), trivial⟩
                · skip
                  refine r_cons (s_neq true rfl rfl (nfalse hc62) rfl ?_)
                  refine r_nil ?_
                  refine g_true rfl ?_
                  refine g_seq ?_
                  refine g_region ?_
                  refine r_cons (s_move (.int .i64 (nodeE (n.kids.getD j default))) rfl rfl ?_)
                  refine r_cons (s_assign (.int .i64 (nodeE (n.kids.getD j default))) rfl rfl ?_)
                  refine r_nil ?_
                  refine g_ret' [.int .i64 (nodeE (n.kids.getD j default))] Try.func40 Try.results40 ⟨rfl, trivial⟩ ?_
                  have H64 : St W w60 F := (((((((H61.drop 0 rfl).drop 0 rfl).drop 0 rfl).drop 0 rfl).drop 0 rfl).drop 0 rfl).drop 0 rfl)
                  exact ⟨vint ((firstE_at (f := nodeE) hz (by omega) (by omega)).trans (nodeE_kids ho34).symm), H64⟩
              · skip
                refine r_cons (s_lss false rfl rfl (dfalse hc53) rfl ?_)
                refine r_nil ?_
                refine g_seq ?_
                refine g_false rfl ?_
                refine g_exit (by rfl) ?_
                refine g_seq ?_
                refine g_region ?_
                refine r_cons (s_assign (.int .i64 0) rfl rfl ?_)
                refine r_nil ?_
                refine g_ret' [.int .i64 0] Try.func40 Try.results40 ⟨rfl, trivial⟩ ?_
                have H65 : St W w50 F := (((((H51.drop 0 rfl).drop 0 rfl).drop 0 rfl).drop 0 rfl).drop 0 rfl)
                exact ⟨vint ((firstE_end (f := nodeE) hz (by omega)).trans (nodeE_kids ho34).symm), H65⟩
          · skip
            refine r_cons (s_neq true rfl rfl (nfalse hc30) rfl ?_)
            refine r_nil ?_
            refine g_true rfl ?_
            refine g_seq ?_
            refine g_region ?_
            refine r_cons (s_move (.int .i64 (condsE n.tests ([] : List Str))) rfl rfl ?_)
            refine r_cons (s_assign (.int .i64 (condsE n.tests ([] : List Str))) rfl rfl ?_)
            refine r_nil ?_
            refine g_ret' [.int .i64 (condsE n.tests ([] : List Str))] Try.func40 Try.results40 ⟨rfl, trivial⟩ ?_
            have hN66 : ¬ (0 < n.kids.length) := by omega
            have hb67 : ((nameB n.var.v)) = true := by simpa using hb14
            have hb68 : ((nameB n.typ.v)) = true := by simpa using hb21
            have ho69 : ownE n.kind.v n.var.v n.typ.v n.tests n.kids.length = condsE n.tests ([] : List Str) := by unfold ownE; simp [hc7, hN66, hc30, hb67, hb68]
            have H70 : St W w28 F := (((((H29.drop 0 rfl).drop 0 rfl).drop 0 rfl).drop 0 rfl).drop 0 rfl)
            exact ⟨vint (nodeE_own ho69 (by omega)), H70⟩
  · skip
    refine r_cons (s_eql false rfl rfl (dfalse hc7) rfl ?_)
    refine r_cons (s_assign (.bool false) rfl rfl ?_)
    refine r_nil ?_
    refine g_false rfl ?_
    refine g_seq ?_
    refine g_seq ?_
    refine g_region ?_
    by_cases hc71 : n.kind.v = 2
    · skip
      refine r_cons (s_eql true rfl rfl (dtrue hc71) rfl ?_)
      refine r_cons (s_assign (.bool true) rfl rfl ?_)
      refine r_nil ?_
      refine g_true rfl ?_
      refine g_skip ?_
      refine g_true rfl ?_
      refine g_seq ?_
      refine g_region ?_
      refine r_cons (s_fieldAddr 25 4 4 4 23 rfl fi_25_4 rfl rfl ?_)
      refine r_cons (s_load (.slice n.kp n.kids.length n.kc) ag_23 rfl (H6.blk_at (i := 0) rfl) rfl rfl ?_)
      refine r_cons (s_len n.kids.length rfl ⟨_, un_23⟩ rfl ?_)
      by_cases hc72 : (n.kids.length : Int) < 2
      · skip
        refine r_cons (s_lss true rfl rfl (dtrue hc72) rfl ?_)
        refine r_cons (s_move (.bool true) rfl rfl ?_)
        refine r_cons (r_pass rfl rfl rfl rfl rfl ?_)
        refine r_cons (r_pass rfl rfl rfl rfl rfl ?_)
        refine r_cons (r_pass rfl rfl rfl rfl rfl ?_)
        refine r_cons (s_pick_t (.bool true) rfl rfl rfl ?_)
        refine r_cons (s_move (.bool true) rfl rfl ?_)
        refine r_cons (r_pass rfl rfl rfl rfl rfl ?_)
        refine r_cons (r_pass rfl rfl rfl rfl rfl ?_)
        refine r_cons (r_pass rfl rfl rfl rfl rfl ?_)
        refine r_cons (s_pick_t (.bool true) rfl rfl rfl ?_)
        refine r_cons (s_move (.bool true) rfl rfl ?_)
        refine r_cons (r_pass rfl rfl rfl rfl rfl ?_)
        refine r_cons (r_pass rfl rfl rfl rfl rfl ?_)
        refine r_cons (r_pass rfl rfl rfl rfl rfl ?_)
        refine r_cons (r_pass rfl rfl rfl rfl rfl ?_)
        refine r_cons (s_pick_t (.bool true) rfl rfl rfl ?_)
        refine r_nil ?_
        refine g_true rfl ?_
        refine g_seq ?_
        refine g_region ?_
        refine r_cons (s_assign (.int .i64 71) rfl rfl ?_)
        refine r_nil ?_
        refine g_ret' [.int .i64 71] Try.func40 Try.results40 ⟨rfl, trivial⟩ ?_
        have hN73 : (n.kids.length < 2) := by omega
        have ho74 : ownE n.kind.v n.var.v n.typ.v n.tests n.kids.length = 71 := by unfold ownE; simp [hc7, hc71, hN73]
        have H75 : St W w5 F := ((((H6.drop 0 rfl).drop 0 rfl).drop 0 rfl).drop 0 rfl)
        exact ⟨vint (nodeE_own ho74 (by omega)), H75⟩
      · skip
        refine r_cons (s_lss false rfl rfl (dfalse hc72) rfl ?_)
        refine r_cons (s_move (.bool false) rfl rfl ?_)
        refine r_cons (r_take rfl rfl ?_)
        refine s_fieldAddr 25 1 1 1 9 rfl fi_25_1 rfl rfl ?_
        refine r_cons (r_take rfl rfl ?_)
        refine s_load (.string n.var.v) ag_9 rfl (H6.blk_at (i := 0) rfl) rfl rfl ?_
        refine r_cons (r_take rfl rfl ?_)
        by_cases hc76 : n.var.v = ByteArray.empty
        · skip
          refine s_sneq false rfl rfl (ntrue hc76) rfl ?_
          refine r_cons (s_pick_f (.bool false) rfl rfl rfl ?_)
          refine r_cons (s_move (.bool false) rfl rfl ?_)
          refine r_cons (r_take rfl rfl ?_)
          refine s_fieldAddr 25 2 2 2 9 rfl fi_25_2 rfl rfl ?_
          refine r_cons (r_take rfl rfl ?_)
          refine s_load (.string n.typ.v) ag_9 rfl (H6.blk_at (i := 0) rfl) rfl rfl ?_
          refine r_cons (r_take rfl rfl ?_)
          by_cases hc77 : n.typ.v = ByteArray.empty
          · skip
            refine s_sneq false rfl rfl (ntrue hc77) rfl ?_
            refine r_cons (s_pick_f (.bool false) rfl rfl rfl ?_)
            refine r_cons (s_move (.bool false) rfl rfl ?_)
            refine r_cons (r_take rfl rfl ?_)
            refine s_fieldAddr 25 3 3 3 22 rfl fi_25_3 rfl rfl ?_
            refine r_cons (r_take rfl rfl ?_)
            refine s_load (.slice n.tp n.tests.length n.tc) ag_22 rfl (H6.blk_at (i := 0) rfl) rfl rfl ?_
            refine r_cons (r_take rfl rfl ?_)
            refine s_len n.tests.length rfl ⟨_, un_22⟩ rfl ?_
            refine r_cons (r_take rfl rfl ?_)
            by_cases hc78 : (0 : Int) < (n.tests.length : Int)
            · skip
              refine s_gtr true rfl rfl (dtrue hc78) rfl ?_
              refine r_cons (s_pick_f (.bool true) rfl rfl rfl ?_)
              refine r_nil ?_
              refine g_true rfl ?_
              refine g_seq ?_
              refine g_region ?_
              refine r_cons (s_assign (.int .i64 71) rfl rfl ?_)
              refine r_nil ?_
              refine g_ret' [.int .i64 71] Try.func40 Try.results40 ⟨rfl, trivial⟩ ?_
              have hN79 : ¬ (n.kids.length < 2) := by omega
              have hN80 : (0 < n.tests.length) := by omega
              have ho81 : ownE n.kind.v n.var.v n.typ.v n.tests n.kids.length = 71 := by unfold ownE; simp [hc7, hc71, hN79, hN80, hc76, hc77]
              have H82 : St W w5 F := ((((H6.drop 0 rfl).drop 0 rfl).drop 0 rfl).drop 0 rfl)
              exact ⟨vint (nodeE_own ho81 (by omega)), H82⟩
            · skip
              refine s_gtr false rfl rfl (dfalse hc78) rfl ?_
              refine r_cons (s_pick_f (.bool false) rfl rfl rfl ?_)
              refine r_nil ?_
              refine g_false rfl ?_
              refine g_skip ?_
              refine g_inBlock ?_
              refine g_seq ?_
              refine g_seq ?_
              refine g_region ?_
              refine r_cons (s_fieldAddr 25 4 4 4 23 rfl fi_25_4 rfl rfl ?_)
              refine r_cons (s_load (.slice n.kp n.kids.length n.kc) ag_23 rfl (H6.blk_at (i := 0) rfl) rfl rfl ?_)
              refine r_cons (s_len n.kids.length rfl ⟨_, un_23⟩ rfl ?_)
              refine r_cons (s_move (.int .i64 0) rfl rfl ?_)
              refine r_nil ?_
              refine g_block ?_
              have hN83 : ¬ (n.kids.length < 2) := by omega
              have hN84 : ¬ (0 < n.tests.length) := by omega
              have ho85 : ownE n.kind.v n.var.v n.typ.v n.tests n.kids.length = 0 := by unfold ownE; simp [hc7, hc71, hN83, hN84, hc76, hc77]
              obtain ⟨pA86, cA87, gA88, oA89, kA90, eA91, zA92, he98, hn93, hp94, hx95, hs96, hml, H97⟩ := Im.open_ H6 (i := 2) rfl
              obtain ⟨rfl, rfl⟩ : n.kp = pA86 ∧ n.kc = cA87 := by injection he98 with a_ b_ c_; exact ⟨a_, c_⟩
              have H99 : St W w5 (imi (0 < n.kids.length) gA88 (.cells kA90 eA91 zA92) :: Im 11 (.slice n.tp n.tests.length n.tc) n.tests.length (n.tests.flatMap condCell) :: Im 5 (.slice n.kp n.kids.length n.kc) n.kids.length (n.kids.flatMap nodeCell) :: NodesA n.kids :: F) := (((((H97.move 4 rfl).move 4 rfl).move 4 rfl).move 3 rfl).drop 4 rfl)
              refine g_loop_inv (fun (x_ : Nat) => match x_ with | j => [(2, .int .i64 0), (58, .slice n.kp n.kids.length n.kc), (59, .int .i64 (n.kids.length : Int)), (60, .int .i64 (j : Int))]) (fun (x_ : Nat) w => match x_ with | j => (j ≤ n.kids.length) ∧ (∀ q, q < j → nodeE (n.kids.getD q default) = 0) ∧ St W w (imi (0 < n.kids.length) gA88 (.cells kA90 eA91 zA92) :: Im 11 (.slice n.tp n.tests.length n.tc) n.tests.length (n.tests.flatMap condCell) :: Im 5 (.slice n.kp n.kids.length n.kc) n.kids.length (n.kids.flatMap nodeCell) :: NodesA n.kids :: F)) (fun (x_ : Nat) => match x_ with | j => n.kids.length - j) (0) ?_ ?_ ?_
              · exact ⟨by first | rfl | exact vint (by omega), by first | rfl | exact vint (by omega), by first | rfl | exact vint (by omega), by first | rfl | exact vint (by omega), trivial⟩
              · exact ⟨(by omega), (fun q hq => by omega), H99⟩
              · rintro j ρ100 w101 ⟨hjl, hz, H102⟩ nx103
                change Ends _ _ (upds ρ100 [(2, .int .i64 0), (58, .slice n.kp n.kids.length n.kc), (59, .int .i64 (n.kids.length : Int)), (60, .int .i64 (j : Int))]) w101
                refine g_seq ?_
                refine g_region ?_
                by_cases hc104 : (j : Int) < (n.kids.length : Int)
                · skip
                  refine r_cons (s_lss true rfl rfl (dtrue hc104) rfl ?_)
                  refine r_nil ?_
                  refine g_seq ?_
                  refine g_true rfl ?_
                  refine g_skip ?_
                  refine g_seq ?_
                  refine g_block ?_
                  refine g_seq ?_
                  refine g_region ?_
                  refine r_cons (s_indexAddr gA88 (off := oA89) (j : Int) 5 (oA89 + j * 5) (by exact congrArg (fun z_ => Value.slice z_ n.kids.length n.kc) (hp94 (by omega))) rfl el_23 (by omega) rfl rfl ?_)
                  refine r_cons (s_loadAgg [.int .i64 ((n.kids.getD j default).kind.v), .string ((n.kids.getD j default).var.v), .string ((n.kids.getD j default).typ.v), .slice ((n.kids.getD j default).tp) ((n.kids.getD j default).tests.length) ((n.kids.getD j default).tc), .slice ((n.kids.getD j default).kp) ((n.kids.getD j default).kids.length) ((n.kids.getD j default).kc)] 5 ag_25 rfl (H102.imi_at (i := 0) rfl (by omega)) (by have := elem_size (i := j) (s := 5) (hs96 (by omega)) (by omega); omega) (elem_take nodeCell_len (hx95 (by omega)) (by omega) default) rfl ?_)
                  refine r_cons (s_alloc H102 25 ze_25 rfl ?_); intro bk105 w106 H107
                  refine r_cons (s_storeAgg H107 0 #[.int .i64 ((n.kids.getD j default).kind.v), .string ((n.kids.getD j default).var.v), .string ((n.kids.getD j default).typ.v), .slice ((n.kids.getD j default).tp) ((n.kids.getD j default).tests.length) ((n.kids.getD j default).tc), .slice ((n.kids.getD j default).kp) ((n.kids.getD j default).kids.length) ((n.kids.getD j default).kc)] 5 rfl rfl rfl sz_25 rfl (by simp [Value.oneCell']) (Nat.le_of_ble_eq_true rfl) (fun o h1 h2 => by first | (simp; done) | (simp; omega)) (cs' := #[.int .i64 ((n.kids.getD j default).kind.v), .string ((n.kids.getD j default).var.v), .string ((n.kids.getD j default).typ.v), .slice ((n.kids.getD j default).tp) ((n.kids.getD j default).tests.length) ((n.kids.getD j default).tc), .slice ((n.kids.getD j default).kp) ((n.kids.getD j default).kids.length) ((n.kids.getD j default).kc)]) rfl ?_); intro w108 H109
                  refine r_nil ?_
                  refine g_seq ?_
                  refine g_region ?_
                  refine r_cons (s_loadAgg [.int .i64 ((n.kids.getD j default).kind.v), .string ((n.kids.getD j default).var.v), .string ((n.kids.getD j default).typ.v), .slice ((n.kids.getD j default).tp) ((n.kids.getD j default).tests.length) ((n.kids.getD j default).tc), .slice ((n.kids.getD j default).kp) ((n.kids.getD j default).kids.length) ((n.kids.getD j default).kc)] 5 ag_25 rfl (H109.blk_at (i := 0) rfl) (Nat.le_of_ble_eq_true rfl) rfl rfl ?_)
                  have H110 := NodesA.at H109 (i := 4) rfl (j := j) (by omega)
                  refine r_cons (s_call [.agg #[.int .i64 ((n.kids.getD j default).kind.v), .string ((n.kids.getD j default).var.v), .string ((n.kids.getD j default).typ.v), .slice ((n.kids.getD j default).tp) ((n.kids.getD j default).tests.length) ((n.kids.getD j default).tc), .slice ((n.kids.getD j default).kp) ((n.kids.getD j default).kids.length) ((n.kids.getD j default).kc)]] pl_40 rfl rfl (ih (n.kids.getD j default) (by have h9 := kid_lt (n := n) (j := j) (by omega); omega) (i := 0) rfl H110) ?_)
                  rintro _ w111 ⟨rfl, H112⟩
                  refine r_cons (s_assign (.int .i64 (nodeE (n.kids.getD j default))) rfl rfl ?_)
                  refine r_nil ?_
                  refine g_seq ?_
                  refine g_region ?_
                  refine r_cons (s_move (.int .i64 (nodeE (n.kids.getD j default))) rfl rfl ?_)
                  by_cases hc113 : nodeE (n.kids.getD j default) = 0
                  · skip
                    refine r_cons (s_neq false rfl rfl (ntrue hc113) rfl ?_)
                    refine r_nil ?_
                    refine g_false rfl ?_
                    refine g_skip ?_
                    refine g_inBlock ?_
                    refine g_region ?_
                    refine r_cons (s_add ((j : Int) + 1) rfl rfl (wi64 (by omega)) rfl ?_)
                    refine r_cons (s_move (.int .i64 ((j : Int) + 1)) rfl rfl ?_)
                    refine r_nil ?_
                    have H114 : St W w111 (imi (0 < n.kids.length) gA88 (.cells kA90 eA91 zA92) :: Im 11 (.slice n.tp n.tests.length n.tc) n.tests.length (n.tests.flatMap condCell) :: Im 5 (.slice n.kp n.kids.length n.kc) n.kids.length (n.kids.flatMap nodeCell) :: NodesA n.kids :: F) := ((((((H112.move 5 rfl).move 5 rfl).move 5 rfl).move 5 rfl).drop 4 rfl).drop 4 rfl)
                    exact nx103 (j + 1) _ _ ⟨(by omega), (fun q hq => (Nat.lt_or_ge q j).elim (hz q) (fun h => by rw [show q = j from by omega]; exact hc113)), H114⟩ (by first | (dsimp only; omega) | omega) ⟨by first | rfl | exact vint (by omega), by first | rfl | exact vint (by omega), by first | rfl | exact vint (by omega), by first | rfl | exact vint (by omega), trivial⟩
                  · skip
                    refine r_cons (s_neq true rfl rfl (nfalse hc113) rfl ?_)
                    refine r_nil ?_
                    refine g_true rfl ?_
                    refine g_seq ?_
                    refine g_region ?_
                    refine r_cons (s_move (.int .i64 (nodeE (n.kids.getD j default))) rfl rfl ?_)
                    refine r_cons (s_assign (.int .i64 (nodeE (n.kids.getD j default))) rfl rfl ?_)
                    refine r_nil ?_
                    refine g_ret' [.int .i64 (nodeE (n.kids.getD j default))] Try.func40 Try.results40 ⟨rfl, trivial⟩ ?_
                    have H115 : St W w111 F := ((((((H112.drop 0 rfl).drop 0 rfl).drop 0 rfl).drop 0 rfl).drop 0 rfl).drop 0 rfl)
                    exact ⟨vint ((firstE_at (f := nodeE) hz (by omega) (by omega)).trans (nodeE_kids ho85).symm), H115⟩
                · skip
                  refine r_cons (s_lss false rfl rfl (dfalse hc104) rfl ?_)
                  refine r_nil ?_
                  refine g_seq ?_
                  refine g_false rfl ?_
                  refine g_exit (by rfl) ?_
                  refine g_seq ?_
                  refine g_region ?_
                  refine r_cons (s_assign (.int .i64 0) rfl rfl ?_)
                  refine r_nil ?_
                  refine g_ret' [.int .i64 0] Try.func40 Try.results40 ⟨rfl, trivial⟩ ?_
                  have H116 : St W w101 F := ((((H102.drop 0 rfl).drop 0 rfl).drop 0 rfl).drop 0 rfl)
                  exact ⟨vint ((firstE_end (f := nodeE) hz (by omega)).trans (nodeE_kids ho85).symm), H116⟩
          · skip
            refine s_sneq true rfl rfl (nfalse hc77) rfl ?_
            refine r_cons (s_pick_f (.bool true) rfl rfl rfl ?_)
            refine r_cons (s_move (.bool true) rfl rfl ?_)
            refine r_cons (r_pass rfl rfl rfl rfl rfl ?_)
            refine r_cons (r_pass rfl rfl rfl rfl rfl ?_)
            refine r_cons (r_pass rfl rfl rfl rfl rfl ?_)
            refine r_cons (r_pass rfl rfl rfl rfl rfl ?_)
            refine r_cons (s_pick_t (.bool true) rfl rfl rfl ?_)
            refine r_nil ?_
            refine g_true rfl ?_
            refine g_seq ?_
            refine g_region ?_
            refine r_cons (s_assign (.int .i64 71) rfl rfl ?_)
            refine r_nil ?_
            refine g_ret' [.int .i64 71] Try.func40 Try.results40 ⟨rfl, trivial⟩ ?_
            have hN117 : ¬ (n.kids.length < 2) := by omega
            have ho118 : ownE n.kind.v n.var.v n.typ.v n.tests n.kids.length = 71 := by unfold ownE; simp [hc7, hc71, hN117, hc76, hc77]
            have H119 : St W w5 F := ((((H6.drop 0 rfl).drop 0 rfl).drop 0 rfl).drop 0 rfl)
            exact ⟨vint (nodeE_own ho118 (by omega)), H119⟩
        · skip
          refine s_sneq true rfl rfl (nfalse hc76) rfl ?_
          refine r_cons (s_pick_f (.bool true) rfl rfl rfl ?_)
          refine r_cons (s_move (.bool true) rfl rfl ?_)
          refine r_cons (r_pass rfl rfl rfl rfl rfl ?_)
          refine r_cons (r_pass rfl rfl rfl rfl rfl ?_)
          refine r_cons (r_pass rfl rfl rfl rfl rfl ?_)
          refine r_cons (s_pick_t (.bool true) rfl rfl rfl ?_)
          refine r_cons (s_move (.bool true) rfl rfl ?_)
          refine r_cons (r_pass rfl rfl rfl rfl rfl ?_)
          refine r_cons (r_pass rfl rfl rfl rfl rfl ?_)
          refine r_cons (r_pass rfl rfl rfl rfl rfl ?_)
          refine r_cons (r_pass rfl rfl rfl rfl rfl ?_)
          refine r_cons (s_pick_t (.bool true) rfl rfl rfl ?_)
          refine r_nil ?_
          refine g_true rfl ?_
          refine g_seq ?_
          refine g_region ?_
          refine r_cons (s_assign (.int .i64 71) rfl rfl ?_)
          refine r_nil ?_
          refine g_ret' [.int .i64 71] Try.func40 Try.results40 ⟨rfl, trivial⟩ ?_
          have hN120 : ¬ (n.kids.length < 2) := by omega
          have ho121 : ownE n.kind.v n.var.v n.typ.v n.tests n.kids.length = 71 := by unfold ownE; simp [hc7, hc71, hN120, hc76]
          have H122 : St W w5 F := ((((H6.drop 0 rfl).drop 0 rfl).drop 0 rfl).drop 0 rfl)
          exact ⟨vint (nodeE_own ho121 (by omega)), H122⟩
    · skip
      refine r_cons (s_eql false rfl rfl (dfalse hc71) rfl ?_)
      refine r_cons (s_assign (.bool false) rfl rfl ?_)
      refine r_nil ?_
      refine g_false rfl ?_
      refine g_seq ?_
      refine g_region ?_
      by_cases hc123 : n.kind.v = 3
      · skip
        refine r_cons (s_eql true rfl rfl (dtrue hc123) rfl ?_)
        refine r_cons (s_assign (.bool true) rfl rfl ?_)
        refine r_nil ?_
        refine g_true rfl ?_
        refine g_skip ?_
        refine g_true rfl ?_
        refine g_seq ?_
        refine g_region ?_
        refine r_cons (s_fieldAddr 25 4 4 4 23 rfl fi_25_4 rfl rfl ?_)
        refine r_cons (s_load (.slice n.kp n.kids.length n.kc) ag_23 rfl (H6.blk_at (i := 0) rfl) rfl rfl ?_)
        refine r_cons (s_len n.kids.length rfl ⟨_, un_23⟩ rfl ?_)
        by_cases hc124 : (n.kids.length : Int) < 2
        · skip
          refine r_cons (s_lss true rfl rfl (dtrue hc124) rfl ?_)
          refine r_cons (s_move (.bool true) rfl rfl ?_)
          refine r_cons (r_pass rfl rfl rfl rfl rfl ?_)
          refine r_cons (r_pass rfl rfl rfl rfl rfl ?_)
          refine r_cons (r_pass rfl rfl rfl rfl rfl ?_)
          refine r_cons (s_pick_t (.bool true) rfl rfl rfl ?_)
          refine r_cons (s_move (.bool true) rfl rfl ?_)
          refine r_cons (r_pass rfl rfl rfl rfl rfl ?_)
          refine r_cons (r_pass rfl rfl rfl rfl rfl ?_)
          refine r_cons (r_pass rfl rfl rfl rfl rfl ?_)
          refine r_cons (s_pick_t (.bool true) rfl rfl rfl ?_)
          refine r_cons (s_move (.bool true) rfl rfl ?_)
          refine r_cons (r_pass rfl rfl rfl rfl rfl ?_)
          refine r_cons (r_pass rfl rfl rfl rfl rfl ?_)
          refine r_cons (r_pass rfl rfl rfl rfl rfl ?_)
          refine r_cons (r_pass rfl rfl rfl rfl rfl ?_)
          refine r_cons (s_pick_t (.bool true) rfl rfl rfl ?_)
          refine r_nil ?_
          refine g_true rfl ?_
          refine g_seq ?_
          refine g_region ?_
          refine r_cons (s_assign (.int .i64 71) rfl rfl ?_)
          refine r_nil ?_
          refine g_ret' [.int .i64 71] Try.func40 Try.results40 ⟨rfl, trivial⟩ ?_
          have hN125 : (n.kids.length < 2) := by omega
          have ho126 : ownE n.kind.v n.var.v n.typ.v n.tests n.kids.length = 71 := by unfold ownE; simp [hc7, hc71, hc123, hN125]
          have H127 : St W w5 F := ((((H6.drop 0 rfl).drop 0 rfl).drop 0 rfl).drop 0 rfl)
          exact ⟨vint (nodeE_own ho126 (by omega)), H127⟩
        · skip
          refine r_cons (s_lss false rfl rfl (dfalse hc124) rfl ?_)
          refine r_cons (s_move (.bool false) rfl rfl ?_)
          refine r_cons (r_take rfl rfl ?_)
          refine s_fieldAddr 25 1 1 1 9 rfl fi_25_1 rfl rfl ?_
          refine r_cons (r_take rfl rfl ?_)
          refine s_load (.string n.var.v) ag_9 rfl (H6.blk_at (i := 0) rfl) rfl rfl ?_
          refine r_cons (r_take rfl rfl ?_)
          by_cases hc128 : n.var.v = ByteArray.empty
          · skip
            refine s_sneq false rfl rfl (ntrue hc128) rfl ?_
            refine r_cons (s_pick_f (.bool false) rfl rfl rfl ?_)
            refine r_cons (s_move (.bool false) rfl rfl ?_)
            refine r_cons (r_take rfl rfl ?_)
            refine s_fieldAddr 25 2 2 2 9 rfl fi_25_2 rfl rfl ?_
            refine r_cons (r_take rfl rfl ?_)
            refine s_load (.string n.typ.v) ag_9 rfl (H6.blk_at (i := 0) rfl) rfl rfl ?_
            refine r_cons (r_take rfl rfl ?_)
            by_cases hc129 : n.typ.v = ByteArray.empty
            · skip
              refine s_sneq false rfl rfl (ntrue hc129) rfl ?_
              refine r_cons (s_pick_f (.bool false) rfl rfl rfl ?_)
              refine r_cons (s_move (.bool false) rfl rfl ?_)
              refine r_cons (r_take rfl rfl ?_)
              refine s_fieldAddr 25 3 3 3 22 rfl fi_25_3 rfl rfl ?_
              refine r_cons (r_take rfl rfl ?_)
              refine s_load (.slice n.tp n.tests.length n.tc) ag_22 rfl (H6.blk_at (i := 0) rfl) rfl rfl ?_
              refine r_cons (r_take rfl rfl ?_)
              refine s_len n.tests.length rfl ⟨_, un_22⟩ rfl ?_
              refine r_cons (r_take rfl rfl ?_)
              by_cases hc130 : (0 : Int) < (n.tests.length : Int)
              · skip
                refine s_gtr true rfl rfl (dtrue hc130) rfl ?_
                refine r_cons (s_pick_f (.bool true) rfl rfl rfl ?_)
                refine r_nil ?_
                refine g_true rfl ?_
                refine g_seq ?_
                refine g_region ?_
                refine r_cons (s_assign (.int .i64 71) rfl rfl ?_)
                refine r_nil ?_
                refine g_ret' [.int .i64 71] Try.func40 Try.results40 ⟨rfl, trivial⟩ ?_
                have hN131 : ¬ (n.kids.length < 2) := by omega
                have hN132 : (0 < n.tests.length) := by omega
                have ho133 : ownE n.kind.v n.var.v n.typ.v n.tests n.kids.length = 71 := by unfold ownE; simp [hc7, hc71, hc123, hN131, hN132, hc128, hc129]
                have H134 : St W w5 F := ((((H6.drop 0 rfl).drop 0 rfl).drop 0 rfl).drop 0 rfl)
                exact ⟨vint (nodeE_own ho133 (by omega)), H134⟩
              · skip
                refine s_gtr false rfl rfl (dfalse hc130) rfl ?_
                refine r_cons (s_pick_f (.bool false) rfl rfl rfl ?_)
                refine r_nil ?_
                refine g_false rfl ?_
                refine g_skip ?_
                refine g_inBlock ?_
                refine g_seq ?_
                refine g_seq ?_
                refine g_region ?_
                refine r_cons (s_fieldAddr 25 4 4 4 23 rfl fi_25_4 rfl rfl ?_)
                refine r_cons (s_load (.slice n.kp n.kids.length n.kc) ag_23 rfl (H6.blk_at (i := 0) rfl) rfl rfl ?_)
                refine r_cons (s_len n.kids.length rfl ⟨_, un_23⟩ rfl ?_)
                refine r_cons (s_move (.int .i64 0) rfl rfl ?_)
                refine r_nil ?_
                refine g_block ?_
                have hN135 : ¬ (n.kids.length < 2) := by omega
                have hN136 : ¬ (0 < n.tests.length) := by omega
                have ho137 : ownE n.kind.v n.var.v n.typ.v n.tests n.kids.length = 0 := by unfold ownE; simp [hc7, hc71, hc123, hN135, hN136, hc128, hc129]
                obtain ⟨pA138, cA139, gA140, oA141, kA142, eA143, zA144, he150, hn145, hp146, hx147, hs148, hml, H149⟩ := Im.open_ H6 (i := 2) rfl
                obtain ⟨rfl, rfl⟩ : n.kp = pA138 ∧ n.kc = cA139 := by injection he150 with a_ b_ c_; exact ⟨a_, c_⟩
                have H151 : St W w5 (imi (0 < n.kids.length) gA140 (.cells kA142 eA143 zA144) :: Im 11 (.slice n.tp n.tests.length n.tc) n.tests.length (n.tests.flatMap condCell) :: Im 5 (.slice n.kp n.kids.length n.kc) n.kids.length (n.kids.flatMap nodeCell) :: NodesA n.kids :: F) := (((((H149.move 4 rfl).move 4 rfl).move 4 rfl).move 3 rfl).drop 4 rfl)
                refine g_loop_inv (fun (x_ : Nat) => match x_ with | j => [(2, .int .i64 0), (58, .slice n.kp n.kids.length n.kc), (59, .int .i64 (n.kids.length : Int)), (60, .int .i64 (j : Int))]) (fun (x_ : Nat) w => match x_ with | j => (j ≤ n.kids.length) ∧ (∀ q, q < j → nodeE (n.kids.getD q default) = 0) ∧ St W w (imi (0 < n.kids.length) gA140 (.cells kA142 eA143 zA144) :: Im 11 (.slice n.tp n.tests.length n.tc) n.tests.length (n.tests.flatMap condCell) :: Im 5 (.slice n.kp n.kids.length n.kc) n.kids.length (n.kids.flatMap nodeCell) :: NodesA n.kids :: F)) (fun (x_ : Nat) => match x_ with | j => n.kids.length - j) (0) ?_ ?_ ?_
                · exact ⟨by first | rfl | exact vint (by omega), by first | rfl | exact vint (by omega), by first | rfl | exact vint (by omega), by first | rfl | exact vint (by omega), trivial⟩
                · exact ⟨(by omega), (fun q hq => by omega), H151⟩
                · rintro j ρ152 w153 ⟨hjl, hz, H154⟩ nx155
                  change Ends _ _ (upds ρ152 [(2, .int .i64 0), (58, .slice n.kp n.kids.length n.kc), (59, .int .i64 (n.kids.length : Int)), (60, .int .i64 (j : Int))]) w153
                  refine g_seq ?_
                  refine g_region ?_
                  by_cases hc156 : (j : Int) < (n.kids.length : Int)
                  · skip
                    refine r_cons (s_lss true rfl rfl (dtrue hc156) rfl ?_)
                    refine r_nil ?_
                    refine g_seq ?_
                    refine g_true rfl ?_
                    refine g_skip ?_
                    refine g_seq ?_
                    refine g_block ?_
                    refine g_seq ?_
                    refine g_region ?_
                    refine r_cons (s_indexAddr gA140 (off := oA141) (j : Int) 5 (oA141 + j * 5) (by exact congrArg (fun z_ => Value.slice z_ n.kids.length n.kc) (hp146 (by omega))) rfl el_23 (by omega) rfl rfl ?_)
                    refine r_cons (s_loadAgg [.int .i64 ((n.kids.getD j default).kind.v), .string ((n.kids.getD j default).var.v), .string ((n.kids.getD j default).typ.v), .slice ((n.kids.getD j default).tp) ((n.kids.getD j default).tests.length) ((n.kids.getD j default).tc), .slice ((n.kids.getD j default).kp) ((n.kids.getD j default).kids.length) ((n.kids.getD j default).kc)] 5 ag_25 rfl (H154.imi_at (i := 0) rfl (by omega)) (by have := elem_size (i := j) (s := 5) (hs148 (by omega)) (by omega); omega) (elem_take nodeCell_len (hx147 (by omega)) (by omega) default) rfl ?_)
                    refine r_cons (s_alloc H154 25 ze_25 rfl ?_); intro bk157 w158 H159
                    refine r_cons (s_storeAgg H159 0 #[.int .i64 ((n.kids.getD j default).kind.v), .string ((n.kids.getD j default).var.v), .string ((n.kids.getD j default).typ.v), .slice ((n.kids.getD j default).tp) ((n.kids.getD j default).tests.length) ((n.kids.getD j default).tc), .slice ((n.kids.getD j default).kp) ((n.kids.getD j default).kids.length) ((n.kids.getD j default).kc)] 5 rfl rfl rfl sz_25 rfl (by simp [Value.oneCell']) (Nat.le_of_ble_eq_true rfl) (fun o h1 h2 => by first | (simp; done) | (simp; omega)) (cs' := #[.int .i64 ((n.kids.getD j default).kind.v), .string ((n.kids.getD j default).var.v), .string ((n.kids.getD j default).typ.v), .slice ((n.kids.getD j default).tp) ((n.kids.getD j default).tests.length) ((n.kids.getD j default).tc), .slice ((n.kids.getD j default).kp) ((n.kids.getD j default).kids.length) ((n.kids.getD j default).kc)]) rfl ?_); intro w160 H161
                    refine r_nil ?_
                    refine g_seq ?_
                    refine g_region ?_
                    refine r_cons (s_loadAgg [.int .i64 ((n.kids.getD j default).kind.v), .string ((n.kids.getD j default).var.v), .string ((n.kids.getD j default).typ.v), .slice ((n.kids.getD j default).tp) ((n.kids.getD j default).tests.length) ((n.kids.getD j default).tc), .slice ((n.kids.getD j default).kp) ((n.kids.getD j default).kids.length) ((n.kids.getD j default).kc)] 5 ag_25 rfl (H161.blk_at (i := 0) rfl) (Nat.le_of_ble_eq_true rfl) rfl rfl ?_)
                    have H162 := NodesA.at H161 (i := 4) rfl (j := j) (by omega)
                    refine r_cons (s_call [.agg #[.int .i64 ((n.kids.getD j default).kind.v), .string ((n.kids.getD j default).var.v), .string ((n.kids.getD j default).typ.v), .slice ((n.kids.getD j default).tp) ((n.kids.getD j default).tests.length) ((n.kids.getD j default).tc), .slice ((n.kids.getD j default).kp) ((n.kids.getD j default).kids.length) ((n.kids.getD j default).kc)]] pl_40 rfl rfl (ih (n.kids.getD j default) (by have h9 := kid_lt (n := n) (j := j) (by omega); omega) (i := 0) rfl H162) ?_)
                    rintro _ w163 ⟨rfl, H164⟩
                    refine r_cons (s_assign (.int .i64 (nodeE (n.kids.getD j default))) rfl rfl ?_)
                    refine r_nil ?_
                    refine g_seq ?_
                    refine g_region ?_
                    refine r_cons (s_move (.int .i64 (nodeE (n.kids.getD j default))) rfl rfl ?_)
                    by_cases hc165 : nodeE (n.kids.getD j default) = 0
                    · skip
                      refine r_cons (s_neq false rfl rfl (ntrue hc165) rfl ?_)
                      refine r_nil ?_
                      refine g_false rfl ?_
                      refine g_skip ?_
                      refine g_inBlock ?_
                      refine g_region ?_
                      refine r_cons (s_add ((j : Int) + 1) rfl rfl (wi64 (by omega)) rfl ?_)
                      refine r_cons (s_move (.int .i64 ((j : Int) + 1)) rfl rfl ?_)
                      refine r_nil ?_
                      have H166 : St W w163 (imi (0 < n.kids.length) gA140 (.cells kA142 eA143 zA144) :: Im 11 (.slice n.tp n.tests.length n.tc) n.tests.length (n.tests.flatMap condCell) :: Im 5 (.slice n.kp n.kids.length n.kc) n.kids.length (n.kids.flatMap nodeCell) :: NodesA n.kids :: F) := ((((((H164.move 5 rfl).move 5 rfl).move 5 rfl).move 5 rfl).drop 4 rfl).drop 4 rfl)
                      exact nx155 (j + 1) _ _ ⟨(by omega), (fun q hq => (Nat.lt_or_ge q j).elim (hz q) (fun h => by rw [show q = j from by omega]; exact hc165)), H166⟩ (by first | (dsimp only; omega) | omega) ⟨by first | rfl | exact vint (by omega), by first | rfl | exact vint (by omega), by first | rfl | exact vint (by omega), by first | rfl | exact vint (by omega), trivial⟩
                    · skip
                      refine r_cons (s_neq true rfl rfl (nfalse hc165) rfl ?_)
                      refine r_nil ?_
                      refine g_true rfl ?_
                      refine g_seq ?_
                      refine g_region ?_
                      refine r_cons (s_move (.int .i64 (nodeE (n.kids.getD j default))) rfl rfl ?_)
                      refine r_cons (s_assign (.int .i64 (nodeE (n.kids.getD j default))) rfl rfl ?_)
                      refine r_nil ?_
                      refine g_ret' [.int .i64 (nodeE (n.kids.getD j default))] Try.func40 Try.results40 ⟨rfl, trivial⟩ ?_
                      have H167 : St W w163 F := ((((((H164.drop 0 rfl).drop 0 rfl).drop 0 rfl).drop 0 rfl).drop 0 rfl).drop 0 rfl)
                      exact ⟨vint ((firstE_at (f := nodeE) hz (by omega) (by omega)).trans (nodeE_kids ho137).symm), H167⟩
                  · skip
                    refine r_cons (s_lss false rfl rfl (dfalse hc156) rfl ?_)
                    refine r_nil ?_
                    refine g_seq ?_
                    refine g_false rfl ?_
                    refine g_exit (by rfl) ?_
                    refine g_seq ?_
                    refine g_region ?_
                    refine r_cons (s_assign (.int .i64 0) rfl rfl ?_)
                    refine r_nil ?_
                    refine g_ret' [.int .i64 0] Try.func40 Try.results40 ⟨rfl, trivial⟩ ?_
                    have H168 : St W w153 F := ((((H154.drop 0 rfl).drop 0 rfl).drop 0 rfl).drop 0 rfl)
                    exact ⟨vint ((firstE_end (f := nodeE) hz (by omega)).trans (nodeE_kids ho137).symm), H168⟩
            · skip
              refine s_sneq true rfl rfl (nfalse hc129) rfl ?_
              refine r_cons (s_pick_f (.bool true) rfl rfl rfl ?_)
              refine r_cons (s_move (.bool true) rfl rfl ?_)
              refine r_cons (r_pass rfl rfl rfl rfl rfl ?_)
              refine r_cons (r_pass rfl rfl rfl rfl rfl ?_)
              refine r_cons (r_pass rfl rfl rfl rfl rfl ?_)
              refine r_cons (r_pass rfl rfl rfl rfl rfl ?_)
              refine r_cons (s_pick_t (.bool true) rfl rfl rfl ?_)
              refine r_nil ?_
              refine g_true rfl ?_
              refine g_seq ?_
              refine g_region ?_
              refine r_cons (s_assign (.int .i64 71) rfl rfl ?_)
              refine r_nil ?_
              refine g_ret' [.int .i64 71] Try.func40 Try.results40 ⟨rfl, trivial⟩ ?_
              have hN169 : ¬ (n.kids.length < 2) := by omega
              have ho170 : ownE n.kind.v n.var.v n.typ.v n.tests n.kids.length = 71 := by unfold ownE; simp [hc7, hc71, hc123, hN169, hc128, hc129]
              have H171 : St W w5 F := ((((H6.drop 0 rfl).drop 0 rfl).drop 0 rfl).drop 0 rfl)
              exact ⟨vint (nodeE_own ho170 (by omega)), H171⟩
          · skip
            refine s_sneq true rfl rfl (nfalse hc128) rfl ?_
            refine r_cons (s_pick_f (.bool true) rfl rfl rfl ?_)
            refine r_cons (s_move (.bool true) rfl rfl ?_)
            refine r_cons (r_pass rfl rfl rfl rfl rfl ?_)
            refine r_cons (r_pass rfl rfl rfl rfl rfl ?_)
            refine r_cons (r_pass rfl rfl rfl rfl rfl ?_)
            refine r_cons (s_pick_t (.bool true) rfl rfl rfl ?_)
            refine r_cons (s_move (.bool true) rfl rfl ?_)
            refine r_cons (r_pass rfl rfl rfl rfl rfl ?_)
            refine r_cons (r_pass rfl rfl rfl rfl rfl ?_)
            refine r_cons (r_pass rfl rfl rfl rfl rfl ?_)
            refine r_cons (r_pass rfl rfl rfl rfl rfl ?_)
            refine r_cons (s_pick_t (.bool true) rfl rfl rfl ?_)
            refine r_nil ?_
            refine g_true rfl ?_
            refine g_seq ?_
            refine g_region ?_
            refine r_cons (s_assign (.int .i64 71) rfl rfl ?_)
            refine r_nil ?_
            refine g_ret' [.int .i64 71] Try.func40 Try.results40 ⟨rfl, trivial⟩ ?_
            have hN172 : ¬ (n.kids.length < 2) := by omega
            have ho173 : ownE n.kind.v n.var.v n.typ.v n.tests n.kids.length = 71 := by unfold ownE; simp [hc7, hc71, hc123, hN172, hc128]
            have H174 : St W w5 F := ((((H6.drop 0 rfl).drop 0 rfl).drop 0 rfl).drop 0 rfl)
            exact ⟨vint (nodeE_own ho173 (by omega)), H174⟩
      · skip
        refine r_cons (s_eql false rfl rfl (dfalse hc123) rfl ?_)
        refine r_cons (s_assign (.bool false) rfl rfl ?_)
        refine r_nil ?_
        refine g_false rfl ?_
        refine g_region ?_
        by_cases hc175 : n.kind.v = 4
        · skip
          refine r_cons (s_eql true rfl rfl (dtrue hc175) rfl ?_)
          refine r_cons (s_assign (.bool true) rfl rfl ?_)
          refine r_nil ?_
          refine g_true rfl ?_
          refine g_seq ?_
          refine g_region ?_
          refine r_cons (s_fieldAddr 25 4 4 4 23 rfl fi_25_4 rfl rfl ?_)
          refine r_cons (s_load (.slice n.kp n.kids.length n.kc) ag_23 rfl (H6.blk_at (i := 0) rfl) rfl rfl ?_)
          refine r_cons (s_len n.kids.length rfl ⟨_, un_23⟩ rfl ?_)
          by_cases hc176 : (n.kids.length : Int) < 2
          · skip
            refine r_cons (s_lss true rfl rfl (dtrue hc176) rfl ?_)
            refine r_cons (s_move (.bool true) rfl rfl ?_)
            refine r_cons (r_pass rfl rfl rfl rfl rfl ?_)
            refine r_cons (r_pass rfl rfl rfl rfl rfl ?_)
            refine r_cons (r_pass rfl rfl rfl rfl rfl ?_)
            refine r_cons (s_pick_t (.bool true) rfl rfl rfl ?_)
            refine r_cons (s_move (.bool true) rfl rfl ?_)
            refine r_cons (r_pass rfl rfl rfl rfl rfl ?_)
            refine r_cons (r_pass rfl rfl rfl rfl rfl ?_)
            refine r_cons (r_pass rfl rfl rfl rfl rfl ?_)
            refine r_cons (s_pick_t (.bool true) rfl rfl rfl ?_)
            refine r_cons (s_move (.bool true) rfl rfl ?_)
            refine r_cons (r_pass rfl rfl rfl rfl rfl ?_)
            refine r_cons (r_pass rfl rfl rfl rfl rfl ?_)
            refine r_cons (r_pass rfl rfl rfl rfl rfl ?_)
            refine r_cons (r_pass rfl rfl rfl rfl rfl ?_)
            refine r_cons (s_pick_t (.bool true) rfl rfl rfl ?_)
            refine r_nil ?_
            refine g_true rfl ?_
            refine g_seq ?_
            refine g_region ?_
            refine r_cons (s_assign (.int .i64 71) rfl rfl ?_)
            refine r_nil ?_
            refine g_ret' [.int .i64 71] Try.func40 Try.results40 ⟨rfl, trivial⟩ ?_
            have hN177 : (n.kids.length < 2) := by omega
            have ho178 : ownE n.kind.v n.var.v n.typ.v n.tests n.kids.length = 71 := by unfold ownE; simp [hc7, hc71, hc123, hc175, hN177]
            have H179 : St W w5 F := ((((H6.drop 0 rfl).drop 0 rfl).drop 0 rfl).drop 0 rfl)
            exact ⟨vint (nodeE_own ho178 (by omega)), H179⟩
          · skip
            refine r_cons (s_lss false rfl rfl (dfalse hc176) rfl ?_)
            refine r_cons (s_move (.bool false) rfl rfl ?_)
            refine r_cons (r_take rfl rfl ?_)
            refine s_fieldAddr 25 1 1 1 9 rfl fi_25_1 rfl rfl ?_
            refine r_cons (r_take rfl rfl ?_)
            refine s_load (.string n.var.v) ag_9 rfl (H6.blk_at (i := 0) rfl) rfl rfl ?_
            refine r_cons (r_take rfl rfl ?_)
            by_cases hc180 : n.var.v = ByteArray.empty
            · skip
              refine s_sneq false rfl rfl (ntrue hc180) rfl ?_
              refine r_cons (s_pick_f (.bool false) rfl rfl rfl ?_)
              refine r_cons (s_move (.bool false) rfl rfl ?_)
              refine r_cons (r_take rfl rfl ?_)
              refine s_fieldAddr 25 2 2 2 9 rfl fi_25_2 rfl rfl ?_
              refine r_cons (r_take rfl rfl ?_)
              refine s_load (.string n.typ.v) ag_9 rfl (H6.blk_at (i := 0) rfl) rfl rfl ?_
              refine r_cons (r_take rfl rfl ?_)
              by_cases hc181 : n.typ.v = ByteArray.empty
              · skip
                refine s_sneq false rfl rfl (ntrue hc181) rfl ?_
                refine r_cons (s_pick_f (.bool false) rfl rfl rfl ?_)
                refine r_cons (s_move (.bool false) rfl rfl ?_)
                refine r_cons (r_take rfl rfl ?_)
                refine s_fieldAddr 25 3 3 3 22 rfl fi_25_3 rfl rfl ?_
                refine r_cons (r_take rfl rfl ?_)
                refine s_load (.slice n.tp n.tests.length n.tc) ag_22 rfl (H6.blk_at (i := 0) rfl) rfl rfl ?_
                refine r_cons (r_take rfl rfl ?_)
                refine s_len n.tests.length rfl ⟨_, un_22⟩ rfl ?_
                refine r_cons (r_take rfl rfl ?_)
                by_cases hc182 : (0 : Int) < (n.tests.length : Int)
                · skip
                  refine s_gtr true rfl rfl (dtrue hc182) rfl ?_
                  refine r_cons (s_pick_f (.bool true) rfl rfl rfl ?_)
                  refine r_nil ?_
                  refine g_true rfl ?_
                  refine g_seq ?_
                  refine g_region ?_
                  refine r_cons (s_assign (.int .i64 71) rfl rfl ?_)
                  refine r_nil ?_
                  refine g_ret' [.int .i64 71] Try.func40 Try.results40 ⟨rfl, trivial⟩ ?_
                  have hN183 : ¬ (n.kids.length < 2) := by omega
                  have hN184 : (0 < n.tests.length) := by omega
                  have ho185 : ownE n.kind.v n.var.v n.typ.v n.tests n.kids.length = 71 := by unfold ownE; simp [hc7, hc71, hc123, hc175, hN183, hN184, hc180, hc181]
                  have H186 : St W w5 F := ((((H6.drop 0 rfl).drop 0 rfl).drop 0 rfl).drop 0 rfl)
                  exact ⟨vint (nodeE_own ho185 (by omega)), H186⟩
                · skip
                  refine s_gtr false rfl rfl (dfalse hc182) rfl ?_
                  refine r_cons (s_pick_f (.bool false) rfl rfl rfl ?_)
                  refine r_nil ?_
                  refine g_false rfl ?_
                  refine g_skip ?_
                  refine g_inBlock ?_
                  refine g_seq ?_
                  refine g_seq ?_
                  refine g_region ?_
                  refine r_cons (s_fieldAddr 25 4 4 4 23 rfl fi_25_4 rfl rfl ?_)
                  refine r_cons (s_load (.slice n.kp n.kids.length n.kc) ag_23 rfl (H6.blk_at (i := 0) rfl) rfl rfl ?_)
                  refine r_cons (s_len n.kids.length rfl ⟨_, un_23⟩ rfl ?_)
                  refine r_cons (s_move (.int .i64 0) rfl rfl ?_)
                  refine r_nil ?_
                  refine g_block ?_
                  have hN187 : ¬ (n.kids.length < 2) := by omega
                  have hN188 : ¬ (0 < n.tests.length) := by omega
                  have ho189 : ownE n.kind.v n.var.v n.typ.v n.tests n.kids.length = 0 := by unfold ownE; simp [hc7, hc71, hc123, hc175, hN187, hN188, hc180, hc181]
                  obtain ⟨pA190, cA191, gA192, oA193, kA194, eA195, zA196, he202, hn197, hp198, hx199, hs200, hml, H201⟩ := Im.open_ H6 (i := 2) rfl
                  obtain ⟨rfl, rfl⟩ : n.kp = pA190 ∧ n.kc = cA191 := by injection he202 with a_ b_ c_; exact ⟨a_, c_⟩
                  have H203 : St W w5 (imi (0 < n.kids.length) gA192 (.cells kA194 eA195 zA196) :: Im 11 (.slice n.tp n.tests.length n.tc) n.tests.length (n.tests.flatMap condCell) :: Im 5 (.slice n.kp n.kids.length n.kc) n.kids.length (n.kids.flatMap nodeCell) :: NodesA n.kids :: F) := (((((H201.move 4 rfl).move 4 rfl).move 4 rfl).move 3 rfl).drop 4 rfl)
                  refine g_loop_inv (fun (x_ : Nat) => match x_ with | j => [(2, .int .i64 0), (58, .slice n.kp n.kids.length n.kc), (59, .int .i64 (n.kids.length : Int)), (60, .int .i64 (j : Int))]) (fun (x_ : Nat) w => match x_ with | j => (j ≤ n.kids.length) ∧ (∀ q, q < j → nodeE (n.kids.getD q default) = 0) ∧ St W w (imi (0 < n.kids.length) gA192 (.cells kA194 eA195 zA196) :: Im 11 (.slice n.tp n.tests.length n.tc) n.tests.length (n.tests.flatMap condCell) :: Im 5 (.slice n.kp n.kids.length n.kc) n.kids.length (n.kids.flatMap nodeCell) :: NodesA n.kids :: F)) (fun (x_ : Nat) => match x_ with | j => n.kids.length - j) (0) ?_ ?_ ?_
                  · exact ⟨by first | rfl | exact vint (by omega), by first | rfl | exact vint (by omega), by first | rfl | exact vint (by omega), by first | rfl | exact vint (by omega), trivial⟩
                  · exact ⟨(by omega), (fun q hq => by omega), H203⟩
                  · rintro j ρ204 w205 ⟨hjl, hz, H206⟩ nx207
                    change Ends _ _ (upds ρ204 [(2, .int .i64 0), (58, .slice n.kp n.kids.length n.kc), (59, .int .i64 (n.kids.length : Int)), (60, .int .i64 (j : Int))]) w205
                    refine g_seq ?_
                    refine g_region ?_
                    by_cases hc208 : (j : Int) < (n.kids.length : Int)
                    · skip
                      refine r_cons (s_lss true rfl rfl (dtrue hc208) rfl ?_)
                      refine r_nil ?_
                      refine g_seq ?_
                      refine g_true rfl ?_
                      refine g_skip ?_
                      refine g_seq ?_
                      refine g_block ?_
                      refine g_seq ?_
                      refine g_region ?_
                      refine r_cons (s_indexAddr gA192 (off := oA193) (j : Int) 5 (oA193 + j * 5) (by exact congrArg (fun z_ => Value.slice z_ n.kids.length n.kc) (hp198 (by omega))) rfl el_23 (by omega) rfl rfl ?_)
                      refine r_cons (s_loadAgg [.int .i64 ((n.kids.getD j default).kind.v), .string ((n.kids.getD j default).var.v), .string ((n.kids.getD j default).typ.v), .slice ((n.kids.getD j default).tp) ((n.kids.getD j default).tests.length) ((n.kids.getD j default).tc), .slice ((n.kids.getD j default).kp) ((n.kids.getD j default).kids.length) ((n.kids.getD j default).kc)] 5 ag_25 rfl (H206.imi_at (i := 0) rfl (by omega)) (by have := elem_size (i := j) (s := 5) (hs200 (by omega)) (by omega); omega) (elem_take nodeCell_len (hx199 (by omega)) (by omega) default) rfl ?_)
                      refine r_cons (s_alloc H206 25 ze_25 rfl ?_); intro bk209 w210 H211
                      refine r_cons (s_storeAgg H211 0 #[.int .i64 ((n.kids.getD j default).kind.v), .string ((n.kids.getD j default).var.v), .string ((n.kids.getD j default).typ.v), .slice ((n.kids.getD j default).tp) ((n.kids.getD j default).tests.length) ((n.kids.getD j default).tc), .slice ((n.kids.getD j default).kp) ((n.kids.getD j default).kids.length) ((n.kids.getD j default).kc)] 5 rfl rfl rfl sz_25 rfl (by simp [Value.oneCell']) (Nat.le_of_ble_eq_true rfl) (fun o h1 h2 => by first | (simp; done) | (simp; omega)) (cs' := #[.int .i64 ((n.kids.getD j default).kind.v), .string ((n.kids.getD j default).var.v), .string ((n.kids.getD j default).typ.v), .slice ((n.kids.getD j default).tp) ((n.kids.getD j default).tests.length) ((n.kids.getD j default).tc), .slice ((n.kids.getD j default).kp) ((n.kids.getD j default).kids.length) ((n.kids.getD j default).kc)]) rfl ?_); intro w212 H213
                      refine r_nil ?_
                      refine g_seq ?_
                      refine g_region ?_
                      refine r_cons (s_loadAgg [.int .i64 ((n.kids.getD j default).kind.v), .string ((n.kids.getD j default).var.v), .string ((n.kids.getD j default).typ.v), .slice ((n.kids.getD j default).tp) ((n.kids.getD j default).tests.length) ((n.kids.getD j default).tc), .slice ((n.kids.getD j default).kp) ((n.kids.getD j default).kids.length) ((n.kids.getD j default).kc)] 5 ag_25 rfl (H213.blk_at (i := 0) rfl) (Nat.le_of_ble_eq_true rfl) rfl rfl ?_)
                      have H214 := NodesA.at H213 (i := 4) rfl (j := j) (by omega)
                      refine r_cons (s_call [.agg #[.int .i64 ((n.kids.getD j default).kind.v), .string ((n.kids.getD j default).var.v), .string ((n.kids.getD j default).typ.v), .slice ((n.kids.getD j default).tp) ((n.kids.getD j default).tests.length) ((n.kids.getD j default).tc), .slice ((n.kids.getD j default).kp) ((n.kids.getD j default).kids.length) ((n.kids.getD j default).kc)]] pl_40 rfl rfl (ih (n.kids.getD j default) (by have h9 := kid_lt (n := n) (j := j) (by omega); omega) (i := 0) rfl H214) ?_)
                      rintro _ w215 ⟨rfl, H216⟩
                      refine r_cons (s_assign (.int .i64 (nodeE (n.kids.getD j default))) rfl rfl ?_)
                      refine r_nil ?_
                      refine g_seq ?_
                      refine g_region ?_
                      refine r_cons (s_move (.int .i64 (nodeE (n.kids.getD j default))) rfl rfl ?_)
                      by_cases hc217 : nodeE (n.kids.getD j default) = 0
                      · skip
                        refine r_cons (s_neq false rfl rfl (ntrue hc217) rfl ?_)
                        refine r_nil ?_
                        refine g_false rfl ?_
                        refine g_skip ?_
                        refine g_inBlock ?_
                        refine g_region ?_
                        refine r_cons (s_add ((j : Int) + 1) rfl rfl (wi64 (by omega)) rfl ?_)
                        refine r_cons (s_move (.int .i64 ((j : Int) + 1)) rfl rfl ?_)
                        refine r_nil ?_
                        have H218 : St W w215 (imi (0 < n.kids.length) gA192 (.cells kA194 eA195 zA196) :: Im 11 (.slice n.tp n.tests.length n.tc) n.tests.length (n.tests.flatMap condCell) :: Im 5 (.slice n.kp n.kids.length n.kc) n.kids.length (n.kids.flatMap nodeCell) :: NodesA n.kids :: F) := ((((((H216.move 5 rfl).move 5 rfl).move 5 rfl).move 5 rfl).drop 4 rfl).drop 4 rfl)
                        exact nx207 (j + 1) _ _ ⟨(by omega), (fun q hq => (Nat.lt_or_ge q j).elim (hz q) (fun h => by rw [show q = j from by omega]; exact hc217)), H218⟩ (by first | (dsimp only; omega) | omega) ⟨by first | rfl | exact vint (by omega), by first | rfl | exact vint (by omega), by first | rfl | exact vint (by omega), by first | rfl | exact vint (by omega), trivial⟩
                      · skip
                        refine r_cons (s_neq true rfl rfl (nfalse hc217) rfl ?_)
                        refine r_nil ?_
                        refine g_true rfl ?_
                        refine g_seq ?_
                        refine g_region ?_
                        refine r_cons (s_move (.int .i64 (nodeE (n.kids.getD j default))) rfl rfl ?_)
                        refine r_cons (s_assign (.int .i64 (nodeE (n.kids.getD j default))) rfl rfl ?_)
                        refine r_nil ?_
                        refine g_ret' [.int .i64 (nodeE (n.kids.getD j default))] Try.func40 Try.results40 ⟨rfl, trivial⟩ ?_
                        have H219 : St W w215 F := ((((((H216.drop 0 rfl).drop 0 rfl).drop 0 rfl).drop 0 rfl).drop 0 rfl).drop 0 rfl)
                        exact ⟨vint ((firstE_at (f := nodeE) hz (by omega) (by omega)).trans (nodeE_kids ho189).symm), H219⟩
                    · skip
                      refine r_cons (s_lss false rfl rfl (dfalse hc208) rfl ?_)
                      refine r_nil ?_
                      refine g_seq ?_
                      refine g_false rfl ?_
                      refine g_exit (by rfl) ?_
                      refine g_seq ?_
                      refine g_region ?_
                      refine r_cons (s_assign (.int .i64 0) rfl rfl ?_)
                      refine r_nil ?_
                      refine g_ret' [.int .i64 0] Try.func40 Try.results40 ⟨rfl, trivial⟩ ?_
                      have H220 : St W w205 F := ((((H206.drop 0 rfl).drop 0 rfl).drop 0 rfl).drop 0 rfl)
                      exact ⟨vint ((firstE_end (f := nodeE) hz (by omega)).trans (nodeE_kids ho189).symm), H220⟩
              · skip
                refine s_sneq true rfl rfl (nfalse hc181) rfl ?_
                refine r_cons (s_pick_f (.bool true) rfl rfl rfl ?_)
                refine r_cons (s_move (.bool true) rfl rfl ?_)
                refine r_cons (r_pass rfl rfl rfl rfl rfl ?_)
                refine r_cons (r_pass rfl rfl rfl rfl rfl ?_)
                refine r_cons (r_pass rfl rfl rfl rfl rfl ?_)
                refine r_cons (r_pass rfl rfl rfl rfl rfl ?_)
                refine r_cons (s_pick_t (.bool true) rfl rfl rfl ?_)
                refine r_nil ?_
                refine g_true rfl ?_
                refine g_seq ?_
                refine g_region ?_
                refine r_cons (s_assign (.int .i64 71) rfl rfl ?_)
                refine r_nil ?_
                refine g_ret' [.int .i64 71] Try.func40 Try.results40 ⟨rfl, trivial⟩ ?_
                have hN221 : ¬ (n.kids.length < 2) := by omega
                have ho222 : ownE n.kind.v n.var.v n.typ.v n.tests n.kids.length = 71 := by unfold ownE; simp [hc7, hc71, hc123, hc175, hN221, hc180, hc181]
                have H223 : St W w5 F := ((((H6.drop 0 rfl).drop 0 rfl).drop 0 rfl).drop 0 rfl)
                exact ⟨vint (nodeE_own ho222 (by omega)), H223⟩
            · skip
              refine s_sneq true rfl rfl (nfalse hc180) rfl ?_
              refine r_cons (s_pick_f (.bool true) rfl rfl rfl ?_)
              refine r_cons (s_move (.bool true) rfl rfl ?_)
              refine r_cons (r_pass rfl rfl rfl rfl rfl ?_)
              refine r_cons (r_pass rfl rfl rfl rfl rfl ?_)
              refine r_cons (r_pass rfl rfl rfl rfl rfl ?_)
              refine r_cons (s_pick_t (.bool true) rfl rfl rfl ?_)
              refine r_cons (s_move (.bool true) rfl rfl ?_)
              refine r_cons (r_pass rfl rfl rfl rfl rfl ?_)
              refine r_cons (r_pass rfl rfl rfl rfl rfl ?_)
              refine r_cons (r_pass rfl rfl rfl rfl rfl ?_)
              refine r_cons (r_pass rfl rfl rfl rfl rfl ?_)
              refine r_cons (s_pick_t (.bool true) rfl rfl rfl ?_)
              refine r_nil ?_
              refine g_true rfl ?_
              refine g_seq ?_
              refine g_region ?_
              refine r_cons (s_assign (.int .i64 71) rfl rfl ?_)
              refine r_nil ?_
              refine g_ret' [.int .i64 71] Try.func40 Try.results40 ⟨rfl, trivial⟩ ?_
              have hN224 : ¬ (n.kids.length < 2) := by omega
              have ho225 : ownE n.kind.v n.var.v n.typ.v n.tests n.kids.length = 71 := by unfold ownE; simp [hc7, hc71, hc123, hc175, hN224, hc180]
              have H226 : St W w5 F := ((((H6.drop 0 rfl).drop 0 rfl).drop 0 rfl).drop 0 rfl)
              exact ⟨vint (nodeE_own ho225 (by omega)), H226⟩
        · skip
          refine r_cons (s_eql false rfl rfl (dfalse hc175) rfl ?_)
          refine r_cons (s_assign (.bool false) rfl rfl ?_)
          refine r_nil ?_
          refine g_false rfl ?_
          refine g_seq ?_
          refine g_region ?_
          refine r_cons (s_assign (.int .i64 71) rfl rfl ?_)
          refine r_nil ?_
          refine g_ret' [.int .i64 71] Try.func40 Try.results40 ⟨rfl, trivial⟩ ?_
          have ho227 : ownE n.kind.v n.var.v n.typ.v n.tests n.kids.length = 71 := by unfold ownE; simp [hc7, hc71, hc123, hc175]
          have H228 : St W w5 F := ((((H6.drop 0 rfl).drop 0 rfl).drop 0 rfl).drop 0 rfl)
          exact ⟨vint (nodeE_own ho227 (by omega)), H228⟩
theorem check_node {W w : World} {F : List Atom} (n : NodeD)  {i : Nat} (hi : F[i]? = some (NodeA n)) (H : St W w F) : Calls Try.prog 40 #[.agg #[.int .i64 n.kind.v, .string n.var.v, .string n.typ.v, .slice n.tp n.tests.length n.tc, .slice n.kp n.kids.length n.kc]] w (Ret fun v w' => v = .int .i64 (nodeE n) ∧ St W w' F) := check_node_r (sizeOf n + 1) n (Nat.lt_succ_self _) hi H
set_option maxHeartbeats 4000000 in
set_option maxRecDepth 100000 in
theorem ref07_node_r (N : Nat) : ∀ (n : NodeD), sizeOf n < N → ∀ {W w : World} {F : List Atom}  {i : Nat} (hi : F[i]? = some (NodeA n)) (H : St W w F), Calls Try.prog 41 #[.agg #[.int .i64 n.kind.v, .string n.var.v, .string n.typ.v, .slice n.tp n.tests.length n.tc, .slice n.kp n.kids.length n.kc]] w (Ret fun v w' => v = .int .i64 (nodeE n) ∧ St W w' F) := by
  induction N with | zero => exact fun n hN => absurd hN (Nat.not_lt_zero _) | succ N ih => ?_
  intro n hN W w F i hi H
  have H1 := NodeA.kids H (i := i + 0) (by exact hi)
  have H2 := NodeA.tests H1 (i := i + 2) (by exact hi)
  have H3 : St W w (Im 11 (.slice n.tp n.tests.length n.tc) n.tests.length (n.tests.flatMap condCell) :: Im 5 (.slice n.kp n.kids.length n.kc) n.kids.length (n.kids.flatMap nodeCell) :: NodesA n.kids :: F) := H2
  refine calls_of_go (n := 87) Try.func41 rfl Try.ntmps41 rfl ?_
  refine g_seq ?_
  refine g_region ?_
  refine r_cons (s_box H3 25 (.agg #[.int .i64 n.kind.v, .string n.var.v, .string n.typ.v, .slice n.tp n.tests.length n.tc, .slice n.kp n.kids.length n.kc]) rfl (cs := #[.int .i64 n.kind.v, .string n.var.v, .string n.typ.v, .slice n.tp n.tests.length n.tc, .slice n.kp n.kids.length n.kc]) rfl rfl ?_); intro bk4 w5 H6
  refine r_cons (s_assign (.int .i64 0) rfl rfl ?_)
  refine r_nil ?_
  refine g_seq ?_
  refine g_seq ?_
  refine g_region ?_
  refine r_cons (s_fieldAddr 25 0 0 0 3 rfl fi_25_0 rfl rfl ?_)
  refine r_cons (s_load (.int .i64 n.kind.v) ag_3 rfl (H6.blk_at (i := 0) rfl) rfl rfl ?_)
  refine r_nil ?_
  refine g_block ?_
  refine g_seq ?_
  refine g_region ?_
  by_cases hc7 : n.kind.v = 1
  · skip
    refine r_cons (s_eql true rfl rfl (dtrue hc7) rfl ?_)
    refine r_cons (s_assign (.bool true) rfl rfl ?_)
    refine r_nil ?_
    refine g_true rfl ?_
    refine g_seq ?_
    refine g_seq ?_
    refine g_region ?_
    refine r_cons (s_fieldAddr 25 4 4 4 23 rfl fi_25_4 rfl rfl ?_)
    refine r_cons (s_load (.slice n.kp n.kids.length n.kc) ag_23 rfl (H6.blk_at (i := 0) rfl) rfl rfl ?_)
    refine r_cons (s_len n.kids.length rfl ⟨_, un_23⟩ rfl ?_)
    by_cases hc8 : (0 : Int) < (n.kids.length : Int)
    · skip
      refine r_cons (s_gtr true rfl rfl (dtrue hc8) rfl ?_)
      refine r_cons (s_move (.bool true) rfl rfl ?_)
      refine r_cons (r_pass rfl rfl rfl rfl rfl ?_)
      refine r_cons (r_pass rfl rfl rfl rfl rfl ?_)
      refine r_cons (r_pass rfl rfl rfl rfl rfl ?_)
      refine r_cons (r_pass rfl rfl rfl rfl rfl ?_)
      refine r_cons (s_pick_t (.bool true) rfl rfl rfl ?_)
      refine r_cons (s_move (.bool true) rfl rfl ?_)
      refine r_cons (r_pass rfl rfl rfl rfl rfl ?_)
      refine r_cons (r_pass rfl rfl rfl rfl rfl ?_)
      refine r_cons (r_pass rfl rfl rfl rfl rfl ?_)
      refine r_cons (r_pass rfl rfl rfl rfl rfl ?_)
      refine r_cons (s_pick_t (.bool true) rfl rfl rfl ?_)
      refine r_nil ?_
      refine g_true rfl ?_
      refine g_seq ?_
      refine g_region ?_
      refine r_cons (s_assign (.int .i64 71) rfl rfl ?_)
      refine r_nil ?_
      refine g_ret' [.int .i64 71] Try.func41 Try.results41 ⟨rfl, trivial⟩ ?_
      have hN9 : (0 < n.kids.length) := by omega
      have ho10 : ownE n.kind.v n.var.v n.typ.v n.tests n.kids.length = 71 := by unfold ownE; simp [hc7, hN9]
      have H11 : St W w5 F := ((((H6.drop 0 rfl).drop 0 rfl).drop 0 rfl).drop 0 rfl)
      exact ⟨vint (nodeE_own ho10 (by omega)), H11⟩
    · skip
      refine r_cons (s_gtr false rfl rfl (dfalse hc8) rfl ?_)
      refine r_cons (s_move (.bool false) rfl rfl ?_)
      refine r_cons (r_take rfl rfl ?_)
      refine s_fieldAddr 25 1 1 1 9 rfl fi_25_1 rfl rfl ?_
      refine r_cons (r_take rfl rfl ?_)
      refine s_load (.string n.var.v) ag_9 rfl (H6.blk_at (i := 0) rfl) rfl rfl ?_
      refine r_cons (r_take rfl rfl ?_)
      refine s_call [.string n.var.v] pl_39 rfl rfl (ref03_Name n.var.v n.var.ok H6) ?_
      rintro _ w12 ⟨rfl, H13⟩
      refine r_cons (r_take rfl rfl ?_)
      refine s_not (nameB n.var.v) rfl (!(nameB n.var.v)) rfl rfl ?_
      refine r_cons (s_pick_f (.bool (!(nameB n.var.v))) rfl rfl rfl ?_)
      refine r_cons (s_move (.bool (!(nameB n.var.v))) rfl rfl ?_)
      by_cases hb14 : (!(nameB n.var.v)) = true
      · skip
        refine r_cons (r_pass rfl (congrArg some hb14) rfl rfl rfl ?_)
        refine r_cons (r_pass rfl (congrArg some hb14) rfl rfl rfl ?_)
        refine r_cons (r_pass rfl (congrArg some hb14) rfl rfl rfl ?_)
        refine r_cons (r_pass rfl (congrArg some hb14) rfl rfl rfl ?_)
        refine r_cons (s_pick_t (.bool true) (by exact congrArg Value.bool hb14) rfl rfl ?_)
        refine r_nil ?_
        refine g_true rfl ?_
        refine g_seq ?_
        refine g_region ?_
        refine r_cons (s_assign (.int .i64 71) rfl rfl ?_)
        refine r_nil ?_
        refine g_ret' [.int .i64 71] Try.func41 Try.results41 ⟨rfl, trivial⟩ ?_
        have hN15 : ¬ (0 < n.kids.length) := by omega
        have hb16 : ((nameB n.var.v)) = false := by simpa using hb14
        have ho17 : ownE n.kind.v n.var.v n.typ.v n.tests n.kids.length = 71 := by unfold ownE; simp [hc7, hN15, hb16]
        have H18 : St W w12 F := ((((H13.drop 0 rfl).drop 0 rfl).drop 0 rfl).drop 0 rfl)
        exact ⟨vint (nodeE_own ho17 (by omega)), H18⟩
      · have hb14 := eq_false_of_ne_true hb14
        refine r_cons (r_take rfl (congrArg some hb14) ?_)
        refine s_fieldAddr 25 2 2 2 9 rfl fi_25_2 rfl rfl ?_
        refine r_cons (r_take rfl (congrArg some hb14) ?_)
        refine s_load (.string n.typ.v) ag_9 rfl (H13.blk_at (i := 0) rfl) rfl rfl ?_
        refine r_cons (r_take rfl (congrArg some hb14) ?_)
        refine s_call [.string n.typ.v] pl_39 rfl rfl (ref03_Name n.typ.v n.typ.ok H13) ?_
        rintro _ w19 ⟨rfl, H20⟩
        refine r_cons (r_take rfl (congrArg some hb14) ?_)
        refine s_not (nameB n.typ.v) rfl (!(nameB n.typ.v)) rfl rfl ?_
        refine r_cons (s_pick_f (.bool (!(nameB n.typ.v))) (by exact congrArg Value.bool hb14) rfl rfl ?_)
        refine r_nil ?_
        by_cases hb21 : (!(nameB n.typ.v)) = true
        · skip
          refine g_true (congrArg Value.bool hb21) ?_
          refine g_seq ?_
          refine g_region ?_
          refine r_cons (s_assign (.int .i64 71) rfl rfl ?_)
          refine r_nil ?_
          refine g_ret' [.int .i64 71] Try.func41 Try.results41 ⟨rfl, trivial⟩ ?_
          have hN22 : ¬ (0 < n.kids.length) := by omega
          have hb23 : ((nameB n.var.v)) = true := by simpa using hb14
          have hb24 : ((nameB n.typ.v)) = false := by simpa using hb21
          have ho25 : ownE n.kind.v n.var.v n.typ.v n.tests n.kids.length = 71 := by unfold ownE; simp [hc7, hN22, hb23, hb24]
          have H26 : St W w19 F := ((((H20.drop 0 rfl).drop 0 rfl).drop 0 rfl).drop 0 rfl)
          exact ⟨vint (nodeE_own ho25 (by omega)), H26⟩
        · have hb21 := eq_false_of_ne_true hb21
          refine g_false (congrArg Value.bool hb21) ?_
          refine g_skip ?_
          refine g_seq ?_
          refine g_seq ?_
          refine g_region ?_
          refine r_cons (s_fieldAddr 25 3 3 3 22 rfl fi_25_3 rfl rfl ?_)
          refine r_cons (s_load (.slice n.tp n.tests.length n.tc) ag_22 rfl (H20.blk_at (i := 0) rfl) rfl rfl ?_)
          refine r_cons (s_len n.tests.length rfl ⟨_, un_22⟩ rfl ?_)
          by_cases hc27 : (16 : Int) < (n.tests.length : Int)
          · skip
            refine r_cons (s_gtr true rfl rfl (dtrue hc27) rfl ?_)
            refine r_nil ?_
            refine g_true rfl ?_
            refine g_seq ?_
            refine g_region ?_
            refine r_cons (s_assign (.int .i64 74) rfl rfl ?_)
            refine r_nil ?_
            refine g_ret' [.int .i64 74] Try.func41 Try.results41 ⟨rfl, trivial⟩ ?_
            have hC28 : condsE n.tests [] = 74 := by unfold condsE; rw [if_pos (by omega)]
            have hN29 : ¬ (0 < n.kids.length) := by omega
            have hN30 : (16 < n.tests.length) := by omega
            have hb31 : ((nameB n.var.v)) = true := by simpa using hb14
            have hb32 : ((nameB n.typ.v)) = true := by simpa using hb21
            have ho33 : ownE n.kind.v n.var.v n.typ.v n.tests n.kids.length = 74 := by unfold ownE; simp [hc7, hN29, hN30, hb31, hb32, hC28]
            have H34 : St W w19 F := ((((H20.drop 0 rfl).drop 0 rfl).drop 0 rfl).drop 0 rfl)
            exact ⟨vint (nodeE_own ho33 (by omega)), H34⟩
          · skip
            refine r_cons (s_gtr false rfl rfl (dfalse hc27) rfl ?_)
            refine r_nil ?_
            refine g_false rfl ?_
            refine g_skip ?_
            refine g_seq ?_
            refine g_region ?_
            refine r_cons (s_assign (.int .i64 0) rfl rfl ?_)
            refine r_nil ?_
            refine g_block ?_
            have hb35 : ((nameB n.var.v)) = true := by simpa using hb14
            have hb36 : ((nameB n.typ.v)) = true := by simpa using hb21
            obtain ⟨pA37, cA38, gA39, oA40, kA41, eA42, zA43, he49, hn44, hp45, hx46, hs47, hml, H48⟩ := Im.open_ H20 (i := 1) rfl
            obtain ⟨rfl, rfl⟩ : n.tp = pA37 ∧ n.tc = cA38 := by injection he49 with a_ b_ c_; exact ⟨a_, c_⟩
            have H50 : St W w19 (Im 1 (.slice none 0 0) (([] : List Str).length) (([] : List Str).flatMap strCell) :: imi (0 < n.tests.length) gA39 (.cells kA41 eA42 zA43) :: blk bk4 (.cells #[.int .i64 n.kind.v, .string n.var.v, .string n.typ.v, .slice n.tp n.tests.length n.tc, .slice n.kp n.kids.length n.kc] 25 (0, 0)) :: Im 11 (.slice n.tp n.tests.length n.tc) n.tests.length (n.tests.flatMap condCell) :: Im 5 (.slice n.kp n.kids.length n.kc) n.kids.length (n.kids.flatMap nodeCell) :: NodesA n.kids :: F) := Row.im (Row.nil_intro H48 9 1) (i := 0) rfl
            have H51 : St W w19 (Im 1 (.slice none 0 0) (([] : List Str).length) (([] : List Str).flatMap strCell) :: imi (0 < n.tests.length) gA39 (.cells kA41 eA42 zA43) :: blk bk4 (.cells #[.int .i64 n.kind.v, .string n.var.v, .string n.typ.v, .slice n.tp n.tests.length n.tc, .slice n.kp n.kids.length n.kc] 25 (0, 0)) :: Im 11 (.slice n.tp n.tests.length n.tc) n.tests.length (n.tests.flatMap condCell) :: Im 5 (.slice n.kp n.kids.length n.kc) n.kids.length (n.kids.flatMap nodeCell) :: NodesA n.kids :: F) := ((((((H50.move 5 rfl).move 5 rfl).move 5 rfl).move 5 rfl).move 5 rfl).move 5 rfl)
            refine g_loop_inv (fun (x_ : Nat) => match x_ with | t => [(1, .pointer (some ⟨bk4, 0, none⟩)), (2, .int .i64 0), (3, .int .i64 (t : Int))]) (fun (x_ : Nat) w => match x_ with | t => (t ≤ n.tests.length) ∧ (∀ q, q < t → condE (n.tests.getD q default) [] = 0) ∧ St W w (Im 1 (.slice none 0 0) (([] : List Str).length) (([] : List Str).flatMap strCell) :: imi (0 < n.tests.length) gA39 (.cells kA41 eA42 zA43) :: blk bk4 (.cells #[.int .i64 n.kind.v, .string n.var.v, .string n.typ.v, .slice n.tp n.tests.length n.tc, .slice n.kp n.kids.length n.kc] 25 (0, 0)) :: Im 11 (.slice n.tp n.tests.length n.tc) n.tests.length (n.tests.flatMap condCell) :: Im 5 (.slice n.kp n.kids.length n.kc) n.kids.length (n.kids.flatMap nodeCell) :: NodesA n.kids :: F)) (fun (x_ : Nat) => match x_ with | t => n.tests.length - t) (0) ?_ ?_ ?_
            · exact ⟨by first | rfl | exact vint (by omega), by first | rfl | exact vint (by omega), by first | rfl | exact vint (by omega), trivial⟩
            · exact ⟨(by omega), (fun q hq => by omega), H51⟩
            · rintro t ρ52 w53 ⟨htl, ht, H54⟩ nx55
              change Ends _ _ (upds ρ52 [(1, .pointer (some ⟨bk4, 0, none⟩)), (2, .int .i64 0), (3, .int .i64 (t : Int))]) w53
              refine g_seq ?_
              refine g_seq ?_
              refine g_region ?_
              refine r_cons (s_move (.int .i64 (t : Int)) rfl rfl ?_)
              refine r_cons (s_fieldAddr 25 3 3 3 22 rfl fi_25_3 rfl rfl ?_)
              refine r_cons (s_load (.slice n.tp n.tests.length n.tc) ag_22 rfl (H54.blk_at (i := 2) rfl) rfl rfl ?_)
              refine r_cons (s_len n.tests.length rfl ⟨_, un_22⟩ rfl ?_)
              by_cases hc56 : (t : Int) < (n.tests.length : Int)
              · skip
                refine r_cons (s_lss true rfl rfl (dtrue hc56) rfl ?_)
                refine r_nil ?_
                refine g_true rfl ?_
                refine g_skip ?_
                refine g_seq ?_
                refine g_block ?_
                refine g_seq ?_
                refine g_region ?_
                refine r_cons (s_fieldAddr 25 3 3 3 22 rfl fi_25_3 rfl rfl ?_)
                refine r_cons (s_load (.slice n.tp n.tests.length n.tc) ag_22 rfl (H54.blk_at (i := 2) rfl) rfl rfl ?_)
                refine r_cons (s_move (.int .i64 (t : Int)) rfl rfl ?_)
                refine r_cons (s_indexAddr gA39 (off := oA40) (t : Int) 11 (oA40 + t * 11) (by exact congrArg (fun z_ => Value.slice z_ n.tests.length n.tc) (hp45 (by omega))) rfl el_22 (by omega) rfl rfl ?_)
                refine r_cons (s_loadAgg [.string ((n.tests.getD t default).left.var.v), .string ((n.tests.getD t default).left.attr.v), .int .i64 ((n.tests.getD t default).left.val.kind.v), .int .i64 ((n.tests.getD t default).left.val.n.v), .string ((n.tests.getD t default).left.val.s.v), .int .i64 ((n.tests.getD t default).rel.v), .string ((n.tests.getD t default).right.var.v), .string ((n.tests.getD t default).right.attr.v), .int .i64 ((n.tests.getD t default).right.val.kind.v), .int .i64 ((n.tests.getD t default).right.val.n.v), .string ((n.tests.getD t default).right.val.s.v)] 11 ag_43 rfl (H54.imi_at (i := 1) rfl (by omega)) (by have := elem_size (i := t) (s := 11) (hs47 (by omega)) (by omega); omega) (elem_take condCell_len (hx46 (by omega)) (by omega) default) rfl ?_)
                refine r_cons (s_call [.agg #[.string ((n.tests.getD t default).left.var.v), .string ((n.tests.getD t default).left.attr.v), .int .i64 ((n.tests.getD t default).left.val.kind.v), .int .i64 ((n.tests.getD t default).left.val.n.v), .string ((n.tests.getD t default).left.val.s.v), .int .i64 ((n.tests.getD t default).rel.v), .string ((n.tests.getD t default).right.var.v), .string ((n.tests.getD t default).right.attr.v), .int .i64 ((n.tests.getD t default).right.val.kind.v), .int .i64 ((n.tests.getD t default).right.val.n.v), .string ((n.tests.getD t default).right.val.s.v)], .slice none 0 0] pl_29 rfl rfl (ref07_Cond (n.tests.getD t default) ([] : List Str) (.slice none 0 0) (jv := 0) rfl H54) ?_)
                rintro _ w57 ⟨rfl, H58⟩
                refine r_cons (s_assign (.int .i64 (condE (n.tests.getD t default) ([] : List Str))) rfl rfl ?_)
                refine r_nil ?_
                refine g_seq ?_
                refine g_region ?_
                refine r_cons (s_move (.int .i64 (condE (n.tests.getD t default) ([] : List Str))) rfl rfl ?_)
                by_cases hc59 : condE (n.tests.getD t default) ([] : List Str) = 0
                · skip
                  refine r_cons (s_neq false rfl rfl (ntrue hc59) rfl ?_)
                  refine r_nil ?_
                  refine g_false rfl ?_
                  refine g_skip ?_
                  refine g_inBlock ?_
                  refine g_region ?_
                  refine r_cons (s_move (.int .i64 (t : Int)) rfl rfl ?_)
                  refine r_cons (s_add ((t : Int) + 1) rfl rfl (wi64 (by omega)) rfl ?_)
                  refine r_cons (s_assign (.int .i64 ((t : Int) + 1)) rfl rfl ?_)
                  refine r_nil ?_
                  have H60 : St W w57 (Im 1 (.slice none 0 0) (([] : List Str).length) (([] : List Str).flatMap strCell) :: imi (0 < n.tests.length) gA39 (.cells kA41 eA42 zA43) :: blk bk4 (.cells #[.int .i64 n.kind.v, .string n.var.v, .string n.typ.v, .slice n.tp n.tests.length n.tc, .slice n.kp n.kids.length n.kc] 25 (0, 0)) :: Im 11 (.slice n.tp n.tests.length n.tc) n.tests.length (n.tests.flatMap condCell) :: Im 5 (.slice n.kp n.kids.length n.kc) n.kids.length (n.kids.flatMap nodeCell) :: NodesA n.kids :: F) := ((((((H58.move 5 rfl).move 5 rfl).move 5 rfl).move 5 rfl).move 5 rfl).move 5 rfl)
                  exact nx55 (t + 1) _ _ ⟨(by omega), (fun q hq => (Nat.lt_or_ge q t).elim (ht q) (fun h => by rw [show q = t from by omega]; exact hc59)), H60⟩ (by first | (dsimp only; omega) | omega) ⟨by first | rfl | exact vint (by omega), by first | rfl | exact vint (by omega), by first | rfl | exact vint (by omega), trivial⟩
                · skip
                  refine r_cons (s_neq true rfl rfl (nfalse hc59) rfl ?_)
                  refine r_nil ?_
                  refine g_true rfl ?_
                  refine g_seq ?_
                  refine g_region ?_
                  refine r_cons (s_move (.int .i64 (condE (n.tests.getD t default) ([] : List Str))) rfl rfl ?_)
                  refine r_cons (s_assign (.int .i64 (condE (n.tests.getD t default) ([] : List Str))) rfl rfl ?_)
                  refine r_nil ?_
                  refine g_ret' [.int .i64 (condE (n.tests.getD t default) ([] : List Str))] Try.func41 Try.results41 ⟨rfl, trivial⟩ ?_
                  have hC61 : condsE n.tests [] = condE (n.tests.getD t default) ([] : List Str) := by unfold condsE; rw [if_neg (by omega)]; exact (firstE_at (f := (fun c => condE c [])) ht (by omega) (by omega)).symm
                  have hN62 : ¬ (0 < n.kids.length) := by omega
                  have hN63 : ¬ (16 < n.tests.length) := by omega
                  have hN64 : ((t : Int) < n.tests.length) := by omega
                  have ho65 : ownE n.kind.v n.var.v n.typ.v n.tests n.kids.length = condE (n.tests.getD t default) ([] : List Str) := by unfold ownE; simp [hc7, hN62, hN63, hN64, hb35, hb36, hC61]
                  have H66 : St W w57 F := ((((((H58.drop 0 rfl).drop 0 rfl).drop 0 rfl).drop 0 rfl).drop 0 rfl).drop 0 rfl)
                  exact ⟨vint (nodeE_own ho65 (by omega)), H66⟩
              · skip
                refine r_cons (s_lss false rfl rfl (dfalse hc56) rfl ?_)
                refine r_nil ?_
                refine g_false rfl ?_
                refine g_exit (by rfl) ?_
                refine g_inBlock ?_
                refine g_seq ?_
                refine g_seq ?_
                refine g_region ?_
                have hC67 : condsE n.tests [] = 0 := by unfold condsE; rw [if_neg (by omega)]; exact (firstE_end (f := (fun c => condE c [])) ht (by omega)).symm
                refine r_cons (s_assign (.int .i64 0) rfl rfl ?_)
                refine r_nil ?_
                refine g_block ?_
                have hN68 : ¬ (0 < n.kids.length) := by omega
                have hN69 : ¬ (16 < n.tests.length) := by omega
                have hN70 : ¬ ((t : Int) < n.tests.length) := by omega
                have ho71 : ownE n.kind.v n.var.v n.typ.v n.tests n.kids.length = 0 := by unfold ownE; simp [hc7, hN68, hN69, hN70, hb35, hb36, hC67]
                obtain ⟨pA72, cA73, gA74, oA75, kA76, eA77, zA78, he84, hn79, hp80, hx81, hs82, hml, H83⟩ := Im.open_ H54 (i := 4) rfl
                obtain ⟨rfl, rfl⟩ : n.kp = pA72 ∧ n.kc = cA73 := by injection he84 with a_ b_ c_; exact ⟨a_, c_⟩
                have H85 : St W w53 (imi (0 < n.kids.length) gA74 (.cells kA76 eA77 zA78) :: Im 1 (.slice none 0 0) (([] : List Str).length) (([] : List Str).flatMap strCell) :: imi (0 < n.tests.length) gA39 (.cells kA41 eA42 zA43) :: blk bk4 (.cells #[.int .i64 n.kind.v, .string n.var.v, .string n.typ.v, .slice n.tp n.tests.length n.tc, .slice n.kp n.kids.length n.kc] 25 (0, 0)) :: Im 11 (.slice n.tp n.tests.length n.tc) n.tests.length (n.tests.flatMap condCell) :: Im 5 (.slice n.kp n.kids.length n.kc) n.kids.length (n.kids.flatMap nodeCell) :: NodesA n.kids :: F) := (((((((H83.move 6 rfl).move 6 rfl).move 6 rfl).move 6 rfl).move 6 rfl).move 6 rfl).move 6 rfl)
                refine g_loop_inv (fun (x_ : Nat) => match x_ with | j => [(1, .pointer (some ⟨bk4, 0, none⟩)), (2, .int .i64 0), (5, .int .i64 (j : Int))]) (fun (x_ : Nat) w => match x_ with | j => (j ≤ n.kids.length) ∧ (∀ q, q < j → nodeE (n.kids.getD q default) = 0) ∧ St W w (imi (0 < n.kids.length) gA74 (.cells kA76 eA77 zA78) :: Im 1 (.slice none 0 0) (([] : List Str).length) (([] : List Str).flatMap strCell) :: imi (0 < n.tests.length) gA39 (.cells kA41 eA42 zA43) :: blk bk4 (.cells #[.int .i64 n.kind.v, .string n.var.v, .string n.typ.v, .slice n.tp n.tests.length n.tc, .slice n.kp n.kids.length n.kc] 25 (0, 0)) :: Im 11 (.slice n.tp n.tests.length n.tc) n.tests.length (n.tests.flatMap condCell) :: Im 5 (.slice n.kp n.kids.length n.kc) n.kids.length (n.kids.flatMap nodeCell) :: NodesA n.kids :: F)) (fun (x_ : Nat) => match x_ with | j => n.kids.length - j) (0) ?_ ?_ ?_
                · exact ⟨by first | rfl | exact vint (by omega), by first | rfl | exact vint (by omega), by first | rfl | exact vint (by omega), trivial⟩
                · exact ⟨(by omega), (fun q hq => by omega), H85⟩
                · rintro j ρ86 w87 ⟨hjl, hz, H88⟩ nx89
                  change Ends _ _ (upds ρ86 [(1, .pointer (some ⟨bk4, 0, none⟩)), (2, .int .i64 0), (5, .int .i64 (j : Int))]) w87
                  refine g_seq ?_
                  refine g_seq ?_
                  refine g_region ?_
                  refine r_cons (s_move (.int .i64 (j : Int)) rfl rfl ?_)
                  refine r_cons (s_fieldAddr 25 4 4 4 23 rfl fi_25_4 rfl rfl ?_)
                  refine r_cons (s_load (.slice n.kp n.kids.length n.kc) ag_23 rfl (H88.blk_at (i := 3) rfl) rfl rfl ?_)
                  refine r_cons (s_len n.kids.length rfl ⟨_, un_23⟩ rfl ?_)
                  by_cases hc90 : (j : Int) < (n.kids.length : Int)
                  · skip
                    refine r_cons (s_lss true rfl rfl (dtrue hc90) rfl ?_)
                    refine r_nil ?_
                    refine g_true rfl ?_
                    refine g_skip ?_
                    refine g_seq ?_
                    refine g_block ?_
                    refine g_seq ?_
                    refine g_region ?_
                    refine r_cons (s_fieldAddr 25 4 4 4 23 rfl fi_25_4 rfl rfl ?_)
                    refine r_cons (s_load (.slice n.kp n.kids.length n.kc) ag_23 rfl (H88.blk_at (i := 3) rfl) rfl rfl ?_)
                    refine r_cons (s_move (.int .i64 (j : Int)) rfl rfl ?_)
                    refine r_cons (s_indexAddr gA74 (off := oA75) (j : Int) 5 (oA75 + j * 5) (by exact congrArg (fun z_ => Value.slice z_ n.kids.length n.kc) (hp80 (by omega))) rfl el_23 (by omega) rfl rfl ?_)
                    refine r_cons (s_loadAgg [.int .i64 ((n.kids.getD j default).kind.v), .string ((n.kids.getD j default).var.v), .string ((n.kids.getD j default).typ.v), .slice ((n.kids.getD j default).tp) ((n.kids.getD j default).tests.length) ((n.kids.getD j default).tc), .slice ((n.kids.getD j default).kp) ((n.kids.getD j default).kids.length) ((n.kids.getD j default).kc)] 5 ag_25 rfl (H88.imi_at (i := 0) rfl (by omega)) (by have := elem_size (i := j) (s := 5) (hs82 (by omega)) (by omega); omega) (elem_take nodeCell_len (hx81 (by omega)) (by omega) default) rfl ?_)
                    have H91 := NodesA.at H88 (i := 6) rfl (j := j) (by omega)
                    refine r_cons (s_call [.agg #[.int .i64 ((n.kids.getD j default).kind.v), .string ((n.kids.getD j default).var.v), .string ((n.kids.getD j default).typ.v), .slice ((n.kids.getD j default).tp) ((n.kids.getD j default).tests.length) ((n.kids.getD j default).tc), .slice ((n.kids.getD j default).kp) ((n.kids.getD j default).kids.length) ((n.kids.getD j default).kc)]] pl_41 rfl rfl (ih (n.kids.getD j default) (by have h9 := kid_lt (n := n) (j := j) (by omega); omega) (i := 0) rfl H91) ?_)
                    rintro _ w92 ⟨rfl, H93⟩
                    refine r_cons (s_assign (.int .i64 (nodeE (n.kids.getD j default))) rfl rfl ?_)
                    refine r_nil ?_
                    refine g_seq ?_
                    refine g_region ?_
                    refine r_cons (s_move (.int .i64 (nodeE (n.kids.getD j default))) rfl rfl ?_)
                    by_cases hc94 : nodeE (n.kids.getD j default) = 0
                    · skip
                      refine r_cons (s_neq false rfl rfl (ntrue hc94) rfl ?_)
                      refine r_nil ?_
                      refine g_false rfl ?_
                      refine g_skip ?_
                      refine g_inBlock ?_
                      refine g_region ?_
                      refine r_cons (s_move (.int .i64 (j : Int)) rfl rfl ?_)
                      refine r_cons (s_add ((j : Int) + 1) rfl rfl (wi64 (by omega)) rfl ?_)
                      have hC95 : condsE n.tests [] = 0 := by unfold condsE; rw [if_neg (by omega)]; exact (firstE_end (f := (fun c => condE c [])) ht (by omega)).symm
                      refine r_cons (s_assign (.int .i64 ((j : Int) + 1)) rfl rfl ?_)
                      refine r_nil ?_
                      have H96 : St W w92 (imi (0 < n.kids.length) gA74 (.cells kA76 eA77 zA78) :: Im 1 (.slice none 0 0) (([] : List Str).length) (([] : List Str).flatMap strCell) :: imi (0 < n.tests.length) gA39 (.cells kA41 eA42 zA43) :: blk bk4 (.cells #[.int .i64 n.kind.v, .string n.var.v, .string n.typ.v, .slice n.tp n.tests.length n.tc, .slice n.kp n.kids.length n.kc] 25 (0, 0)) :: Im 11 (.slice n.tp n.tests.length n.tc) n.tests.length (n.tests.flatMap condCell) :: Im 5 (.slice n.kp n.kids.length n.kc) n.kids.length (n.kids.flatMap nodeCell) :: NodesA n.kids :: F) := ((((((((H93.move 7 rfl).move 7 rfl).move 7 rfl).move 7 rfl).move 7 rfl).move 7 rfl).move 7 rfl).drop 7 rfl)
                      exact nx89 (j + 1) _ _ ⟨(by omega), (fun q hq => (Nat.lt_or_ge q j).elim (hz q) (fun h => by rw [show q = j from by omega]; exact hc94)), H96⟩ (by first | (dsimp only; omega) | omega) ⟨by first | rfl | exact vint (by omega), by first | rfl | exact vint (by omega), by first | rfl | exact vint (by omega), trivial⟩
                    · skip
                      refine r_cons (s_neq true rfl rfl (nfalse hc94) rfl ?_)
                      refine r_nil ?_
                      refine g_true rfl ?_
                      refine g_seq ?_
                      refine g_region ?_
                      refine r_cons (s_move (.int .i64 (nodeE (n.kids.getD j default))) rfl rfl ?_)
                      refine r_cons (s_assign (.int .i64 (nodeE (n.kids.getD j default))) rfl rfl ?_)
                      refine r_nil ?_
                      refine g_ret' [.int .i64 (nodeE (n.kids.getD j default))] Try.func41 Try.results41 ⟨rfl, trivial⟩ ?_
                      have H97 : St W w92 F := ((((((((H93.drop 0 rfl).drop 0 rfl).drop 0 rfl).drop 0 rfl).drop 0 rfl).drop 0 rfl).drop 0 rfl).drop 0 rfl)
                      exact ⟨vint ((firstE_at (f := nodeE) hz (by omega) (by omega)).trans (nodeE_kids ho71).symm), H97⟩
                  · skip
                    refine r_cons (s_lss false rfl rfl (dfalse hc90) rfl ?_)
                    refine r_nil ?_
                    refine g_false rfl ?_
                    refine g_exit (by rfl) ?_
                    refine g_seq ?_
                    refine g_region ?_
                    refine r_cons (s_assign (.int .i64 0) rfl rfl ?_)
                    refine r_nil ?_
                    refine g_ret' [.int .i64 0] Try.func41 Try.results41 ⟨rfl, trivial⟩ ?_
                    have H98 : St W w87 F := (((((((H88.drop 0 rfl).drop 0 rfl).drop 0 rfl).drop 0 rfl).drop 0 rfl).drop 0 rfl).drop 0 rfl)
                    exact ⟨vint ((firstE_end (f := nodeE) hz (by omega)).trans (nodeE_kids ho71).symm), H98⟩
  · skip
    refine r_cons (s_eql false rfl rfl (dfalse hc7) rfl ?_)
    refine r_cons (s_assign (.bool false) rfl rfl ?_)
    refine r_nil ?_
    refine g_false rfl ?_
    refine g_seq ?_
    refine g_seq ?_
    refine g_region ?_
    by_cases hc99 : n.kind.v = 2
    · skip
      refine r_cons (s_eql true rfl rfl (dtrue hc99) rfl ?_)
      refine r_cons (s_assign (.bool true) rfl rfl ?_)
      refine r_nil ?_
      refine g_true rfl ?_
      refine g_skip ?_
      refine g_true rfl ?_
      refine g_seq ?_
      refine g_region ?_
      refine r_cons (s_fieldAddr 25 4 4 4 23 rfl fi_25_4 rfl rfl ?_)
      refine r_cons (s_load (.slice n.kp n.kids.length n.kc) ag_23 rfl (H6.blk_at (i := 0) rfl) rfl rfl ?_)
      refine r_cons (s_len n.kids.length rfl ⟨_, un_23⟩ rfl ?_)
      by_cases hc100 : (n.kids.length : Int) < 2
      · skip
        refine r_cons (s_lss true rfl rfl (dtrue hc100) rfl ?_)
        refine r_cons (s_move (.bool true) rfl rfl ?_)
        refine r_cons (r_pass rfl rfl rfl rfl rfl ?_)
        refine r_cons (r_pass rfl rfl rfl rfl rfl ?_)
        refine r_cons (r_pass rfl rfl rfl rfl rfl ?_)
        refine r_cons (s_pick_t (.bool true) rfl rfl rfl ?_)
        refine r_cons (s_move (.bool true) rfl rfl ?_)
        refine r_cons (r_pass rfl rfl rfl rfl rfl ?_)
        refine r_cons (r_pass rfl rfl rfl rfl rfl ?_)
        refine r_cons (r_pass rfl rfl rfl rfl rfl ?_)
        refine r_cons (s_pick_t (.bool true) rfl rfl rfl ?_)
        refine r_cons (s_move (.bool true) rfl rfl ?_)
        refine r_cons (r_pass rfl rfl rfl rfl rfl ?_)
        refine r_cons (r_pass rfl rfl rfl rfl rfl ?_)
        refine r_cons (r_pass rfl rfl rfl rfl rfl ?_)
        refine r_cons (r_pass rfl rfl rfl rfl rfl ?_)
        refine r_cons (s_pick_t (.bool true) rfl rfl rfl ?_)
        refine r_nil ?_
        refine g_true rfl ?_
        refine g_seq ?_
        refine g_region ?_
        refine r_cons (s_assign (.int .i64 71) rfl rfl ?_)
        refine r_nil ?_
        refine g_ret' [.int .i64 71] Try.func41 Try.results41 ⟨rfl, trivial⟩ ?_
        have hN101 : (n.kids.length < 2) := by omega
        have ho102 : ownE n.kind.v n.var.v n.typ.v n.tests n.kids.length = 71 := by unfold ownE; simp [hc7, hc99, hN101]
        have H103 : St W w5 F := ((((H6.drop 0 rfl).drop 0 rfl).drop 0 rfl).drop 0 rfl)
        exact ⟨vint (nodeE_own ho102 (by omega)), H103⟩
      · skip
        refine r_cons (s_lss false rfl rfl (dfalse hc100) rfl ?_)
        refine r_cons (s_move (.bool false) rfl rfl ?_)
        refine r_cons (r_take rfl rfl ?_)
        refine s_fieldAddr 25 1 1 1 9 rfl fi_25_1 rfl rfl ?_
        refine r_cons (r_take rfl rfl ?_)
        refine s_load (.string n.var.v) ag_9 rfl (H6.blk_at (i := 0) rfl) rfl rfl ?_
        refine r_cons (r_take rfl rfl ?_)
        by_cases hc104 : n.var.v = ByteArray.empty
        · skip
          refine s_sneq false rfl rfl (ntrue hc104) rfl ?_
          refine r_cons (s_pick_f (.bool false) rfl rfl rfl ?_)
          refine r_cons (s_move (.bool false) rfl rfl ?_)
          refine r_cons (r_take rfl rfl ?_)
          refine s_fieldAddr 25 2 2 2 9 rfl fi_25_2 rfl rfl ?_
          refine r_cons (r_take rfl rfl ?_)
          refine s_load (.string n.typ.v) ag_9 rfl (H6.blk_at (i := 0) rfl) rfl rfl ?_
          refine r_cons (r_take rfl rfl ?_)
          by_cases hc105 : n.typ.v = ByteArray.empty
          · skip
            refine s_sneq false rfl rfl (ntrue hc105) rfl ?_
            refine r_cons (s_pick_f (.bool false) rfl rfl rfl ?_)
            refine r_cons (s_move (.bool false) rfl rfl ?_)
            refine r_cons (r_take rfl rfl ?_)
            refine s_fieldAddr 25 3 3 3 22 rfl fi_25_3 rfl rfl ?_
            refine r_cons (r_take rfl rfl ?_)
            refine s_load (.slice n.tp n.tests.length n.tc) ag_22 rfl (H6.blk_at (i := 0) rfl) rfl rfl ?_
            refine r_cons (r_take rfl rfl ?_)
            refine s_len n.tests.length rfl ⟨_, un_22⟩ rfl ?_
            refine r_cons (r_take rfl rfl ?_)
            by_cases hc106 : (0 : Int) < (n.tests.length : Int)
            · skip
              refine s_gtr true rfl rfl (dtrue hc106) rfl ?_
              refine r_cons (s_pick_f (.bool true) rfl rfl rfl ?_)
              refine r_nil ?_
              refine g_true rfl ?_
              refine g_seq ?_
              refine g_region ?_
              refine r_cons (s_assign (.int .i64 71) rfl rfl ?_)
              refine r_nil ?_
              refine g_ret' [.int .i64 71] Try.func41 Try.results41 ⟨rfl, trivial⟩ ?_
              have hN107 : ¬ (n.kids.length < 2) := by omega
              have hN108 : (0 < n.tests.length) := by omega
              have ho109 : ownE n.kind.v n.var.v n.typ.v n.tests n.kids.length = 71 := by unfold ownE; simp [hc7, hc99, hN107, hN108, hc104, hc105]
              have H110 : St W w5 F := ((((H6.drop 0 rfl).drop 0 rfl).drop 0 rfl).drop 0 rfl)
              exact ⟨vint (nodeE_own ho109 (by omega)), H110⟩
            · skip
              refine s_gtr false rfl rfl (dfalse hc106) rfl ?_
              refine r_cons (s_pick_f (.bool false) rfl rfl rfl ?_)
              refine r_nil ?_
              refine g_false rfl ?_
              refine g_skip ?_
              refine g_inBlock ?_
              refine g_seq ?_
              refine g_seq ?_
              refine g_region ?_
              refine r_cons (s_assign (.int .i64 0) rfl rfl ?_)
              refine r_nil ?_
              refine g_block ?_
              have hN111 : ¬ (n.kids.length < 2) := by omega
              have hN112 : ¬ (0 < n.tests.length) := by omega
              have ho113 : ownE n.kind.v n.var.v n.typ.v n.tests n.kids.length = 0 := by unfold ownE; simp [hc7, hc99, hN111, hN112, hc104, hc105]
              obtain ⟨pA114, cA115, gA116, oA117, kA118, eA119, zA120, he126, hn121, hp122, hx123, hs124, hml, H125⟩ := Im.open_ H6 (i := 2) rfl
              obtain ⟨rfl, rfl⟩ : n.kp = pA114 ∧ n.kc = cA115 := by injection he126 with a_ b_ c_; exact ⟨a_, c_⟩
              have H127 : St W w5 (imi (0 < n.kids.length) gA116 (.cells kA118 eA119 zA120) :: blk bk4 (.cells #[.int .i64 n.kind.v, .string n.var.v, .string n.typ.v, .slice n.tp n.tests.length n.tc, .slice n.kp n.kids.length n.kc] 25 (0, 0)) :: Im 11 (.slice n.tp n.tests.length n.tc) n.tests.length (n.tests.flatMap condCell) :: Im 5 (.slice n.kp n.kids.length n.kc) n.kids.length (n.kids.flatMap nodeCell) :: NodesA n.kids :: F) := (((((H125.move 4 rfl).move 4 rfl).move 4 rfl).move 4 rfl).move 4 rfl)
              refine g_loop_inv (fun (x_ : Nat) => match x_ with | j => [(1, .pointer (some ⟨bk4, 0, none⟩)), (2, .int .i64 0), (5, .int .i64 (j : Int))]) (fun (x_ : Nat) w => match x_ with | j => (j ≤ n.kids.length) ∧ (∀ q, q < j → nodeE (n.kids.getD q default) = 0) ∧ St W w (imi (0 < n.kids.length) gA116 (.cells kA118 eA119 zA120) :: blk bk4 (.cells #[.int .i64 n.kind.v, .string n.var.v, .string n.typ.v, .slice n.tp n.tests.length n.tc, .slice n.kp n.kids.length n.kc] 25 (0, 0)) :: Im 11 (.slice n.tp n.tests.length n.tc) n.tests.length (n.tests.flatMap condCell) :: Im 5 (.slice n.kp n.kids.length n.kc) n.kids.length (n.kids.flatMap nodeCell) :: NodesA n.kids :: F)) (fun (x_ : Nat) => match x_ with | j => n.kids.length - j) (0) ?_ ?_ ?_
              · exact ⟨by first | rfl | exact vint (by omega), by first | rfl | exact vint (by omega), by first | rfl | exact vint (by omega), trivial⟩
              · exact ⟨(by omega), (fun q hq => by omega), H127⟩
              · rintro j ρ128 w129 ⟨hjl, hz, H130⟩ nx131
                change Ends _ _ (upds ρ128 [(1, .pointer (some ⟨bk4, 0, none⟩)), (2, .int .i64 0), (5, .int .i64 (j : Int))]) w129
                refine g_seq ?_
                refine g_seq ?_
                refine g_region ?_
                refine r_cons (s_move (.int .i64 (j : Int)) rfl rfl ?_)
                refine r_cons (s_fieldAddr 25 4 4 4 23 rfl fi_25_4 rfl rfl ?_)
                refine r_cons (s_load (.slice n.kp n.kids.length n.kc) ag_23 rfl (H130.blk_at (i := 1) rfl) rfl rfl ?_)
                refine r_cons (s_len n.kids.length rfl ⟨_, un_23⟩ rfl ?_)
                by_cases hc132 : (j : Int) < (n.kids.length : Int)
                · skip
                  refine r_cons (s_lss true rfl rfl (dtrue hc132) rfl ?_)
                  refine r_nil ?_
                  refine g_true rfl ?_
                  refine g_skip ?_
                  refine g_seq ?_
                  refine g_block ?_
                  refine g_seq ?_
                  refine g_region ?_
                  refine r_cons (s_fieldAddr 25 4 4 4 23 rfl fi_25_4 rfl rfl ?_)
                  refine r_cons (s_load (.slice n.kp n.kids.length n.kc) ag_23 rfl (H130.blk_at (i := 1) rfl) rfl rfl ?_)
                  refine r_cons (s_move (.int .i64 (j : Int)) rfl rfl ?_)
                  refine r_cons (s_indexAddr gA116 (off := oA117) (j : Int) 5 (oA117 + j * 5) (by exact congrArg (fun z_ => Value.slice z_ n.kids.length n.kc) (hp122 (by omega))) rfl el_23 (by omega) rfl rfl ?_)
                  refine r_cons (s_loadAgg [.int .i64 ((n.kids.getD j default).kind.v), .string ((n.kids.getD j default).var.v), .string ((n.kids.getD j default).typ.v), .slice ((n.kids.getD j default).tp) ((n.kids.getD j default).tests.length) ((n.kids.getD j default).tc), .slice ((n.kids.getD j default).kp) ((n.kids.getD j default).kids.length) ((n.kids.getD j default).kc)] 5 ag_25 rfl (H130.imi_at (i := 0) rfl (by omega)) (by have := elem_size (i := j) (s := 5) (hs124 (by omega)) (by omega); omega) (elem_take nodeCell_len (hx123 (by omega)) (by omega) default) rfl ?_)
                  have H133 := NodesA.at H130 (i := 4) rfl (j := j) (by omega)
                  refine r_cons (s_call [.agg #[.int .i64 ((n.kids.getD j default).kind.v), .string ((n.kids.getD j default).var.v), .string ((n.kids.getD j default).typ.v), .slice ((n.kids.getD j default).tp) ((n.kids.getD j default).tests.length) ((n.kids.getD j default).tc), .slice ((n.kids.getD j default).kp) ((n.kids.getD j default).kids.length) ((n.kids.getD j default).kc)]] pl_41 rfl rfl (ih (n.kids.getD j default) (by have h9 := kid_lt (n := n) (j := j) (by omega); omega) (i := 0) rfl H133) ?_)
                  rintro _ w134 ⟨rfl, H135⟩
                  refine r_cons (s_assign (.int .i64 (nodeE (n.kids.getD j default))) rfl rfl ?_)
                  refine r_nil ?_
                  refine g_seq ?_
                  refine g_region ?_
                  refine r_cons (s_move (.int .i64 (nodeE (n.kids.getD j default))) rfl rfl ?_)
                  by_cases hc136 : nodeE (n.kids.getD j default) = 0
                  · skip
                    refine r_cons (s_neq false rfl rfl (ntrue hc136) rfl ?_)
                    refine r_nil ?_
                    refine g_false rfl ?_
                    refine g_skip ?_
                    refine g_inBlock ?_
                    refine g_region ?_
                    refine r_cons (s_move (.int .i64 (j : Int)) rfl rfl ?_)
                    refine r_cons (s_add ((j : Int) + 1) rfl rfl (wi64 (by omega)) rfl ?_)
                    refine r_cons (s_assign (.int .i64 ((j : Int) + 1)) rfl rfl ?_)
                    refine r_nil ?_
                    have H137 : St W w134 (imi (0 < n.kids.length) gA116 (.cells kA118 eA119 zA120) :: blk bk4 (.cells #[.int .i64 n.kind.v, .string n.var.v, .string n.typ.v, .slice n.tp n.tests.length n.tc, .slice n.kp n.kids.length n.kc] 25 (0, 0)) :: Im 11 (.slice n.tp n.tests.length n.tc) n.tests.length (n.tests.flatMap condCell) :: Im 5 (.slice n.kp n.kids.length n.kc) n.kids.length (n.kids.flatMap nodeCell) :: NodesA n.kids :: F) := ((((((H135.move 5 rfl).move 5 rfl).move 5 rfl).move 5 rfl).move 5 rfl).drop 5 rfl)
                    exact nx131 (j + 1) _ _ ⟨(by omega), (fun q hq => (Nat.lt_or_ge q j).elim (hz q) (fun h => by rw [show q = j from by omega]; exact hc136)), H137⟩ (by first | (dsimp only; omega) | omega) ⟨by first | rfl | exact vint (by omega), by first | rfl | exact vint (by omega), by first | rfl | exact vint (by omega), trivial⟩
                  · skip
                    refine r_cons (s_neq true rfl rfl (nfalse hc136) rfl ?_)
                    refine r_nil ?_
                    refine g_true rfl ?_
                    refine g_seq ?_
                    refine g_region ?_
                    refine r_cons (s_move (.int .i64 (nodeE (n.kids.getD j default))) rfl rfl ?_)
                    refine r_cons (s_assign (.int .i64 (nodeE (n.kids.getD j default))) rfl rfl ?_)
                    refine r_nil ?_
                    refine g_ret' [.int .i64 (nodeE (n.kids.getD j default))] Try.func41 Try.results41 ⟨rfl, trivial⟩ ?_
                    have H138 : St W w134 F := ((((((H135.drop 0 rfl).drop 0 rfl).drop 0 rfl).drop 0 rfl).drop 0 rfl).drop 0 rfl)
                    exact ⟨vint ((firstE_at (f := nodeE) hz (by omega) (by omega)).trans (nodeE_kids ho113).symm), H138⟩
                · skip
                  refine r_cons (s_lss false rfl rfl (dfalse hc132) rfl ?_)
                  refine r_nil ?_
                  refine g_false rfl ?_
                  refine g_exit (by rfl) ?_
                  refine g_seq ?_
                  refine g_region ?_
                  refine r_cons (s_assign (.int .i64 0) rfl rfl ?_)
                  refine r_nil ?_
                  refine g_ret' [.int .i64 0] Try.func41 Try.results41 ⟨rfl, trivial⟩ ?_
                  have H139 : St W w129 F := (((((H130.drop 0 rfl).drop 0 rfl).drop 0 rfl).drop 0 rfl).drop 0 rfl)
                  exact ⟨vint ((firstE_end (f := nodeE) hz (by omega)).trans (nodeE_kids ho113).symm), H139⟩
          · skip
            refine s_sneq true rfl rfl (nfalse hc105) rfl ?_
            refine r_cons (s_pick_f (.bool true) rfl rfl rfl ?_)
            refine r_cons (s_move (.bool true) rfl rfl ?_)
            refine r_cons (r_pass rfl rfl rfl rfl rfl ?_)
            refine r_cons (r_pass rfl rfl rfl rfl rfl ?_)
            refine r_cons (r_pass rfl rfl rfl rfl rfl ?_)
            refine r_cons (r_pass rfl rfl rfl rfl rfl ?_)
            refine r_cons (s_pick_t (.bool true) rfl rfl rfl ?_)
            refine r_nil ?_
            refine g_true rfl ?_
            refine g_seq ?_
            refine g_region ?_
            refine r_cons (s_assign (.int .i64 71) rfl rfl ?_)
            refine r_nil ?_
            refine g_ret' [.int .i64 71] Try.func41 Try.results41 ⟨rfl, trivial⟩ ?_
            have hN140 : ¬ (n.kids.length < 2) := by omega
            have ho141 : ownE n.kind.v n.var.v n.typ.v n.tests n.kids.length = 71 := by unfold ownE; simp [hc7, hc99, hN140, hc104, hc105]
            have H142 : St W w5 F := ((((H6.drop 0 rfl).drop 0 rfl).drop 0 rfl).drop 0 rfl)
            exact ⟨vint (nodeE_own ho141 (by omega)), H142⟩
        · skip
          refine s_sneq true rfl rfl (nfalse hc104) rfl ?_
          refine r_cons (s_pick_f (.bool true) rfl rfl rfl ?_)
          refine r_cons (s_move (.bool true) rfl rfl ?_)
          refine r_cons (r_pass rfl rfl rfl rfl rfl ?_)
          refine r_cons (r_pass rfl rfl rfl rfl rfl ?_)
          refine r_cons (r_pass rfl rfl rfl rfl rfl ?_)
          refine r_cons (s_pick_t (.bool true) rfl rfl rfl ?_)
          refine r_cons (s_move (.bool true) rfl rfl ?_)
          refine r_cons (r_pass rfl rfl rfl rfl rfl ?_)
          refine r_cons (r_pass rfl rfl rfl rfl rfl ?_)
          refine r_cons (r_pass rfl rfl rfl rfl rfl ?_)
          refine r_cons (r_pass rfl rfl rfl rfl rfl ?_)
          refine r_cons (s_pick_t (.bool true) rfl rfl rfl ?_)
          refine r_nil ?_
          refine g_true rfl ?_
          refine g_seq ?_
          refine g_region ?_
          refine r_cons (s_assign (.int .i64 71) rfl rfl ?_)
          refine r_nil ?_
          refine g_ret' [.int .i64 71] Try.func41 Try.results41 ⟨rfl, trivial⟩ ?_
          have hN143 : ¬ (n.kids.length < 2) := by omega
          have ho144 : ownE n.kind.v n.var.v n.typ.v n.tests n.kids.length = 71 := by unfold ownE; simp [hc7, hc99, hN143, hc104]
          have H145 : St W w5 F := ((((H6.drop 0 rfl).drop 0 rfl).drop 0 rfl).drop 0 rfl)
          exact ⟨vint (nodeE_own ho144 (by omega)), H145⟩
    · skip
      refine r_cons (s_eql false rfl rfl (dfalse hc99) rfl ?_)
      refine r_cons (s_assign (.bool false) rfl rfl ?_)
      refine r_nil ?_
      refine g_false rfl ?_
      refine g_seq ?_
      refine g_region ?_
      by_cases hc146 : n.kind.v = 3
      · skip
        refine r_cons (s_eql true rfl rfl (dtrue hc146) rfl ?_)
        refine r_cons (s_assign (.bool true) rfl rfl ?_)
        refine r_nil ?_
        refine g_true rfl ?_
        refine g_skip ?_
        refine g_true rfl ?_
        refine g_seq ?_
        refine g_region ?_
        refine r_cons (s_fieldAddr 25 4 4 4 23 rfl fi_25_4 rfl rfl ?_)
        refine r_cons (s_load (.slice n.kp n.kids.length n.kc) ag_23 rfl (H6.blk_at (i := 0) rfl) rfl rfl ?_)
        refine r_cons (s_len n.kids.length rfl ⟨_, un_23⟩ rfl ?_)
        by_cases hc147 : (n.kids.length : Int) < 2
        · skip
          refine r_cons (s_lss true rfl rfl (dtrue hc147) rfl ?_)
          refine r_cons (s_move (.bool true) rfl rfl ?_)
          refine r_cons (r_pass rfl rfl rfl rfl rfl ?_)
          refine r_cons (r_pass rfl rfl rfl rfl rfl ?_)
          refine r_cons (r_pass rfl rfl rfl rfl rfl ?_)
          refine r_cons (s_pick_t (.bool true) rfl rfl rfl ?_)
          refine r_cons (s_move (.bool true) rfl rfl ?_)
          refine r_cons (r_pass rfl rfl rfl rfl rfl ?_)
          refine r_cons (r_pass rfl rfl rfl rfl rfl ?_)
          refine r_cons (r_pass rfl rfl rfl rfl rfl ?_)
          refine r_cons (s_pick_t (.bool true) rfl rfl rfl ?_)
          refine r_cons (s_move (.bool true) rfl rfl ?_)
          refine r_cons (r_pass rfl rfl rfl rfl rfl ?_)
          refine r_cons (r_pass rfl rfl rfl rfl rfl ?_)
          refine r_cons (r_pass rfl rfl rfl rfl rfl ?_)
          refine r_cons (r_pass rfl rfl rfl rfl rfl ?_)
          refine r_cons (s_pick_t (.bool true) rfl rfl rfl ?_)
          refine r_nil ?_
          refine g_true rfl ?_
          refine g_seq ?_
          refine g_region ?_
          refine r_cons (s_assign (.int .i64 71) rfl rfl ?_)
          refine r_nil ?_
          refine g_ret' [.int .i64 71] Try.func41 Try.results41 ⟨rfl, trivial⟩ ?_
          have hN148 : (n.kids.length < 2) := by omega
          have ho149 : ownE n.kind.v n.var.v n.typ.v n.tests n.kids.length = 71 := by unfold ownE; simp [hc7, hc99, hc146, hN148]
          have H150 : St W w5 F := ((((H6.drop 0 rfl).drop 0 rfl).drop 0 rfl).drop 0 rfl)
          exact ⟨vint (nodeE_own ho149 (by omega)), H150⟩
        · skip
          refine r_cons (s_lss false rfl rfl (dfalse hc147) rfl ?_)
          refine r_cons (s_move (.bool false) rfl rfl ?_)
          refine r_cons (r_take rfl rfl ?_)
          refine s_fieldAddr 25 1 1 1 9 rfl fi_25_1 rfl rfl ?_
          refine r_cons (r_take rfl rfl ?_)
          refine s_load (.string n.var.v) ag_9 rfl (H6.blk_at (i := 0) rfl) rfl rfl ?_
          refine r_cons (r_take rfl rfl ?_)
          by_cases hc151 : n.var.v = ByteArray.empty
          · skip
            refine s_sneq false rfl rfl (ntrue hc151) rfl ?_
            refine r_cons (s_pick_f (.bool false) rfl rfl rfl ?_)
            refine r_cons (s_move (.bool false) rfl rfl ?_)
            refine r_cons (r_take rfl rfl ?_)
            refine s_fieldAddr 25 2 2 2 9 rfl fi_25_2 rfl rfl ?_
            refine r_cons (r_take rfl rfl ?_)
            refine s_load (.string n.typ.v) ag_9 rfl (H6.blk_at (i := 0) rfl) rfl rfl ?_
            refine r_cons (r_take rfl rfl ?_)
            by_cases hc152 : n.typ.v = ByteArray.empty
            · skip
              refine s_sneq false rfl rfl (ntrue hc152) rfl ?_
              refine r_cons (s_pick_f (.bool false) rfl rfl rfl ?_)
              refine r_cons (s_move (.bool false) rfl rfl ?_)
              refine r_cons (r_take rfl rfl ?_)
              refine s_fieldAddr 25 3 3 3 22 rfl fi_25_3 rfl rfl ?_
              refine r_cons (r_take rfl rfl ?_)
              refine s_load (.slice n.tp n.tests.length n.tc) ag_22 rfl (H6.blk_at (i := 0) rfl) rfl rfl ?_
              refine r_cons (r_take rfl rfl ?_)
              refine s_len n.tests.length rfl ⟨_, un_22⟩ rfl ?_
              refine r_cons (r_take rfl rfl ?_)
              by_cases hc153 : (0 : Int) < (n.tests.length : Int)
              · skip
                refine s_gtr true rfl rfl (dtrue hc153) rfl ?_
                refine r_cons (s_pick_f (.bool true) rfl rfl rfl ?_)
                refine r_nil ?_
                refine g_true rfl ?_
                refine g_seq ?_
                refine g_region ?_
                refine r_cons (s_assign (.int .i64 71) rfl rfl ?_)
                refine r_nil ?_
                refine g_ret' [.int .i64 71] Try.func41 Try.results41 ⟨rfl, trivial⟩ ?_
                have hN154 : ¬ (n.kids.length < 2) := by omega
                have hN155 : (0 < n.tests.length) := by omega
                have ho156 : ownE n.kind.v n.var.v n.typ.v n.tests n.kids.length = 71 := by unfold ownE; simp [hc7, hc99, hc146, hN154, hN155, hc151, hc152]
                have H157 : St W w5 F := ((((H6.drop 0 rfl).drop 0 rfl).drop 0 rfl).drop 0 rfl)
                exact ⟨vint (nodeE_own ho156 (by omega)), H157⟩
              · skip
                refine s_gtr false rfl rfl (dfalse hc153) rfl ?_
                refine r_cons (s_pick_f (.bool false) rfl rfl rfl ?_)
                refine r_nil ?_
                refine g_false rfl ?_
                refine g_skip ?_
                refine g_inBlock ?_
                refine g_seq ?_
                refine g_seq ?_
                refine g_region ?_
                refine r_cons (s_assign (.int .i64 0) rfl rfl ?_)
                refine r_nil ?_
                refine g_block ?_
                have hN158 : ¬ (n.kids.length < 2) := by omega
                have hN159 : ¬ (0 < n.tests.length) := by omega
                have ho160 : ownE n.kind.v n.var.v n.typ.v n.tests n.kids.length = 0 := by unfold ownE; simp [hc7, hc99, hc146, hN158, hN159, hc151, hc152]
                obtain ⟨pA161, cA162, gA163, oA164, kA165, eA166, zA167, he173, hn168, hp169, hx170, hs171, hml, H172⟩ := Im.open_ H6 (i := 2) rfl
                obtain ⟨rfl, rfl⟩ : n.kp = pA161 ∧ n.kc = cA162 := by injection he173 with a_ b_ c_; exact ⟨a_, c_⟩
                have H174 : St W w5 (imi (0 < n.kids.length) gA163 (.cells kA165 eA166 zA167) :: blk bk4 (.cells #[.int .i64 n.kind.v, .string n.var.v, .string n.typ.v, .slice n.tp n.tests.length n.tc, .slice n.kp n.kids.length n.kc] 25 (0, 0)) :: Im 11 (.slice n.tp n.tests.length n.tc) n.tests.length (n.tests.flatMap condCell) :: Im 5 (.slice n.kp n.kids.length n.kc) n.kids.length (n.kids.flatMap nodeCell) :: NodesA n.kids :: F) := (((((H172.move 4 rfl).move 4 rfl).move 4 rfl).move 4 rfl).move 4 rfl)
                refine g_loop_inv (fun (x_ : Nat) => match x_ with | j => [(1, .pointer (some ⟨bk4, 0, none⟩)), (2, .int .i64 0), (5, .int .i64 (j : Int))]) (fun (x_ : Nat) w => match x_ with | j => (j ≤ n.kids.length) ∧ (∀ q, q < j → nodeE (n.kids.getD q default) = 0) ∧ St W w (imi (0 < n.kids.length) gA163 (.cells kA165 eA166 zA167) :: blk bk4 (.cells #[.int .i64 n.kind.v, .string n.var.v, .string n.typ.v, .slice n.tp n.tests.length n.tc, .slice n.kp n.kids.length n.kc] 25 (0, 0)) :: Im 11 (.slice n.tp n.tests.length n.tc) n.tests.length (n.tests.flatMap condCell) :: Im 5 (.slice n.kp n.kids.length n.kc) n.kids.length (n.kids.flatMap nodeCell) :: NodesA n.kids :: F)) (fun (x_ : Nat) => match x_ with | j => n.kids.length - j) (0) ?_ ?_ ?_
                · exact ⟨by first | rfl | exact vint (by omega), by first | rfl | exact vint (by omega), by first | rfl | exact vint (by omega), trivial⟩
                · exact ⟨(by omega), (fun q hq => by omega), H174⟩
                · rintro j ρ175 w176 ⟨hjl, hz, H177⟩ nx178
                  change Ends _ _ (upds ρ175 [(1, .pointer (some ⟨bk4, 0, none⟩)), (2, .int .i64 0), (5, .int .i64 (j : Int))]) w176
                  refine g_seq ?_
                  refine g_seq ?_
                  refine g_region ?_
                  refine r_cons (s_move (.int .i64 (j : Int)) rfl rfl ?_)
                  refine r_cons (s_fieldAddr 25 4 4 4 23 rfl fi_25_4 rfl rfl ?_)
                  refine r_cons (s_load (.slice n.kp n.kids.length n.kc) ag_23 rfl (H177.blk_at (i := 1) rfl) rfl rfl ?_)
                  refine r_cons (s_len n.kids.length rfl ⟨_, un_23⟩ rfl ?_)
                  by_cases hc179 : (j : Int) < (n.kids.length : Int)
                  · skip
                    refine r_cons (s_lss true rfl rfl (dtrue hc179) rfl ?_)
                    refine r_nil ?_
                    refine g_true rfl ?_
                    refine g_skip ?_
                    refine g_seq ?_
                    refine g_block ?_
                    refine g_seq ?_
                    refine g_region ?_
                    refine r_cons (s_fieldAddr 25 4 4 4 23 rfl fi_25_4 rfl rfl ?_)
                    refine r_cons (s_load (.slice n.kp n.kids.length n.kc) ag_23 rfl (H177.blk_at (i := 1) rfl) rfl rfl ?_)
                    refine r_cons (s_move (.int .i64 (j : Int)) rfl rfl ?_)
                    refine r_cons (s_indexAddr gA163 (off := oA164) (j : Int) 5 (oA164 + j * 5) (by exact congrArg (fun z_ => Value.slice z_ n.kids.length n.kc) (hp169 (by omega))) rfl el_23 (by omega) rfl rfl ?_)
                    refine r_cons (s_loadAgg [.int .i64 ((n.kids.getD j default).kind.v), .string ((n.kids.getD j default).var.v), .string ((n.kids.getD j default).typ.v), .slice ((n.kids.getD j default).tp) ((n.kids.getD j default).tests.length) ((n.kids.getD j default).tc), .slice ((n.kids.getD j default).kp) ((n.kids.getD j default).kids.length) ((n.kids.getD j default).kc)] 5 ag_25 rfl (H177.imi_at (i := 0) rfl (by omega)) (by have := elem_size (i := j) (s := 5) (hs171 (by omega)) (by omega); omega) (elem_take nodeCell_len (hx170 (by omega)) (by omega) default) rfl ?_)
                    have H180 := NodesA.at H177 (i := 4) rfl (j := j) (by omega)
                    refine r_cons (s_call [.agg #[.int .i64 ((n.kids.getD j default).kind.v), .string ((n.kids.getD j default).var.v), .string ((n.kids.getD j default).typ.v), .slice ((n.kids.getD j default).tp) ((n.kids.getD j default).tests.length) ((n.kids.getD j default).tc), .slice ((n.kids.getD j default).kp) ((n.kids.getD j default).kids.length) ((n.kids.getD j default).kc)]] pl_41 rfl rfl (ih (n.kids.getD j default) (by have h9 := kid_lt (n := n) (j := j) (by omega); omega) (i := 0) rfl H180) ?_)
                    rintro _ w181 ⟨rfl, H182⟩
                    refine r_cons (s_assign (.int .i64 (nodeE (n.kids.getD j default))) rfl rfl ?_)
                    refine r_nil ?_
                    refine g_seq ?_
                    refine g_region ?_
                    refine r_cons (s_move (.int .i64 (nodeE (n.kids.getD j default))) rfl rfl ?_)
                    by_cases hc183 : nodeE (n.kids.getD j default) = 0
                    · skip
                      refine r_cons (s_neq false rfl rfl (ntrue hc183) rfl ?_)
                      refine r_nil ?_
                      refine g_false rfl ?_
                      refine g_skip ?_
                      refine g_inBlock ?_
                      refine g_region ?_
                      refine r_cons (s_move (.int .i64 (j : Int)) rfl rfl ?_)
                      refine r_cons (s_add ((j : Int) + 1) rfl rfl (wi64 (by omega)) rfl ?_)
                      refine r_cons (s_assign (.int .i64 ((j : Int) + 1)) rfl rfl ?_)
                      refine r_nil ?_
                      have H184 : St W w181 (imi (0 < n.kids.length) gA163 (.cells kA165 eA166 zA167) :: blk bk4 (.cells #[.int .i64 n.kind.v, .string n.var.v, .string n.typ.v, .slice n.tp n.tests.length n.tc, .slice n.kp n.kids.length n.kc] 25 (0, 0)) :: Im 11 (.slice n.tp n.tests.length n.tc) n.tests.length (n.tests.flatMap condCell) :: Im 5 (.slice n.kp n.kids.length n.kc) n.kids.length (n.kids.flatMap nodeCell) :: NodesA n.kids :: F) := ((((((H182.move 5 rfl).move 5 rfl).move 5 rfl).move 5 rfl).move 5 rfl).drop 5 rfl)
                      exact nx178 (j + 1) _ _ ⟨(by omega), (fun q hq => (Nat.lt_or_ge q j).elim (hz q) (fun h => by rw [show q = j from by omega]; exact hc183)), H184⟩ (by first | (dsimp only; omega) | omega) ⟨by first | rfl | exact vint (by omega), by first | rfl | exact vint (by omega), by first | rfl | exact vint (by omega), trivial⟩
                    · skip
                      refine r_cons (s_neq true rfl rfl (nfalse hc183) rfl ?_)
                      refine r_nil ?_
                      refine g_true rfl ?_
                      refine g_seq ?_
                      refine g_region ?_
                      refine r_cons (s_move (.int .i64 (nodeE (n.kids.getD j default))) rfl rfl ?_)
                      refine r_cons (s_assign (.int .i64 (nodeE (n.kids.getD j default))) rfl rfl ?_)
                      refine r_nil ?_
                      refine g_ret' [.int .i64 (nodeE (n.kids.getD j default))] Try.func41 Try.results41 ⟨rfl, trivial⟩ ?_
                      have H185 : St W w181 F := ((((((H182.drop 0 rfl).drop 0 rfl).drop 0 rfl).drop 0 rfl).drop 0 rfl).drop 0 rfl)
                      exact ⟨vint ((firstE_at (f := nodeE) hz (by omega) (by omega)).trans (nodeE_kids ho160).symm), H185⟩
                  · skip
                    refine r_cons (s_lss false rfl rfl (dfalse hc179) rfl ?_)
                    refine r_nil ?_
                    refine g_false rfl ?_
                    refine g_exit (by rfl) ?_
                    refine g_seq ?_
                    refine g_region ?_
                    refine r_cons (s_assign (.int .i64 0) rfl rfl ?_)
                    refine r_nil ?_
                    refine g_ret' [.int .i64 0] Try.func41 Try.results41 ⟨rfl, trivial⟩ ?_
                    have H186 : St W w176 F := (((((H177.drop 0 rfl).drop 0 rfl).drop 0 rfl).drop 0 rfl).drop 0 rfl)
                    exact ⟨vint ((firstE_end (f := nodeE) hz (by omega)).trans (nodeE_kids ho160).symm), H186⟩
            · skip
              refine s_sneq true rfl rfl (nfalse hc152) rfl ?_
              refine r_cons (s_pick_f (.bool true) rfl rfl rfl ?_)
              refine r_cons (s_move (.bool true) rfl rfl ?_)
              refine r_cons (r_pass rfl rfl rfl rfl rfl ?_)
              refine r_cons (r_pass rfl rfl rfl rfl rfl ?_)
              refine r_cons (r_pass rfl rfl rfl rfl rfl ?_)
              refine r_cons (r_pass rfl rfl rfl rfl rfl ?_)
              refine r_cons (s_pick_t (.bool true) rfl rfl rfl ?_)
              refine r_nil ?_
              refine g_true rfl ?_
              refine g_seq ?_
              refine g_region ?_
              refine r_cons (s_assign (.int .i64 71) rfl rfl ?_)
              refine r_nil ?_
              refine g_ret' [.int .i64 71] Try.func41 Try.results41 ⟨rfl, trivial⟩ ?_
              have hN187 : ¬ (n.kids.length < 2) := by omega
              have ho188 : ownE n.kind.v n.var.v n.typ.v n.tests n.kids.length = 71 := by unfold ownE; simp [hc7, hc99, hc146, hN187, hc151, hc152]
              have H189 : St W w5 F := ((((H6.drop 0 rfl).drop 0 rfl).drop 0 rfl).drop 0 rfl)
              exact ⟨vint (nodeE_own ho188 (by omega)), H189⟩
          · skip
            refine s_sneq true rfl rfl (nfalse hc151) rfl ?_
            refine r_cons (s_pick_f (.bool true) rfl rfl rfl ?_)
            refine r_cons (s_move (.bool true) rfl rfl ?_)
            refine r_cons (r_pass rfl rfl rfl rfl rfl ?_)
            refine r_cons (r_pass rfl rfl rfl rfl rfl ?_)
            refine r_cons (r_pass rfl rfl rfl rfl rfl ?_)
            refine r_cons (s_pick_t (.bool true) rfl rfl rfl ?_)
            refine r_cons (s_move (.bool true) rfl rfl ?_)
            refine r_cons (r_pass rfl rfl rfl rfl rfl ?_)
            refine r_cons (r_pass rfl rfl rfl rfl rfl ?_)
            refine r_cons (r_pass rfl rfl rfl rfl rfl ?_)
            refine r_cons (r_pass rfl rfl rfl rfl rfl ?_)
            refine r_cons (s_pick_t (.bool true) rfl rfl rfl ?_)
            refine r_nil ?_
            refine g_true rfl ?_
            refine g_seq ?_
            refine g_region ?_
            refine r_cons (s_assign (.int .i64 71) rfl rfl ?_)
            refine r_nil ?_
            refine g_ret' [.int .i64 71] Try.func41 Try.results41 ⟨rfl, trivial⟩ ?_
            have hN190 : ¬ (n.kids.length < 2) := by omega
            have ho191 : ownE n.kind.v n.var.v n.typ.v n.tests n.kids.length = 71 := by unfold ownE; simp [hc7, hc99, hc146, hN190, hc151]
            have H192 : St W w5 F := ((((H6.drop 0 rfl).drop 0 rfl).drop 0 rfl).drop 0 rfl)
            exact ⟨vint (nodeE_own ho191 (by omega)), H192⟩
      · skip
        refine r_cons (s_eql false rfl rfl (dfalse hc146) rfl ?_)
        refine r_cons (s_assign (.bool false) rfl rfl ?_)
        refine r_nil ?_
        refine g_false rfl ?_
        refine g_region ?_
        by_cases hc193 : n.kind.v = 4
        · skip
          refine r_cons (s_eql true rfl rfl (dtrue hc193) rfl ?_)
          refine r_cons (s_assign (.bool true) rfl rfl ?_)
          refine r_nil ?_
          refine g_true rfl ?_
          refine g_seq ?_
          refine g_region ?_
          refine r_cons (s_fieldAddr 25 4 4 4 23 rfl fi_25_4 rfl rfl ?_)
          refine r_cons (s_load (.slice n.kp n.kids.length n.kc) ag_23 rfl (H6.blk_at (i := 0) rfl) rfl rfl ?_)
          refine r_cons (s_len n.kids.length rfl ⟨_, un_23⟩ rfl ?_)
          by_cases hc194 : (n.kids.length : Int) < 2
          · skip
            refine r_cons (s_lss true rfl rfl (dtrue hc194) rfl ?_)
            refine r_cons (s_move (.bool true) rfl rfl ?_)
            refine r_cons (r_pass rfl rfl rfl rfl rfl ?_)
            refine r_cons (r_pass rfl rfl rfl rfl rfl ?_)
            refine r_cons (r_pass rfl rfl rfl rfl rfl ?_)
            refine r_cons (s_pick_t (.bool true) rfl rfl rfl ?_)
            refine r_cons (s_move (.bool true) rfl rfl ?_)
            refine r_cons (r_pass rfl rfl rfl rfl rfl ?_)
            refine r_cons (r_pass rfl rfl rfl rfl rfl ?_)
            refine r_cons (r_pass rfl rfl rfl rfl rfl ?_)
            refine r_cons (s_pick_t (.bool true) rfl rfl rfl ?_)
            refine r_cons (s_move (.bool true) rfl rfl ?_)
            refine r_cons (r_pass rfl rfl rfl rfl rfl ?_)
            refine r_cons (r_pass rfl rfl rfl rfl rfl ?_)
            refine r_cons (r_pass rfl rfl rfl rfl rfl ?_)
            refine r_cons (r_pass rfl rfl rfl rfl rfl ?_)
            refine r_cons (s_pick_t (.bool true) rfl rfl rfl ?_)
            refine r_nil ?_
            refine g_true rfl ?_
            refine g_seq ?_
            refine g_region ?_
            refine r_cons (s_assign (.int .i64 71) rfl rfl ?_)
            refine r_nil ?_
            refine g_ret' [.int .i64 71] Try.func41 Try.results41 ⟨rfl, trivial⟩ ?_
            have hN195 : (n.kids.length < 2) := by omega
            have ho196 : ownE n.kind.v n.var.v n.typ.v n.tests n.kids.length = 71 := by unfold ownE; simp [hc7, hc99, hc146, hc193, hN195]
            have H197 : St W w5 F := ((((H6.drop 0 rfl).drop 0 rfl).drop 0 rfl).drop 0 rfl)
            exact ⟨vint (nodeE_own ho196 (by omega)), H197⟩
          · skip
            refine r_cons (s_lss false rfl rfl (dfalse hc194) rfl ?_)
            refine r_cons (s_move (.bool false) rfl rfl ?_)
            refine r_cons (r_take rfl rfl ?_)
            refine s_fieldAddr 25 1 1 1 9 rfl fi_25_1 rfl rfl ?_
            refine r_cons (r_take rfl rfl ?_)
            refine s_load (.string n.var.v) ag_9 rfl (H6.blk_at (i := 0) rfl) rfl rfl ?_
            refine r_cons (r_take rfl rfl ?_)
            by_cases hc198 : n.var.v = ByteArray.empty
            · skip
              refine s_sneq false rfl rfl (ntrue hc198) rfl ?_
              refine r_cons (s_pick_f (.bool false) rfl rfl rfl ?_)
              refine r_cons (s_move (.bool false) rfl rfl ?_)
              refine r_cons (r_take rfl rfl ?_)
              refine s_fieldAddr 25 2 2 2 9 rfl fi_25_2 rfl rfl ?_
              refine r_cons (r_take rfl rfl ?_)
              refine s_load (.string n.typ.v) ag_9 rfl (H6.blk_at (i := 0) rfl) rfl rfl ?_
              refine r_cons (r_take rfl rfl ?_)
              by_cases hc199 : n.typ.v = ByteArray.empty
              · skip
                refine s_sneq false rfl rfl (ntrue hc199) rfl ?_
                refine r_cons (s_pick_f (.bool false) rfl rfl rfl ?_)
                refine r_cons (s_move (.bool false) rfl rfl ?_)
                refine r_cons (r_take rfl rfl ?_)
                refine s_fieldAddr 25 3 3 3 22 rfl fi_25_3 rfl rfl ?_
                refine r_cons (r_take rfl rfl ?_)
                refine s_load (.slice n.tp n.tests.length n.tc) ag_22 rfl (H6.blk_at (i := 0) rfl) rfl rfl ?_
                refine r_cons (r_take rfl rfl ?_)
                refine s_len n.tests.length rfl ⟨_, un_22⟩ rfl ?_
                refine r_cons (r_take rfl rfl ?_)
                by_cases hc200 : (0 : Int) < (n.tests.length : Int)
                · skip
                  refine s_gtr true rfl rfl (dtrue hc200) rfl ?_
                  refine r_cons (s_pick_f (.bool true) rfl rfl rfl ?_)
                  refine r_nil ?_
                  refine g_true rfl ?_
                  refine g_seq ?_
                  refine g_region ?_
                  refine r_cons (s_assign (.int .i64 71) rfl rfl ?_)
                  refine r_nil ?_
                  refine g_ret' [.int .i64 71] Try.func41 Try.results41 ⟨rfl, trivial⟩ ?_
                  have hN201 : ¬ (n.kids.length < 2) := by omega
                  have hN202 : (0 < n.tests.length) := by omega
                  have ho203 : ownE n.kind.v n.var.v n.typ.v n.tests n.kids.length = 71 := by unfold ownE; simp [hc7, hc99, hc146, hc193, hN201, hN202, hc198, hc199]
                  have H204 : St W w5 F := ((((H6.drop 0 rfl).drop 0 rfl).drop 0 rfl).drop 0 rfl)
                  exact ⟨vint (nodeE_own ho203 (by omega)), H204⟩
                · skip
                  refine s_gtr false rfl rfl (dfalse hc200) rfl ?_
                  refine r_cons (s_pick_f (.bool false) rfl rfl rfl ?_)
                  refine r_nil ?_
                  refine g_false rfl ?_
                  refine g_skip ?_
                  refine g_inBlock ?_
                  refine g_seq ?_
                  refine g_seq ?_
                  refine g_region ?_
                  refine r_cons (s_assign (.int .i64 0) rfl rfl ?_)
                  refine r_nil ?_
                  refine g_block ?_
                  have hN205 : ¬ (n.kids.length < 2) := by omega
                  have hN206 : ¬ (0 < n.tests.length) := by omega
                  have ho207 : ownE n.kind.v n.var.v n.typ.v n.tests n.kids.length = 0 := by unfold ownE; simp [hc7, hc99, hc146, hc193, hN205, hN206, hc198, hc199]
                  obtain ⟨pA208, cA209, gA210, oA211, kA212, eA213, zA214, he220, hn215, hp216, hx217, hs218, hml, H219⟩ := Im.open_ H6 (i := 2) rfl
                  obtain ⟨rfl, rfl⟩ : n.kp = pA208 ∧ n.kc = cA209 := by injection he220 with a_ b_ c_; exact ⟨a_, c_⟩
                  have H221 : St W w5 (imi (0 < n.kids.length) gA210 (.cells kA212 eA213 zA214) :: blk bk4 (.cells #[.int .i64 n.kind.v, .string n.var.v, .string n.typ.v, .slice n.tp n.tests.length n.tc, .slice n.kp n.kids.length n.kc] 25 (0, 0)) :: Im 11 (.slice n.tp n.tests.length n.tc) n.tests.length (n.tests.flatMap condCell) :: Im 5 (.slice n.kp n.kids.length n.kc) n.kids.length (n.kids.flatMap nodeCell) :: NodesA n.kids :: F) := (((((H219.move 4 rfl).move 4 rfl).move 4 rfl).move 4 rfl).move 4 rfl)
                  refine g_loop_inv (fun (x_ : Nat) => match x_ with | j => [(1, .pointer (some ⟨bk4, 0, none⟩)), (2, .int .i64 0), (5, .int .i64 (j : Int))]) (fun (x_ : Nat) w => match x_ with | j => (j ≤ n.kids.length) ∧ (∀ q, q < j → nodeE (n.kids.getD q default) = 0) ∧ St W w (imi (0 < n.kids.length) gA210 (.cells kA212 eA213 zA214) :: blk bk4 (.cells #[.int .i64 n.kind.v, .string n.var.v, .string n.typ.v, .slice n.tp n.tests.length n.tc, .slice n.kp n.kids.length n.kc] 25 (0, 0)) :: Im 11 (.slice n.tp n.tests.length n.tc) n.tests.length (n.tests.flatMap condCell) :: Im 5 (.slice n.kp n.kids.length n.kc) n.kids.length (n.kids.flatMap nodeCell) :: NodesA n.kids :: F)) (fun (x_ : Nat) => match x_ with | j => n.kids.length - j) (0) ?_ ?_ ?_
                  · exact ⟨by first | rfl | exact vint (by omega), by first | rfl | exact vint (by omega), by first | rfl | exact vint (by omega), trivial⟩
                  · exact ⟨(by omega), (fun q hq => by omega), H221⟩
                  · rintro j ρ222 w223 ⟨hjl, hz, H224⟩ nx225
                    change Ends _ _ (upds ρ222 [(1, .pointer (some ⟨bk4, 0, none⟩)), (2, .int .i64 0), (5, .int .i64 (j : Int))]) w223
                    refine g_seq ?_
                    refine g_seq ?_
                    refine g_region ?_
                    refine r_cons (s_move (.int .i64 (j : Int)) rfl rfl ?_)
                    refine r_cons (s_fieldAddr 25 4 4 4 23 rfl fi_25_4 rfl rfl ?_)
                    refine r_cons (s_load (.slice n.kp n.kids.length n.kc) ag_23 rfl (H224.blk_at (i := 1) rfl) rfl rfl ?_)
                    refine r_cons (s_len n.kids.length rfl ⟨_, un_23⟩ rfl ?_)
                    by_cases hc226 : (j : Int) < (n.kids.length : Int)
                    · skip
                      refine r_cons (s_lss true rfl rfl (dtrue hc226) rfl ?_)
                      refine r_nil ?_
                      refine g_true rfl ?_
                      refine g_skip ?_
                      refine g_seq ?_
                      refine g_block ?_
                      refine g_seq ?_
                      refine g_region ?_
                      refine r_cons (s_fieldAddr 25 4 4 4 23 rfl fi_25_4 rfl rfl ?_)
                      refine r_cons (s_load (.slice n.kp n.kids.length n.kc) ag_23 rfl (H224.blk_at (i := 1) rfl) rfl rfl ?_)
                      refine r_cons (s_move (.int .i64 (j : Int)) rfl rfl ?_)
                      refine r_cons (s_indexAddr gA210 (off := oA211) (j : Int) 5 (oA211 + j * 5) (by exact congrArg (fun z_ => Value.slice z_ n.kids.length n.kc) (hp216 (by omega))) rfl el_23 (by omega) rfl rfl ?_)
                      refine r_cons (s_loadAgg [.int .i64 ((n.kids.getD j default).kind.v), .string ((n.kids.getD j default).var.v), .string ((n.kids.getD j default).typ.v), .slice ((n.kids.getD j default).tp) ((n.kids.getD j default).tests.length) ((n.kids.getD j default).tc), .slice ((n.kids.getD j default).kp) ((n.kids.getD j default).kids.length) ((n.kids.getD j default).kc)] 5 ag_25 rfl (H224.imi_at (i := 0) rfl (by omega)) (by have := elem_size (i := j) (s := 5) (hs218 (by omega)) (by omega); omega) (elem_take nodeCell_len (hx217 (by omega)) (by omega) default) rfl ?_)
                      have H227 := NodesA.at H224 (i := 4) rfl (j := j) (by omega)
                      refine r_cons (s_call [.agg #[.int .i64 ((n.kids.getD j default).kind.v), .string ((n.kids.getD j default).var.v), .string ((n.kids.getD j default).typ.v), .slice ((n.kids.getD j default).tp) ((n.kids.getD j default).tests.length) ((n.kids.getD j default).tc), .slice ((n.kids.getD j default).kp) ((n.kids.getD j default).kids.length) ((n.kids.getD j default).kc)]] pl_41 rfl rfl (ih (n.kids.getD j default) (by have h9 := kid_lt (n := n) (j := j) (by omega); omega) (i := 0) rfl H227) ?_)
                      rintro _ w228 ⟨rfl, H229⟩
                      refine r_cons (s_assign (.int .i64 (nodeE (n.kids.getD j default))) rfl rfl ?_)
                      refine r_nil ?_
                      refine g_seq ?_
                      refine g_region ?_
                      refine r_cons (s_move (.int .i64 (nodeE (n.kids.getD j default))) rfl rfl ?_)
                      by_cases hc230 : nodeE (n.kids.getD j default) = 0
                      · skip
                        refine r_cons (s_neq false rfl rfl (ntrue hc230) rfl ?_)
                        refine r_nil ?_
                        refine g_false rfl ?_
                        refine g_skip ?_
                        refine g_inBlock ?_
                        refine g_region ?_
                        refine r_cons (s_move (.int .i64 (j : Int)) rfl rfl ?_)
                        refine r_cons (s_add ((j : Int) + 1) rfl rfl (wi64 (by omega)) rfl ?_)
                        refine r_cons (s_assign (.int .i64 ((j : Int) + 1)) rfl rfl ?_)
                        refine r_nil ?_
                        have H231 : St W w228 (imi (0 < n.kids.length) gA210 (.cells kA212 eA213 zA214) :: blk bk4 (.cells #[.int .i64 n.kind.v, .string n.var.v, .string n.typ.v, .slice n.tp n.tests.length n.tc, .slice n.kp n.kids.length n.kc] 25 (0, 0)) :: Im 11 (.slice n.tp n.tests.length n.tc) n.tests.length (n.tests.flatMap condCell) :: Im 5 (.slice n.kp n.kids.length n.kc) n.kids.length (n.kids.flatMap nodeCell) :: NodesA n.kids :: F) := ((((((H229.move 5 rfl).move 5 rfl).move 5 rfl).move 5 rfl).move 5 rfl).drop 5 rfl)
                        exact nx225 (j + 1) _ _ ⟨(by omega), (fun q hq => (Nat.lt_or_ge q j).elim (hz q) (fun h => by rw [show q = j from by omega]; exact hc230)), H231⟩ (by first | (dsimp only; omega) | omega) ⟨by first | rfl | exact vint (by omega), by first | rfl | exact vint (by omega), by first | rfl | exact vint (by omega), trivial⟩
                      · skip
                        refine r_cons (s_neq true rfl rfl (nfalse hc230) rfl ?_)
                        refine r_nil ?_
                        refine g_true rfl ?_
                        refine g_seq ?_
                        refine g_region ?_
                        refine r_cons (s_move (.int .i64 (nodeE (n.kids.getD j default))) rfl rfl ?_)
                        refine r_cons (s_assign (.int .i64 (nodeE (n.kids.getD j default))) rfl rfl ?_)
                        refine r_nil ?_
                        refine g_ret' [.int .i64 (nodeE (n.kids.getD j default))] Try.func41 Try.results41 ⟨rfl, trivial⟩ ?_
                        have H232 : St W w228 F := ((((((H229.drop 0 rfl).drop 0 rfl).drop 0 rfl).drop 0 rfl).drop 0 rfl).drop 0 rfl)
                        exact ⟨vint ((firstE_at (f := nodeE) hz (by omega) (by omega)).trans (nodeE_kids ho207).symm), H232⟩
                    · skip
                      refine r_cons (s_lss false rfl rfl (dfalse hc226) rfl ?_)
                      refine r_nil ?_
                      refine g_false rfl ?_
                      refine g_exit (by rfl) ?_
                      refine g_seq ?_
                      refine g_region ?_
                      refine r_cons (s_assign (.int .i64 0) rfl rfl ?_)
                      refine r_nil ?_
                      refine g_ret' [.int .i64 0] Try.func41 Try.results41 ⟨rfl, trivial⟩ ?_
                      have H233 : St W w223 F := (((((H224.drop 0 rfl).drop 0 rfl).drop 0 rfl).drop 0 rfl).drop 0 rfl)
                      exact ⟨vint ((firstE_end (f := nodeE) hz (by omega)).trans (nodeE_kids ho207).symm), H233⟩
              · skip
                refine s_sneq true rfl rfl (nfalse hc199) rfl ?_
                refine r_cons (s_pick_f (.bool true) rfl rfl rfl ?_)
                refine r_cons (s_move (.bool true) rfl rfl ?_)
                refine r_cons (r_pass rfl rfl rfl rfl rfl ?_)
                refine r_cons (r_pass rfl rfl rfl rfl rfl ?_)
                refine r_cons (r_pass rfl rfl rfl rfl rfl ?_)
                refine r_cons (r_pass rfl rfl rfl rfl rfl ?_)
                refine r_cons (s_pick_t (.bool true) rfl rfl rfl ?_)
                refine r_nil ?_
                refine g_true rfl ?_
                refine g_seq ?_
                refine g_region ?_
                refine r_cons (s_assign (.int .i64 71) rfl rfl ?_)
                refine r_nil ?_
                refine g_ret' [.int .i64 71] Try.func41 Try.results41 ⟨rfl, trivial⟩ ?_
                have hN234 : ¬ (n.kids.length < 2) := by omega
                have ho235 : ownE n.kind.v n.var.v n.typ.v n.tests n.kids.length = 71 := by unfold ownE; simp [hc7, hc99, hc146, hc193, hN234, hc198, hc199]
                have H236 : St W w5 F := ((((H6.drop 0 rfl).drop 0 rfl).drop 0 rfl).drop 0 rfl)
                exact ⟨vint (nodeE_own ho235 (by omega)), H236⟩
            · skip
              refine s_sneq true rfl rfl (nfalse hc198) rfl ?_
              refine r_cons (s_pick_f (.bool true) rfl rfl rfl ?_)
              refine r_cons (s_move (.bool true) rfl rfl ?_)
              refine r_cons (r_pass rfl rfl rfl rfl rfl ?_)
              refine r_cons (r_pass rfl rfl rfl rfl rfl ?_)
              refine r_cons (r_pass rfl rfl rfl rfl rfl ?_)
              refine r_cons (s_pick_t (.bool true) rfl rfl rfl ?_)
              refine r_cons (s_move (.bool true) rfl rfl ?_)
              refine r_cons (r_pass rfl rfl rfl rfl rfl ?_)
              refine r_cons (r_pass rfl rfl rfl rfl rfl ?_)
              refine r_cons (r_pass rfl rfl rfl rfl rfl ?_)
              refine r_cons (r_pass rfl rfl rfl rfl rfl ?_)
              refine r_cons (s_pick_t (.bool true) rfl rfl rfl ?_)
              refine r_nil ?_
              refine g_true rfl ?_
              refine g_seq ?_
              refine g_region ?_
              refine r_cons (s_assign (.int .i64 71) rfl rfl ?_)
              refine r_nil ?_
              refine g_ret' [.int .i64 71] Try.func41 Try.results41 ⟨rfl, trivial⟩ ?_
              have hN237 : ¬ (n.kids.length < 2) := by omega
              have ho238 : ownE n.kind.v n.var.v n.typ.v n.tests n.kids.length = 71 := by unfold ownE; simp [hc7, hc99, hc146, hc193, hN237, hc198]
              have H239 : St W w5 F := ((((H6.drop 0 rfl).drop 0 rfl).drop 0 rfl).drop 0 rfl)
              exact ⟨vint (nodeE_own ho238 (by omega)), H239⟩
        · skip
          refine r_cons (s_eql false rfl rfl (dfalse hc193) rfl ?_)
          refine r_cons (s_assign (.bool false) rfl rfl ?_)
          refine r_nil ?_
          refine g_false rfl ?_
          refine g_seq ?_
          refine g_region ?_
          refine r_cons (s_assign (.int .i64 71) rfl rfl ?_)
          refine r_nil ?_
          refine g_ret' [.int .i64 71] Try.func41 Try.results41 ⟨rfl, trivial⟩ ?_
          have ho240 : ownE n.kind.v n.var.v n.typ.v n.tests n.kids.length = 71 := by unfold ownE; simp [hc7, hc99, hc146, hc193]
          have H241 : St W w5 F := ((((H6.drop 0 rfl).drop 0 rfl).drop 0 rfl).drop 0 rfl)
          exact ⟨vint (nodeE_own ho240 (by omega)), H241⟩
theorem ref07_node {W w : World} {F : List Atom} (n : NodeD)  {i : Nat} (hi : F[i]? = some (NodeA n)) (H : St W w F) : Calls Try.prog 41 #[.agg #[.int .i64 n.kind.v, .string n.var.v, .string n.typ.v, .slice n.tp n.tests.length n.tc, .slice n.kp n.kids.length n.kc]] w (Ret fun v w' => v = .int .i64 (nodeE n) ∧ St W w' F) := ref07_node_r (sizeOf n + 1) n (Nat.lt_succ_self _) hi H
set_option maxHeartbeats 4000000 in
set_option maxRecDepth 100000 in
theorem check_Shape {W w : World} {F : List Atom} (n : NodeD) {i : Nat} (hi : F[i]? = some (NodeA n)) (H : St W w F) : Calls Try.prog 19 #[.agg #[.int .i64 n.kind.v, .string n.var.v, .string n.typ.v, .slice n.tp n.tests.length n.tc, .slice n.kp n.kids.length n.kc]] w (Ret fun v w' => v = .int .i64 (shapeE n) ∧ St W w' F) := by
  have H1 := H.dup (i := i) (by exact hi) (NodeA_pers _)
  have H2 : St W w (NodeA n :: F) := H1
  refine calls_of_go (n := 20) Try.func19 rfl Try.ntmps19 rfl ?_
  refine g_seq ?_
  refine g_region ?_
  refine r_cons (s_box H2 25 (.agg #[.int .i64 n.kind.v, .string n.var.v, .string n.typ.v, .slice n.tp n.tests.length n.tc, .slice n.kp n.kids.length n.kc]) rfl (cs := #[.int .i64 n.kind.v, .string n.var.v, .string n.typ.v, .slice n.tp n.tests.length n.tc, .slice n.kp n.kids.length n.kc]) rfl rfl ?_); intro bk3 w4 H5
  refine r_cons (s_assign (.int .i64 0) rfl rfl ?_)
  refine r_nil ?_
  refine g_seq ?_
  refine g_seq ?_
  refine g_region ?_
  refine r_cons (s_loadAgg [.int .i64 n.kind.v, .string n.var.v, .string n.typ.v, .slice n.tp n.tests.length n.tc, .slice n.kp n.kids.length n.kc] 5 ag_25 rfl (H5.blk_at (i := 0) rfl) (Nat.le_of_ble_eq_true rfl) rfl rfl ?_)
  refine r_cons (s_call [.agg #[.int .i64 n.kind.v, .string n.var.v, .string n.typ.v, .slice n.tp n.tests.length n.tc, .slice n.kp n.kids.length n.kc]] pl_15 rfl rfl (check_Deep n (i := 1) rfl H5) ?_)
  rintro _ w6 ⟨rfl, H7⟩
  by_cases hc8 : (8 : Int) < deepN n
  · skip
    refine r_cons (s_gtr true rfl rfl (dtrue hc8) rfl ?_)
    refine r_cons (s_move (.bool true) rfl rfl ?_)
    refine r_cons (r_pass rfl rfl rfl rfl rfl ?_)
    refine r_cons (r_pass rfl rfl rfl rfl rfl ?_)
    refine r_cons (r_pass rfl rfl rfl rfl rfl ?_)
    refine r_cons (s_pick_t (.bool true) rfl rfl rfl ?_)
    refine r_nil ?_
    refine g_true rfl ?_
    refine g_seq ?_
    refine g_region ?_
    refine r_cons (s_assign (.int .i64 72) rfl rfl ?_)
    refine r_nil ?_
    refine g_ret' [.int .i64 72] Try.func19 Try.results19 ⟨rfl, trivial⟩ ?_
    have H9 : St W w6 F := ((H7.drop 0 rfl).drop 0 rfl)
    exact ⟨vint (by unfold shapeE; split <;> (try omega) <;> split <;> (try omega) <;> split <;> omega), H9⟩
  · skip
    refine r_cons (s_gtr false rfl rfl (dfalse hc8) rfl ?_)
    refine r_cons (s_move (.bool false) rfl rfl ?_)
    refine r_cons (r_take rfl rfl ?_)
    refine s_loadAgg [.int .i64 n.kind.v, .string n.var.v, .string n.typ.v, .slice n.tp n.tests.length n.tc, .slice n.kp n.kids.length n.kc] 5 ag_25 rfl (H7.blk_at (i := 0) rfl) (Nat.le_of_ble_eq_true rfl) rfl rfl ?_
    refine r_cons (r_take rfl rfl ?_)
    refine s_call [.agg #[.int .i64 n.kind.v, .string n.var.v, .string n.typ.v, .slice n.tp n.tests.length n.tc, .slice n.kp n.kids.length n.kc]] pl_13 rfl rfl (check_Terms n (i := 1) rfl H7) ?_
    rintro _ w10 ⟨rfl, H11⟩
    refine r_cons (r_take rfl rfl ?_)
    by_cases hc12 : (12 : Int) < termsN n
    · skip
      refine s_gtr true rfl rfl (dtrue hc12) rfl ?_
      refine r_cons (s_pick_f (.bool true) rfl rfl rfl ?_)
      refine r_nil ?_
      refine g_true rfl ?_
      refine g_seq ?_
      refine g_region ?_
      refine r_cons (s_assign (.int .i64 72) rfl rfl ?_)
      refine r_nil ?_
      refine g_ret' [.int .i64 72] Try.func19 Try.results19 ⟨rfl, trivial⟩ ?_
      have H13 : St W w10 F := ((H11.drop 0 rfl).drop 0 rfl)
      exact ⟨vint (by unfold shapeE; split <;> (try omega) <;> split <;> (try omega) <;> split <;> omega), H13⟩
    · skip
      refine s_gtr false rfl rfl (dfalse hc12) rfl ?_
      refine r_cons (s_pick_f (.bool false) rfl rfl rfl ?_)
      refine r_nil ?_
      refine g_false rfl ?_
      refine g_skip ?_
      refine g_seq ?_
      refine g_seq ?_
      refine g_region ?_
      refine r_cons (s_loadAgg [.int .i64 n.kind.v, .string n.var.v, .string n.typ.v, .slice n.tp n.tests.length n.tc, .slice n.kp n.kids.length n.kc] 5 ag_25 rfl (H11.blk_at (i := 0) rfl) (Nat.le_of_ble_eq_true rfl) rfl rfl ?_)
      refine r_cons (s_call [.agg #[.int .i64 n.kind.v, .string n.var.v, .string n.typ.v, .slice n.tp n.tests.length n.tc, .slice n.kp n.kids.length n.kc]] pl_40 rfl rfl (check_node n (i := 1) rfl H11) ?_)
      rintro _ w14 ⟨rfl, H15⟩
      refine r_cons (s_assign (.int .i64 (nodeE n)) rfl rfl ?_)
      refine r_nil ?_
      refine g_seq ?_
      refine g_region ?_
      refine r_cons (s_move (.int .i64 (nodeE n)) rfl rfl ?_)
      by_cases hc16 : nodeE n = 0
      · skip
        refine r_cons (s_neq false rfl rfl (ntrue hc16) rfl ?_)
        refine r_nil ?_
        refine g_false rfl ?_
        refine g_skip ?_
        refine g_seq ?_
        refine g_seq ?_
        refine g_region ?_
        refine r_cons (s_loadAgg [.int .i64 n.kind.v, .string n.var.v, .string n.typ.v, .slice n.tp n.tests.length n.tc, .slice n.kp n.kids.length n.kc] 5 ag_25 rfl (H15.blk_at (i := 0) rfl) (Nat.le_of_ble_eq_true rfl) rfl rfl ?_)
        refine r_cons (s_call [.agg #[.int .i64 n.kind.v, .string n.var.v, .string n.typ.v, .slice n.tp n.tests.length n.tc, .slice n.kp n.kids.length n.kc]] pl_17 rfl rfl (check_Alts n (i := 1) rfl H15) ?_)
        rintro _ w17 ⟨rfl, H18⟩
        by_cases hc19 : (64 : Int) < altsN n
        · skip
          refine r_cons (s_gtr true rfl rfl (dtrue hc19) rfl ?_)
          refine r_nil ?_
          refine g_true rfl ?_
          refine g_seq ?_
          refine g_region ?_
          refine r_cons (s_assign (.int .i64 72) rfl rfl ?_)
          refine r_nil ?_
          refine g_ret' [.int .i64 72] Try.func19 Try.results19 ⟨rfl, trivial⟩ ?_
          have H20 : St W w17 F := ((H18.drop 0 rfl).drop 0 rfl)
          exact ⟨vint (by unfold shapeE; split <;> (try omega) <;> split <;> (try omega) <;> split <;> omega), H20⟩
        · skip
          refine r_cons (s_gtr false rfl rfl (dfalse hc19) rfl ?_)
          refine r_nil ?_
          refine g_false rfl ?_
          refine g_skip ?_
          refine g_seq ?_
          refine g_region ?_
          refine r_cons (s_assign (.int .i64 0) rfl rfl ?_)
          refine r_nil ?_
          refine g_ret' [.int .i64 0] Try.func19 Try.results19 ⟨rfl, trivial⟩ ?_
          have H21 : St W w17 F := ((H18.drop 0 rfl).drop 0 rfl)
          exact ⟨vint (by unfold shapeE; split <;> (try omega) <;> split <;> (try omega) <;> split <;> omega), H21⟩
      · skip
        refine r_cons (s_neq true rfl rfl (nfalse hc16) rfl ?_)
        refine r_nil ?_
        refine g_true rfl ?_
        refine g_seq ?_
        refine g_region ?_
        refine r_cons (s_move (.int .i64 (nodeE n)) rfl rfl ?_)
        refine r_cons (s_assign (.int .i64 (nodeE n)) rfl rfl ?_)
        refine r_nil ?_
        refine g_ret' [.int .i64 (nodeE n)] Try.func19 Try.results19 ⟨rfl, trivial⟩ ?_
        have H22 : St W w14 F := ((H15.drop 0 rfl).drop 0 rfl)
        exact ⟨vint (by unfold shapeE; split <;> (try omega) <;> split <;> (try omega) <;> split <;> omega), H22⟩
set_option maxHeartbeats 4000000 in
set_option maxRecDepth 100000 in
theorem ref07_Shape {W w : World} {F : List Atom} (n : NodeD) {i : Nat} (hi : F[i]? = some (NodeA n)) (H : St W w F) : Calls Try.prog 20 #[.agg #[.int .i64 n.kind.v, .string n.var.v, .string n.typ.v, .slice n.tp n.tests.length n.tc, .slice n.kp n.kids.length n.kc]] w (Ret fun v w' => v = .int .i64 (shapeE n) ∧ St W w' F) := by
  have H1 := H.dup (i := i) (by exact hi) (NodeA_pers _)
  have H2 : St W w (NodeA n :: F) := H1
  refine calls_of_go (n := 20) Try.func20 rfl Try.ntmps20 rfl ?_
  refine g_seq ?_
  refine g_region ?_
  refine r_cons (s_box H2 25 (.agg #[.int .i64 n.kind.v, .string n.var.v, .string n.typ.v, .slice n.tp n.tests.length n.tc, .slice n.kp n.kids.length n.kc]) rfl (cs := #[.int .i64 n.kind.v, .string n.var.v, .string n.typ.v, .slice n.tp n.tests.length n.tc, .slice n.kp n.kids.length n.kc]) rfl rfl ?_); intro bk3 w4 H5
  refine r_cons (s_assign (.int .i64 0) rfl rfl ?_)
  refine r_nil ?_
  refine g_seq ?_
  refine g_seq ?_
  refine g_region ?_
  refine r_cons (s_loadAgg [.int .i64 n.kind.v, .string n.var.v, .string n.typ.v, .slice n.tp n.tests.length n.tc, .slice n.kp n.kids.length n.kc] 5 ag_25 rfl (H5.blk_at (i := 0) rfl) (Nat.le_of_ble_eq_true rfl) rfl rfl ?_)
  refine r_cons (s_call [.agg #[.int .i64 n.kind.v, .string n.var.v, .string n.typ.v, .slice n.tp n.tests.length n.tc, .slice n.kp n.kids.length n.kc]] pl_16 rfl rfl (ref07_Deep n (i := 1) rfl H5) ?_)
  rintro _ w6 ⟨rfl, H7⟩
  by_cases hc8 : (8 : Int) < deepN n
  · skip
    refine r_cons (s_gtr true rfl rfl (dtrue hc8) rfl ?_)
    refine r_cons (s_move (.bool true) rfl rfl ?_)
    refine r_cons (r_pass rfl rfl rfl rfl rfl ?_)
    refine r_cons (r_pass rfl rfl rfl rfl rfl ?_)
    refine r_cons (r_pass rfl rfl rfl rfl rfl ?_)
    refine r_cons (s_pick_t (.bool true) rfl rfl rfl ?_)
    refine r_nil ?_
    refine g_true rfl ?_
    refine g_seq ?_
    refine g_region ?_
    refine r_cons (s_assign (.int .i64 72) rfl rfl ?_)
    refine r_nil ?_
    refine g_ret' [.int .i64 72] Try.func20 Try.results20 ⟨rfl, trivial⟩ ?_
    have H9 : St W w6 F := ((H7.drop 0 rfl).drop 0 rfl)
    exact ⟨vint (by unfold shapeE; split <;> (try omega) <;> split <;> (try omega) <;> split <;> omega), H9⟩
  · skip
    refine r_cons (s_gtr false rfl rfl (dfalse hc8) rfl ?_)
    refine r_cons (s_move (.bool false) rfl rfl ?_)
    refine r_cons (r_take rfl rfl ?_)
    refine s_loadAgg [.int .i64 n.kind.v, .string n.var.v, .string n.typ.v, .slice n.tp n.tests.length n.tc, .slice n.kp n.kids.length n.kc] 5 ag_25 rfl (H7.blk_at (i := 0) rfl) (Nat.le_of_ble_eq_true rfl) rfl rfl ?_
    refine r_cons (r_take rfl rfl ?_)
    refine s_call [.agg #[.int .i64 n.kind.v, .string n.var.v, .string n.typ.v, .slice n.tp n.tests.length n.tc, .slice n.kp n.kids.length n.kc]] pl_14 rfl rfl (ref07_Terms n (i := 1) rfl H7) ?_
    rintro _ w10 ⟨rfl, H11⟩
    refine r_cons (r_take rfl rfl ?_)
    by_cases hc12 : (12 : Int) < termsN n
    · skip
      refine s_gtr true rfl rfl (dtrue hc12) rfl ?_
      refine r_cons (s_pick_f (.bool true) rfl rfl rfl ?_)
      refine r_nil ?_
      refine g_true rfl ?_
      refine g_seq ?_
      refine g_region ?_
      refine r_cons (s_assign (.int .i64 72) rfl rfl ?_)
      refine r_nil ?_
      refine g_ret' [.int .i64 72] Try.func20 Try.results20 ⟨rfl, trivial⟩ ?_
      have H13 : St W w10 F := ((H11.drop 0 rfl).drop 0 rfl)
      exact ⟨vint (by unfold shapeE; split <;> (try omega) <;> split <;> (try omega) <;> split <;> omega), H13⟩
    · skip
      refine s_gtr false rfl rfl (dfalse hc12) rfl ?_
      refine r_cons (s_pick_f (.bool false) rfl rfl rfl ?_)
      refine r_nil ?_
      refine g_false rfl ?_
      refine g_skip ?_
      refine g_seq ?_
      refine g_seq ?_
      refine g_region ?_
      refine r_cons (s_loadAgg [.int .i64 n.kind.v, .string n.var.v, .string n.typ.v, .slice n.tp n.tests.length n.tc, .slice n.kp n.kids.length n.kc] 5 ag_25 rfl (H11.blk_at (i := 0) rfl) (Nat.le_of_ble_eq_true rfl) rfl rfl ?_)
      refine r_cons (s_call [.agg #[.int .i64 n.kind.v, .string n.var.v, .string n.typ.v, .slice n.tp n.tests.length n.tc, .slice n.kp n.kids.length n.kc]] pl_41 rfl rfl (ref07_node n (i := 1) rfl H11) ?_)
      rintro _ w14 ⟨rfl, H15⟩
      refine r_cons (s_assign (.int .i64 (nodeE n)) rfl rfl ?_)
      refine r_nil ?_
      refine g_seq ?_
      refine g_region ?_
      refine r_cons (s_move (.int .i64 (nodeE n)) rfl rfl ?_)
      by_cases hc16 : nodeE n = 0
      · skip
        refine r_cons (s_neq false rfl rfl (ntrue hc16) rfl ?_)
        refine r_nil ?_
        refine g_false rfl ?_
        refine g_skip ?_
        refine g_seq ?_
        refine g_seq ?_
        refine g_region ?_
        refine r_cons (s_loadAgg [.int .i64 n.kind.v, .string n.var.v, .string n.typ.v, .slice n.tp n.tests.length n.tc, .slice n.kp n.kids.length n.kc] 5 ag_25 rfl (H15.blk_at (i := 0) rfl) (Nat.le_of_ble_eq_true rfl) rfl rfl ?_)
        refine r_cons (s_call [.agg #[.int .i64 n.kind.v, .string n.var.v, .string n.typ.v, .slice n.tp n.tests.length n.tc, .slice n.kp n.kids.length n.kc]] pl_18 rfl rfl (ref07_Alts n (i := 1) rfl H15) ?_)
        rintro _ w17 ⟨rfl, H18⟩
        by_cases hc19 : (64 : Int) < altsN n
        · skip
          refine r_cons (s_gtr true rfl rfl (dtrue hc19) rfl ?_)
          refine r_nil ?_
          refine g_true rfl ?_
          refine g_seq ?_
          refine g_region ?_
          refine r_cons (s_assign (.int .i64 72) rfl rfl ?_)
          refine r_nil ?_
          refine g_ret' [.int .i64 72] Try.func20 Try.results20 ⟨rfl, trivial⟩ ?_
          have H20 : St W w17 F := ((H18.drop 0 rfl).drop 0 rfl)
          exact ⟨vint (by unfold shapeE; split <;> (try omega) <;> split <;> (try omega) <;> split <;> omega), H20⟩
        · skip
          refine r_cons (s_gtr false rfl rfl (dfalse hc19) rfl ?_)
          refine r_nil ?_
          refine g_false rfl ?_
          refine g_skip ?_
          refine g_seq ?_
          refine g_region ?_
          refine r_cons (s_assign (.int .i64 0) rfl rfl ?_)
          refine r_nil ?_
          refine g_ret' [.int .i64 0] Try.func20 Try.results20 ⟨rfl, trivial⟩ ?_
          have H21 : St W w17 F := ((H18.drop 0 rfl).drop 0 rfl)
          exact ⟨vint (by unfold shapeE; split <;> (try omega) <;> split <;> (try omega) <;> split <;> omega), H21⟩
      · skip
        refine r_cons (s_neq true rfl rfl (nfalse hc16) rfl ?_)
        refine r_nil ?_
        refine g_true rfl ?_
        refine g_seq ?_
        refine g_region ?_
        refine r_cons (s_move (.int .i64 (nodeE n)) rfl rfl ?_)
        refine r_cons (s_assign (.int .i64 (nodeE n)) rfl rfl ?_)
        refine r_nil ?_
        refine g_ret' [.int .i64 (nodeE n)] Try.func20 Try.results20 ⟨rfl, trivial⟩ ?_
        have H22 : St W w14 F := ((H15.drop 0 rfl).drop 0 rfl)
        exact ⟨vint (by unfold shapeE; split <;> (try omega) <;> split <;> (try omega) <;> split <;> omega), H22⟩
set_option maxHeartbeats 4000000 in
set_option maxRecDepth 100000 in
theorem check_Pattern {W w : World} {F : List Atom} (p : PatD) {i : Nat} (hi : F[i]? = some (NodeA p.root)) {k : Nat} (hk : F[k]? = some (Im 11 (.slice p.wp p.wh.length p.wc) p.wh.length (p.wh.flatMap condCell))) (hz : sizeN p.root ≤ 1048576) (H : St W w F) : Calls Try.prog 11 #[.agg #[.string p.name.v, .int .i64 p.win.v, .int .i64 p.root.kind.v, .string p.root.var.v, .string p.root.typ.v, .slice p.root.tp p.root.tests.length p.root.tc, .slice p.root.kp p.root.kids.length p.root.kc, .slice p.wp p.wh.length p.wc]] w (Ret fun v w' => v = .int .i64 (patE p) ∧ St W w' F) := by
  have H1 := H.dup (i := i + 0) (by exact hi) (NodeA_pers _)
  have H2 := H1.dup (i := k + 1) (by exact hk) (Im_pers _ _ _ _)
  have H3 : St W w (Im 11 (.slice p.wp p.wh.length p.wc) p.wh.length (p.wh.flatMap condCell) :: NodeA p.root :: F) := H2
  refine calls_of_go (n := 40) Try.func11 rfl Try.ntmps11 rfl ?_
  refine g_seq ?_
  refine g_region ?_
  refine r_cons (s_box H3 27 (.agg #[.string p.name.v, .int .i64 p.win.v, .int .i64 p.root.kind.v, .string p.root.var.v, .string p.root.typ.v, .slice p.root.tp p.root.tests.length p.root.tc, .slice p.root.kp p.root.kids.length p.root.kc, .slice p.wp p.wh.length p.wc]) rfl (cs := #[.string p.name.v, .int .i64 p.win.v, .int .i64 p.root.kind.v, .string p.root.var.v, .string p.root.typ.v, .slice p.root.tp p.root.tests.length p.root.tc, .slice p.root.kp p.root.kids.length p.root.kc, .slice p.wp p.wh.length p.wc]) rfl rfl ?_); intro bk4 w5 H6
  refine r_cons (s_assign (.int .i64 0) rfl rfl ?_)
  refine r_nil ?_
  refine g_seq ?_
  refine g_seq ?_
  refine g_region ?_
  refine r_cons (s_fieldAddr 27 0 0 0 9 rfl fi_27_0 rfl rfl ?_)
  refine r_cons (s_load (.string p.name.v) ag_9 rfl (H6.blk_at (i := 0) rfl) rfl rfl ?_)
  refine r_cons (s_call [.string p.name.v] pl_37 rfl rfl (value_Name p.name.v p.name.ok H6) ?_)
  rintro _ w7 ⟨rfl, H8⟩
  refine r_cons (s_not (nameB p.name.v) rfl (!(nameB p.name.v)) rfl rfl ?_)
  refine r_cons (s_move (.bool (!(nameB p.name.v))) rfl rfl ?_)
  by_cases hb9 : (!(nameB p.name.v)) = true
  · skip
    refine r_cons (r_pass rfl (congrArg some hb9) rfl rfl rfl ?_)
    refine r_cons (r_pass rfl (congrArg some hb9) rfl rfl rfl ?_)
    refine r_cons (r_pass rfl (congrArg some hb9) rfl rfl rfl ?_)
    refine r_cons (s_pick_t (.bool true) (by exact congrArg Value.bool hb9) rfl rfl ?_)
    refine r_cons (s_move (.bool true) rfl rfl ?_)
    refine r_cons (r_pass rfl rfl rfl rfl rfl ?_)
    refine r_cons (r_pass rfl rfl rfl rfl rfl ?_)
    refine r_cons (r_pass rfl rfl rfl rfl rfl ?_)
    refine r_cons (s_pick_t (.bool true) rfl rfl rfl ?_)
    refine r_nil ?_
    refine g_true rfl ?_
    refine g_seq ?_
    refine g_region ?_
    refine r_cons (s_assign (.int .i64 70) rfl rfl ?_)
    refine r_nil ?_
    refine g_ret' [.int .i64 70] Try.func11 Try.results11 ⟨rfl, trivial⟩ ?_
    have hb10 : ((nameB p.name.v)) = false := by simpa using hb9
    have H11 : St W w7 F := (((H8.drop 0 rfl).drop 0 rfl).drop 0 rfl)
    exact ⟨vint (by unfold patE; rw [if_pos (by simp [hb10])]), H11⟩
  · have hb9 := eq_false_of_ne_true hb9
    refine r_cons (r_take rfl (congrArg some hb9) ?_)
    refine s_fieldAddr 27 1 1 1 2 rfl fi_27_1 rfl rfl ?_
    refine r_cons (r_take rfl (congrArg some hb9) ?_)
    refine s_load (.int .i64 p.win.v) ag_2 rfl (H8.blk_at (i := 0) rfl) rfl rfl ?_
    refine r_cons (r_take rfl (congrArg some hb9) ?_)
    by_cases hc12 : p.win.v < 1
    · skip
      refine s_lss true rfl rfl (dtrue hc12) rfl ?_
      refine r_cons (s_pick_f (.bool true) (by exact congrArg Value.bool hb9) rfl rfl ?_)
      refine r_cons (s_move (.bool true) rfl rfl ?_)
      refine r_cons (r_pass rfl rfl rfl rfl rfl ?_)
      refine r_cons (r_pass rfl rfl rfl rfl rfl ?_)
      refine r_cons (r_pass rfl rfl rfl rfl rfl ?_)
      refine r_cons (s_pick_t (.bool true) rfl rfl rfl ?_)
      refine r_nil ?_
      refine g_true rfl ?_
      refine g_seq ?_
      refine g_region ?_
      refine r_cons (s_assign (.int .i64 70) rfl rfl ?_)
      refine r_nil ?_
      refine g_ret' [.int .i64 70] Try.func11 Try.results11 ⟨rfl, trivial⟩ ?_
      have hb13 : ((nameB p.name.v)) = true := by simpa using hb9
      have H14 : St W w7 F := (((H8.drop 0 rfl).drop 0 rfl).drop 0 rfl)
      exact ⟨vint (by unfold patE; rw [if_pos (by simp [hc12, hb13])]), H14⟩
    · skip
      refine s_lss false rfl rfl (dfalse hc12) rfl ?_
      refine r_cons (s_pick_f (.bool false) (by exact congrArg Value.bool hb9) rfl rfl ?_)
      refine r_cons (s_move (.bool false) rfl rfl ?_)
      refine r_cons (r_take rfl rfl ?_)
      refine s_fieldAddr 27 1 1 1 2 rfl fi_27_1 rfl rfl ?_
      refine r_cons (r_take rfl rfl ?_)
      refine s_load (.int .i64 p.win.v) ag_2 rfl (H8.blk_at (i := 0) rfl) rfl rfl ?_
      refine r_cons (r_take rfl rfl ?_)
      by_cases hc15 : (1099511627776 : Int) < p.win.v
      · skip
        refine s_gtr true rfl rfl (dtrue hc15) rfl ?_
        refine r_cons (s_pick_f (.bool true) rfl rfl rfl ?_)
        refine r_nil ?_
        refine g_true rfl ?_
        refine g_seq ?_
        refine g_region ?_
        refine r_cons (s_assign (.int .i64 70) rfl rfl ?_)
        refine r_nil ?_
        refine g_ret' [.int .i64 70] Try.func11 Try.results11 ⟨rfl, trivial⟩ ?_
        have hb16 : ((nameB p.name.v)) = true := by simpa using hb9
        have H17 : St W w7 F := (((H8.drop 0 rfl).drop 0 rfl).drop 0 rfl)
        exact ⟨vint (by unfold patE; rw [if_pos (by simp [hc12, hc15, hb16])]), H17⟩
      · skip
        refine s_gtr false rfl rfl (dfalse hc15) rfl ?_
        refine r_cons (s_pick_f (.bool false) rfl rfl rfl ?_)
        refine r_nil ?_
        refine g_false rfl ?_
        refine g_skip ?_
        refine g_seq ?_
        refine g_seq ?_
        refine g_region ?_
        refine r_cons (s_buildSlice H8 1 2 (cs := #[.func (.func 19) #[] #[], .func (.func 21) #[] #[]]) #[.nilFunc] el_54 ze_34 (by decide) (by decide) (by kernel_rfl) rfl ?_); intro bk18 w19 H20
        refine r_cons (s_len 2 rfl ⟨_, un_54⟩ rfl ?_)
        refine r_cons (s_move (.int .i64 0) rfl rfl ?_)
        refine r_nil ?_
        refine g_block ?_
        refine g_loop ?_
        refine g_seq ?_
        refine g_region ?_
        refine r_cons (s_lss true rfl rfl (dtrue (by decide)) rfl ?_)
        refine r_nil ?_
        refine g_seq ?_
        refine g_true rfl ?_
        refine g_skip ?_
        refine g_seq ?_
        refine g_block ?_
        refine g_seq ?_
        refine g_region ?_
        refine r_cons (s_indexAddr bk18 0 1 0 rfl rfl el_54 (by omega) rfl rfl ?_)
        refine r_cons (s_load (.func (.func 19) #[] #[]) ag_34 rfl (H20.blk_at (i := 0) rfl) rfl rfl ?_)
        refine r_cons (s_assign (.func (.func 19) #[] #[]) rfl rfl ?_)
        refine r_nil ?_
        refine g_seq ?_
        refine g_region ?_
        refine r_cons (s_move (.func (.func 19) #[] #[]) rfl rfl ?_)
        refine r_cons (s_fieldAddr 27 2 2 2 25 rfl fi_27_2 rfl rfl ?_)
        refine r_cons (s_loadAgg [.int .i64 p.root.kind.v, .string p.root.var.v, .string p.root.typ.v, .slice p.root.tp p.root.tests.length p.root.tc, .slice p.root.kp p.root.kids.length p.root.kc] 5 ag_25 rfl (H20.blk_at (i := 1) rfl) (Nat.le_of_ble_eq_true rfl) rfl rfl ?_)
        refine r_cons (s_callv [] [.agg #[.int .i64 p.root.kind.v, .string p.root.var.v, .string p.root.typ.v, .slice p.root.tp p.root.tests.length p.root.tc, .slice p.root.kp p.root.kids.length p.root.kc]] rfl pl_19 rfl rfl (check_Shape p.root (i := 3) rfl H20) ?_)
        rintro _ w21 ⟨rfl, H22⟩
        refine r_cons (s_assign (.int .i64 (shapeE p.root)) rfl rfl ?_)
        refine r_nil ?_
        refine g_seq ?_
        refine g_region ?_
        refine r_cons (s_move (.int .i64 (shapeE p.root)) rfl rfl ?_)
        by_cases hc23 : shapeE p.root = 0
        · skip
          refine r_cons (s_neq false rfl rfl (ntrue hc23) rfl ?_)
          refine r_nil ?_
          refine g_false rfl ?_
          refine g_skip ?_
          refine g_inBlock ?_
          refine g_region ?_
          refine r_cons (s_add 1 rfl rfl (wi64 (by omega)) rfl ?_)
          refine r_cons (s_move (.int .i64 1) rfl rfl ?_)
          refine r_nil ?_
          refine g_inLoop ?_
          refine g_seq ?_
          refine g_region ?_
          refine r_cons (s_lss true rfl rfl (dtrue (by decide)) rfl ?_)
          refine r_nil ?_
          refine g_seq ?_
          refine g_true rfl ?_
          refine g_skip ?_
          refine g_seq ?_
          refine g_block ?_
          refine g_seq ?_
          refine g_region ?_
          refine r_cons (s_indexAddr bk18 1 1 1 rfl rfl el_54 (by omega) rfl rfl ?_)
          refine r_cons (s_load (.func (.func 21) #[] #[]) ag_34 rfl (H22.blk_at (i := 0) rfl) rfl rfl ?_)
          refine r_cons (s_assign (.func (.func 21) #[] #[]) rfl rfl ?_)
          refine r_nil ?_
          refine g_seq ?_
          refine g_region ?_
          refine r_cons (s_move (.func (.func 21) #[] #[]) rfl rfl ?_)
          refine r_cons (s_fieldAddr 27 2 2 2 25 rfl fi_27_2 rfl rfl ?_)
          refine r_cons (s_loadAgg [.int .i64 p.root.kind.v, .string p.root.var.v, .string p.root.typ.v, .slice p.root.tp p.root.tests.length p.root.tc, .slice p.root.kp p.root.kids.length p.root.kc] 5 ag_25 rfl (H22.blk_at (i := 1) rfl) (Nat.le_of_ble_eq_true rfl) rfl rfl ?_)
          refine r_cons (s_callv [] [.agg #[.int .i64 p.root.kind.v, .string p.root.var.v, .string p.root.typ.v, .slice p.root.tp p.root.tests.length p.root.tc, .slice p.root.kp p.root.kids.length p.root.kc]] rfl pl_21 rfl rfl (check_Binds p.root (i := 3) rfl (by omega) H22) ?_)
          rintro _ w24 ⟨rfl, H25⟩
          refine r_cons (s_assign (.int .i64 (bindsE p.root)) rfl rfl ?_)
          refine r_nil ?_
          refine g_seq ?_
          refine g_region ?_
          refine r_cons (s_move (.int .i64 (bindsE p.root)) rfl rfl ?_)
          by_cases hc26 : bindsE p.root = 0
          · skip
            refine r_cons (s_neq false rfl rfl (ntrue hc26) rfl ?_)
            refine r_nil ?_
            refine g_false rfl ?_
            refine g_skip ?_
            refine g_inBlock ?_
            refine g_region ?_
            refine r_cons (s_add 2 rfl rfl (wi64 (by omega)) rfl ?_)
            refine r_cons (s_move (.int .i64 2) rfl rfl ?_)
            refine r_nil ?_
            refine g_inLoop ?_
            refine g_seq ?_
            refine g_region ?_
            refine r_cons (s_lss false rfl rfl (dfalse (by decide)) rfl ?_)
            refine r_nil ?_
            refine g_seq ?_
            refine g_false rfl ?_
            refine g_exit (by rfl) ?_
            refine g_seq ?_
            refine g_mix (fun t_ w => St W w (blk bk18 (.cells #[.func (.func 19) #[] #[], .func (.func 21) #[] #[]] 34 (0, 0)) :: blk bk4 (.cells #[.string p.name.v, .int .i64 p.win.v, .int .i64 p.root.kind.v, .string p.root.var.v, .string p.root.typ.v, .slice p.root.tp p.root.tests.length p.root.tc, .slice p.root.kp p.root.kids.length p.root.kc, .slice p.wp p.wh.length p.wc] 27 (0, 0)) :: Im 11 (.slice p.wp p.wh.length p.wc) p.wh.length (p.wh.flatMap condCell) :: NodeA p.root :: t_)) F mixed 7 rfl H25.drew ?_
            refine f_first 0 (listed' := #[true, false, false, false, false, false, false]) rfl (by kernel_rfl) (by kernel_rfl) (by kernel_rfl) rfl ?_
            refine f_val rfl rfl rfl (by intro t_ w hw; exact x_fieldAddr 27 3 7 7 22 rfl fi_27_3 rfl w) ?_
            refine f_first 1 (listed' := #[true, true, false, false, false, false, false]) rfl (by kernel_rfl) (by kernel_rfl) (by kernel_rfl) rfl ?_
            refine f_val rfl rfl rfl (by intro t_ w hw; exact x_load (.slice p.wp p.wh.length p.wc) ag_22 rfl (hw.blk_at (i := 1) rfl) rfl) ?_
            refine f_first 2 (listed' := #[true, true, true, false, false, false, false]) rfl (by kernel_rfl) (by kernel_rfl) (by kernel_rfl) rfl ?_
            refine f_val rfl rfl rfl (by intro t_ w hw; exact x_fieldAddr 27 2 2 2 25 rfl fi_27_2 rfl w) ?_
            refine f_first 3 (listed' := #[true, true, true, true, false, false, false]) rfl (by kernel_rfl) (by kernel_rfl) (by kernel_rfl) rfl ?_
            refine f_val rfl rfl rfl (by intro t_ w hw; exact x_loadAgg [.int .i64 p.root.kind.v, .string p.root.var.v, .string p.root.typ.v, .slice p.root.tp p.root.tests.length p.root.tc, .slice p.root.kp p.root.kids.length p.root.kc] 5 ag_25 rfl (hw.blk_at (i := 1) rfl) (Nat.le_of_ble_eq_true rfl) rfl) ?_
            refine f_all (rs := [4]) (by kernel_rfl) (by simp) ?_
            refine a_cons ⟨_, rfl, ?_⟩ (fun x hx => absurd hx (by simp))
            intro w27 H28
            try dsimp only at H28
            refine s_call [.agg #[.int .i64 p.root.kind.v, .string p.root.var.v, .string p.root.typ.v, .slice p.root.tp p.root.tests.length p.root.tc, .slice p.root.kp p.root.kids.length p.root.kc]] pl_24 rfl rfl (check_Vars p.root (i := 3) rfl (by omega) H28) ?_
            rintro _ w31 ⟨pp29, cc30, rfl, H32⟩
            have H33 : St W w31 (blk bk18 (.cells #[.func (.func 19) #[] #[], .func (.func 21) #[] #[]] 34 (0, 0)) :: blk bk4 (.cells #[.string p.name.v, .int .i64 p.win.v, .int .i64 p.root.kind.v, .string p.root.var.v, .string p.root.typ.v, .slice p.root.tp p.root.tests.length p.root.tc, .slice p.root.kp p.root.kids.length p.root.kc, .slice p.wp p.wh.length p.wc] 27 (0, 0)) :: Im 11 (.slice p.wp p.wh.length p.wc) p.wh.length (p.wh.flatMap condCell) :: NodeA p.root :: Im 1 (.slice pp29 ((varsS p.root).length) cc30) ((varsS p.root).length) ((varsS p.root).flatMap strCell) :: F) := ((((H32.move 4 rfl).move 4 rfl).move 4 rfl).move 4 rfl)
            refine ⟨Im 1 (.slice pp29 ((varsS p.root).length) cc30) ((varsS p.root).length) ((varsS p.root).flatMap strCell) :: F, ?_, H33⟩
            change FReg _ _ _ _ _ #[true, true, true, true, true, false, false] _ _
            refine f_all (rs := [5]) (by kernel_rfl) (by simp) ?_
            refine a_cons ⟨_, rfl, ?_⟩ (fun x hx => absurd hx (by simp))
            intro w34 H35
            try dsimp only at H35
            refine s_call [.slice p.wp p.wh.length p.wc, .slice pp29 ((varsS p.root).length) cc30] pl_38 rfl rfl (check_conds p.wh (.slice p.wp p.wh.length p.wc) (varsS p.root) (.slice pp29 ((varsS p.root).length) cc30) (m := 2) rfl (jv := 4) rfl H35) ?_
            rintro _ w36 ⟨rfl, H37⟩
            refine ⟨Im 1 (.slice pp29 ((varsS p.root).length) cc30) ((varsS p.root).length) ((varsS p.root).flatMap strCell) :: F, ?_, H37⟩
            change FReg _ _ _ _ _ #[true, true, true, true, true, true, false] _ _
            refine f_first 6 (listed' := #[true, true, true, true, true, true, true]) rfl (by kernel_rfl) (by kernel_rfl) (by kernel_rfl) rfl ?_
            refine f_val rfl rfl rfl (by intro t_ w hw; exact x_assign (.int .i64 (condsE p.wh (varsS p.root))) rfl w) ?_
            refine f_done (by kernel_rfl) ?_
            intro w38 H39
            refine g_ret' [.int .i64 (condsE p.wh (varsS p.root))] Try.func11 Try.results11 ⟨rfl, trivial⟩ ?_
            have hb40 : ((nameB p.name.v)) = true := by simpa using hb9
            have H41 : St W w38 F := (((((H39.drop 0 rfl).drop 0 rfl).drop 0 rfl).drop 0 rfl).drop 0 rfl)
            exact ⟨vint (by unfold patE; rw [if_neg (by simp [hc12, hc15, hb40])]; rw [if_neg (by omega), if_neg (by omega)]), H41⟩
          · skip
            refine r_cons (s_neq true rfl rfl (nfalse hc26) rfl ?_)
            refine r_nil ?_
            refine g_true rfl ?_
            refine g_seq ?_
            refine g_region ?_
            refine r_cons (s_move (.int .i64 (bindsE p.root)) rfl rfl ?_)
            refine r_cons (s_assign (.int .i64 (bindsE p.root)) rfl rfl ?_)
            refine r_nil ?_
            refine g_ret' [.int .i64 (bindsE p.root)] Try.func11 Try.results11 ⟨rfl, trivial⟩ ?_
            have hb42 : ((nameB p.name.v)) = true := by simpa using hb9
            have H43 : St W w24 F := ((((H25.drop 0 rfl).drop 0 rfl).drop 0 rfl).drop 0 rfl)
            exact ⟨vint (by unfold patE; rw [if_neg (by simp [hc12, hc15, hb42])]; rw [if_neg (by omega), if_pos (by omega)]), H43⟩
        · skip
          refine r_cons (s_neq true rfl rfl (nfalse hc23) rfl ?_)
          refine r_nil ?_
          refine g_true rfl ?_
          refine g_seq ?_
          refine g_region ?_
          refine r_cons (s_move (.int .i64 (shapeE p.root)) rfl rfl ?_)
          refine r_cons (s_assign (.int .i64 (shapeE p.root)) rfl rfl ?_)
          refine r_nil ?_
          refine g_ret' [.int .i64 (shapeE p.root)] Try.func11 Try.results11 ⟨rfl, trivial⟩ ?_
          have hb44 : ((nameB p.name.v)) = true := by simpa using hb9
          have H45 : St W w21 F := ((((H22.drop 0 rfl).drop 0 rfl).drop 0 rfl).drop 0 rfl)
          exact ⟨vint (by unfold patE; rw [if_neg (by simp [hc12, hc15, hb44])]; rw [if_pos (by omega)]), H45⟩
set_option maxHeartbeats 4000000 in
set_option maxRecDepth 100000 in
theorem ref07_Pattern {W w : World} {F : List Atom} (p : PatD) {i : Nat} (hi : F[i]? = some (NodeA p.root)) {k : Nat} (hk : F[k]? = some (Im 11 (.slice p.wp p.wh.length p.wc) p.wh.length (p.wh.flatMap condCell))) (hz : sizeN p.root ≤ 1048576) (H : St W w F) : Calls Try.prog 12 #[.agg #[.string p.name.v, .int .i64 p.win.v, .int .i64 p.root.kind.v, .string p.root.var.v, .string p.root.typ.v, .slice p.root.tp p.root.tests.length p.root.tc, .slice p.root.kp p.root.kids.length p.root.kc, .slice p.wp p.wh.length p.wc]] w (Ret fun v w' => v = .int .i64 (patE p) ∧ St W w' F) := by
  have H1 := H.dup (i := i + 0) (by exact hi) (NodeA_pers _)
  have H2 := H1.dup (i := k + 1) (by exact hk) (Im_pers _ _ _ _)
  have H3 : St W w (Im 11 (.slice p.wp p.wh.length p.wc) p.wh.length (p.wh.flatMap condCell) :: NodeA p.root :: F) := H2
  refine calls_of_go (n := 58) Try.func12 rfl Try.ntmps12 rfl ?_
  refine g_seq ?_
  refine g_region ?_
  refine r_cons (s_box H3 27 (.agg #[.string p.name.v, .int .i64 p.win.v, .int .i64 p.root.kind.v, .string p.root.var.v, .string p.root.typ.v, .slice p.root.tp p.root.tests.length p.root.tc, .slice p.root.kp p.root.kids.length p.root.kc, .slice p.wp p.wh.length p.wc]) rfl (cs := #[.string p.name.v, .int .i64 p.win.v, .int .i64 p.root.kind.v, .string p.root.var.v, .string p.root.typ.v, .slice p.root.tp p.root.tests.length p.root.tc, .slice p.root.kp p.root.kids.length p.root.kc, .slice p.wp p.wh.length p.wc]) rfl rfl ?_); intro bk4 w5 H6
  refine r_cons (s_assign (.int .i64 0) rfl rfl ?_)
  refine r_nil ?_
  refine g_seq ?_
  refine g_seq ?_
  refine g_region ?_
  refine r_cons (s_fieldAddr 27 0 0 0 9 rfl fi_27_0 rfl rfl ?_)
  refine r_cons (s_load (.string p.name.v) ag_9 rfl (H6.blk_at (i := 0) rfl) rfl rfl ?_)
  refine r_cons (s_call [.string p.name.v] pl_39 rfl rfl (ref03_Name p.name.v p.name.ok H6) ?_)
  rintro _ w7 ⟨rfl, H8⟩
  refine r_cons (s_not (nameB p.name.v) rfl (!(nameB p.name.v)) rfl rfl ?_)
  refine r_cons (s_move (.bool (!(nameB p.name.v))) rfl rfl ?_)
  by_cases hb9 : (!(nameB p.name.v)) = true
  · skip
    refine r_cons (r_pass rfl (congrArg some hb9) rfl rfl rfl ?_)
    refine r_cons (r_pass rfl (congrArg some hb9) rfl rfl rfl ?_)
    refine r_cons (r_pass rfl (congrArg some hb9) rfl rfl rfl ?_)
    refine r_cons (s_pick_t (.bool true) (by exact congrArg Value.bool hb9) rfl rfl ?_)
    refine r_cons (s_move (.bool true) rfl rfl ?_)
    refine r_cons (r_pass rfl rfl rfl rfl rfl ?_)
    refine r_cons (r_pass rfl rfl rfl rfl rfl ?_)
    refine r_cons (r_pass rfl rfl rfl rfl rfl ?_)
    refine r_cons (s_pick_t (.bool true) rfl rfl rfl ?_)
    refine r_nil ?_
    refine g_true rfl ?_
    refine g_seq ?_
    refine g_region ?_
    refine r_cons (s_assign (.int .i64 70) rfl rfl ?_)
    refine r_nil ?_
    refine g_ret' [.int .i64 70] Try.func12 Try.results12 ⟨rfl, trivial⟩ ?_
    have hb10 : ((nameB p.name.v)) = false := by simpa using hb9
    have H11 : St W w7 F := (((H8.drop 0 rfl).drop 0 rfl).drop 0 rfl)
    exact ⟨vint (by unfold patE; rw [if_pos (by simp [hb10])]), H11⟩
  · have hb9 := eq_false_of_ne_true hb9
    refine r_cons (r_take rfl (congrArg some hb9) ?_)
    refine s_fieldAddr 27 1 1 1 2 rfl fi_27_1 rfl rfl ?_
    refine r_cons (r_take rfl (congrArg some hb9) ?_)
    refine s_load (.int .i64 p.win.v) ag_2 rfl (H8.blk_at (i := 0) rfl) rfl rfl ?_
    refine r_cons (r_take rfl (congrArg some hb9) ?_)
    by_cases hc12 : p.win.v < 1
    · skip
      refine s_lss true rfl rfl (dtrue hc12) rfl ?_
      refine r_cons (s_pick_f (.bool true) (by exact congrArg Value.bool hb9) rfl rfl ?_)
      refine r_cons (s_move (.bool true) rfl rfl ?_)
      refine r_cons (r_pass rfl rfl rfl rfl rfl ?_)
      refine r_cons (r_pass rfl rfl rfl rfl rfl ?_)
      refine r_cons (r_pass rfl rfl rfl rfl rfl ?_)
      refine r_cons (s_pick_t (.bool true) rfl rfl rfl ?_)
      refine r_nil ?_
      refine g_true rfl ?_
      refine g_seq ?_
      refine g_region ?_
      refine r_cons (s_assign (.int .i64 70) rfl rfl ?_)
      refine r_nil ?_
      refine g_ret' [.int .i64 70] Try.func12 Try.results12 ⟨rfl, trivial⟩ ?_
      have hb13 : ((nameB p.name.v)) = true := by simpa using hb9
      have H14 : St W w7 F := (((H8.drop 0 rfl).drop 0 rfl).drop 0 rfl)
      exact ⟨vint (by unfold patE; rw [if_pos (by simp [hc12, hb13])]), H14⟩
    · skip
      refine s_lss false rfl rfl (dfalse hc12) rfl ?_
      refine r_cons (s_pick_f (.bool false) (by exact congrArg Value.bool hb9) rfl rfl ?_)
      refine r_cons (s_move (.bool false) rfl rfl ?_)
      refine r_cons (r_take rfl rfl ?_)
      refine s_fieldAddr 27 1 1 1 2 rfl fi_27_1 rfl rfl ?_
      refine r_cons (r_take rfl rfl ?_)
      refine s_load (.int .i64 p.win.v) ag_2 rfl (H8.blk_at (i := 0) rfl) rfl rfl ?_
      refine r_cons (r_take rfl rfl ?_)
      by_cases hc15 : (1099511627776 : Int) < p.win.v
      · skip
        refine s_gtr true rfl rfl (dtrue hc15) rfl ?_
        refine r_cons (s_pick_f (.bool true) rfl rfl rfl ?_)
        refine r_nil ?_
        refine g_true rfl ?_
        refine g_seq ?_
        refine g_region ?_
        refine r_cons (s_assign (.int .i64 70) rfl rfl ?_)
        refine r_nil ?_
        refine g_ret' [.int .i64 70] Try.func12 Try.results12 ⟨rfl, trivial⟩ ?_
        have hb16 : ((nameB p.name.v)) = true := by simpa using hb9
        have H17 : St W w7 F := (((H8.drop 0 rfl).drop 0 rfl).drop 0 rfl)
        exact ⟨vint (by unfold patE; rw [if_pos (by simp [hc12, hc15, hb16])]), H17⟩
      · skip
        refine s_gtr false rfl rfl (dfalse hc15) rfl ?_
        refine r_cons (s_pick_f (.bool false) rfl rfl rfl ?_)
        refine r_nil ?_
        refine g_false rfl ?_
        refine g_skip ?_
        refine g_seq ?_
        refine g_seq ?_
        refine g_region ?_
        refine r_cons (s_fieldAddr 27 2 2 2 25 rfl fi_27_2 rfl rfl ?_)
        refine r_cons (s_loadAgg [.int .i64 p.root.kind.v, .string p.root.var.v, .string p.root.typ.v, .slice p.root.tp p.root.tests.length p.root.tc, .slice p.root.kp p.root.kids.length p.root.kc] 5 ag_25 rfl (H8.blk_at (i := 0) rfl) (Nat.le_of_ble_eq_true rfl) rfl rfl ?_)
        refine r_cons (s_call [.agg #[.int .i64 p.root.kind.v, .string p.root.var.v, .string p.root.typ.v, .slice p.root.tp p.root.tests.length p.root.tc, .slice p.root.kp p.root.kids.length p.root.kc]] pl_20 rfl rfl (ref07_Shape p.root (i := 2) rfl H8) ?_)
        rintro _ w18 ⟨rfl, H19⟩
        refine r_cons (s_assign (.int .i64 (shapeE p.root)) rfl rfl ?_)
        refine r_nil ?_
        refine g_seq ?_
        refine g_region ?_
        refine r_cons (s_move (.int .i64 (shapeE p.root)) rfl rfl ?_)
        by_cases hc20 : shapeE p.root = 0
        · skip
          refine r_cons (s_neq false rfl rfl (ntrue hc20) rfl ?_)
          refine r_nil ?_
          refine g_false rfl ?_
          refine g_skip ?_
          refine g_seq ?_
          refine g_seq ?_
          refine g_region ?_
          refine r_cons (s_fieldAddr 27 2 2 2 25 rfl fi_27_2 rfl rfl ?_)
          refine r_cons (s_loadAgg [.int .i64 p.root.kind.v, .string p.root.var.v, .string p.root.typ.v, .slice p.root.tp p.root.tests.length p.root.tc, .slice p.root.kp p.root.kids.length p.root.kc] 5 ag_25 rfl (H19.blk_at (i := 0) rfl) (Nat.le_of_ble_eq_true rfl) rfl rfl ?_)
          refine r_cons (s_call [.agg #[.int .i64 p.root.kind.v, .string p.root.var.v, .string p.root.typ.v, .slice p.root.tp p.root.tests.length p.root.tc, .slice p.root.kp p.root.kids.length p.root.kc]] pl_22 rfl rfl (ref07_Binds p.root (i := 2) rfl (by omega) H19) ?_)
          rintro _ w21 ⟨rfl, H22⟩
          refine r_cons (s_assign (.int .i64 (bindsE p.root)) rfl rfl ?_)
          refine r_nil ?_
          refine g_seq ?_
          refine g_region ?_
          refine r_cons (s_move (.int .i64 (bindsE p.root)) rfl rfl ?_)
          by_cases hc23 : bindsE p.root = 0
          · skip
            refine r_cons (s_neq false rfl rfl (ntrue hc23) rfl ?_)
            refine r_nil ?_
            refine g_false rfl ?_
            refine g_skip ?_
            refine g_seq ?_
            refine g_seq ?_
            refine g_region ?_
            refine r_cons (s_fieldAddr 27 3 7 7 22 rfl fi_27_3 rfl rfl ?_)
            refine r_cons (s_load (.slice p.wp p.wh.length p.wc) ag_22 rfl (H22.blk_at (i := 0) rfl) rfl rfl ?_)
            refine r_cons (s_len p.wh.length rfl ⟨_, un_22⟩ rfl ?_)
            by_cases hc24 : (16 : Int) < (p.wh.length : Int)
            · skip
              refine r_cons (s_gtr true rfl rfl (dtrue hc24) rfl ?_)
              refine r_nil ?_
              refine g_true rfl ?_
              refine g_seq ?_
              refine g_region ?_
              refine r_cons (s_assign (.int .i64 74) rfl rfl ?_)
              refine r_nil ?_
              refine g_ret' [.int .i64 74] Try.func12 Try.results12 ⟨rfl, trivial⟩ ?_
              have hb25 : ((nameB p.name.v)) = true := by simpa using hb9
              have H26 : St W w21 F := (((H22.drop 0 rfl).drop 0 rfl).drop 0 rfl)
              exact ⟨vint (by unfold patE; rw [if_neg (by simp [hc12, hc15, hb25])]; rw [if_neg (by omega), if_neg (by omega)]; unfold condsE; rw [if_pos (by omega)]), H26⟩
            · skip
              refine r_cons (s_gtr false rfl rfl (dfalse hc24) rfl ?_)
              refine r_nil ?_
              refine g_false rfl ?_
              refine g_skip ?_
              refine g_seq ?_
              refine g_region ?_
              refine r_cons (s_fieldAddr 27 2 2 2 25 rfl fi_27_2 rfl rfl ?_)
              refine r_cons (s_loadAgg [.int .i64 p.root.kind.v, .string p.root.var.v, .string p.root.typ.v, .slice p.root.tp p.root.tests.length p.root.tc, .slice p.root.kp p.root.kids.length p.root.kc] 5 ag_25 rfl (H22.blk_at (i := 0) rfl) (Nat.le_of_ble_eq_true rfl) rfl rfl ?_)
              refine r_cons (s_call [.agg #[.int .i64 p.root.kind.v, .string p.root.var.v, .string p.root.typ.v, .slice p.root.tp p.root.tests.length p.root.tc, .slice p.root.kp p.root.kids.length p.root.kc]] pl_25 rfl rfl (ref07_Vars p.root (i := 2) rfl (by omega) H22) ?_)
              rintro _ w29 ⟨pp27, cc28, rfl, H30⟩
              refine r_cons (s_assign (.slice pp27 ((varsS p.root).length) cc28) rfl rfl ?_)
              refine r_nil ?_
              refine g_seq ?_
              refine g_seq ?_
              refine g_region ?_
              refine r_cons (s_assign (.int .i64 0) rfl rfl ?_)
              refine r_nil ?_
              refine g_block ?_
              have hb31 : ((nameB p.name.v)) = true := by simpa using hb9
              obtain ⟨pA32, cA33, gA34, oA35, kA36, eA37, zA38, he44, hn39, hp40, hx41, hs42, hml, H43⟩ := Im.open_ H30 (i := 2) rfl
              obtain ⟨rfl, rfl⟩ : p.wp = pA32 ∧ p.wc = cA33 := by injection he44 with a_ b_ c_; exact ⟨a_, c_⟩
              have H45 : St W w29 (imi (0 < p.wh.length) gA34 (.cells kA36 eA37 zA38) :: Im 1 (.slice pp27 ((varsS p.root).length) cc28) ((varsS p.root).length) ((varsS p.root).flatMap strCell) :: blk bk4 (.cells #[.string p.name.v, .int .i64 p.win.v, .int .i64 p.root.kind.v, .string p.root.var.v, .string p.root.typ.v, .slice p.root.tp p.root.tests.length p.root.tc, .slice p.root.kp p.root.kids.length p.root.kc, .slice p.wp p.wh.length p.wc] 27 (0, 0)) :: Im 11 (.slice p.wp p.wh.length p.wc) p.wh.length (p.wh.flatMap condCell) :: NodeA p.root :: F) := (((((H43.move 4 rfl).move 4 rfl).move 4 rfl).move 4 rfl).move 4 rfl)
              refine g_loop_inv (fun (x_ : Nat) => match x_ with | t => [(1, .pointer (some ⟨bk4, 0, none⟩)), (2, .int .i64 0), (5, .slice pp27 ((varsS p.root).length) cc28), (6, .int .i64 (t : Int))]) (fun (x_ : Nat) w => match x_ with | t => (t ≤ p.wh.length) ∧ (∀ q, q < t → condE (p.wh.getD q default) (varsS p.root) = 0) ∧ St W w (imi (0 < p.wh.length) gA34 (.cells kA36 eA37 zA38) :: Im 1 (.slice pp27 ((varsS p.root).length) cc28) ((varsS p.root).length) ((varsS p.root).flatMap strCell) :: blk bk4 (.cells #[.string p.name.v, .int .i64 p.win.v, .int .i64 p.root.kind.v, .string p.root.var.v, .string p.root.typ.v, .slice p.root.tp p.root.tests.length p.root.tc, .slice p.root.kp p.root.kids.length p.root.kc, .slice p.wp p.wh.length p.wc] 27 (0, 0)) :: Im 11 (.slice p.wp p.wh.length p.wc) p.wh.length (p.wh.flatMap condCell) :: NodeA p.root :: F)) (fun (x_ : Nat) => match x_ with | t => p.wh.length - t) (0) ?_ ?_ ?_
              · exact ⟨by first | rfl | exact vint (by omega), by first | rfl | exact vint (by omega), by first | rfl | exact vint (by omega), by first | rfl | exact vint (by omega), trivial⟩
              · exact ⟨(by omega), (fun q hq => by omega), H45⟩
              · rintro t ρ46 w47 ⟨htl, hz2, H48⟩ nx49
                change Ends _ _ (upds ρ46 [(1, .pointer (some ⟨bk4, 0, none⟩)), (2, .int .i64 0), (5, .slice pp27 ((varsS p.root).length) cc28), (6, .int .i64 (t : Int))]) w47
                refine g_seq ?_
                refine g_seq ?_
                refine g_region ?_
                refine r_cons (s_move (.int .i64 (t : Int)) rfl rfl ?_)
                refine r_cons (s_fieldAddr 27 3 7 7 22 rfl fi_27_3 rfl rfl ?_)
                refine r_cons (s_load (.slice p.wp p.wh.length p.wc) ag_22 rfl (H48.blk_at (i := 2) rfl) rfl rfl ?_)
                refine r_cons (s_len p.wh.length rfl ⟨_, un_22⟩ rfl ?_)
                by_cases hc50 : (t : Int) < (p.wh.length : Int)
                · skip
                  refine r_cons (s_lss true rfl rfl (dtrue hc50) rfl ?_)
                  refine r_nil ?_
                  refine g_true rfl ?_
                  refine g_skip ?_
                  refine g_seq ?_
                  refine g_block ?_
                  refine g_seq ?_
                  refine g_region ?_
                  refine r_cons (s_fieldAddr 27 3 7 7 22 rfl fi_27_3 rfl rfl ?_)
                  refine r_cons (s_load (.slice p.wp p.wh.length p.wc) ag_22 rfl (H48.blk_at (i := 2) rfl) rfl rfl ?_)
                  refine r_cons (s_move (.int .i64 (t : Int)) rfl rfl ?_)
                  refine r_cons (s_indexAddr gA34 (off := oA35) (t : Int) 11 (oA35 + t * 11) (by exact congrArg (fun z_ => Value.slice z_ p.wh.length p.wc) (hp40 (by omega))) rfl el_22 (by omega) rfl rfl ?_)
                  refine r_cons (s_loadAgg [.string ((p.wh.getD t default).left.var.v), .string ((p.wh.getD t default).left.attr.v), .int .i64 ((p.wh.getD t default).left.val.kind.v), .int .i64 ((p.wh.getD t default).left.val.n.v), .string ((p.wh.getD t default).left.val.s.v), .int .i64 ((p.wh.getD t default).rel.v), .string ((p.wh.getD t default).right.var.v), .string ((p.wh.getD t default).right.attr.v), .int .i64 ((p.wh.getD t default).right.val.kind.v), .int .i64 ((p.wh.getD t default).right.val.n.v), .string ((p.wh.getD t default).right.val.s.v)] 11 ag_43 rfl (H48.imi_at (i := 0) rfl (by omega)) (by have := elem_size (i := t) (s := 11) (hs42 (by omega)) (by omega); omega) (elem_take condCell_len (hx41 (by omega)) (by omega) default) rfl ?_)
                  refine r_cons (s_move (.slice pp27 ((varsS p.root).length) cc28) rfl rfl ?_)
                  refine r_cons (s_call [.agg #[.string ((p.wh.getD t default).left.var.v), .string ((p.wh.getD t default).left.attr.v), .int .i64 ((p.wh.getD t default).left.val.kind.v), .int .i64 ((p.wh.getD t default).left.val.n.v), .string ((p.wh.getD t default).left.val.s.v), .int .i64 ((p.wh.getD t default).rel.v), .string ((p.wh.getD t default).right.var.v), .string ((p.wh.getD t default).right.attr.v), .int .i64 ((p.wh.getD t default).right.val.kind.v), .int .i64 ((p.wh.getD t default).right.val.n.v), .string ((p.wh.getD t default).right.val.s.v)], .slice pp27 ((varsS p.root).length) cc28] pl_29 rfl rfl (ref07_Cond (p.wh.getD t default) (varsS p.root) (.slice pp27 ((varsS p.root).length) cc28) (jv := 1) rfl H48) ?_)
                  rintro _ w51 ⟨rfl, H52⟩
                  refine r_cons (s_assign (.int .i64 (condE (p.wh.getD t default) (varsS p.root))) rfl rfl ?_)
                  refine r_nil ?_
                  refine g_seq ?_
                  refine g_region ?_
                  refine r_cons (s_move (.int .i64 (condE (p.wh.getD t default) (varsS p.root))) rfl rfl ?_)
                  by_cases hc53 : condE (p.wh.getD t default) (varsS p.root) = 0
                  · skip
                    refine r_cons (s_neq false rfl rfl (ntrue hc53) rfl ?_)
                    refine r_nil ?_
                    refine g_false rfl ?_
                    refine g_skip ?_
                    refine g_inBlock ?_
                    refine g_region ?_
                    refine r_cons (s_move (.int .i64 (t : Int)) rfl rfl ?_)
                    refine r_cons (s_add ((t : Int) + 1) rfl rfl (wi64 (by omega)) rfl ?_)
                    refine r_cons (s_assign (.int .i64 ((t : Int) + 1)) rfl rfl ?_)
                    refine r_nil ?_
                    have H54 : St W w51 (imi (0 < p.wh.length) gA34 (.cells kA36 eA37 zA38) :: Im 1 (.slice pp27 ((varsS p.root).length) cc28) ((varsS p.root).length) ((varsS p.root).flatMap strCell) :: blk bk4 (.cells #[.string p.name.v, .int .i64 p.win.v, .int .i64 p.root.kind.v, .string p.root.var.v, .string p.root.typ.v, .slice p.root.tp p.root.tests.length p.root.tc, .slice p.root.kp p.root.kids.length p.root.kc, .slice p.wp p.wh.length p.wc] 27 (0, 0)) :: Im 11 (.slice p.wp p.wh.length p.wc) p.wh.length (p.wh.flatMap condCell) :: NodeA p.root :: F) := (((((H52.move 4 rfl).move 4 rfl).move 4 rfl).move 4 rfl).move 4 rfl)
                    exact nx49 (t + 1) _ _ ⟨(by omega), (fun q hq => (Nat.lt_or_ge q t).elim (hz2 q) (fun h => by rw [show q = t from by omega]; exact hc53)), H54⟩ (by first | (dsimp only; omega) | omega) ⟨by first | rfl | exact vint (by omega), by first | rfl | exact vint (by omega), by first | rfl | exact vint (by omega), by first | rfl | exact vint (by omega), trivial⟩
                  · skip
                    refine r_cons (s_neq true rfl rfl (nfalse hc53) rfl ?_)
                    refine r_nil ?_
                    refine g_true rfl ?_
                    refine g_seq ?_
                    refine g_region ?_
                    refine r_cons (s_move (.int .i64 (condE (p.wh.getD t default) (varsS p.root))) rfl rfl ?_)
                    refine r_cons (s_assign (.int .i64 (condE (p.wh.getD t default) (varsS p.root))) rfl rfl ?_)
                    refine r_nil ?_
                    refine g_ret' [.int .i64 (condE (p.wh.getD t default) (varsS p.root))] Try.func12 Try.results12 ⟨rfl, trivial⟩ ?_
                    have H55 : St W w51 F := (((((H52.drop 0 rfl).drop 0 rfl).drop 0 rfl).drop 0 rfl).drop 0 rfl)
                    exact ⟨vint (by unfold patE; rw [if_neg (by simp [hc12, hc15, hb31])]; rw [if_neg (by omega), if_neg (by omega)]; unfold condsE; rw [if_neg (by omega)]; exact firstE_at (f := (fun c => condE c (varsS p.root))) hz2 (by omega) (by omega)), H55⟩
                · skip
                  refine r_cons (s_lss false rfl rfl (dfalse hc50) rfl ?_)
                  refine r_nil ?_
                  refine g_false rfl ?_
                  refine g_exit (by rfl) ?_
                  refine g_seq ?_
                  refine g_region ?_
                  refine r_cons (s_assign (.int .i64 0) rfl rfl ?_)
                  refine r_nil ?_
                  refine g_ret' [.int .i64 0] Try.func12 Try.results12 ⟨rfl, trivial⟩ ?_
                  have H56 : St W w47 F := (((((H48.drop 0 rfl).drop 0 rfl).drop 0 rfl).drop 0 rfl).drop 0 rfl)
                  exact ⟨vint (by unfold patE; rw [if_neg (by simp [hc12, hc15, hb31])]; rw [if_neg (by omega), if_neg (by omega)]; unfold condsE; rw [if_neg (by omega)]; exact firstE_end (f := (fun c => condE c (varsS p.root))) hz2 (by omega)), H56⟩
          · skip
            refine r_cons (s_neq true rfl rfl (nfalse hc23) rfl ?_)
            refine r_nil ?_
            refine g_true rfl ?_
            refine g_seq ?_
            refine g_region ?_
            refine r_cons (s_move (.int .i64 (bindsE p.root)) rfl rfl ?_)
            refine r_cons (s_assign (.int .i64 (bindsE p.root)) rfl rfl ?_)
            refine r_nil ?_
            refine g_ret' [.int .i64 (bindsE p.root)] Try.func12 Try.results12 ⟨rfl, trivial⟩ ?_
            have hb57 : ((nameB p.name.v)) = true := by simpa using hb9
            have H58 : St W w21 F := (((H22.drop 0 rfl).drop 0 rfl).drop 0 rfl)
            exact ⟨vint (by unfold patE; rw [if_neg (by simp [hc12, hc15, hb57])]; rw [if_neg (by omega), if_pos (by omega)]), H58⟩
        · skip
          refine r_cons (s_neq true rfl rfl (nfalse hc20) rfl ?_)
          refine r_nil ?_
          refine g_true rfl ?_
          refine g_seq ?_
          refine g_region ?_
          refine r_cons (s_move (.int .i64 (shapeE p.root)) rfl rfl ?_)
          refine r_cons (s_assign (.int .i64 (shapeE p.root)) rfl rfl ?_)
          refine r_nil ?_
          refine g_ret' [.int .i64 (shapeE p.root)] Try.func12 Try.results12 ⟨rfl, trivial⟩ ?_
          have hb59 : ((nameB p.name.v)) = true := by simpa using hb9
          have H60 : St W w18 F := (((H19.drop 0 rfl).drop 0 rfl).drop 0 rfl)
          exact ⟨vint (by unfold patE; rw [if_neg (by simp [hc12, hc15, hb59])]; rw [if_pos (by omega)]), H60⟩
end Sl
