/- Walks of the program's functions. Printed by a program of this claim's author. No condition. -/
import Derived.Test.YtcomkhcpifcgmaaSlQ
import Derived.Test.YtcomkhcpifcgmaaSlH
import Derived.Test.YtcomkhcpifcgmaaSlP
import Derived.Test.YtcomkhcpifcgmaaSlAE
import Derived.Test.YtcomkhcpifcgmaaProg
import Derived.Test.YtcomkhcpifcgmaaWalkFrameSpoilt0
namespace Sl
open _root_.Go _root_.Go.RowKit _root_.Go.Proofs
set_option linter.all false
set_option maxHeartbeats 4000000 in
set_option maxRecDepth 100000 in
theorem frame_Check {W w : World} {F : List Atom} (d : DgM) (bv_d : Value) {A_d : Atom} (hA_d : RdA A_d 1 bv_d d.body.length (d.body.flatMap u8c)) {j : Nat} (hj : F[j]? = some A_d) (H : St W w F) : Calls Try.prog 15 #[.agg #[.int .i64 d.frm.v, .int .i64 d.to_.v, .int .i64 d.kind.v, .int .i64 d.seq.v, .int .i64 d.ack.v, bv_d]] w (Ret fun v w' => v = .int .i64 (dgE d) ∧ St W w' F) := by
  have hml := (hA_d _ _ _ j H hj).2
  obtain ⟨pp1, cc2, rfl, hn3⟩ := Rd.shape (hA_d _ _ _ j H hj).1
  refine calls_of_go (n := 55) Try.func15 rfl Try.ntmps15 rfl ?_
  refine g_seq ?_
  refine g_region ?_
  refine r_cons (s_box H 24 (.agg #[.int .i64 d.frm.v, .int .i64 d.to_.v, .int .i64 d.kind.v, .int .i64 d.seq.v, .int .i64 d.ack.v, .slice pp1 d.body.length cc2]) rfl (cs := #[.int .i64 d.frm.v, .int .i64 d.to_.v, .int .i64 d.kind.v, .int .i64 d.seq.v, .int .i64 d.ack.v, .slice pp1 d.body.length cc2]) rfl rfl ?_); intro bk4 w5 H6
  refine r_cons (s_assign (.int .i64 0) rfl rfl ?_)
  refine r_nil ?_
  refine g_seq ?_
  refine g_region ?_
  refine r_cons (s_fieldAddr 24 0 0 0 3 rfl fi_24_0 rfl rfl ?_)
  refine r_cons (s_load (.int .i64 d.frm.v) ag_3 rfl (H6.blk_at (i := 0) rfl) rfl rfl ?_)
  refine r_cons (s_call [.int .i64 d.frm.v] pl_37 rfl rfl (frame_broker d.frm.v H6) ?_)
  rintro _ w7 ⟨rfl, H8⟩
  refine r_cons (s_move (.bool (brB d.frm.v)) rfl rfl ?_)
  by_cases hb9 : (brB d.frm.v) = true
  · skip
    refine r_cons (r_take rfl (congrArg some hb9) ?_)
    refine s_fieldAddr 24 1 1 1 3 rfl fi_24_1 rfl rfl ?_
    refine r_cons (r_take rfl (congrArg some hb9) ?_)
    refine s_load (.int .i64 d.to_.v) ag_3 rfl (H8.blk_at (i := 0) rfl) rfl rfl ?_
    refine r_cons (r_take rfl (congrArg some hb9) ?_)
    refine s_call [.int .i64 d.to_.v] pl_37 rfl rfl (frame_broker d.to_.v H8) ?_
    rintro _ w10 ⟨rfl, H11⟩
    refine r_cons (s_pick_t (.bool (brB d.to_.v)) (by exact congrArg Value.bool hb9) rfl rfl ?_)
    refine r_cons (s_move (.bool (brB d.to_.v)) rfl rfl ?_)
    by_cases hb12 : (brB d.to_.v) = true
    · skip
      refine r_cons (r_take rfl (congrArg some hb12) ?_)
      refine s_fieldAddr 24 0 0 0 3 rfl fi_24_0 rfl rfl ?_
      refine r_cons (r_take rfl (congrArg some hb12) ?_)
      refine s_load (.int .i64 d.frm.v) ag_3 rfl (H11.blk_at (i := 0) rfl) rfl rfl ?_
      refine r_cons (r_take rfl (congrArg some hb12) ?_)
      refine s_fieldAddr 24 1 1 1 3 rfl fi_24_1 rfl rfl ?_
      refine r_cons (r_take rfl (congrArg some hb12) ?_)
      refine s_load (.int .i64 d.to_.v) ag_3 rfl (H11.blk_at (i := 0) rfl) rfl rfl ?_
      refine r_cons (r_take rfl (congrArg some hb12) ?_)
      by_cases hc13 : d.frm.v = d.to_.v
      · skip
        refine s_neq false rfl rfl (ntrue hc13) rfl ?_
        refine r_cons (s_pick_t (.bool false) (by exact congrArg Value.bool hb12) rfl rfl ?_)
        refine r_cons (s_move (.bool false) rfl rfl ?_)
        refine r_cons (r_pass rfl rfl rfl rfl rfl ?_)
        refine r_cons (r_pass rfl rfl rfl rfl rfl ?_)
        refine r_cons (r_pass rfl rfl rfl rfl rfl ?_)
        refine r_cons (s_pick_f (.bool false) rfl rfl rfl ?_)
        refine r_cons (s_move (.bool false) rfl rfl ?_)
        refine r_cons (r_pass rfl rfl rfl rfl rfl ?_)
        refine r_cons (r_pass rfl rfl rfl rfl rfl ?_)
        refine r_cons (r_pass rfl rfl rfl rfl rfl ?_)
        refine r_cons (s_pick_f (.bool false) rfl rfl rfl ?_)
        refine r_cons (s_move (.bool false) rfl rfl ?_)
        refine r_cons (r_pass rfl rfl rfl rfl rfl ?_)
        refine r_cons (r_pass rfl rfl rfl rfl rfl ?_)
        refine r_cons (r_pass rfl rfl rfl rfl rfl ?_)
        refine r_cons (r_pass rfl rfl rfl rfl rfl ?_)
        refine r_cons (s_pick_f (.bool false) rfl rfl rfl ?_)
        refine r_cons (s_assign (.bool false) rfl rfl ?_)
        refine r_nil ?_
        refine g_seq ?_
        refine g_seq ?_
        refine g_region ?_
        refine r_cons (s_fieldAddr 24 2 2 2 3 rfl fi_24_2 rfl rfl ?_)
        refine r_cons (s_load (.int .i64 d.kind.v) ag_3 rfl (H11.blk_at (i := 0) rfl) rfl rfl ?_)
        refine r_nil ?_
        refine g_block ?_
        refine g_seq ?_
        refine g_region ?_
        by_cases hc14 : d.kind.v = 1
        · skip
          refine r_cons (s_eql true rfl rfl (dtrue hc14) rfl ?_)
          refine r_cons (s_assign (.bool true) rfl rfl ?_)
          refine r_nil ?_
          refine g_true rfl ?_
          refine g_skip ?_
          refine g_inBlock ?_
          refine g_seq ?_
          refine g_seq ?_
          refine g_region ?_
          refine r_cons (s_move (.bool false) rfl rfl ?_)
          refine r_cons (s_not false rfl true rfl rfl ?_)
          refine r_nil ?_
          refine g_true rfl ?_
          refine g_seq ?_
          refine g_region ?_
          refine r_cons (s_assign (.int .i64 21) rfl rfl ?_)
          refine r_nil ?_
          refine g_ret' [.int .i64 21] Try.func15 Try.results15 ⟨rfl, trivial⟩ ?_
          have H15 : St W w10 F := (H11.drop 0 rfl)
          have hz89 : (brB d.frm.v) = true := by simpa using hb9
          simp only [timeB, brB, decide_eq_true_eq, decide_eq_false_iff_not] at hz89
          have hz91 : (brB d.to_.v) = true := by simpa using hb12
          simp only [timeB, brB, decide_eq_true_eq, decide_eq_false_iff_not] at hz91
          exact ⟨vint (by exact (dgE_21 (by unfold dgOk; omega)).symm), H15⟩
        · skip
          refine r_cons (s_eql false rfl rfl (dfalse hc14) rfl ?_)
          refine r_cons (s_assign (.bool false) rfl rfl ?_)
          refine r_nil ?_
          refine g_false rfl ?_
          refine g_seq ?_
          refine g_region ?_
          by_cases hc16 : d.kind.v = 2
          · skip
            refine r_cons (s_eql true rfl rfl (dtrue hc16) rfl ?_)
            refine r_cons (s_assign (.bool true) rfl rfl ?_)
            refine r_nil ?_
            refine g_true rfl ?_
            refine g_region ?_
            refine r_cons (s_move (.bool false) rfl rfl ?_)
            refine r_cons (s_move (.bool false) rfl rfl ?_)
            refine r_cons (r_pass rfl rfl rfl rfl rfl ?_)
            refine r_cons (r_pass rfl rfl rfl rfl rfl ?_)
            refine r_cons (r_pass rfl rfl rfl rfl rfl ?_)
            refine r_cons (s_pick_f (.bool false) rfl rfl rfl ?_)
            refine r_cons (s_move (.bool false) rfl rfl ?_)
            refine r_cons (r_pass rfl rfl rfl rfl rfl ?_)
            refine r_cons (r_pass rfl rfl rfl rfl rfl ?_)
            refine r_cons (r_pass rfl rfl rfl rfl rfl ?_)
            refine r_cons (r_pass rfl rfl rfl rfl rfl ?_)
            refine r_cons (s_pick_f (.bool false) rfl rfl rfl ?_)
            refine r_cons (s_assign (.bool false) rfl rfl ?_)
            refine r_nil ?_
            refine g_inBlock ?_
            refine g_seq ?_
            refine g_seq ?_
            refine g_region ?_
            refine r_cons (s_move (.bool false) rfl rfl ?_)
            refine r_cons (s_not false rfl true rfl rfl ?_)
            refine r_nil ?_
            refine g_true rfl ?_
            refine g_seq ?_
            refine g_region ?_
            refine r_cons (s_assign (.int .i64 21) rfl rfl ?_)
            refine r_nil ?_
            refine g_ret' [.int .i64 21] Try.func15 Try.results15 ⟨rfl, trivial⟩ ?_
            have H17 : St W w10 F := (H11.drop 0 rfl)
            have hz136 : (brB d.frm.v) = true := by simpa using hb9
            simp only [timeB, brB, decide_eq_true_eq, decide_eq_false_iff_not] at hz136
            have hz138 : (brB d.to_.v) = true := by simpa using hb12
            simp only [timeB, brB, decide_eq_true_eq, decide_eq_false_iff_not] at hz138
            exact ⟨vint (by exact (dgE_21 (by unfold dgOk; omega)).symm), H17⟩
          · skip
            refine r_cons (s_eql false rfl rfl (dfalse hc16) rfl ?_)
            refine r_cons (s_assign (.bool false) rfl rfl ?_)
            refine r_nil ?_
            refine g_false rfl ?_
            refine g_region ?_
            refine r_cons (s_assign (.bool false) rfl rfl ?_)
            refine r_nil ?_
            refine g_inBlock ?_
            refine g_seq ?_
            refine g_seq ?_
            refine g_region ?_
            refine r_cons (s_move (.bool false) rfl rfl ?_)
            refine r_cons (s_not false rfl true rfl rfl ?_)
            refine r_nil ?_
            refine g_true rfl ?_
            refine g_seq ?_
            refine g_region ?_
            refine r_cons (s_assign (.int .i64 21) rfl rfl ?_)
            refine r_nil ?_
            refine g_ret' [.int .i64 21] Try.func15 Try.results15 ⟨rfl, trivial⟩ ?_
            have H18 : St W w10 F := (H11.drop 0 rfl)
            have hz163 : (brB d.frm.v) = true := by simpa using hb9
            simp only [timeB, brB, decide_eq_true_eq, decide_eq_false_iff_not] at hz163
            have hz165 : (brB d.to_.v) = true := by simpa using hb12
            simp only [timeB, brB, decide_eq_true_eq, decide_eq_false_iff_not] at hz165
            exact ⟨vint (by exact (dgE_21 (by unfold dgOk; omega)).symm), H18⟩
      · skip
        refine s_neq true rfl rfl (nfalse hc13) rfl ?_
        refine r_cons (s_pick_t (.bool true) (by exact congrArg Value.bool hb12) rfl rfl ?_)
        refine r_cons (s_move (.bool true) rfl rfl ?_)
        refine r_cons (r_take rfl rfl ?_)
        refine s_fieldAddr 24 3 3 3 2 rfl fi_24_3 rfl rfl ?_
        refine r_cons (r_take rfl rfl ?_)
        refine s_load (.int .i64 d.seq.v) ag_2 rfl (H11.blk_at (i := 0) rfl) rfl rfl ?_
        refine r_cons (r_take rfl rfl ?_)
        refine s_call [.int .i64 d.seq.v] pl_38 rfl rfl (frame_time d.seq.v H11) ?_
        rintro _ w19 ⟨rfl, H20⟩
        refine r_cons (s_pick_t (.bool (timeB d.seq.v)) rfl rfl rfl ?_)
        refine r_cons (s_move (.bool (timeB d.seq.v)) rfl rfl ?_)
        by_cases hb21 : (timeB d.seq.v) = true
        · skip
          refine r_cons (r_take rfl (congrArg some hb21) ?_)
          refine s_fieldAddr 24 4 4 4 2 rfl fi_24_4 rfl rfl ?_
          refine r_cons (r_take rfl (congrArg some hb21) ?_)
          refine s_load (.int .i64 d.ack.v) ag_2 rfl (H20.blk_at (i := 0) rfl) rfl rfl ?_
          refine r_cons (r_take rfl (congrArg some hb21) ?_)
          refine s_call [.int .i64 d.ack.v] pl_38 rfl rfl (frame_time d.ack.v H20) ?_
          rintro _ w22 ⟨rfl, H23⟩
          refine r_cons (s_pick_t (.bool (timeB d.ack.v)) (by exact congrArg Value.bool hb21) rfl rfl ?_)
          refine r_cons (s_move (.bool (timeB d.ack.v)) rfl rfl ?_)
          by_cases hb24 : (timeB d.ack.v) = true
          · skip
            refine r_cons (r_take rfl (congrArg some hb24) ?_)
            refine s_fieldAddr 24 5 5 5 22 rfl fi_24_5 rfl rfl ?_
            refine r_cons (r_take rfl (congrArg some hb24) ?_)
            refine s_load (.slice pp1 d.body.length cc2) ag_22 rfl (H23.blk_at (i := 0) rfl) rfl rfl ?_
            refine r_cons (r_take rfl (congrArg some hb24) ?_)
            refine s_len d.body.length rfl ⟨_, un_22⟩ rfl ?_
            refine r_cons (r_take rfl (congrArg some hb24) ?_)
            by_cases hc25 : (d.body.length : Int) ≤ 16384
            · skip
              refine s_leq true rfl rfl (dtrue hc25) rfl ?_
              refine r_cons (s_pick_t (.bool true) (by exact congrArg Value.bool hb24) rfl rfl ?_)
              refine r_cons (s_assign (.bool true) rfl rfl ?_)
              refine r_nil ?_
              refine g_seq ?_
              refine g_seq ?_
              refine g_region ?_
              refine r_cons (s_fieldAddr 24 2 2 2 3 rfl fi_24_2 rfl rfl ?_)
              refine r_cons (s_load (.int .i64 d.kind.v) ag_3 rfl (H23.blk_at (i := 0) rfl) rfl rfl ?_)
              refine r_nil ?_
              refine g_block ?_
              refine g_seq ?_
              refine g_region ?_
              by_cases hc26 : d.kind.v = 1
              · skip
                refine r_cons (s_eql true rfl rfl (dtrue hc26) rfl ?_)
                refine r_cons (s_assign (.bool true) rfl rfl ?_)
                refine r_nil ?_
                refine g_true rfl ?_
                refine g_skip ?_
                refine g_inBlock ?_
                refine g_seq ?_
                refine g_seq ?_
                refine g_region ?_
                refine r_cons (s_move (.bool true) rfl rfl ?_)
                refine r_cons (s_not true rfl false rfl rfl ?_)
                refine r_nil ?_
                refine g_false rfl ?_
                refine g_skip ?_
                refine g_seq ?_
                refine g_region ?_
                refine r_cons (s_assign (.int .i64 0) rfl rfl ?_)
                refine r_nil ?_
                refine g_ret' [.int .i64 0] Try.func15 Try.results15 ⟨rfl, trivial⟩ ?_
                have H27 : St W w22 F := (H23.drop 0 rfl)
                have hz238 : (brB d.frm.v) = true := by simpa using hb9
                simp only [timeB, brB, decide_eq_true_eq, decide_eq_false_iff_not] at hz238
                have hz240 : (brB d.to_.v) = true := by simpa using hb12
                simp only [timeB, brB, decide_eq_true_eq, decide_eq_false_iff_not] at hz240
                have hz242 : (timeB d.seq.v) = true := by simpa using hb21
                simp only [timeB, brB, decide_eq_true_eq, decide_eq_false_iff_not] at hz242
                have hz244 : (timeB d.ack.v) = true := by simpa using hb24
                simp only [timeB, brB, decide_eq_true_eq, decide_eq_false_iff_not] at hz244
                exact ⟨vint (by exact (dgE_0 (by unfold dgOk; omega)).symm), H27⟩
              · skip
                refine r_cons (s_eql false rfl rfl (dfalse hc26) rfl ?_)
                refine r_cons (s_assign (.bool false) rfl rfl ?_)
                refine r_nil ?_
                refine g_false rfl ?_
                refine g_seq ?_
                refine g_region ?_
                by_cases hc28 : d.kind.v = 2
                · skip
                  refine r_cons (s_eql true rfl rfl (dtrue hc28) rfl ?_)
                  refine r_cons (s_assign (.bool true) rfl rfl ?_)
                  refine r_nil ?_
                  refine g_true rfl ?_
                  refine g_region ?_
                  refine r_cons (s_move (.bool true) rfl rfl ?_)
                  refine r_cons (s_move (.bool true) rfl rfl ?_)
                  refine r_cons (r_take rfl rfl ?_)
                  refine s_fieldAddr 24 3 3 3 2 rfl fi_24_3 rfl rfl ?_
                  refine r_cons (r_take rfl rfl ?_)
                  refine s_load (.int .i64 d.seq.v) ag_2 rfl (H23.blk_at (i := 0) rfl) rfl rfl ?_
                  refine r_cons (r_take rfl rfl ?_)
                  by_cases hc29 : d.seq.v = 0
                  · skip
                    refine s_eql true rfl rfl (dtrue hc29) rfl ?_
                    refine r_cons (s_pick_t (.bool true) rfl rfl rfl ?_)
                    refine r_cons (s_move (.bool true) rfl rfl ?_)
                    refine r_cons (r_take rfl rfl ?_)
                    refine s_fieldAddr 24 5 5 5 22 rfl fi_24_5 rfl rfl ?_
                    refine r_cons (r_take rfl rfl ?_)
                    refine s_load (.slice pp1 d.body.length cc2) ag_22 rfl (H23.blk_at (i := 0) rfl) rfl rfl ?_
                    refine r_cons (r_take rfl rfl ?_)
                    refine s_len d.body.length rfl ⟨_, un_22⟩ rfl ?_
                    refine r_cons (r_take rfl rfl ?_)
                    by_cases hc30 : (d.body.length : Int) = 0
                    · skip
                      refine s_eql true rfl rfl (dtrue hc30) rfl ?_
                      refine r_cons (s_pick_t (.bool true) rfl rfl rfl ?_)
                      refine r_cons (s_assign (.bool true) rfl rfl ?_)
                      refine r_nil ?_
                      refine g_inBlock ?_
                      refine g_seq ?_
                      refine g_seq ?_
                      refine g_region ?_
                      refine r_cons (s_move (.bool true) rfl rfl ?_)
                      refine r_cons (s_not true rfl false rfl rfl ?_)
                      refine r_nil ?_
                      refine g_false rfl ?_
                      refine g_skip ?_
                      refine g_seq ?_
                      refine g_region ?_
                      refine r_cons (s_assign (.int .i64 0) rfl rfl ?_)
                      refine r_nil ?_
                      refine g_ret' [.int .i64 0] Try.func15 Try.results15 ⟨rfl, trivial⟩ ?_
                      have H31 : St W w22 F := (H23.drop 0 rfl)
                      have hz301 : (brB d.frm.v) = true := by simpa using hb9
                      simp only [timeB, brB, decide_eq_true_eq, decide_eq_false_iff_not] at hz301
                      have hz303 : (brB d.to_.v) = true := by simpa using hb12
                      simp only [timeB, brB, decide_eq_true_eq, decide_eq_false_iff_not] at hz303
                      have hz305 : (timeB d.seq.v) = true := by simpa using hb21
                      simp only [timeB, brB, decide_eq_true_eq, decide_eq_false_iff_not] at hz305
                      have hz307 : (timeB d.ack.v) = true := by simpa using hb24
                      simp only [timeB, brB, decide_eq_true_eq, decide_eq_false_iff_not] at hz307
                      exact ⟨vint (by exact (dgE_0 (by unfold dgOk; omega)).symm), H31⟩
                    · skip
                      refine s_eql false rfl rfl (dfalse hc30) rfl ?_
                      refine r_cons (s_pick_t (.bool false) rfl rfl rfl ?_)
                      refine r_cons (s_assign (.bool false) rfl rfl ?_)
                      refine r_nil ?_
                      refine g_inBlock ?_
                      refine g_seq ?_
                      refine g_seq ?_
                      refine g_region ?_
                      refine r_cons (s_move (.bool false) rfl rfl ?_)
                      refine r_cons (s_not false rfl true rfl rfl ?_)
                      refine r_nil ?_
                      refine g_true rfl ?_
                      refine g_seq ?_
                      refine g_region ?_
                      refine r_cons (s_assign (.int .i64 21) rfl rfl ?_)
                      refine r_nil ?_
                      refine g_ret' [.int .i64 21] Try.func15 Try.results15 ⟨rfl, trivial⟩ ?_
                      have H32 : St W w22 F := (H23.drop 0 rfl)
                      have hz329 : (brB d.frm.v) = true := by simpa using hb9
                      simp only [timeB, brB, decide_eq_true_eq, decide_eq_false_iff_not] at hz329
                      have hz331 : (brB d.to_.v) = true := by simpa using hb12
                      simp only [timeB, brB, decide_eq_true_eq, decide_eq_false_iff_not] at hz331
                      have hz333 : (timeB d.seq.v) = true := by simpa using hb21
                      simp only [timeB, brB, decide_eq_true_eq, decide_eq_false_iff_not] at hz333
                      have hz335 : (timeB d.ack.v) = true := by simpa using hb24
                      simp only [timeB, brB, decide_eq_true_eq, decide_eq_false_iff_not] at hz335
                      exact ⟨vint (by exact (dgE_21 (by unfold dgOk; omega)).symm), H32⟩
                  · skip
                    refine s_eql false rfl rfl (dfalse hc29) rfl ?_
                    refine r_cons (s_pick_t (.bool false) rfl rfl rfl ?_)
                    refine r_cons (s_move (.bool false) rfl rfl ?_)
                    refine r_cons (r_pass rfl rfl rfl rfl rfl ?_)
                    refine r_cons (r_pass rfl rfl rfl rfl rfl ?_)
                    refine r_cons (r_pass rfl rfl rfl rfl rfl ?_)
                    refine r_cons (r_pass rfl rfl rfl rfl rfl ?_)
                    refine r_cons (s_pick_f (.bool false) rfl rfl rfl ?_)
                    refine r_cons (s_assign (.bool false) rfl rfl ?_)
                    refine r_nil ?_
                    refine g_inBlock ?_
                    refine g_seq ?_
                    refine g_seq ?_
                    refine g_region ?_
                    refine r_cons (s_move (.bool false) rfl rfl ?_)
                    refine r_cons (s_not false rfl true rfl rfl ?_)
                    refine r_nil ?_
                    refine g_true rfl ?_
                    refine g_seq ?_
                    refine g_region ?_
                    refine r_cons (s_assign (.int .i64 21) rfl rfl ?_)
                    refine r_nil ?_
                    refine g_ret' [.int .i64 21] Try.func15 Try.results15 ⟨rfl, trivial⟩ ?_
                    have H33 : St W w22 F := (H23.drop 0 rfl)
                    have hz363 : (brB d.frm.v) = true := by simpa using hb9
                    simp only [timeB, brB, decide_eq_true_eq, decide_eq_false_iff_not] at hz363
                    have hz365 : (brB d.to_.v) = true := by simpa using hb12
                    simp only [timeB, brB, decide_eq_true_eq, decide_eq_false_iff_not] at hz365
                    have hz367 : (timeB d.seq.v) = true := by simpa using hb21
                    simp only [timeB, brB, decide_eq_true_eq, decide_eq_false_iff_not] at hz367
                    have hz369 : (timeB d.ack.v) = true := by simpa using hb24
                    simp only [timeB, brB, decide_eq_true_eq, decide_eq_false_iff_not] at hz369
                    exact ⟨vint (by exact (dgE_21 (by unfold dgOk; omega)).symm), H33⟩
                · skip
                  refine r_cons (s_eql false rfl rfl (dfalse hc28) rfl ?_)
                  refine r_cons (s_assign (.bool false) rfl rfl ?_)
                  refine r_nil ?_
                  refine g_false rfl ?_
                  refine g_region ?_
                  refine r_cons (s_assign (.bool false) rfl rfl ?_)
                  refine r_nil ?_
                  refine g_inBlock ?_
                  refine g_seq ?_
                  refine g_seq ?_
                  refine g_region ?_
                  refine r_cons (s_move (.bool false) rfl rfl ?_)
                  refine r_cons (s_not false rfl true rfl rfl ?_)
                  refine r_nil ?_
                  refine g_true rfl ?_
                  refine g_seq ?_
                  refine g_region ?_
                  refine r_cons (s_assign (.int .i64 21) rfl rfl ?_)
                  refine r_nil ?_
                  refine g_ret' [.int .i64 21] Try.func15 Try.results15 ⟨rfl, trivial⟩ ?_
                  have H34 : St W w22 F := (H23.drop 0 rfl)
                  have hz394 : (brB d.frm.v) = true := by simpa using hb9
                  simp only [timeB, brB, decide_eq_true_eq, decide_eq_false_iff_not] at hz394
                  have hz396 : (brB d.to_.v) = true := by simpa using hb12
                  simp only [timeB, brB, decide_eq_true_eq, decide_eq_false_iff_not] at hz396
                  have hz398 : (timeB d.seq.v) = true := by simpa using hb21
                  simp only [timeB, brB, decide_eq_true_eq, decide_eq_false_iff_not] at hz398
                  have hz400 : (timeB d.ack.v) = true := by simpa using hb24
                  simp only [timeB, brB, decide_eq_true_eq, decide_eq_false_iff_not] at hz400
                  exact ⟨vint (by exact (dgE_21 (by unfold dgOk; omega)).symm), H34⟩
            · skip
              refine s_leq false rfl rfl (dfalse hc25) rfl ?_
              refine r_cons (s_pick_t (.bool false) (by exact congrArg Value.bool hb24) rfl rfl ?_)
              refine r_cons (s_assign (.bool false) rfl rfl ?_)
              refine r_nil ?_
              refine g_seq ?_
              refine g_seq ?_
              refine g_region ?_
              refine r_cons (s_fieldAddr 24 2 2 2 3 rfl fi_24_2 rfl rfl ?_)
              refine r_cons (s_load (.int .i64 d.kind.v) ag_3 rfl (H23.blk_at (i := 0) rfl) rfl rfl ?_)
              refine r_nil ?_
              refine g_block ?_
              refine g_seq ?_
              refine g_region ?_
              by_cases hc35 : d.kind.v = 1
              · skip
                refine r_cons (s_eql true rfl rfl (dtrue hc35) rfl ?_)
                refine r_cons (s_assign (.bool true) rfl rfl ?_)
                refine r_nil ?_
                refine g_true rfl ?_
                refine g_skip ?_
                refine g_inBlock ?_
                refine g_seq ?_
                refine g_seq ?_
                refine g_region ?_
                refine r_cons (s_move (.bool false) rfl rfl ?_)
                refine r_cons (s_not false rfl true rfl rfl ?_)
                refine r_nil ?_
                refine g_true rfl ?_
                refine g_seq ?_
                refine g_region ?_
                refine r_cons (s_assign (.int .i64 21) rfl rfl ?_)
                refine r_nil ?_
                refine g_ret' [.int .i64 21] Try.func15 Try.results15 ⟨rfl, trivial⟩ ?_
                have H36 : St W w22 F := (H23.drop 0 rfl)
                have hz438 : (brB d.frm.v) = true := by simpa using hb9
                simp only [timeB, brB, decide_eq_true_eq, decide_eq_false_iff_not] at hz438
                have hz440 : (brB d.to_.v) = true := by simpa using hb12
                simp only [timeB, brB, decide_eq_true_eq, decide_eq_false_iff_not] at hz440
                have hz442 : (timeB d.seq.v) = true := by simpa using hb21
                simp only [timeB, brB, decide_eq_true_eq, decide_eq_false_iff_not] at hz442
                have hz444 : (timeB d.ack.v) = true := by simpa using hb24
                simp only [timeB, brB, decide_eq_true_eq, decide_eq_false_iff_not] at hz444
                exact ⟨vint (by exact (dgE_21 (by unfold dgOk; omega)).symm), H36⟩
              · skip
                refine r_cons (s_eql false rfl rfl (dfalse hc35) rfl ?_)
                refine r_cons (s_assign (.bool false) rfl rfl ?_)
                refine r_nil ?_
                refine g_false rfl ?_
                refine g_seq ?_
                refine g_region ?_
                by_cases hc37 : d.kind.v = 2
                · skip
                  refine r_cons (s_eql true rfl rfl (dtrue hc37) rfl ?_)
                  refine r_cons (s_assign (.bool true) rfl rfl ?_)
                  refine r_nil ?_
                  refine g_true rfl ?_
                  refine g_region ?_
                  refine r_cons (s_move (.bool false) rfl rfl ?_)
                  refine r_cons (s_move (.bool false) rfl rfl ?_)
                  refine r_cons (r_pass rfl rfl rfl rfl rfl ?_)
                  refine r_cons (r_pass rfl rfl rfl rfl rfl ?_)
                  refine r_cons (r_pass rfl rfl rfl rfl rfl ?_)
                  refine r_cons (s_pick_f (.bool false) rfl rfl rfl ?_)
                  refine r_cons (s_move (.bool false) rfl rfl ?_)
                  refine r_cons (r_pass rfl rfl rfl rfl rfl ?_)
                  refine r_cons (r_pass rfl rfl rfl rfl rfl ?_)
                  refine r_cons (r_pass rfl rfl rfl rfl rfl ?_)
                  refine r_cons (r_pass rfl rfl rfl rfl rfl ?_)
                  refine r_cons (s_pick_f (.bool false) rfl rfl rfl ?_)
                  refine r_cons (s_assign (.bool false) rfl rfl ?_)
                  refine r_nil ?_
                  refine g_inBlock ?_
                  refine g_seq ?_
                  refine g_seq ?_
                  refine g_region ?_
                  refine r_cons (s_move (.bool false) rfl rfl ?_)
                  refine r_cons (s_not false rfl true rfl rfl ?_)
                  refine r_nil ?_
                  refine g_true rfl ?_
                  refine g_seq ?_
                  refine g_region ?_
                  refine r_cons (s_assign (.int .i64 21) rfl rfl ?_)
                  refine r_nil ?_
                  refine g_ret' [.int .i64 21] Try.func15 Try.results15 ⟨rfl, trivial⟩ ?_
                  have H38 : St W w22 F := (H23.drop 0 rfl)
                  have hz489 : (brB d.frm.v) = true := by simpa using hb9
                  simp only [timeB, brB, decide_eq_true_eq, decide_eq_false_iff_not] at hz489
                  have hz491 : (brB d.to_.v) = true := by simpa using hb12
                  simp only [timeB, brB, decide_eq_true_eq, decide_eq_false_iff_not] at hz491
                  have hz493 : (timeB d.seq.v) = true := by simpa using hb21
                  simp only [timeB, brB, decide_eq_true_eq, decide_eq_false_iff_not] at hz493
                  have hz495 : (timeB d.ack.v) = true := by simpa using hb24
                  simp only [timeB, brB, decide_eq_true_eq, decide_eq_false_iff_not] at hz495
                  exact ⟨vint (by exact (dgE_21 (by unfold dgOk; omega)).symm), H38⟩
                · skip
                  refine r_cons (s_eql false rfl rfl (dfalse hc37) rfl ?_)
                  refine r_cons (s_assign (.bool false) rfl rfl ?_)
                  refine r_nil ?_
                  refine g_false rfl ?_
                  refine g_region ?_
                  refine r_cons (s_assign (.bool false) rfl rfl ?_)
                  refine r_nil ?_
                  refine g_inBlock ?_
                  refine g_seq ?_
                  refine g_seq ?_
                  refine g_region ?_
                  refine r_cons (s_move (.bool false) rfl rfl ?_)
                  refine r_cons (s_not false rfl true rfl rfl ?_)
                  refine r_nil ?_
                  refine g_true rfl ?_
                  refine g_seq ?_
                  refine g_region ?_
                  refine r_cons (s_assign (.int .i64 21) rfl rfl ?_)
                  refine r_nil ?_
                  refine g_ret' [.int .i64 21] Try.func15 Try.results15 ⟨rfl, trivial⟩ ?_
                  have H39 : St W w22 F := (H23.drop 0 rfl)
                  have hz520 : (brB d.frm.v) = true := by simpa using hb9
                  simp only [timeB, brB, decide_eq_true_eq, decide_eq_false_iff_not] at hz520
                  have hz522 : (brB d.to_.v) = true := by simpa using hb12
                  simp only [timeB, brB, decide_eq_true_eq, decide_eq_false_iff_not] at hz522
                  have hz524 : (timeB d.seq.v) = true := by simpa using hb21
                  simp only [timeB, brB, decide_eq_true_eq, decide_eq_false_iff_not] at hz524
                  have hz526 : (timeB d.ack.v) = true := by simpa using hb24
                  simp only [timeB, brB, decide_eq_true_eq, decide_eq_false_iff_not] at hz526
                  exact ⟨vint (by exact (dgE_21 (by unfold dgOk; omega)).symm), H39⟩
          · have hb24 := eq_false_of_ne_true hb24
            refine r_cons (r_pass rfl (congrArg some hb24) rfl rfl rfl ?_)
            refine r_cons (r_pass rfl (congrArg some hb24) rfl rfl rfl ?_)
            refine r_cons (r_pass rfl (congrArg some hb24) rfl rfl rfl ?_)
            refine r_cons (r_pass rfl (congrArg some hb24) rfl rfl rfl ?_)
            refine r_cons (s_pick_f (.bool false) (by exact congrArg Value.bool hb24) rfl rfl ?_)
            refine r_cons (s_assign (.bool false) rfl rfl ?_)
            refine r_nil ?_
            refine g_seq ?_
            refine g_seq ?_
            refine g_region ?_
            refine r_cons (s_fieldAddr 24 2 2 2 3 rfl fi_24_2 rfl rfl ?_)
            refine r_cons (s_load (.int .i64 d.kind.v) ag_3 rfl (H23.blk_at (i := 0) rfl) rfl rfl ?_)
            refine r_nil ?_
            refine g_block ?_
            refine g_seq ?_
            refine g_region ?_
            by_cases hc40 : d.kind.v = 1
            · skip
              refine r_cons (s_eql true rfl rfl (dtrue hc40) rfl ?_)
              refine r_cons (s_assign (.bool true) rfl rfl ?_)
              refine r_nil ?_
              refine g_true rfl ?_
              refine g_skip ?_
              refine g_inBlock ?_
              refine g_seq ?_
              refine g_seq ?_
              refine g_region ?_
              refine r_cons (s_move (.bool false) rfl rfl ?_)
              refine r_cons (s_not false rfl true rfl rfl ?_)
              refine r_nil ?_
              refine g_true rfl ?_
              refine g_seq ?_
              refine g_region ?_
              refine r_cons (s_assign (.int .i64 21) rfl rfl ?_)
              refine r_nil ?_
              refine g_ret' [.int .i64 21] Try.func15 Try.results15 ⟨rfl, trivial⟩ ?_
              have H41 : St W w22 F := (H23.drop 0 rfl)
              have hz567 : (brB d.frm.v) = true := by simpa using hb9
              simp only [timeB, brB, decide_eq_true_eq, decide_eq_false_iff_not] at hz567
              have hz569 : (brB d.to_.v) = true := by simpa using hb12
              simp only [timeB, brB, decide_eq_true_eq, decide_eq_false_iff_not] at hz569
              have hz571 : (timeB d.seq.v) = true := by simpa using hb21
              simp only [timeB, brB, decide_eq_true_eq, decide_eq_false_iff_not] at hz571
              have hz573 : (timeB d.ack.v) = false := by simpa using hb24
              simp only [timeB, brB, decide_eq_true_eq, decide_eq_false_iff_not] at hz573
              exact ⟨vint (by exact (dgE_21 (by unfold dgOk; omega)).symm), H41⟩
            · skip
              refine r_cons (s_eql false rfl rfl (dfalse hc40) rfl ?_)
              refine r_cons (s_assign (.bool false) rfl rfl ?_)
              refine r_nil ?_
              refine g_false rfl ?_
              refine g_seq ?_
              refine g_region ?_
              by_cases hc42 : d.kind.v = 2
              · skip
                refine r_cons (s_eql true rfl rfl (dtrue hc42) rfl ?_)
                refine r_cons (s_assign (.bool true) rfl rfl ?_)
                refine r_nil ?_
                refine g_true rfl ?_
                refine g_region ?_
                refine r_cons (s_move (.bool false) rfl rfl ?_)
                refine r_cons (s_move (.bool false) rfl rfl ?_)
                refine r_cons (r_pass rfl rfl rfl rfl rfl ?_)
                refine r_cons (r_pass rfl rfl rfl rfl rfl ?_)
                refine r_cons (r_pass rfl rfl rfl rfl rfl ?_)
                refine r_cons (s_pick_f (.bool false) rfl rfl rfl ?_)
                refine r_cons (s_move (.bool false) rfl rfl ?_)
                refine r_cons (r_pass rfl rfl rfl rfl rfl ?_)
                refine r_cons (r_pass rfl rfl rfl rfl rfl ?_)
                refine r_cons (r_pass rfl rfl rfl rfl rfl ?_)
                refine r_cons (r_pass rfl rfl rfl rfl rfl ?_)
                refine r_cons (s_pick_f (.bool false) rfl rfl rfl ?_)
                refine r_cons (s_assign (.bool false) rfl rfl ?_)
                refine r_nil ?_
                refine g_inBlock ?_
                refine g_seq ?_
                refine g_seq ?_
                refine g_region ?_
                refine r_cons (s_move (.bool false) rfl rfl ?_)
                refine r_cons (s_not false rfl true rfl rfl ?_)
                refine r_nil ?_
                refine g_true rfl ?_
                refine g_seq ?_
                refine g_region ?_
                refine r_cons (s_assign (.int .i64 21) rfl rfl ?_)
                refine r_nil ?_
                refine g_ret' [.int .i64 21] Try.func15 Try.results15 ⟨rfl, trivial⟩ ?_
                have H43 : St W w22 F := (H23.drop 0 rfl)
                have hz618 : (brB d.frm.v) = true := by simpa using hb9
                simp only [timeB, brB, decide_eq_true_eq, decide_eq_false_iff_not] at hz618
                have hz620 : (brB d.to_.v) = true := by simpa using hb12
                simp only [timeB, brB, decide_eq_true_eq, decide_eq_false_iff_not] at hz620
                have hz622 : (timeB d.seq.v) = true := by simpa using hb21
                simp only [timeB, brB, decide_eq_true_eq, decide_eq_false_iff_not] at hz622
                have hz624 : (timeB d.ack.v) = false := by simpa using hb24
                simp only [timeB, brB, decide_eq_true_eq, decide_eq_false_iff_not] at hz624
                exact ⟨vint (by exact (dgE_21 (by unfold dgOk; omega)).symm), H43⟩
              · skip
                refine r_cons (s_eql false rfl rfl (dfalse hc42) rfl ?_)
                refine r_cons (s_assign (.bool false) rfl rfl ?_)
                refine r_nil ?_
                refine g_false rfl ?_
                refine g_region ?_
                refine r_cons (s_assign (.bool false) rfl rfl ?_)
                refine r_nil ?_
                refine g_inBlock ?_
                refine g_seq ?_
                refine g_seq ?_
                refine g_region ?_
                refine r_cons (s_move (.bool false) rfl rfl ?_)
                refine r_cons (s_not false rfl true rfl rfl ?_)
                refine r_nil ?_
                refine g_true rfl ?_
                refine g_seq ?_
                refine g_region ?_
                refine r_cons (s_assign (.int .i64 21) rfl rfl ?_)
                refine r_nil ?_
                refine g_ret' [.int .i64 21] Try.func15 Try.results15 ⟨rfl, trivial⟩ ?_
                have H44 : St W w22 F := (H23.drop 0 rfl)
                have hz649 : (brB d.frm.v) = true := by simpa using hb9
                simp only [timeB, brB, decide_eq_true_eq, decide_eq_false_iff_not] at hz649
                have hz651 : (brB d.to_.v) = true := by simpa using hb12
                simp only [timeB, brB, decide_eq_true_eq, decide_eq_false_iff_not] at hz651
                have hz653 : (timeB d.seq.v) = true := by simpa using hb21
                simp only [timeB, brB, decide_eq_true_eq, decide_eq_false_iff_not] at hz653
                have hz655 : (timeB d.ack.v) = false := by simpa using hb24
                simp only [timeB, brB, decide_eq_true_eq, decide_eq_false_iff_not] at hz655
                exact ⟨vint (by exact (dgE_21 (by unfold dgOk; omega)).symm), H44⟩
        · have hb21 := eq_false_of_ne_true hb21
          refine r_cons (r_pass rfl (congrArg some hb21) rfl rfl rfl ?_)
          refine r_cons (r_pass rfl (congrArg some hb21) rfl rfl rfl ?_)
          refine r_cons (r_pass rfl (congrArg some hb21) rfl rfl rfl ?_)
          refine r_cons (s_pick_f (.bool false) (by exact congrArg Value.bool hb21) rfl rfl ?_)
          refine r_cons (s_move (.bool false) rfl rfl ?_)
          refine r_cons (r_pass rfl rfl rfl rfl rfl ?_)
          refine r_cons (r_pass rfl rfl rfl rfl rfl ?_)
          refine r_cons (r_pass rfl rfl rfl rfl rfl ?_)
          refine r_cons (r_pass rfl rfl rfl rfl rfl ?_)
          refine r_cons (s_pick_f (.bool false) rfl rfl rfl ?_)
          refine r_cons (s_assign (.bool false) rfl rfl ?_)
          refine r_nil ?_
          refine g_seq ?_
          refine g_seq ?_
          refine g_region ?_
          refine r_cons (s_fieldAddr 24 2 2 2 3 rfl fi_24_2 rfl rfl ?_)
          refine r_cons (s_load (.int .i64 d.kind.v) ag_3 rfl (H20.blk_at (i := 0) rfl) rfl rfl ?_)
          refine r_nil ?_
          refine g_block ?_
          refine g_seq ?_
          refine g_region ?_
          by_cases hc45 : d.kind.v = 1
          · skip
            refine r_cons (s_eql true rfl rfl (dtrue hc45) rfl ?_)
            refine r_cons (s_assign (.bool true) rfl rfl ?_)
            refine r_nil ?_
            refine g_true rfl ?_
            refine g_skip ?_
            refine g_inBlock ?_
            refine g_seq ?_
            refine g_seq ?_
            refine g_region ?_
            refine r_cons (s_move (.bool false) rfl rfl ?_)
            refine r_cons (s_not false rfl true rfl rfl ?_)
            refine r_nil ?_
            refine g_true rfl ?_
            refine g_seq ?_
            refine g_region ?_
            refine r_cons (s_assign (.int .i64 21) rfl rfl ?_)
            refine r_nil ?_
            refine g_ret' [.int .i64 21] Try.func15 Try.results15 ⟨rfl, trivial⟩ ?_
            have H46 : St W w19 F := (H20.drop 0 rfl)
            have hz701 : (brB d.frm.v) = true := by simpa using hb9
            simp only [timeB, brB, decide_eq_true_eq, decide_eq_false_iff_not] at hz701
            have hz703 : (brB d.to_.v) = true := by simpa using hb12
            simp only [timeB, brB, decide_eq_true_eq, decide_eq_false_iff_not] at hz703
            have hz705 : (timeB d.seq.v) = false := by simpa using hb21
            simp only [timeB, brB, decide_eq_true_eq, decide_eq_false_iff_not] at hz705
            exact ⟨vint (by exact (dgE_21 (by unfold dgOk; omega)).symm), H46⟩
          · skip
            refine r_cons (s_eql false rfl rfl (dfalse hc45) rfl ?_)
            refine r_cons (s_assign (.bool false) rfl rfl ?_)
            refine r_nil ?_
            refine g_false rfl ?_
            refine g_seq ?_
            refine g_region ?_
            by_cases hc47 : d.kind.v = 2
            · skip
              refine r_cons (s_eql true rfl rfl (dtrue hc47) rfl ?_)
              refine r_cons (s_assign (.bool true) rfl rfl ?_)
              refine r_nil ?_
              refine g_true rfl ?_
              refine g_region ?_
              refine r_cons (s_move (.bool false) rfl rfl ?_)
              refine r_cons (s_move (.bool false) rfl rfl ?_)
              refine r_cons (r_pass rfl rfl rfl rfl rfl ?_)
              refine r_cons (r_pass rfl rfl rfl rfl rfl ?_)
              refine r_cons (r_pass rfl rfl rfl rfl rfl ?_)
              refine r_cons (s_pick_f (.bool false) rfl rfl rfl ?_)
              refine r_cons (s_move (.bool false) rfl rfl ?_)
              refine r_cons (r_pass rfl rfl rfl rfl rfl ?_)
              refine r_cons (r_pass rfl rfl rfl rfl rfl ?_)
              refine r_cons (r_pass rfl rfl rfl rfl rfl ?_)
              refine r_cons (r_pass rfl rfl rfl rfl rfl ?_)
              refine r_cons (s_pick_f (.bool false) rfl rfl rfl ?_)
              refine r_cons (s_assign (.bool false) rfl rfl ?_)
              refine r_nil ?_
              refine g_inBlock ?_
              refine g_seq ?_
              refine g_seq ?_
              refine g_region ?_
              refine r_cons (s_move (.bool false) rfl rfl ?_)
              refine r_cons (s_not false rfl true rfl rfl ?_)
              refine r_nil ?_
              refine g_true rfl ?_
              refine g_seq ?_
              refine g_region ?_
              refine r_cons (s_assign (.int .i64 21) rfl rfl ?_)
              refine r_nil ?_
              refine g_ret' [.int .i64 21] Try.func15 Try.results15 ⟨rfl, trivial⟩ ?_
              have H48 : St W w19 F := (H20.drop 0 rfl)
              have hz750 : (brB d.frm.v) = true := by simpa using hb9
              simp only [timeB, brB, decide_eq_true_eq, decide_eq_false_iff_not] at hz750
              have hz752 : (brB d.to_.v) = true := by simpa using hb12
              simp only [timeB, brB, decide_eq_true_eq, decide_eq_false_iff_not] at hz752
              have hz754 : (timeB d.seq.v) = false := by simpa using hb21
              simp only [timeB, brB, decide_eq_true_eq, decide_eq_false_iff_not] at hz754
              exact ⟨vint (by exact (dgE_21 (by unfold dgOk; omega)).symm), H48⟩
            · skip
              refine r_cons (s_eql false rfl rfl (dfalse hc47) rfl ?_)
              refine r_cons (s_assign (.bool false) rfl rfl ?_)
              refine r_nil ?_
              refine g_false rfl ?_
              refine g_region ?_
              refine r_cons (s_assign (.bool false) rfl rfl ?_)
              refine r_nil ?_
              refine g_inBlock ?_
              refine g_seq ?_
              refine g_seq ?_
              refine g_region ?_
              refine r_cons (s_move (.bool false) rfl rfl ?_)
              refine r_cons (s_not false rfl true rfl rfl ?_)
              refine r_nil ?_
              refine g_true rfl ?_
              refine g_seq ?_
              refine g_region ?_
              refine r_cons (s_assign (.int .i64 21) rfl rfl ?_)
              refine r_nil ?_
              refine g_ret' [.int .i64 21] Try.func15 Try.results15 ⟨rfl, trivial⟩ ?_
              have H49 : St W w19 F := (H20.drop 0 rfl)
              have hz779 : (brB d.frm.v) = true := by simpa using hb9
              simp only [timeB, brB, decide_eq_true_eq, decide_eq_false_iff_not] at hz779
              have hz781 : (brB d.to_.v) = true := by simpa using hb12
              simp only [timeB, brB, decide_eq_true_eq, decide_eq_false_iff_not] at hz781
              have hz783 : (timeB d.seq.v) = false := by simpa using hb21
              simp only [timeB, brB, decide_eq_true_eq, decide_eq_false_iff_not] at hz783
              exact ⟨vint (by exact (dgE_21 (by unfold dgOk; omega)).symm), H49⟩
    · have hb12 := eq_false_of_ne_true hb12
      refine r_cons (r_pass rfl (congrArg some hb12) rfl rfl rfl ?_)
      refine r_cons (r_pass rfl (congrArg some hb12) rfl rfl rfl ?_)
      refine r_cons (r_pass rfl (congrArg some hb12) rfl rfl rfl ?_)
      refine r_cons (r_pass rfl (congrArg some hb12) rfl rfl rfl ?_)
      refine r_cons (r_pass rfl (congrArg some hb12) rfl rfl rfl ?_)
      refine r_cons (s_pick_f (.bool false) (by exact congrArg Value.bool hb12) rfl rfl ?_)
      refine r_cons (s_move (.bool false) rfl rfl ?_)
      refine r_cons (r_pass rfl rfl rfl rfl rfl ?_)
      refine r_cons (r_pass rfl rfl rfl rfl rfl ?_)
      refine r_cons (r_pass rfl rfl rfl rfl rfl ?_)
      refine r_cons (s_pick_f (.bool false) rfl rfl rfl ?_)
      refine r_cons (s_move (.bool false) rfl rfl ?_)
      refine r_cons (r_pass rfl rfl rfl rfl rfl ?_)
      refine r_cons (r_pass rfl rfl rfl rfl rfl ?_)
      refine r_cons (r_pass rfl rfl rfl rfl rfl ?_)
      refine r_cons (s_pick_f (.bool false) rfl rfl rfl ?_)
      refine r_cons (s_move (.bool false) rfl rfl ?_)
      refine r_cons (r_pass rfl rfl rfl rfl rfl ?_)
      refine r_cons (r_pass rfl rfl rfl rfl rfl ?_)
      refine r_cons (r_pass rfl rfl rfl rfl rfl ?_)
      refine r_cons (r_pass rfl rfl rfl rfl rfl ?_)
      refine r_cons (s_pick_f (.bool false) rfl rfl rfl ?_)
      refine r_cons (s_assign (.bool false) rfl rfl ?_)
      refine r_nil ?_
      refine g_seq ?_
      refine g_seq ?_
      refine g_region ?_
      refine r_cons (s_fieldAddr 24 2 2 2 3 rfl fi_24_2 rfl rfl ?_)
      refine r_cons (s_load (.int .i64 d.kind.v) ag_3 rfl (H11.blk_at (i := 0) rfl) rfl rfl ?_)
      refine r_nil ?_
      refine g_block ?_
      refine g_seq ?_
      refine g_region ?_
      by_cases hc50 : d.kind.v = 1
      · skip
        refine r_cons (s_eql true rfl rfl (dtrue hc50) rfl ?_)
        refine r_cons (s_assign (.bool true) rfl rfl ?_)
        refine r_nil ?_
        refine g_true rfl ?_
        refine g_skip ?_
        refine g_inBlock ?_
        refine g_seq ?_
        refine g_seq ?_
        refine g_region ?_
        refine r_cons (s_move (.bool false) rfl rfl ?_)
        refine r_cons (s_not false rfl true rfl rfl ?_)
        refine r_nil ?_
        refine g_true rfl ?_
        refine g_seq ?_
        refine g_region ?_
        refine r_cons (s_assign (.int .i64 21) rfl rfl ?_)
        refine r_nil ?_
        refine g_ret' [.int .i64 21] Try.func15 Try.results15 ⟨rfl, trivial⟩ ?_
        have H51 : St W w10 F := (H11.drop 0 rfl)
        have hz841 : (brB d.frm.v) = true := by simpa using hb9
        simp only [timeB, brB, decide_eq_true_eq, decide_eq_false_iff_not] at hz841
        have hz843 : (brB d.to_.v) = false := by simpa using hb12
        simp only [timeB, brB, decide_eq_true_eq, decide_eq_false_iff_not] at hz843
        exact ⟨vint (by exact (dgE_21 (by unfold dgOk; omega)).symm), H51⟩
      · skip
        refine r_cons (s_eql false rfl rfl (dfalse hc50) rfl ?_)
        refine r_cons (s_assign (.bool false) rfl rfl ?_)
        refine r_nil ?_
        refine g_false rfl ?_
        refine g_seq ?_
        refine g_region ?_
        by_cases hc52 : d.kind.v = 2
        · skip
          refine r_cons (s_eql true rfl rfl (dtrue hc52) rfl ?_)
          refine r_cons (s_assign (.bool true) rfl rfl ?_)
          refine r_nil ?_
          refine g_true rfl ?_
          refine g_region ?_
          refine r_cons (s_move (.bool false) rfl rfl ?_)
          refine r_cons (s_move (.bool false) rfl rfl ?_)
          refine r_cons (r_pass rfl rfl rfl rfl rfl ?_)
          refine r_cons (r_pass rfl rfl rfl rfl rfl ?_)
          refine r_cons (r_pass rfl rfl rfl rfl rfl ?_)
          refine r_cons (s_pick_f (.bool false) rfl rfl rfl ?_)
          refine r_cons (s_move (.bool false) rfl rfl ?_)
          refine r_cons (r_pass rfl rfl rfl rfl rfl ?_)
          refine r_cons (r_pass rfl rfl rfl rfl rfl ?_)
          refine r_cons (r_pass rfl rfl rfl rfl rfl ?_)
          refine r_cons (r_pass rfl rfl rfl rfl rfl ?_)
          refine r_cons (s_pick_f (.bool false) rfl rfl rfl ?_)
          refine r_cons (s_assign (.bool false) rfl rfl ?_)
          refine r_nil ?_
          refine g_inBlock ?_
          refine g_seq ?_
          refine g_seq ?_
          refine g_region ?_
          refine r_cons (s_move (.bool false) rfl rfl ?_)
          refine r_cons (s_not false rfl true rfl rfl ?_)
          refine r_nil ?_
          refine g_true rfl ?_
          refine g_seq ?_
          refine g_region ?_
          refine r_cons (s_assign (.int .i64 21) rfl rfl ?_)
          refine r_nil ?_
          refine g_ret' [.int .i64 21] Try.func15 Try.results15 ⟨rfl, trivial⟩ ?_
          have H53 : St W w10 F := (H11.drop 0 rfl)
          have hz888 : (brB d.frm.v) = true := by simpa using hb9
          simp only [timeB, brB, decide_eq_true_eq, decide_eq_false_iff_not] at hz888
          have hz890 : (brB d.to_.v) = false := by simpa using hb12
          simp only [timeB, brB, decide_eq_true_eq, decide_eq_false_iff_not] at hz890
          exact ⟨vint (by exact (dgE_21 (by unfold dgOk; omega)).symm), H53⟩
        · skip
          refine r_cons (s_eql false rfl rfl (dfalse hc52) rfl ?_)
          refine r_cons (s_assign (.bool false) rfl rfl ?_)
          refine r_nil ?_
          refine g_false rfl ?_
          refine g_region ?_
          refine r_cons (s_assign (.bool false) rfl rfl ?_)
          refine r_nil ?_
          refine g_inBlock ?_
          refine g_seq ?_
          refine g_seq ?_
          refine g_region ?_
          refine r_cons (s_move (.bool false) rfl rfl ?_)
          refine r_cons (s_not false rfl true rfl rfl ?_)
          refine r_nil ?_
          refine g_true rfl ?_
          refine g_seq ?_
          refine g_region ?_
          refine r_cons (s_assign (.int .i64 21) rfl rfl ?_)
          refine r_nil ?_
          refine g_ret' [.int .i64 21] Try.func15 Try.results15 ⟨rfl, trivial⟩ ?_
          have H54 : St W w10 F := (H11.drop 0 rfl)
          have hz915 : (brB d.frm.v) = true := by simpa using hb9
          simp only [timeB, brB, decide_eq_true_eq, decide_eq_false_iff_not] at hz915
          have hz917 : (brB d.to_.v) = false := by simpa using hb12
          simp only [timeB, brB, decide_eq_true_eq, decide_eq_false_iff_not] at hz917
          exact ⟨vint (by exact (dgE_21 (by unfold dgOk; omega)).symm), H54⟩
  · have hb9 := eq_false_of_ne_true hb9
    refine r_cons (r_pass rfl (congrArg some hb9) rfl rfl rfl ?_)
    refine r_cons (r_pass rfl (congrArg some hb9) rfl rfl rfl ?_)
    refine r_cons (r_pass rfl (congrArg some hb9) rfl rfl rfl ?_)
    refine r_cons (s_pick_f (.bool false) (by exact congrArg Value.bool hb9) rfl rfl ?_)
    refine r_cons (s_move (.bool false) rfl rfl ?_)
    refine r_cons (r_pass rfl rfl rfl rfl rfl ?_)
    refine r_cons (r_pass rfl rfl rfl rfl rfl ?_)
    refine r_cons (r_pass rfl rfl rfl rfl rfl ?_)
    refine r_cons (r_pass rfl rfl rfl rfl rfl ?_)
    refine r_cons (r_pass rfl rfl rfl rfl rfl ?_)
    refine r_cons (s_pick_f (.bool false) rfl rfl rfl ?_)
    refine r_cons (s_move (.bool false) rfl rfl ?_)
    refine r_cons (r_pass rfl rfl rfl rfl rfl ?_)
    refine r_cons (r_pass rfl rfl rfl rfl rfl ?_)
    refine r_cons (r_pass rfl rfl rfl rfl rfl ?_)
    refine r_cons (s_pick_f (.bool false) rfl rfl rfl ?_)
    refine r_cons (s_move (.bool false) rfl rfl ?_)
    refine r_cons (r_pass rfl rfl rfl rfl rfl ?_)
    refine r_cons (r_pass rfl rfl rfl rfl rfl ?_)
    refine r_cons (r_pass rfl rfl rfl rfl rfl ?_)
    refine r_cons (s_pick_f (.bool false) rfl rfl rfl ?_)
    refine r_cons (s_move (.bool false) rfl rfl ?_)
    refine r_cons (r_pass rfl rfl rfl rfl rfl ?_)
    refine r_cons (r_pass rfl rfl rfl rfl rfl ?_)
    refine r_cons (r_pass rfl rfl rfl rfl rfl ?_)
    refine r_cons (r_pass rfl rfl rfl rfl rfl ?_)
    refine r_cons (s_pick_f (.bool false) rfl rfl rfl ?_)
    refine r_cons (s_assign (.bool false) rfl rfl ?_)
    refine r_nil ?_
    refine g_seq ?_
    refine g_seq ?_
    refine g_region ?_
    refine r_cons (s_fieldAddr 24 2 2 2 3 rfl fi_24_2 rfl rfl ?_)
    refine r_cons (s_load (.int .i64 d.kind.v) ag_3 rfl (H8.blk_at (i := 0) rfl) rfl rfl ?_)
    refine r_nil ?_
    refine g_block ?_
    refine g_seq ?_
    refine g_region ?_
    by_cases hc55 : d.kind.v = 1
    · skip
      refine r_cons (s_eql true rfl rfl (dtrue hc55) rfl ?_)
      refine r_cons (s_assign (.bool true) rfl rfl ?_)
      refine r_nil ?_
      refine g_true rfl ?_
      refine g_skip ?_
      refine g_inBlock ?_
      refine g_seq ?_
      refine g_seq ?_
      refine g_region ?_
      refine r_cons (s_move (.bool false) rfl rfl ?_)
      refine r_cons (s_not false rfl true rfl rfl ?_)
      refine r_nil ?_
      refine g_true rfl ?_
      refine g_seq ?_
      refine g_region ?_
      refine r_cons (s_assign (.int .i64 21) rfl rfl ?_)
      refine r_nil ?_
      refine g_ret' [.int .i64 21] Try.func15 Try.results15 ⟨rfl, trivial⟩ ?_
      have H56 : St W w7 F := (H8.drop 0 rfl)
      have hz980 : (brB d.frm.v) = false := by simpa using hb9
      simp only [timeB, brB, decide_eq_true_eq, decide_eq_false_iff_not] at hz980
      exact ⟨vint (by exact (dgE_21 (by unfold dgOk; omega)).symm), H56⟩
    · skip
      refine r_cons (s_eql false rfl rfl (dfalse hc55) rfl ?_)
      refine r_cons (s_assign (.bool false) rfl rfl ?_)
      refine r_nil ?_
      refine g_false rfl ?_
      refine g_seq ?_
      refine g_region ?_
      by_cases hc57 : d.kind.v = 2
      · skip
        refine r_cons (s_eql true rfl rfl (dtrue hc57) rfl ?_)
        refine r_cons (s_assign (.bool true) rfl rfl ?_)
        refine r_nil ?_
        refine g_true rfl ?_
        refine g_region ?_
        refine r_cons (s_move (.bool false) rfl rfl ?_)
        refine r_cons (s_move (.bool false) rfl rfl ?_)
        refine r_cons (r_pass rfl rfl rfl rfl rfl ?_)
        refine r_cons (r_pass rfl rfl rfl rfl rfl ?_)
        refine r_cons (r_pass rfl rfl rfl rfl rfl ?_)
        refine r_cons (s_pick_f (.bool false) rfl rfl rfl ?_)
        refine r_cons (s_move (.bool false) rfl rfl ?_)
        refine r_cons (r_pass rfl rfl rfl rfl rfl ?_)
        refine r_cons (r_pass rfl rfl rfl rfl rfl ?_)
        refine r_cons (r_pass rfl rfl rfl rfl rfl ?_)
        refine r_cons (r_pass rfl rfl rfl rfl rfl ?_)
        refine r_cons (s_pick_f (.bool false) rfl rfl rfl ?_)
        refine r_cons (s_assign (.bool false) rfl rfl ?_)
        refine r_nil ?_
        refine g_inBlock ?_
        refine g_seq ?_
        refine g_seq ?_
        refine g_region ?_
        refine r_cons (s_move (.bool false) rfl rfl ?_)
        refine r_cons (s_not false rfl true rfl rfl ?_)
        refine r_nil ?_
        refine g_true rfl ?_
        refine g_seq ?_
        refine g_region ?_
        refine r_cons (s_assign (.int .i64 21) rfl rfl ?_)
        refine r_nil ?_
        refine g_ret' [.int .i64 21] Try.func15 Try.results15 ⟨rfl, trivial⟩ ?_
        have H58 : St W w7 F := (H8.drop 0 rfl)
        have hz1025 : (brB d.frm.v) = false := by simpa using hb9
        simp only [timeB, brB, decide_eq_true_eq, decide_eq_false_iff_not] at hz1025
        exact ⟨vint (by exact (dgE_21 (by unfold dgOk; omega)).symm), H58⟩
      · skip
        refine r_cons (s_eql false rfl rfl (dfalse hc57) rfl ?_)
        refine r_cons (s_assign (.bool false) rfl rfl ?_)
        refine r_nil ?_
        refine g_false rfl ?_
        refine g_region ?_
        refine r_cons (s_assign (.bool false) rfl rfl ?_)
        refine r_nil ?_
        refine g_inBlock ?_
        refine g_seq ?_
        refine g_seq ?_
        refine g_region ?_
        refine r_cons (s_move (.bool false) rfl rfl ?_)
        refine r_cons (s_not false rfl true rfl rfl ?_)
        refine r_nil ?_
        refine g_true rfl ?_
        refine g_seq ?_
        refine g_region ?_
        refine r_cons (s_assign (.int .i64 21) rfl rfl ?_)
        refine r_nil ?_
        refine g_ret' [.int .i64 21] Try.func15 Try.results15 ⟨rfl, trivial⟩ ?_
        have H59 : St W w7 F := (H8.drop 0 rfl)
        have hz1050 : (brB d.frm.v) = false := by simpa using hb9
        simp only [timeB, brB, decide_eq_true_eq, decide_eq_false_iff_not] at hz1050
        exact ⟨vint (by exact (dgE_21 (by unfold dgOk; omega)).symm), H59⟩
set_option maxHeartbeats 4000000 in
set_option maxRecDepth 100000 in
theorem Sum1_im {W w : World} {F : List Atom} (b : Nat) (xs : List UInt8) (v0 : Value) {j : Nat} (hj : F[j]? = some (Im 1 v0 xs.length (xs.flatMap u8c))) {i : Nat} (hi : F[i]? = some (blk b (.cells #[v0] 22 (0, 0)))) (H : St W w F) : Calls Try.prog 20 #[.slice (some ⟨b, 0, none⟩) 1 1] w (Ret fun v w' => v = .int .u32 ((sumN xs : Nat) : Int) ∧ St W w' F) := by
  have H0 := H.front hi
  obtain ⟨pA1, cA2, gA3, oA4, kA5, eA6, zA7, rfl, hn8, hp9, hx10, hs11, hml, H12⟩ := Im.open_ H hj
  have H0 := H12.front (i := i + 1) (by exact hi)
  refine calls_of_go (n := 41) Try.func20 rfl Try.ntmps20 rfl ?_
  refine g_seq ?_
  refine g_region ?_
  refine r_cons (s_assign (.int .u32 0) rfl rfl ?_)
  refine r_nil ?_
  refine g_seq ?_
  refine g_region ?_
  refine r_cons (s_assign (.int .u32 4294967295) rfl rfl ?_)
  refine r_nil ?_
  refine g_seq ?_
  refine g_seq ?_
  refine g_region ?_
  refine r_cons (s_move (.slice (some ⟨b, 0, none⟩) 1 1) rfl rfl ?_)
  refine r_cons (s_len 1 rfl ⟨_, un_64⟩ rfl ?_)
  refine r_cons (s_move (.int .i64 0) rfl rfl ?_)
  refine r_nil ?_
  refine g_block ?_
  refine g_loop ?_
  refine g_seq ?_
  refine g_region ?_
  refine r_cons (s_lss true rfl rfl (dtrue (by decide)) rfl ?_)
  refine r_nil ?_
  refine g_seq ?_
  refine g_true rfl ?_
  refine g_skip ?_
  refine g_seq ?_
  refine g_block ?_
  refine g_seq ?_
  refine g_region ?_
  refine r_cons (s_indexAddr b 0 1 0 rfl rfl el_64 (by omega) rfl rfl ?_)
  refine r_cons (s_load (.slice pA1 xs.length cA2) ag_22 rfl (H0.blk_at (i := 0) rfl) rfl rfl ?_)
  refine r_cons (s_assign (.slice pA1 xs.length cA2) rfl rfl ?_)
  refine r_nil ?_
  refine g_seq ?_
  refine g_region ?_
  refine r_cons (s_move (.slice pA1 xs.length cA2) rfl rfl ?_)
  refine r_cons (s_len xs.length rfl ⟨_, un_22⟩ rfl ?_)
  refine r_cons (s_move (.int .i64 0) rfl rfl ?_)
  refine r_nil ?_
  refine g_block ?_
  have hS0 : 4294967295 < 4294967296 := (by decide)
  refine g_loop_inv (fun (x_ : Nat) => match x_ with | jb13 => [(2, .int .u32 0), (3, .int .u32 ((crcL 4294967295 (xs.take jb13) : Nat) : Int)), (9, .slice (some ⟨b, 0, none⟩) 1 1), (10, .int .i64 1), (11, .int .i64 0), (15, .slice pA1 xs.length cA2), (16, .int .i64 (xs.length : Int)), (17, .int .i64 (jb13 : Int))]) (fun (x_ : Nat) w => match x_ with | jb13 => (jb13 ≤ xs.length) ∧ St W w (blk b (.cells #[.slice pA1 xs.length cA2] 22 (0, 0)) :: imi (0 < xs.length) gA3 (.cells kA5 eA6 zA7) :: (F.set i emp))) (fun (x_ : Nat) => match x_ with | jb13 => xs.length - jb13) (0) ?_ ?_ ?_
  · exact ⟨by first | rfl | exact vint (by omega), vint (by rw [List.take_zero, crcL_nil]; rfl), by first | rfl | exact vint (by omega), by first | rfl | exact vint (by omega), by first | rfl | exact vint (by omega), by first | rfl | exact vint (by omega), by first | rfl | exact vint (by omega), by first | rfl | exact vint (by omega), trivial⟩
  · exact ⟨(by omega), H0⟩
  · rintro jb13 ρ14 w15 ⟨hjb13, H16⟩ nx17
    change Ends _ _ (upds ρ14 [(2, .int .u32 0), (3, .int .u32 ((crcL 4294967295 (xs.take jb13) : Nat) : Int)), (9, .slice (some ⟨b, 0, none⟩) 1 1), (10, .int .i64 1), (11, .int .i64 0), (15, .slice pA1 xs.length cA2), (16, .int .i64 (xs.length : Int)), (17, .int .i64 (jb13 : Int))]) w15
    have hS := crcL_lt (xs.take jb13) hS0
    have hxb := (xs.getD jb13 0).toNat_lt
    refine g_seq ?_
    refine g_region ?_
    by_cases hc18 : (jb13 : Int) < (xs.length : Int)
    · skip
      refine r_cons (s_lss true rfl rfl (dtrue hc18) rfl ?_)
      refine r_nil ?_
      refine g_seq ?_
      refine g_true rfl ?_
      refine g_skip ?_
      refine g_seq ?_
      refine g_block ?_
      refine g_seq ?_
      refine g_region ?_
      refine r_cons (s_indexAddr gA3 (off := oA4) (jb13 : Int) 1 (oA4 + jb13 * 1) (by exact congrArg (fun z_ => Value.slice z_ xs.length cA2) (hp9 (by omega))) rfl el_22 (by omega) rfl rfl ?_)
      refine r_cons (s_load (.int .u8 ((xs.getD jb13 0).toNat : Int)) ag_5 rfl (H16.imi_at (i := 1) rfl (by omega)) (elem_cell (L := xs) (i := jb13) u8c_len (hx10 (by omega)) (by omega) 0 0 (by decide) _ rfl) rfl ?_)
      refine r_cons (s_assign (.int .u8 ((xs.getD jb13 0).toNat : Int)) rfl rfl ?_)
      refine r_nil ?_
      refine g_seq ?_
      refine g_region ?_
      refine r_cons (s_move (.int .u32 ((crcL 4294967295 (xs.take jb13) : Nat) : Int)) rfl rfl ?_)
      refine r_cons (s_move (.int .u8 ((xs.getD jb13 0).toNat : Int)) rfl rfl ?_)
      refine r_cons (s_conv ((xs.getD jb13 0).toNat : Int) rfl us_5 ik_37 (wu32 (by omega)) rfl ?_)
      refine r_cons (s_shl (((xs.getD jb13 0).toNat * 16777216 : Nat) : Int) rfl rfl (by omega) (crc_shl24 _) rfl ?_)
      refine r_cons (s_xor ((crcX (crcL 4294967295 (xs.take jb13)) (xs.getD jb13 0) : Nat) : Int) rfl rfl (crc_xor _ hS) rfl ?_)
      refine r_cons (s_assign (.int .u32 ((crcX (crcL 4294967295 (xs.take jb13)) (xs.getD jb13 0) : Nat) : Int)) rfl rfl ?_)
      refine r_nil ?_
      refine g_seq ?_
      refine g_region ?_
      refine r_cons (s_move (.int .i64 0) rfl rfl ?_)
      refine r_nil ?_
      refine g_block ?_
      have hX : crcX (crcL 4294967295 (xs.take jb13)) (xs.getD jb13 0) < 4294967296 := crcX_lt _ hS
      refine g_loop_inv (fun (x_ : Nat) => match x_ with | kb19 => [(2, .int .u32 0), (3, .int .u32 ((crcBits kb19 (crcX (crcL 4294967295 (xs.take jb13)) (xs.getD jb13 0)) : Nat) : Int)), (9, .slice (some ⟨b, 0, none⟩) 1 1), (10, .int .i64 1), (11, .int .i64 0), (15, .slice pA1 xs.length cA2), (16, .int .i64 (xs.length : Int)), (17, .int .i64 (jb13 : Int)), (26, .int .i64 (kb19 : Int))]) (fun (x_ : Nat) w => match x_ with | kb19 => (kb19 ≤ 8) ∧ St W w (blk b (.cells #[.slice pA1 xs.length cA2] 22 (0, 0)) :: imi (0 < xs.length) gA3 (.cells kA5 eA6 zA7) :: (F.set i emp))) (fun (x_ : Nat) => match x_ with | kb19 => 8 - kb19) (0) ?_ ?_ ?_
      · exact ⟨by first | rfl | exact vint (by omega), by first | rfl | exact vint (by omega), by first | rfl | exact vint (by omega), by first | rfl | exact vint (by omega), by first | rfl | exact vint (by omega), by first | rfl | exact vint (by omega), by first | rfl | exact vint (by omega), by first | rfl | exact vint (by omega), by first | rfl | exact vint (by omega), trivial⟩
      · exact ⟨(by omega), H16⟩
      · rintro kb19 ρ20 w21 ⟨hkb19, H22⟩ nx23
        change Ends _ _ (upds ρ20 [(2, .int .u32 0), (3, .int .u32 ((crcBits kb19 (crcX (crcL 4294967295 (xs.take jb13)) (xs.getD jb13 0)) : Nat) : Int)), (9, .slice (some ⟨b, 0, none⟩) 1 1), (10, .int .i64 1), (11, .int .i64 0), (15, .slice pA1 xs.length cA2), (16, .int .i64 (xs.length : Int)), (17, .int .i64 (jb13 : Int)), (26, .int .i64 (kb19 : Int))]) w21
        have hck := crcBits_lt hX kb19
        refine g_seq ?_
        refine g_region ?_
        by_cases hc24 : (kb19 : Int) < 8
        · skip
          refine r_cons (s_lss true rfl rfl (dtrue hc24) rfl ?_)
          refine r_nil ?_
          refine g_seq ?_
          refine g_true rfl ?_
          refine g_skip ?_
          refine g_seq ?_
          refine g_block ?_
          refine g_seq ?_
          refine g_region ?_
          refine r_cons (s_move (.int .u32 ((crcBits kb19 (crcX (crcL 4294967295 (xs.take jb13)) (xs.getD jb13 0)) : Nat) : Int)) rfl rfl ?_)
          refine r_cons (s_shr (((crcBits kb19 (crcX (crcL 4294967295 (xs.take jb13)) (xs.getD jb13 0))) / 2 ^ 31 : Nat) : Int) rfl rfl (by omega) (shr_nat (k := 31) rfl (by decide)) rfl ?_)
          refine r_cons (s_assign (.int .u32 (((crcBits kb19 (crcX (crcL 4294967295 (xs.take jb13)) (xs.getD jb13 0))) / 2 ^ 31 : Nat) : Int)) rfl rfl ?_)
          refine r_nil ?_
          refine g_seq ?_
          refine g_region ?_
          refine r_cons (s_move (.int .u32 ((crcBits kb19 (crcX (crcL 4294967295 (xs.take jb13)) (xs.getD jb13 0)) : Nat) : Int)) rfl rfl ?_)
          refine r_cons (s_shl ((2 * (crcBits kb19 (crcX (crcL 4294967295 (xs.take jb13)) (xs.getD jb13 0))) % 4294967296 : Nat) : Int) rfl rfl (by omega) (crc_shl1 _) rfl ?_)
          refine r_cons (s_assign (.int .u32 ((2 * (crcBits kb19 (crcX (crcL 4294967295 (xs.take jb13)) (xs.getD jb13 0))) % 4294967296 : Nat) : Int)) rfl rfl ?_)
          refine r_nil ?_
          refine g_seq ?_
          refine g_region ?_
          refine r_cons (s_move (.int .u32 (((crcBits kb19 (crcX (crcL 4294967295 (xs.take jb13)) (xs.getD jb13 0))) / 2 ^ 31 : Nat) : Int)) rfl rfl ?_)
          by_cases hc25 : (((crcBits kb19 (crcX (crcL 4294967295 (xs.take jb13)) (xs.getD jb13 0))) / 2 ^ 31 : Nat) : Int) = 1
          · skip
            refine r_cons (s_eql true rfl rfl (dtrue hc25) rfl ?_)
            refine r_nil ?_
            refine g_true rfl ?_
            refine g_region ?_
            refine r_cons (s_move (.int .u32 ((2 * (crcBits kb19 (crcX (crcL 4294967295 (xs.take jb13)) (xs.getD jb13 0))) % 4294967296 : Nat) : Int)) rfl rfl ?_)
            refine r_cons (s_xor (((2 * (crcBits kb19 (crcX (crcL 4294967295 (xs.take jb13)) (xs.getD jb13 0))) % 4294967296) ^^^ 79764919 : Nat) : Int) rfl rfl (crc_poly (Nat.mod_lt _ (by decide))) rfl ?_)
            refine r_cons (s_assign (.int .u32 (((2 * (crcBits kb19 (crcX (crcL 4294967295 (xs.take jb13)) (xs.getD jb13 0))) % 4294967296) ^^^ 79764919 : Nat) : Int)) rfl rfl ?_)
            refine r_nil ?_
            refine g_inBlock ?_
            refine g_region ?_
            refine r_cons (s_add ((kb19 : Int) + 1) rfl rfl (wi64 (by omega)) rfl ?_)
            refine r_cons (s_move (.int .i64 ((kb19 : Int) + 1)) rfl rfl ?_)
            refine r_nil ?_
            exact nx23 (kb19 + 1) _ _ ⟨(by omega), H22⟩ (by first | (dsimp only; omega) | omega) ⟨by first | rfl | exact vint (by omega), vint (by rw [show crcBits (kb19 + 1) (crcX (crcL 4294967295 (xs.take jb13)) (xs.getD jb13 0)) = crcBit (crcBits kb19 (crcX (crcL 4294967295 (xs.take jb13)) (xs.getD jb13 0))) from rfl]; first | rw [crcBit_hi (by omega)] | rw [crcBit_lo (by omega)]), by first | rfl | exact vint (by omega), by first | rfl | exact vint (by omega), by first | rfl | exact vint (by omega), by first | rfl | exact vint (by omega), by first | rfl | exact vint (by omega), by first | rfl | exact vint (by omega), by first | rfl | exact vint (by omega), trivial⟩
          · skip
            refine r_cons (s_eql false rfl rfl (dfalse hc25) rfl ?_)
            refine r_nil ?_
            refine g_false rfl ?_
            refine g_skip ?_
            refine g_inBlock ?_
            refine g_region ?_
            refine r_cons (s_add ((kb19 : Int) + 1) rfl rfl (wi64 (by omega)) rfl ?_)
            refine r_cons (s_move (.int .i64 ((kb19 : Int) + 1)) rfl rfl ?_)
            refine r_nil ?_
            exact nx23 (kb19 + 1) _ _ ⟨(by omega), H22⟩ (by first | (dsimp only; omega) | omega) ⟨by first | rfl | exact vint (by omega), vint (by rw [show crcBits (kb19 + 1) (crcX (crcL 4294967295 (xs.take jb13)) (xs.getD jb13 0)) = crcBit (crcBits kb19 (crcX (crcL 4294967295 (xs.take jb13)) (xs.getD jb13 0))) from rfl]; first | rw [crcBit_hi (by omega)] | rw [crcBit_lo (by omega)]), by first | rfl | exact vint (by omega), by first | rfl | exact vint (by omega), by first | rfl | exact vint (by omega), by first | rfl | exact vint (by omega), by first | rfl | exact vint (by omega), by first | rfl | exact vint (by omega), by first | rfl | exact vint (by omega), trivial⟩
        · skip
          refine r_cons (s_lss false rfl rfl (dfalse hc24) rfl ?_)
          refine r_nil ?_
          refine g_seq ?_
          refine g_false rfl ?_
          refine g_exit (by rfl) ?_
          refine g_inBlock ?_
          refine g_region ?_
          refine r_cons (s_add ((jb13 : Int) + 1) rfl rfl (wi64 (by omega)) rfl ?_)
          refine r_cons (s_move (.int .i64 ((jb13 : Int) + 1)) rfl rfl ?_)
          refine r_nil ?_
          have H26 : St W w21 (blk b (.cells #[.slice pA1 xs.length cA2] 22 (0, 0)) :: imi (0 < xs.length) gA3 (.cells kA5 eA6 zA7) :: (F.set i emp)) := ((H22.move 1 rfl).move 1 rfl)
          exact nx17 (jb13 + 1) _ _ ⟨(by omega), H26⟩ (by first | (dsimp only; omega) | omega) ⟨by first | rfl | exact vint (by omega), vint (by rw [crcL_take (by omega)]; unfold crcByte; rw [show kb19 = 8 from by omega]), by first | rfl | exact vint (by omega), by first | rfl | exact vint (by omega), by first | rfl | exact vint (by omega), by first | rfl | exact vint (by omega), by first | rfl | exact vint (by omega), by first | rfl | exact vint (by omega), trivial⟩
    · skip
      refine r_cons (s_lss false rfl rfl (dfalse hc18) rfl ?_)
      refine r_nil ?_
      refine g_seq ?_
      refine g_false rfl ?_
      refine g_exit (by rfl) ?_
      refine g_inBlock ?_
      refine g_region ?_
      refine r_cons (s_add 1 rfl rfl (wi64 (by omega)) rfl ?_)
      refine r_cons (s_move (.int .i64 1) rfl rfl ?_)
      refine r_nil ?_
      refine g_inLoop ?_
      refine g_seq ?_
      refine g_region ?_
      refine r_cons (s_lss false rfl rfl (dfalse (by decide)) rfl ?_)
      refine r_nil ?_
      refine g_seq ?_
      refine g_false rfl ?_
      refine g_exit (by rfl) ?_
      refine g_seq ?_
      refine g_region ?_
      refine r_cons (s_move (.int .u32 ((crcL 4294967295 (xs.take jb13) : Nat) : Int)) rfl rfl ?_)
      refine r_cons (s_compl (((crcL 4294967295 (xs.take jb13)) ^^^ 4294967295 : Nat) : Int) rfl (crc_not hS) rfl ?_)
      refine r_cons (s_assign (.int .u32 (((crcL 4294967295 (xs.take jb13)) ^^^ 4294967295 : Nat) : Int)) rfl rfl ?_)
      refine r_nil ?_
      refine g_ret' [.int .u32 (((crcL 4294967295 (xs.take jb13)) ^^^ 4294967295 : Nat) : Int)] Try.func20 Try.results20 ⟨rfl, trivial⟩ ?_
      obtain rfl : jb13 = xs.length := by omega
      have H27 : St W w15 (blk b (.cells #[.slice pA1 xs.length cA2] 22 (0, 0)) :: (F.set i emp)) := (H16.drop 1 rfl)
      exact ⟨vint (by simp only [List.take_length]; rfl), St.back_same hi H27⟩
set_option maxHeartbeats 4000000 in
set_option maxRecDepth 100000 in
theorem Sum2_im {W w : World} {F : List Atom} (b : Nat) (xs ys : List UInt8) (n1 n2 : Nat) (v0 v1 : Value) (hn1 : xs.length = n1) (hn2 : ys.length = n2) {j k : Nat} (hj : F[j]? = some (Im 1 v0 n1 (xs.flatMap u8c))) (hk : F[k]? = some (Im 1 v1 n2 (ys.flatMap u8c))) {i : Nat} (hi : F[i]? = some (blk b (.cells #[v0, v1] 22 (0, 0)))) (H : St W w F) : Calls Try.prog 20 #[.slice (some ⟨b, 0, none⟩) 2 2] w (Ret fun v w' => v = .int .u32 ((sumN (xs ++ ys) : Nat) : Int) ∧ St W w' F) := by
  subst hn1 hn2
  obtain ⟨pA1, cA2, gA3, oA4, kA5, eA6, zA7, rfl, hn8, hp9, hx10, hs11, hml, H12⟩ := Im.open_ H hj
  obtain ⟨pA13, cA14, gA15, oA16, kA17, eA18, zA19, rfl, hn20, hp21, hx22, hs23, hml, H24⟩ := Im.open_ H12 (i := k + 1) (by exact hk)
  have H0 := H24.front (i := i + 2) (by exact hi)
  refine calls_of_go (n := 41) Try.func20 rfl Try.ntmps20 rfl ?_
  refine g_seq ?_
  refine g_region ?_
  refine r_cons (s_assign (.int .u32 0) rfl rfl ?_)
  refine r_nil ?_
  refine g_seq ?_
  refine g_region ?_
  refine r_cons (s_assign (.int .u32 4294967295) rfl rfl ?_)
  refine r_nil ?_
  refine g_seq ?_
  refine g_seq ?_
  refine g_region ?_
  refine r_cons (s_move (.slice (some ⟨b, 0, none⟩) 2 2) rfl rfl ?_)
  refine r_cons (s_len 2 rfl ⟨_, un_64⟩ rfl ?_)
  refine r_cons (s_move (.int .i64 0) rfl rfl ?_)
  refine r_nil ?_
  refine g_block ?_
  refine g_loop ?_
  refine g_seq ?_
  refine g_region ?_
  refine r_cons (s_lss true rfl rfl (dtrue (by decide)) rfl ?_)
  refine r_nil ?_
  refine g_seq ?_
  refine g_true rfl ?_
  refine g_skip ?_
  refine g_seq ?_
  refine g_block ?_
  refine g_seq ?_
  refine g_region ?_
  refine r_cons (s_indexAddr b 0 1 0 rfl rfl el_64 (by omega) rfl rfl ?_)
  refine r_cons (s_load (.slice pA1 xs.length cA2) ag_22 rfl (H0.blk_at (i := 0) rfl) rfl rfl ?_)
  refine r_cons (s_assign (.slice pA1 xs.length cA2) rfl rfl ?_)
  refine r_nil ?_
  refine g_seq ?_
  refine g_region ?_
  refine r_cons (s_move (.slice pA1 xs.length cA2) rfl rfl ?_)
  refine r_cons (s_len xs.length rfl ⟨_, un_22⟩ rfl ?_)
  refine r_cons (s_move (.int .i64 0) rfl rfl ?_)
  refine r_nil ?_
  refine g_block ?_
  have hS0 : 4294967295 < 4294967296 := (by decide)
  refine g_loop_inv (fun (x_ : Nat) => match x_ with | jb25 => [(2, .int .u32 0), (3, .int .u32 ((crcL 4294967295 (xs.take jb25) : Nat) : Int)), (9, .slice (some ⟨b, 0, none⟩) 2 2), (10, .int .i64 2), (11, .int .i64 0), (15, .slice pA1 xs.length cA2), (16, .int .i64 (xs.length : Int)), (17, .int .i64 (jb25 : Int))]) (fun (x_ : Nat) w => match x_ with | jb25 => (jb25 ≤ xs.length) ∧ St W w (blk b (.cells #[.slice pA1 xs.length cA2, .slice pA13 ys.length cA14] 22 (0, 0)) :: imi (0 < ys.length) gA15 (.cells kA17 eA18 zA19) :: imi (0 < xs.length) gA3 (.cells kA5 eA6 zA7) :: (F.set i emp))) (fun (x_ : Nat) => match x_ with | jb25 => xs.length - jb25) (0) ?_ ?_ ?_
  · exact ⟨by first | rfl | exact vint (by omega), vint (by rw [List.take_zero, crcL_nil]; rfl), by first | rfl | exact vint (by omega), by first | rfl | exact vint (by omega), by first | rfl | exact vint (by omega), by first | rfl | exact vint (by omega), by first | rfl | exact vint (by omega), by first | rfl | exact vint (by omega), trivial⟩
  · exact ⟨(by omega), H0⟩
  · rintro jb25 ρ26 w27 ⟨hjb25, H28⟩ nx29
    change Ends _ _ (upds ρ26 [(2, .int .u32 0), (3, .int .u32 ((crcL 4294967295 (xs.take jb25) : Nat) : Int)), (9, .slice (some ⟨b, 0, none⟩) 2 2), (10, .int .i64 2), (11, .int .i64 0), (15, .slice pA1 xs.length cA2), (16, .int .i64 (xs.length : Int)), (17, .int .i64 (jb25 : Int))]) w27
    have hS := crcL_lt (xs.take jb25) hS0
    have hxb := (xs.getD jb25 0).toNat_lt
    refine g_seq ?_
    refine g_region ?_
    by_cases hc30 : (jb25 : Int) < (xs.length : Int)
    · skip
      refine r_cons (s_lss true rfl rfl (dtrue hc30) rfl ?_)
      refine r_nil ?_
      refine g_seq ?_
      refine g_true rfl ?_
      refine g_skip ?_
      refine g_seq ?_
      refine g_block ?_
      refine g_seq ?_
      refine g_region ?_
      refine r_cons (s_indexAddr gA3 (off := oA4) (jb25 : Int) 1 (oA4 + jb25 * 1) (by exact congrArg (fun z_ => Value.slice z_ xs.length cA2) (hp9 (by omega))) rfl el_22 (by omega) rfl rfl ?_)
      refine r_cons (s_load (.int .u8 ((xs.getD jb25 0).toNat : Int)) ag_5 rfl (H28.imi_at (i := 2) rfl (by omega)) (elem_cell (L := xs) (i := jb25) u8c_len (hx10 (by omega)) (by omega) 0 0 (by decide) _ rfl) rfl ?_)
      refine r_cons (s_assign (.int .u8 ((xs.getD jb25 0).toNat : Int)) rfl rfl ?_)
      refine r_nil ?_
      refine g_seq ?_
      refine g_region ?_
      refine r_cons (s_move (.int .u32 ((crcL 4294967295 (xs.take jb25) : Nat) : Int)) rfl rfl ?_)
      refine r_cons (s_move (.int .u8 ((xs.getD jb25 0).toNat : Int)) rfl rfl ?_)
      refine r_cons (s_conv ((xs.getD jb25 0).toNat : Int) rfl us_5 ik_37 (wu32 (by omega)) rfl ?_)
      refine r_cons (s_shl (((xs.getD jb25 0).toNat * 16777216 : Nat) : Int) rfl rfl (by omega) (crc_shl24 _) rfl ?_)
      refine r_cons (s_xor ((crcX (crcL 4294967295 (xs.take jb25)) (xs.getD jb25 0) : Nat) : Int) rfl rfl (crc_xor _ hS) rfl ?_)
      refine r_cons (s_assign (.int .u32 ((crcX (crcL 4294967295 (xs.take jb25)) (xs.getD jb25 0) : Nat) : Int)) rfl rfl ?_)
      refine r_nil ?_
      refine g_seq ?_
      refine g_region ?_
      refine r_cons (s_move (.int .i64 0) rfl rfl ?_)
      refine r_nil ?_
      refine g_block ?_
      have hX : crcX (crcL 4294967295 (xs.take jb25)) (xs.getD jb25 0) < 4294967296 := crcX_lt _ hS
      refine g_loop_inv (fun (x_ : Nat) => match x_ with | kb31 => [(2, .int .u32 0), (3, .int .u32 ((crcBits kb31 (crcX (crcL 4294967295 (xs.take jb25)) (xs.getD jb25 0)) : Nat) : Int)), (9, .slice (some ⟨b, 0, none⟩) 2 2), (10, .int .i64 2), (11, .int .i64 0), (15, .slice pA1 xs.length cA2), (16, .int .i64 (xs.length : Int)), (17, .int .i64 (jb25 : Int)), (26, .int .i64 (kb31 : Int))]) (fun (x_ : Nat) w => match x_ with | kb31 => (kb31 ≤ 8) ∧ St W w (blk b (.cells #[.slice pA1 xs.length cA2, .slice pA13 ys.length cA14] 22 (0, 0)) :: imi (0 < ys.length) gA15 (.cells kA17 eA18 zA19) :: imi (0 < xs.length) gA3 (.cells kA5 eA6 zA7) :: (F.set i emp))) (fun (x_ : Nat) => match x_ with | kb31 => 8 - kb31) (0) ?_ ?_ ?_
      · exact ⟨by first | rfl | exact vint (by omega), by first | rfl | exact vint (by omega), by first | rfl | exact vint (by omega), by first | rfl | exact vint (by omega), by first | rfl | exact vint (by omega), by first | rfl | exact vint (by omega), by first | rfl | exact vint (by omega), by first | rfl | exact vint (by omega), by first | rfl | exact vint (by omega), trivial⟩
      · exact ⟨(by omega), H28⟩
      · rintro kb31 ρ32 w33 ⟨hkb31, H34⟩ nx35
        change Ends _ _ (upds ρ32 [(2, .int .u32 0), (3, .int .u32 ((crcBits kb31 (crcX (crcL 4294967295 (xs.take jb25)) (xs.getD jb25 0)) : Nat) : Int)), (9, .slice (some ⟨b, 0, none⟩) 2 2), (10, .int .i64 2), (11, .int .i64 0), (15, .slice pA1 xs.length cA2), (16, .int .i64 (xs.length : Int)), (17, .int .i64 (jb25 : Int)), (26, .int .i64 (kb31 : Int))]) w33
        have hck := crcBits_lt hX kb31
        refine g_seq ?_
        refine g_region ?_
        by_cases hc36 : (kb31 : Int) < 8
        · skip
          refine r_cons (s_lss true rfl rfl (dtrue hc36) rfl ?_)
          refine r_nil ?_
          refine g_seq ?_
          refine g_true rfl ?_
          refine g_skip ?_
          refine g_seq ?_
          refine g_block ?_
          refine g_seq ?_
          refine g_region ?_
          refine r_cons (s_move (.int .u32 ((crcBits kb31 (crcX (crcL 4294967295 (xs.take jb25)) (xs.getD jb25 0)) : Nat) : Int)) rfl rfl ?_)
          refine r_cons (s_shr (((crcBits kb31 (crcX (crcL 4294967295 (xs.take jb25)) (xs.getD jb25 0))) / 2 ^ 31 : Nat) : Int) rfl rfl (by omega) (shr_nat (k := 31) rfl (by decide)) rfl ?_)
          refine r_cons (s_assign (.int .u32 (((crcBits kb31 (crcX (crcL 4294967295 (xs.take jb25)) (xs.getD jb25 0))) / 2 ^ 31 : Nat) : Int)) rfl rfl ?_)
          refine r_nil ?_
          refine g_seq ?_
          refine g_region ?_
          refine r_cons (s_move (.int .u32 ((crcBits kb31 (crcX (crcL 4294967295 (xs.take jb25)) (xs.getD jb25 0)) : Nat) : Int)) rfl rfl ?_)
          refine r_cons (s_shl ((2 * (crcBits kb31 (crcX (crcL 4294967295 (xs.take jb25)) (xs.getD jb25 0))) % 4294967296 : Nat) : Int) rfl rfl (by omega) (crc_shl1 _) rfl ?_)
          refine r_cons (s_assign (.int .u32 ((2 * (crcBits kb31 (crcX (crcL 4294967295 (xs.take jb25)) (xs.getD jb25 0))) % 4294967296 : Nat) : Int)) rfl rfl ?_)
          refine r_nil ?_
          refine g_seq ?_
          refine g_region ?_
          refine r_cons (s_move (.int .u32 (((crcBits kb31 (crcX (crcL 4294967295 (xs.take jb25)) (xs.getD jb25 0))) / 2 ^ 31 : Nat) : Int)) rfl rfl ?_)
          by_cases hc37 : (((crcBits kb31 (crcX (crcL 4294967295 (xs.take jb25)) (xs.getD jb25 0))) / 2 ^ 31 : Nat) : Int) = 1
          · skip
            refine r_cons (s_eql true rfl rfl (dtrue hc37) rfl ?_)
            refine r_nil ?_
            refine g_true rfl ?_
            refine g_region ?_
            refine r_cons (s_move (.int .u32 ((2 * (crcBits kb31 (crcX (crcL 4294967295 (xs.take jb25)) (xs.getD jb25 0))) % 4294967296 : Nat) : Int)) rfl rfl ?_)
            refine r_cons (s_xor (((2 * (crcBits kb31 (crcX (crcL 4294967295 (xs.take jb25)) (xs.getD jb25 0))) % 4294967296) ^^^ 79764919 : Nat) : Int) rfl rfl (crc_poly (Nat.mod_lt _ (by decide))) rfl ?_)
            refine r_cons (s_assign (.int .u32 (((2 * (crcBits kb31 (crcX (crcL 4294967295 (xs.take jb25)) (xs.getD jb25 0))) % 4294967296) ^^^ 79764919 : Nat) : Int)) rfl rfl ?_)
            refine r_nil ?_
            refine g_inBlock ?_
            refine g_region ?_
            refine r_cons (s_add ((kb31 : Int) + 1) rfl rfl (wi64 (by omega)) rfl ?_)
            refine r_cons (s_move (.int .i64 ((kb31 : Int) + 1)) rfl rfl ?_)
            refine r_nil ?_
            exact nx35 (kb31 + 1) _ _ ⟨(by omega), H34⟩ (by first | (dsimp only; omega) | omega) ⟨by first | rfl | exact vint (by omega), vint (by rw [show crcBits (kb31 + 1) (crcX (crcL 4294967295 (xs.take jb25)) (xs.getD jb25 0)) = crcBit (crcBits kb31 (crcX (crcL 4294967295 (xs.take jb25)) (xs.getD jb25 0))) from rfl]; first | rw [crcBit_hi (by omega)] | rw [crcBit_lo (by omega)]), by first | rfl | exact vint (by omega), by first | rfl | exact vint (by omega), by first | rfl | exact vint (by omega), by first | rfl | exact vint (by omega), by first | rfl | exact vint (by omega), by first | rfl | exact vint (by omega), by first | rfl | exact vint (by omega), trivial⟩
          · skip
            refine r_cons (s_eql false rfl rfl (dfalse hc37) rfl ?_)
            refine r_nil ?_
            refine g_false rfl ?_
            refine g_skip ?_
            refine g_inBlock ?_
            refine g_region ?_
            refine r_cons (s_add ((kb31 : Int) + 1) rfl rfl (wi64 (by omega)) rfl ?_)
            refine r_cons (s_move (.int .i64 ((kb31 : Int) + 1)) rfl rfl ?_)
            refine r_nil ?_
            exact nx35 (kb31 + 1) _ _ ⟨(by omega), H34⟩ (by first | (dsimp only; omega) | omega) ⟨by first | rfl | exact vint (by omega), vint (by rw [show crcBits (kb31 + 1) (crcX (crcL 4294967295 (xs.take jb25)) (xs.getD jb25 0)) = crcBit (crcBits kb31 (crcX (crcL 4294967295 (xs.take jb25)) (xs.getD jb25 0))) from rfl]; first | rw [crcBit_hi (by omega)] | rw [crcBit_lo (by omega)]), by first | rfl | exact vint (by omega), by first | rfl | exact vint (by omega), by first | rfl | exact vint (by omega), by first | rfl | exact vint (by omega), by first | rfl | exact vint (by omega), by first | rfl | exact vint (by omega), by first | rfl | exact vint (by omega), trivial⟩
        · skip
          refine r_cons (s_lss false rfl rfl (dfalse hc36) rfl ?_)
          refine r_nil ?_
          refine g_seq ?_
          refine g_false rfl ?_
          refine g_exit (by rfl) ?_
          refine g_inBlock ?_
          refine g_region ?_
          refine r_cons (s_add ((jb25 : Int) + 1) rfl rfl (wi64 (by omega)) rfl ?_)
          refine r_cons (s_move (.int .i64 ((jb25 : Int) + 1)) rfl rfl ?_)
          refine r_nil ?_
          have H38 : St W w33 (blk b (.cells #[.slice pA1 xs.length cA2, .slice pA13 ys.length cA14] 22 (0, 0)) :: imi (0 < ys.length) gA15 (.cells kA17 eA18 zA19) :: imi (0 < xs.length) gA3 (.cells kA5 eA6 zA7) :: (F.set i emp)) := (((H34.move 2 rfl).move 2 rfl).move 2 rfl)
          exact nx29 (jb25 + 1) _ _ ⟨(by omega), H38⟩ (by first | (dsimp only; omega) | omega) ⟨by first | rfl | exact vint (by omega), vint (by rw [crcL_take (by omega)]; unfold crcByte; rw [show kb31 = 8 from by omega]), by first | rfl | exact vint (by omega), by first | rfl | exact vint (by omega), by first | rfl | exact vint (by omega), by first | rfl | exact vint (by omega), by first | rfl | exact vint (by omega), by first | rfl | exact vint (by omega), trivial⟩
    · skip
      refine r_cons (s_lss false rfl rfl (dfalse hc30) rfl ?_)
      refine r_nil ?_
      refine g_seq ?_
      refine g_false rfl ?_
      refine g_exit (by rfl) ?_
      refine g_inBlock ?_
      refine g_region ?_
      refine r_cons (s_add 1 rfl rfl (wi64 (by omega)) rfl ?_)
      refine r_cons (s_move (.int .i64 1) rfl rfl ?_)
      refine r_nil ?_
      refine g_inLoop ?_
      refine g_seq ?_
      refine g_region ?_
      refine r_cons (s_lss true rfl rfl (dtrue (by decide)) rfl ?_)
      refine r_nil ?_
      refine g_seq ?_
      refine g_true rfl ?_
      refine g_skip ?_
      refine g_seq ?_
      refine g_block ?_
      refine g_seq ?_
      refine g_region ?_
      refine r_cons (s_indexAddr b 1 1 1 rfl rfl el_64 (by omega) rfl rfl ?_)
      refine r_cons (s_load (.slice pA13 ys.length cA14) ag_22 rfl (H28.blk_at (i := 0) rfl) rfl rfl ?_)
      refine r_cons (s_assign (.slice pA13 ys.length cA14) rfl rfl ?_)
      refine r_nil ?_
      refine g_seq ?_
      refine g_region ?_
      refine r_cons (s_move (.slice pA13 ys.length cA14) rfl rfl ?_)
      refine r_cons (s_len ys.length rfl ⟨_, un_22⟩ rfl ?_)
      refine r_cons (s_move (.int .i64 0) rfl rfl ?_)
      refine r_nil ?_
      refine g_block ?_
      have hS0 : crcL 4294967295 (xs.take jb25) < 4294967296 := hS
      refine g_loop_inv (fun (x_ : Nat) => match x_ with | jb39 => [(2, .int .u32 0), (3, .int .u32 ((crcL (crcL 4294967295 (xs.take jb25)) (ys.take jb39) : Nat) : Int)), (9, .slice (some ⟨b, 0, none⟩) 2 2), (10, .int .i64 2), (11, .int .i64 1), (15, .slice pA13 ys.length cA14), (16, .int .i64 (ys.length : Int)), (17, .int .i64 (jb39 : Int))]) (fun (x_ : Nat) w => match x_ with | jb39 => (jb39 ≤ ys.length) ∧ St W w (blk b (.cells #[.slice pA1 xs.length cA2, .slice pA13 ys.length cA14] 22 (0, 0)) :: imi (0 < ys.length) gA15 (.cells kA17 eA18 zA19) :: imi (0 < xs.length) gA3 (.cells kA5 eA6 zA7) :: (F.set i emp))) (fun (x_ : Nat) => match x_ with | jb39 => ys.length - jb39) (0) ?_ ?_ ?_
      · exact ⟨by first | rfl | exact vint (by omega), vint (by rw [List.take_zero, crcL_nil]), by first | rfl | exact vint (by omega), by first | rfl | exact vint (by omega), by first | rfl | exact vint (by omega), by first | rfl | exact vint (by omega), by first | rfl | exact vint (by omega), by first | rfl | exact vint (by omega), trivial⟩
      · exact ⟨(by omega), H28⟩
      · rintro jb39 ρ40 w41 ⟨hjb39, H42⟩ nx43
        change Ends _ _ (upds ρ40 [(2, .int .u32 0), (3, .int .u32 ((crcL (crcL 4294967295 (xs.take jb25)) (ys.take jb39) : Nat) : Int)), (9, .slice (some ⟨b, 0, none⟩) 2 2), (10, .int .i64 2), (11, .int .i64 1), (15, .slice pA13 ys.length cA14), (16, .int .i64 (ys.length : Int)), (17, .int .i64 (jb39 : Int))]) w41
        have hS := crcL_lt (ys.take jb39) hS0
        have hxb := (ys.getD jb39 0).toNat_lt
        refine g_seq ?_
        refine g_region ?_
        by_cases hc44 : (jb39 : Int) < (ys.length : Int)
        · skip
          refine r_cons (s_lss true rfl rfl (dtrue hc44) rfl ?_)
          refine r_nil ?_
          refine g_seq ?_
          refine g_true rfl ?_
          refine g_skip ?_
          refine g_seq ?_
          refine g_block ?_
          refine g_seq ?_
          refine g_region ?_
          refine r_cons (s_indexAddr gA15 (off := oA16) (jb39 : Int) 1 (oA16 + jb39 * 1) (by exact congrArg (fun z_ => Value.slice z_ ys.length cA14) (hp21 (by omega))) rfl el_22 (by omega) rfl rfl ?_)
          refine r_cons (s_load (.int .u8 ((ys.getD jb39 0).toNat : Int)) ag_5 rfl (H42.imi_at (i := 1) rfl (by omega)) (elem_cell (L := ys) (i := jb39) u8c_len (hx22 (by omega)) (by omega) 0 0 (by decide) _ rfl) rfl ?_)
          refine r_cons (s_assign (.int .u8 ((ys.getD jb39 0).toNat : Int)) rfl rfl ?_)
          refine r_nil ?_
          refine g_seq ?_
          refine g_region ?_
          refine r_cons (s_move (.int .u32 ((crcL (crcL 4294967295 (xs.take jb25)) (ys.take jb39) : Nat) : Int)) rfl rfl ?_)
          refine r_cons (s_move (.int .u8 ((ys.getD jb39 0).toNat : Int)) rfl rfl ?_)
          refine r_cons (s_conv ((ys.getD jb39 0).toNat : Int) rfl us_5 ik_37 (wu32 (by omega)) rfl ?_)
          refine r_cons (s_shl (((ys.getD jb39 0).toNat * 16777216 : Nat) : Int) rfl rfl (by omega) (crc_shl24 _) rfl ?_)
          refine r_cons (s_xor ((crcX (crcL (crcL 4294967295 (xs.take jb25)) (ys.take jb39)) (ys.getD jb39 0) : Nat) : Int) rfl rfl (crc_xor _ hS) rfl ?_)
          refine r_cons (s_assign (.int .u32 ((crcX (crcL (crcL 4294967295 (xs.take jb25)) (ys.take jb39)) (ys.getD jb39 0) : Nat) : Int)) rfl rfl ?_)
          refine r_nil ?_
          refine g_seq ?_
          refine g_region ?_
          refine r_cons (s_move (.int .i64 0) rfl rfl ?_)
          refine r_nil ?_
          refine g_block ?_
          have hX : crcX (crcL (crcL 4294967295 (xs.take jb25)) (ys.take jb39)) (ys.getD jb39 0) < 4294967296 := crcX_lt _ hS
          refine g_loop_inv (fun (x_ : Nat) => match x_ with | kb45 => [(2, .int .u32 0), (3, .int .u32 ((crcBits kb45 (crcX (crcL (crcL 4294967295 (xs.take jb25)) (ys.take jb39)) (ys.getD jb39 0)) : Nat) : Int)), (9, .slice (some ⟨b, 0, none⟩) 2 2), (10, .int .i64 2), (11, .int .i64 1), (15, .slice pA13 ys.length cA14), (16, .int .i64 (ys.length : Int)), (17, .int .i64 (jb39 : Int)), (26, .int .i64 (kb45 : Int))]) (fun (x_ : Nat) w => match x_ with | kb45 => (kb45 ≤ 8) ∧ St W w (blk b (.cells #[.slice pA1 xs.length cA2, .slice pA13 ys.length cA14] 22 (0, 0)) :: imi (0 < ys.length) gA15 (.cells kA17 eA18 zA19) :: imi (0 < xs.length) gA3 (.cells kA5 eA6 zA7) :: (F.set i emp))) (fun (x_ : Nat) => match x_ with | kb45 => 8 - kb45) (0) ?_ ?_ ?_
          · exact ⟨by first | rfl | exact vint (by omega), by first | rfl | exact vint (by omega), by first | rfl | exact vint (by omega), by first | rfl | exact vint (by omega), by first | rfl | exact vint (by omega), by first | rfl | exact vint (by omega), by first | rfl | exact vint (by omega), by first | rfl | exact vint (by omega), by first | rfl | exact vint (by omega), trivial⟩
          · exact ⟨(by omega), H42⟩
          · rintro kb45 ρ46 w47 ⟨hkb45, H48⟩ nx49
            change Ends _ _ (upds ρ46 [(2, .int .u32 0), (3, .int .u32 ((crcBits kb45 (crcX (crcL (crcL 4294967295 (xs.take jb25)) (ys.take jb39)) (ys.getD jb39 0)) : Nat) : Int)), (9, .slice (some ⟨b, 0, none⟩) 2 2), (10, .int .i64 2), (11, .int .i64 1), (15, .slice pA13 ys.length cA14), (16, .int .i64 (ys.length : Int)), (17, .int .i64 (jb39 : Int)), (26, .int .i64 (kb45 : Int))]) w47
            have hck := crcBits_lt hX kb45
            refine g_seq ?_
            refine g_region ?_
            by_cases hc50 : (kb45 : Int) < 8
            · skip
              refine r_cons (s_lss true rfl rfl (dtrue hc50) rfl ?_)
              refine r_nil ?_
              refine g_seq ?_
              refine g_true rfl ?_
              refine g_skip ?_
              refine g_seq ?_
              refine g_block ?_
              refine g_seq ?_
              refine g_region ?_
              refine r_cons (s_move (.int .u32 ((crcBits kb45 (crcX (crcL (crcL 4294967295 (xs.take jb25)) (ys.take jb39)) (ys.getD jb39 0)) : Nat) : Int)) rfl rfl ?_)
              refine r_cons (s_shr (((crcBits kb45 (crcX (crcL (crcL 4294967295 (xs.take jb25)) (ys.take jb39)) (ys.getD jb39 0))) / 2 ^ 31 : Nat) : Int) rfl rfl (by omega) (shr_nat (k := 31) rfl (by decide)) rfl ?_)
              refine r_cons (s_assign (.int .u32 (((crcBits kb45 (crcX (crcL (crcL 4294967295 (xs.take jb25)) (ys.take jb39)) (ys.getD jb39 0))) / 2 ^ 31 : Nat) : Int)) rfl rfl ?_)
              refine r_nil ?_
              refine g_seq ?_
              refine g_region ?_
              refine r_cons (s_move (.int .u32 ((crcBits kb45 (crcX (crcL (crcL 4294967295 (xs.take jb25)) (ys.take jb39)) (ys.getD jb39 0)) : Nat) : Int)) rfl rfl ?_)
              refine r_cons (s_shl ((2 * (crcBits kb45 (crcX (crcL (crcL 4294967295 (xs.take jb25)) (ys.take jb39)) (ys.getD jb39 0))) % 4294967296 : Nat) : Int) rfl rfl (by omega) (crc_shl1 _) rfl ?_)
              refine r_cons (s_assign (.int .u32 ((2 * (crcBits kb45 (crcX (crcL (crcL 4294967295 (xs.take jb25)) (ys.take jb39)) (ys.getD jb39 0))) % 4294967296 : Nat) : Int)) rfl rfl ?_)
              refine r_nil ?_
              refine g_seq ?_
              refine g_region ?_
              refine r_cons (s_move (.int .u32 (((crcBits kb45 (crcX (crcL (crcL 4294967295 (xs.take jb25)) (ys.take jb39)) (ys.getD jb39 0))) / 2 ^ 31 : Nat) : Int)) rfl rfl ?_)
              by_cases hc51 : (((crcBits kb45 (crcX (crcL (crcL 4294967295 (xs.take jb25)) (ys.take jb39)) (ys.getD jb39 0))) / 2 ^ 31 : Nat) : Int) = 1
              · skip
                refine r_cons (s_eql true rfl rfl (dtrue hc51) rfl ?_)
                refine r_nil ?_
                refine g_true rfl ?_
                refine g_region ?_
                refine r_cons (s_move (.int .u32 ((2 * (crcBits kb45 (crcX (crcL (crcL 4294967295 (xs.take jb25)) (ys.take jb39)) (ys.getD jb39 0))) % 4294967296 : Nat) : Int)) rfl rfl ?_)
                refine r_cons (s_xor (((2 * (crcBits kb45 (crcX (crcL (crcL 4294967295 (xs.take jb25)) (ys.take jb39)) (ys.getD jb39 0))) % 4294967296) ^^^ 79764919 : Nat) : Int) rfl rfl (crc_poly (Nat.mod_lt _ (by decide))) rfl ?_)
                refine r_cons (s_assign (.int .u32 (((2 * (crcBits kb45 (crcX (crcL (crcL 4294967295 (xs.take jb25)) (ys.take jb39)) (ys.getD jb39 0))) % 4294967296) ^^^ 79764919 : Nat) : Int)) rfl rfl ?_)
                refine r_nil ?_
                refine g_inBlock ?_
                refine g_region ?_
                refine r_cons (s_add ((kb45 : Int) + 1) rfl rfl (wi64 (by omega)) rfl ?_)
                refine r_cons (s_move (.int .i64 ((kb45 : Int) + 1)) rfl rfl ?_)
                refine r_nil ?_
                exact nx49 (kb45 + 1) _ _ ⟨(by omega), H48⟩ (by first | (dsimp only; omega) | omega) ⟨by first | rfl | exact vint (by omega), vint (by rw [show crcBits (kb45 + 1) (crcX (crcL (crcL 4294967295 (xs.take jb25)) (ys.take jb39)) (ys.getD jb39 0)) = crcBit (crcBits kb45 (crcX (crcL (crcL 4294967295 (xs.take jb25)) (ys.take jb39)) (ys.getD jb39 0))) from rfl]; first | rw [crcBit_hi (by omega)] | rw [crcBit_lo (by omega)]), by first | rfl | exact vint (by omega), by first | rfl | exact vint (by omega), by first | rfl | exact vint (by omega), by first | rfl | exact vint (by omega), by first | rfl | exact vint (by omega), by first | rfl | exact vint (by omega), by first | rfl | exact vint (by omega), trivial⟩
              · skip
                refine r_cons (s_eql false rfl rfl (dfalse hc51) rfl ?_)
                refine r_nil ?_
                refine g_false rfl ?_
                refine g_skip ?_
                refine g_inBlock ?_
                refine g_region ?_
                refine r_cons (s_add ((kb45 : Int) + 1) rfl rfl (wi64 (by omega)) rfl ?_)
                refine r_cons (s_move (.int .i64 ((kb45 : Int) + 1)) rfl rfl ?_)
                refine r_nil ?_
                exact nx49 (kb45 + 1) _ _ ⟨(by omega), H48⟩ (by first | (dsimp only; omega) | omega) ⟨by first | rfl | exact vint (by omega), vint (by rw [show crcBits (kb45 + 1) (crcX (crcL (crcL 4294967295 (xs.take jb25)) (ys.take jb39)) (ys.getD jb39 0)) = crcBit (crcBits kb45 (crcX (crcL (crcL 4294967295 (xs.take jb25)) (ys.take jb39)) (ys.getD jb39 0))) from rfl]; first | rw [crcBit_hi (by omega)] | rw [crcBit_lo (by omega)]), by first | rfl | exact vint (by omega), by first | rfl | exact vint (by omega), by first | rfl | exact vint (by omega), by first | rfl | exact vint (by omega), by first | rfl | exact vint (by omega), by first | rfl | exact vint (by omega), by first | rfl | exact vint (by omega), trivial⟩
            · skip
              refine r_cons (s_lss false rfl rfl (dfalse hc50) rfl ?_)
              refine r_nil ?_
              refine g_seq ?_
              refine g_false rfl ?_
              refine g_exit (by rfl) ?_
              refine g_inBlock ?_
              refine g_region ?_
              refine r_cons (s_add ((jb39 : Int) + 1) rfl rfl (wi64 (by omega)) rfl ?_)
              refine r_cons (s_move (.int .i64 ((jb39 : Int) + 1)) rfl rfl ?_)
              refine r_nil ?_
              have H52 : St W w47 (blk b (.cells #[.slice pA1 xs.length cA2, .slice pA13 ys.length cA14] 22 (0, 0)) :: imi (0 < ys.length) gA15 (.cells kA17 eA18 zA19) :: imi (0 < xs.length) gA3 (.cells kA5 eA6 zA7) :: (F.set i emp)) := (((H48.move 2 rfl).move 2 rfl).move 2 rfl)
              exact nx43 (jb39 + 1) _ _ ⟨(by omega), H52⟩ (by first | (dsimp only; omega) | omega) ⟨by first | rfl | exact vint (by omega), vint (by rw [crcL_take (by omega)]; unfold crcByte; rw [show kb45 = 8 from by omega]), by first | rfl | exact vint (by omega), by first | rfl | exact vint (by omega), by first | rfl | exact vint (by omega), by first | rfl | exact vint (by omega), by first | rfl | exact vint (by omega), by first | rfl | exact vint (by omega), trivial⟩
        · skip
          refine r_cons (s_lss false rfl rfl (dfalse hc44) rfl ?_)
          refine r_nil ?_
          refine g_seq ?_
          refine g_false rfl ?_
          refine g_exit (by rfl) ?_
          refine g_inBlock ?_
          refine g_region ?_
          refine r_cons (s_add 2 rfl rfl (wi64 (by omega)) rfl ?_)
          refine r_cons (s_move (.int .i64 2) rfl rfl ?_)
          refine r_nil ?_
          refine g_inLoop ?_
          refine g_seq ?_
          refine g_region ?_
          refine r_cons (s_lss false rfl rfl (dfalse (by decide)) rfl ?_)
          refine r_nil ?_
          refine g_seq ?_
          refine g_false rfl ?_
          refine g_exit (by rfl) ?_
          refine g_seq ?_
          refine g_region ?_
          refine r_cons (s_move (.int .u32 ((crcL (crcL 4294967295 (xs.take jb25)) (ys.take jb39) : Nat) : Int)) rfl rfl ?_)
          refine r_cons (s_compl (((crcL (crcL 4294967295 (xs.take jb25)) (ys.take jb39)) ^^^ 4294967295 : Nat) : Int) rfl (crc_not hS) rfl ?_)
          refine r_cons (s_assign (.int .u32 (((crcL (crcL 4294967295 (xs.take jb25)) (ys.take jb39)) ^^^ 4294967295 : Nat) : Int)) rfl rfl ?_)
          refine r_nil ?_
          refine g_ret' [.int .u32 (((crcL (crcL 4294967295 (xs.take jb25)) (ys.take jb39)) ^^^ 4294967295 : Nat) : Int)] Try.func20 Try.results20 ⟨rfl, trivial⟩ ?_
          obtain rfl : jb25 = xs.length := by omega
          obtain rfl : jb39 = ys.length := by omega
          have H53 : St W w41 (blk b (.cells #[.slice pA1 xs.length cA2, .slice pA13 ys.length cA14] 22 (0, 0)) :: (F.set i emp)) := ((H42.drop 1 rfl).drop 1 rfl)
          exact ⟨vint (by simp only [List.take_length]; unfold sumN; rw [crcL_append]), St.back_same hi H53⟩
set_option maxHeartbeats 4000000 in
set_option maxRecDepth 100000 in
theorem Sum1_row {W w : World} {F : List Atom} (b : Nat) (xs : List UInt8) (v0 : Value) (H : St W w (blk b (.cells #[v0] 22 (0, 0)) :: Row 5 1 v0 xs.length (xs.flatMap u8c) :: F)) : Calls Try.prog 20 #[.slice (some ⟨b, 0, none⟩) 1 1] w (Ret fun v w' => v = .int .u32 ((sumN xs : Nat) : Int) ∧ St W w' (blk b (.cells #[v0] 22 (0, 0)) :: Row 5 1 v0 xs.length (xs.flatMap u8c) :: F)) := by
  obtain ⟨pp, cc, rfl⟩ := Row.slice (i := 1) H rfl
  have hmx := Row.max (i := 1) H rfl
  unfold maxLen at hmx
  refine calls_of_go (n := 41) Try.func20 rfl Try.ntmps20 rfl ?_
  refine g_seq ?_
  refine g_region ?_
  refine r_cons (s_assign (.int .u32 0) rfl rfl ?_)
  refine r_nil ?_
  refine g_seq ?_
  refine g_region ?_
  refine r_cons (s_assign (.int .u32 4294967295) rfl rfl ?_)
  refine r_nil ?_
  refine g_seq ?_
  refine g_seq ?_
  refine g_region ?_
  refine r_cons (s_move (.slice (some ⟨b, 0, none⟩) 1 1) rfl rfl ?_)
  refine r_cons (s_len 1 rfl ⟨_, un_64⟩ rfl ?_)
  refine r_cons (s_move (.int .i64 0) rfl rfl ?_)
  refine r_nil ?_
  refine g_block ?_
  refine g_loop ?_
  refine g_seq ?_
  refine g_region ?_
  refine r_cons (s_lss true rfl rfl (dtrue (by decide)) rfl ?_)
  refine r_nil ?_
  refine g_seq ?_
  refine g_true rfl ?_
  refine g_skip ?_
  refine g_seq ?_
  refine g_block ?_
  refine g_seq ?_
  refine g_region ?_
  refine r_cons (s_indexAddr b 0 1 0 rfl rfl el_64 (by omega) rfl rfl ?_)
  refine r_cons (s_load (.slice pp xs.length cc) ag_22 rfl (H.blk_at (i := 0) rfl) rfl rfl ?_)
  refine r_cons (s_assign (.slice pp xs.length cc) rfl rfl ?_)
  refine r_nil ?_
  refine g_seq ?_
  refine g_region ?_
  refine r_cons (s_move (.slice pp xs.length cc) rfl rfl ?_)
  refine r_cons (s_len xs.length rfl ⟨_, un_22⟩ rfl ?_)
  refine r_cons (s_move (.int .i64 0) rfl rfl ?_)
  refine r_nil ?_
  refine g_block ?_
  have hS0 : 4294967295 < 4294967296 := (by decide)
  refine g_loop_inv (fun (x_ : Nat) => match x_ with | jb1 => [(2, .int .u32 0), (3, .int .u32 ((crcL 4294967295 (xs.take jb1) : Nat) : Int)), (9, .slice (some ⟨b, 0, none⟩) 1 1), (10, .int .i64 1), (11, .int .i64 0), (15, .slice pp xs.length cc), (16, .int .i64 (xs.length : Int)), (17, .int .i64 (jb1 : Int))]) (fun (x_ : Nat) w => match x_ with | jb1 => (jb1 ≤ xs.length) ∧ St W w (blk b (.cells #[.slice pp xs.length cc] 22 (0, 0)) :: Row 5 1 (.slice pp xs.length cc) xs.length (xs.flatMap u8c) :: F)) (fun (x_ : Nat) => match x_ with | jb1 => xs.length - jb1) (0) ?_ ?_ ?_
  · exact ⟨by first | rfl | exact vint (by omega), vint (by rw [List.take_zero, crcL_nil]; rfl), by first | rfl | exact vint (by omega), by first | rfl | exact vint (by omega), by first | rfl | exact vint (by omega), by first | rfl | exact vint (by omega), by first | rfl | exact vint (by omega), by first | rfl | exact vint (by omega), trivial⟩
  · exact ⟨(by omega), H⟩
  · rintro jb1 ρ2 w3 ⟨hjb1, H4⟩ nx5
    change Ends _ _ (upds ρ2 [(2, .int .u32 0), (3, .int .u32 ((crcL 4294967295 (xs.take jb1) : Nat) : Int)), (9, .slice (some ⟨b, 0, none⟩) 1 1), (10, .int .i64 1), (11, .int .i64 0), (15, .slice pp xs.length cc), (16, .int .i64 (xs.length : Int)), (17, .int .i64 (jb1 : Int))]) w3
    have hS := crcL_lt (xs.take jb1) hS0
    have hxb := (xs.getD jb1 0).toNat_lt
    refine g_seq ?_
    refine g_region ?_
    by_cases hc6 : (jb1 : Int) < (xs.length : Int)
    · skip
      refine r_cons (s_lss true rfl rfl (dtrue hc6) rfl ?_)
      refine r_nil ?_
      refine g_seq ?_
      refine g_true rfl ?_
      refine g_skip ?_
      refine g_seq ?_
      refine g_block ?_
      refine g_seq ?_
      refine g_region ?_
      have hxl : xs.length = xs.length := rfl
      obtain ⟨bk7, cur8, hp9, h10, h11, h12, h13, h14, H15⟩ := Row.open2 H4 (i := 1) rfl (by omega)
      refine r_cons (s_indexAddr bk7 (off := 0) (jb1 : Int) 1 (0 + jb1 * 1) (by exact congrArg (fun z_ => Value.slice z_ xs.length cc) ((fun (_ : 0 < 1) => hp9) (by omega))) rfl el_22 (by omega) rfl rfl ?_)
      refine r_cons (s_load (.int .u8 ((xs.getD jb1 0).toNat : Int)) ag_5 rfl (H15.blk_at (i := 1) rfl) (elem_cell (L := xs) (i := jb1) u8c_len (by rw [hxl]; exact h13) (by have hh : xs.length = xs.length := hxl; omega) 0 0 (by decide) _ rfl) rfl ?_)
      refine r_cons (s_assign (.int .u8 ((xs.getD jb1 0).toNat : Int)) rfl rfl ?_)
      refine r_nil ?_
      refine g_seq ?_
      refine g_region ?_
      refine r_cons (s_move (.int .u32 ((crcL 4294967295 (xs.take jb1) : Nat) : Int)) rfl rfl ?_)
      refine r_cons (s_move (.int .u8 ((xs.getD jb1 0).toNat : Int)) rfl rfl ?_)
      refine r_cons (s_conv ((xs.getD jb1 0).toNat : Int) rfl us_5 ik_37 (wu32 (by omega)) rfl ?_)
      refine r_cons (s_shl (((xs.getD jb1 0).toNat * 16777216 : Nat) : Int) rfl rfl (by omega) (crc_shl24 _) rfl ?_)
      refine r_cons (s_xor ((crcX (crcL 4294967295 (xs.take jb1)) (xs.getD jb1 0) : Nat) : Int) rfl rfl (crc_xor _ hS) rfl ?_)
      refine r_cons (s_assign (.int .u32 ((crcX (crcL 4294967295 (xs.take jb1)) (xs.getD jb1 0) : Nat) : Int)) rfl rfl ?_)
      refine r_nil ?_
      refine g_seq ?_
      refine g_region ?_
      refine r_cons (s_move (.int .i64 0) rfl rfl ?_)
      refine r_nil ?_
      refine g_block ?_
      have hX : crcX (crcL 4294967295 (xs.take jb1)) (xs.getD jb1 0) < 4294967296 := crcX_lt _ hS
      refine g_loop_inv (fun (x_ : Nat) => match x_ with | kb16 => [(2, .int .u32 0), (3, .int .u32 ((crcBits kb16 (crcX (crcL 4294967295 (xs.take jb1)) (xs.getD jb1 0)) : Nat) : Int)), (9, .slice (some ⟨b, 0, none⟩) 1 1), (10, .int .i64 1), (11, .int .i64 0), (15, .slice pp xs.length cc), (16, .int .i64 (xs.length : Int)), (17, .int .i64 (jb1 : Int)), (26, .int .i64 (kb16 : Int))]) (fun (x_ : Nat) w => match x_ with | kb16 => (kb16 ≤ 8) ∧ St W w (blk b (.cells #[.slice pp xs.length cc] 22 (0, 0)) :: blk bk7 (.cells cur8 5 (0, 0)) :: F)) (fun (x_ : Nat) => match x_ with | kb16 => 8 - kb16) (0) ?_ ?_ ?_
      · exact ⟨by first | rfl | exact vint (by omega), by first | rfl | exact vint (by omega), by first | rfl | exact vint (by omega), by first | rfl | exact vint (by omega), by first | rfl | exact vint (by omega), by first | rfl | exact vint (by omega), by first | rfl | exact vint (by omega), by first | rfl | exact vint (by omega), by first | rfl | exact vint (by omega), trivial⟩
      · exact ⟨(by omega), H15⟩
      · rintro kb16 ρ17 w18 ⟨hkb16, H19⟩ nx20
        change Ends _ _ (upds ρ17 [(2, .int .u32 0), (3, .int .u32 ((crcBits kb16 (crcX (crcL 4294967295 (xs.take jb1)) (xs.getD jb1 0)) : Nat) : Int)), (9, .slice (some ⟨b, 0, none⟩) 1 1), (10, .int .i64 1), (11, .int .i64 0), (15, .slice pp xs.length cc), (16, .int .i64 (xs.length : Int)), (17, .int .i64 (jb1 : Int)), (26, .int .i64 (kb16 : Int))]) w18
        have hck := crcBits_lt hX kb16
        refine g_seq ?_
        refine g_region ?_
        by_cases hc21 : (kb16 : Int) < 8
        · skip
          refine r_cons (s_lss true rfl rfl (dtrue hc21) rfl ?_)
          refine r_nil ?_
          refine g_seq ?_
          refine g_true rfl ?_
          refine g_skip ?_
          refine g_seq ?_
          refine g_block ?_
          refine g_seq ?_
          refine g_region ?_
          refine r_cons (s_move (.int .u32 ((crcBits kb16 (crcX (crcL 4294967295 (xs.take jb1)) (xs.getD jb1 0)) : Nat) : Int)) rfl rfl ?_)
          refine r_cons (s_shr (((crcBits kb16 (crcX (crcL 4294967295 (xs.take jb1)) (xs.getD jb1 0))) / 2 ^ 31 : Nat) : Int) rfl rfl (by omega) (shr_nat (k := 31) rfl (by decide)) rfl ?_)
          refine r_cons (s_assign (.int .u32 (((crcBits kb16 (crcX (crcL 4294967295 (xs.take jb1)) (xs.getD jb1 0))) / 2 ^ 31 : Nat) : Int)) rfl rfl ?_)
          refine r_nil ?_
          refine g_seq ?_
          refine g_region ?_
          refine r_cons (s_move (.int .u32 ((crcBits kb16 (crcX (crcL 4294967295 (xs.take jb1)) (xs.getD jb1 0)) : Nat) : Int)) rfl rfl ?_)
          refine r_cons (s_shl ((2 * (crcBits kb16 (crcX (crcL 4294967295 (xs.take jb1)) (xs.getD jb1 0))) % 4294967296 : Nat) : Int) rfl rfl (by omega) (crc_shl1 _) rfl ?_)
          refine r_cons (s_assign (.int .u32 ((2 * (crcBits kb16 (crcX (crcL 4294967295 (xs.take jb1)) (xs.getD jb1 0))) % 4294967296 : Nat) : Int)) rfl rfl ?_)
          refine r_nil ?_
          refine g_seq ?_
          refine g_region ?_
          refine r_cons (s_move (.int .u32 (((crcBits kb16 (crcX (crcL 4294967295 (xs.take jb1)) (xs.getD jb1 0))) / 2 ^ 31 : Nat) : Int)) rfl rfl ?_)
          by_cases hc22 : (((crcBits kb16 (crcX (crcL 4294967295 (xs.take jb1)) (xs.getD jb1 0))) / 2 ^ 31 : Nat) : Int) = 1
          · skip
            refine r_cons (s_eql true rfl rfl (dtrue hc22) rfl ?_)
            refine r_nil ?_
            refine g_true rfl ?_
            refine g_region ?_
            refine r_cons (s_move (.int .u32 ((2 * (crcBits kb16 (crcX (crcL 4294967295 (xs.take jb1)) (xs.getD jb1 0))) % 4294967296 : Nat) : Int)) rfl rfl ?_)
            refine r_cons (s_xor (((2 * (crcBits kb16 (crcX (crcL 4294967295 (xs.take jb1)) (xs.getD jb1 0))) % 4294967296) ^^^ 79764919 : Nat) : Int) rfl rfl (crc_poly (Nat.mod_lt _ (by decide))) rfl ?_)
            refine r_cons (s_assign (.int .u32 (((2 * (crcBits kb16 (crcX (crcL 4294967295 (xs.take jb1)) (xs.getD jb1 0))) % 4294967296) ^^^ 79764919 : Nat) : Int)) rfl rfl ?_)
            refine r_nil ?_
            refine g_inBlock ?_
            refine g_region ?_
            refine r_cons (s_add ((kb16 : Int) + 1) rfl rfl (wi64 (by omega)) rfl ?_)
            refine r_cons (s_move (.int .i64 ((kb16 : Int) + 1)) rfl rfl ?_)
            refine r_nil ?_
            exact nx20 (kb16 + 1) _ _ ⟨(by omega), H19⟩ (by first | (dsimp only; omega) | omega) ⟨by first | rfl | exact vint (by omega), vint (by rw [show crcBits (kb16 + 1) (crcX (crcL 4294967295 (xs.take jb1)) (xs.getD jb1 0)) = crcBit (crcBits kb16 (crcX (crcL 4294967295 (xs.take jb1)) (xs.getD jb1 0))) from rfl]; first | rw [crcBit_hi (by omega)] | rw [crcBit_lo (by omega)]), by first | rfl | exact vint (by omega), by first | rfl | exact vint (by omega), by first | rfl | exact vint (by omega), by first | rfl | exact vint (by omega), by first | rfl | exact vint (by omega), by first | rfl | exact vint (by omega), by first | rfl | exact vint (by omega), trivial⟩
          · skip
            refine r_cons (s_eql false rfl rfl (dfalse hc22) rfl ?_)
            refine r_nil ?_
            refine g_false rfl ?_
            refine g_skip ?_
            refine g_inBlock ?_
            refine g_region ?_
            refine r_cons (s_add ((kb16 : Int) + 1) rfl rfl (wi64 (by omega)) rfl ?_)
            refine r_cons (s_move (.int .i64 ((kb16 : Int) + 1)) rfl rfl ?_)
            refine r_nil ?_
            exact nx20 (kb16 + 1) _ _ ⟨(by omega), H19⟩ (by first | (dsimp only; omega) | omega) ⟨by first | rfl | exact vint (by omega), vint (by rw [show crcBits (kb16 + 1) (crcX (crcL 4294967295 (xs.take jb1)) (xs.getD jb1 0)) = crcBit (crcBits kb16 (crcX (crcL 4294967295 (xs.take jb1)) (xs.getD jb1 0))) from rfl]; first | rw [crcBit_hi (by omega)] | rw [crcBit_lo (by omega)]), by first | rfl | exact vint (by omega), by first | rfl | exact vint (by omega), by first | rfl | exact vint (by omega), by first | rfl | exact vint (by omega), by first | rfl | exact vint (by omega), by first | rfl | exact vint (by omega), by first | rfl | exact vint (by omega), trivial⟩
        · skip
          refine r_cons (s_lss false rfl rfl (dfalse hc21) rfl ?_)
          refine r_nil ?_
          refine g_seq ?_
          refine g_false rfl ?_
          refine g_exit (by rfl) ?_
          refine g_inBlock ?_
          refine g_region ?_
          refine r_cons (s_add ((jb1 : Int) + 1) rfl rfl (wi64 (by omega)) rfl ?_)
          refine r_cons (s_move (.int .i64 ((jb1 : Int) + 1)) rfl rfl ?_)
          refine r_nil ?_
          have H23 := Row.shut2 (p := pp) (n := xs.length) (c := cc) (size := 1) (xs := xs.flatMap u8c) H19 (i := 1) rfl hp9 h10 h11 h12 (by have hh : (cur8.toList.drop 0).take (xs.length * 1) = xs.flatMap u8c := (by rw [hxl]; exact h13); have hk : xs.length = xs.length := hxl; rw [hk] at hh; exact hh) (one_u8 _)
          have H24 : St W w18 (blk b (.cells #[.slice pp xs.length cc] 22 (0, 0)) :: Row 5 1 (.slice pp xs.length cc) xs.length (xs.flatMap u8c) :: F) := ((H23.move 1 rfl).move 1 rfl)
          exact nx5 (jb1 + 1) _ _ ⟨(by omega), H24⟩ (by first | (dsimp only; omega) | omega) ⟨by first | rfl | exact vint (by omega), vint (by rw [crcL_take (by omega)]; unfold crcByte; rw [show kb16 = 8 from by omega]), by first | rfl | exact vint (by omega), by first | rfl | exact vint (by omega), by first | rfl | exact vint (by omega), by first | rfl | exact vint (by omega), by first | rfl | exact vint (by omega), by first | rfl | exact vint (by omega), trivial⟩
    · skip
      refine r_cons (s_lss false rfl rfl (dfalse hc6) rfl ?_)
      refine r_nil ?_
      refine g_seq ?_
      refine g_false rfl ?_
      refine g_exit (by rfl) ?_
      refine g_inBlock ?_
      refine g_region ?_
      refine r_cons (s_add 1 rfl rfl (wi64 (by omega)) rfl ?_)
      refine r_cons (s_move (.int .i64 1) rfl rfl ?_)
      refine r_nil ?_
      refine g_inLoop ?_
      refine g_seq ?_
      refine g_region ?_
      refine r_cons (s_lss false rfl rfl (dfalse (by decide)) rfl ?_)
      refine r_nil ?_
      refine g_seq ?_
      refine g_false rfl ?_
      refine g_exit (by rfl) ?_
      refine g_seq ?_
      refine g_region ?_
      refine r_cons (s_move (.int .u32 ((crcL 4294967295 (xs.take jb1) : Nat) : Int)) rfl rfl ?_)
      refine r_cons (s_compl (((crcL 4294967295 (xs.take jb1)) ^^^ 4294967295 : Nat) : Int) rfl (crc_not hS) rfl ?_)
      refine r_cons (s_assign (.int .u32 (((crcL 4294967295 (xs.take jb1)) ^^^ 4294967295 : Nat) : Int)) rfl rfl ?_)
      refine r_nil ?_
      refine g_ret' [.int .u32 (((crcL 4294967295 (xs.take jb1)) ^^^ 4294967295 : Nat) : Int)] Try.func20 Try.results20 ⟨rfl, trivial⟩ ?_
      obtain rfl : jb1 = xs.length := by omega
      have H25 : St W w3 (blk b (.cells #[.slice pp xs.length cc] 22 (0, 0)) :: Row 5 1 (.slice pp xs.length cc) xs.length (xs.flatMap u8c) :: F) := ((H4.move 1 rfl).move 1 rfl)
      exact ⟨vint (by simp only [List.take_length]; rfl), H25⟩
set_option maxHeartbeats 4000000 in
set_option maxRecDepth 100000 in
theorem frame_form {W w : World} {F : List Atom} (d : DgM) (bv_d : Value) (hd : dgE d = 0) {A_d : Atom} (hA_d : RdA A_d 1 bv_d d.body.length (d.body.flatMap u8c)) {j : Nat} (hj : F[j]? = some A_d) (H : St W w F) : Calls Try.prog 36 #[.agg #[.int .i64 d.frm.v, .int .i64 d.to_.v, .int .i64 d.kind.v, .int .i64 d.seq.v, .int .i64 d.ack.v, bv_d]] w (Ret fun v w' => ∃ p n c, v = .slice p n c ∧ n = (dgHead d).length ∧ St W w' (Row 5 1 (.slice p n c) n ((dgHead d).flatMap u8c) :: F)) := by
  have hml := (hA_d _ _ _ j H hj).2
  obtain ⟨pp1, cc2, rfl, hn3⟩ := Rd.shape (hA_d _ _ _ j H hj).1
  obtain ⟨hd1, hd2, hd3, hd4, hd5, hd6, hd7, hd8, hd9, hd10, hd11⟩ := dgE_is hd
  have hz1 := sizeU_le (u := d.ack.v.toNat) (by omega)
  have hz2 := sizeU_le (u := d.seq.v.toNat) (by omega)
  have hz3 := sizeU_le (u := d.body.length) (by omega)
  have hbsz : (bstr d.body).size = d.body.length := rfl
  have hz4 := sizeU_le (u := (bstr d.body).size) (by rw [hbsz]; omega)
  have htb : (textB (bstr d.body)).length = sizeU d.body.length + 8 * d.body.length := by rw [textB_len]; rfl
  refine calls_of_go (n := 40) Try.func36 rfl Try.ntmps36 rfl ?_
  refine g_seq ?_
  refine g_region ?_
  refine r_cons (s_box H 24 (.agg #[.int .i64 d.frm.v, .int .i64 d.to_.v, .int .i64 d.kind.v, .int .i64 d.seq.v, .int .i64 d.ack.v, .slice pp1 d.body.length cc2]) rfl (cs := #[.int .i64 d.frm.v, .int .i64 d.to_.v, .int .i64 d.kind.v, .int .i64 d.seq.v, .int .i64 d.ack.v, .slice pp1 d.body.length cc2]) rfl rfl ?_); intro bk4 w5 H6
  refine r_cons (s_assign (.slice none 0 0) rfl rfl ?_)
  refine r_nil ?_
  refine g_seq ?_
  refine g_region ?_
  refine r_cons (s_call [] pl_50 rfl rfl (NewSink H6) ?_)
  rintro _ w8 ⟨bk7, rfl, H9⟩
  refine r_cons (s_assign (.pointer (some ⟨bk7, 0, none⟩)) rfl rfl ?_)
  refine r_nil ?_
  refine g_seq ?_
  refine g_region ?_
  refine r_cons (s_move (.pointer (some ⟨bk7, 0, none⟩)) rfl rfl ?_)
  refine r_cons (s_fieldAddr 24 2 2 2 3 rfl fi_24_2 rfl rfl ?_)
  refine r_cons (s_load (.int .i64 d.kind.v) ag_3 rfl (H9.blk_at (i := 1) rfl) rfl rfl ?_)
  refine r_cons (s_conv ((d.kind.v.toNat : Nat) : Int) rfl us_3 ik_54 ((wu64 (by omega)).trans (by omega)) rfl ?_)
  refine r_cons (s_call [.pointer (some ⟨bk7, 0, none⟩), .int .u64 ((d.kind.v.toNat : Nat) : Int), .int .i64 2] pl_51 rfl rfl (Sink_Bits bk7 [] d.kind.v.toNat 2 (by omega) (by first | omega | (simp only [List.length_append, List.length_nil, lowB_len, natB_len]; omega) | (repeat (first | exact Nat.zero_le _ | assumption | refine putL_le ?_ | refine bitsL_le ?_ | refine evPutL_le ?_ | (simp only [List.length_append, List.length_nil, lowB_len, natB_len]; omega)))) (i := 0) rfl H9) ?_)
  rintro _ w10 ⟨rfl, H11⟩
  have hk12 : bitsE [] d.kind.v.toNat 2 = 0 ∧ bitsL [] d.kind.v.toNat 2 = lowB d.kind.v.toNat 2 := by have hh_ := (by have hh := bits_ok (L := ([] : List Bool)) (u := d.kind.v.toNat) (n := 2) (fits_small (k := 2) rfl (by decide) (by omega)) (by (try simp only [List.length_append, List.length_nil, lowB_len, natB_len]); omega); exact hh); rw [List.nil_append] at hh_; exact hh_
  have H14 : St W w10 (SinkA bk7 (lowB d.kind.v.toNat 2) :: blk bk4 (.cells #[.int .i64 d.frm.v, .int .i64 d.to_.v, .int .i64 d.kind.v, .int .i64 d.seq.v, .int .i64 d.ack.v, .slice pp1 d.body.length cc2] 24 (0, 0)) :: F) := by rw [← hk12.2]; exact H11
  refine r_nil ?_
  refine g_seq ?_
  refine g_region ?_
  refine r_cons (s_move (.pointer (some ⟨bk7, 0, none⟩)) rfl rfl ?_)
  refine r_cons (s_fieldAddr 24 0 0 0 3 rfl fi_24_0 rfl rfl ?_)
  refine r_cons (s_load (.int .i64 d.frm.v) ag_3 rfl (H14.blk_at (i := 1) rfl) rfl rfl ?_)
  refine r_cons (s_conv ((d.frm.v.toNat : Nat) : Int) rfl us_3 ik_54 ((wu64 (by omega)).trans (by omega)) rfl ?_)
  refine r_cons (s_call [.pointer (some ⟨bk7, 0, none⟩), .int .u64 ((d.frm.v.toNat : Nat) : Int), .int .i64 4] pl_51 rfl rfl (Sink_Bits bk7 (lowB d.kind.v.toNat 2) d.frm.v.toNat 4 (by omega) (by first | omega | (simp only [List.length_append, List.length_nil, lowB_len, natB_len]; omega) | (repeat (first | exact Nat.zero_le _ | assumption | refine putL_le ?_ | refine bitsL_le ?_ | refine evPutL_le ?_ | (simp only [List.length_append, List.length_nil, lowB_len, natB_len]; omega)))) (i := 0) rfl H14) ?_)
  rintro _ w15 ⟨rfl, H16⟩
  have hk17 : bitsE (lowB d.kind.v.toNat 2) d.frm.v.toNat 4 = 0 ∧ bitsL (lowB d.kind.v.toNat 2) d.frm.v.toNat 4 = lowB d.kind.v.toNat 2 ++ lowB d.frm.v.toNat 4 := (by have hh := bits_ok (L := lowB d.kind.v.toNat 2) (u := d.frm.v.toNat) (n := 4) (fits_small (k := 4) rfl (by decide) (by omega)) (by (try simp only [List.length_append, List.length_nil, lowB_len, natB_len]); omega); exact hh)
  have H19 : St W w15 (SinkA bk7 (lowB d.kind.v.toNat 2 ++ lowB d.frm.v.toNat 4) :: blk bk4 (.cells #[.int .i64 d.frm.v, .int .i64 d.to_.v, .int .i64 d.kind.v, .int .i64 d.seq.v, .int .i64 d.ack.v, .slice pp1 d.body.length cc2] 24 (0, 0)) :: F) := by rw [← hk17.2]; exact H16
  refine r_nil ?_
  refine g_seq ?_
  refine g_region ?_
  refine r_cons (s_move (.pointer (some ⟨bk7, 0, none⟩)) rfl rfl ?_)
  refine r_cons (s_fieldAddr 24 1 1 1 3 rfl fi_24_1 rfl rfl ?_)
  refine r_cons (s_load (.int .i64 d.to_.v) ag_3 rfl (H19.blk_at (i := 1) rfl) rfl rfl ?_)
  refine r_cons (s_conv ((d.to_.v.toNat : Nat) : Int) rfl us_3 ik_54 ((wu64 (by omega)).trans (by omega)) rfl ?_)
  refine r_cons (s_call [.pointer (some ⟨bk7, 0, none⟩), .int .u64 ((d.to_.v.toNat : Nat) : Int), .int .i64 4] pl_51 rfl rfl (Sink_Bits bk7 (lowB d.kind.v.toNat 2 ++ lowB d.frm.v.toNat 4) d.to_.v.toNat 4 (by omega) (by first | omega | (simp only [List.length_append, List.length_nil, lowB_len, natB_len]; omega) | (repeat (first | exact Nat.zero_le _ | assumption | refine putL_le ?_ | refine bitsL_le ?_ | refine evPutL_le ?_ | (simp only [List.length_append, List.length_nil, lowB_len, natB_len]; omega)))) (i := 0) rfl H19) ?_)
  rintro _ w20 ⟨rfl, H21⟩
  have hk22 : bitsE (lowB d.kind.v.toNat 2 ++ lowB d.frm.v.toNat 4) d.to_.v.toNat 4 = 0 ∧ bitsL (lowB d.kind.v.toNat 2 ++ lowB d.frm.v.toNat 4) d.to_.v.toNat 4 = lowB d.kind.v.toNat 2 ++ lowB d.frm.v.toNat 4 ++ lowB d.to_.v.toNat 4 := (by have hh := bits_ok (L := lowB d.kind.v.toNat 2 ++ lowB d.frm.v.toNat 4) (u := d.to_.v.toNat) (n := 4) (fits_small (k := 4) rfl (by decide) (by omega)) (by (try simp only [List.length_append, List.length_nil, lowB_len, natB_len]); omega); exact hh)
  have H24 : St W w20 (SinkA bk7 (lowB d.kind.v.toNat 2 ++ lowB d.frm.v.toNat 4 ++ lowB d.to_.v.toNat 4) :: blk bk4 (.cells #[.int .i64 d.frm.v, .int .i64 d.to_.v, .int .i64 d.kind.v, .int .i64 d.seq.v, .int .i64 d.ack.v, .slice pp1 d.body.length cc2] 24 (0, 0)) :: F) := by rw [← hk22.2]; exact H21
  refine r_nil ?_
  refine g_seq ?_
  refine g_region ?_
  refine r_cons (s_move (.pointer (some ⟨bk7, 0, none⟩)) rfl rfl ?_)
  refine r_cons (s_fieldAddr 24 4 4 4 2 rfl fi_24_4 rfl rfl ?_)
  refine r_cons (s_load (.int .i64 d.ack.v) ag_2 rfl (H24.blk_at (i := 1) rfl) rfl rfl ?_)
  refine r_cons (s_conv ((d.ack.v.toNat : Nat) : Int) rfl us_2 ik_54 ((wu64 (by omega)).trans (by omega)) rfl ?_)
  refine r_cons (s_call [.pointer (some ⟨bk7, 0, none⟩), .int .u64 ((d.ack.v.toNat : Nat) : Int)] pl_52 rfl rfl (Sink_Nat bk7 (lowB d.kind.v.toNat 2 ++ lowB d.frm.v.toNat 4 ++ lowB d.to_.v.toNat 4) d.ack.v.toNat (by omega) (by first | omega | (simp only [List.length_append, List.length_nil, lowB_len, natB_len]; omega) | (repeat (first | exact Nat.zero_le _ | assumption | refine putL_le ?_ | refine bitsL_le ?_ | refine evPutL_le ?_ | (simp only [List.length_append, List.length_nil, lowB_len, natB_len]; omega)))) (i := 0) rfl H24) ?_)
  rintro _ w25 ⟨rfl, H26⟩
  have hk27 : putE (lowB d.kind.v.toNat 2 ++ lowB d.frm.v.toNat 4 ++ lowB d.to_.v.toNat 4) (sizeU d.ack.v.toNat : Int) = 0 ∧ putL (lowB d.kind.v.toNat 2 ++ lowB d.frm.v.toNat 4 ++ lowB d.to_.v.toNat 4) (natB d.ack.v.toNat) = lowB d.kind.v.toNat 2 ++ lowB d.frm.v.toNat 4 ++ lowB d.to_.v.toNat 4 ++ natB d.ack.v.toNat := put_ok (L := lowB d.kind.v.toNat 2 ++ lowB d.frm.v.toNat 4 ++ lowB d.to_.v.toNat 4) (by rw [natB_len]) (by (try simp only [List.length_append, List.length_nil, lowB_len, natB_len]); omega)
  have H29 : St W w25 (SinkA bk7 (lowB d.kind.v.toNat 2 ++ lowB d.frm.v.toNat 4 ++ lowB d.to_.v.toNat 4 ++ natB d.ack.v.toNat) :: blk bk4 (.cells #[.int .i64 d.frm.v, .int .i64 d.to_.v, .int .i64 d.kind.v, .int .i64 d.seq.v, .int .i64 d.ack.v, .slice pp1 d.body.length cc2] 24 (0, 0)) :: F) := by rw [← hk27.2]; exact H26
  refine r_nil ?_
  refine g_seq ?_
  refine g_seq ?_
  refine g_region ?_
  refine r_cons (s_fieldAddr 24 2 2 2 3 rfl fi_24_2 rfl rfl ?_)
  refine r_cons (s_load (.int .i64 d.kind.v) ag_3 rfl (H29.blk_at (i := 1) rfl) rfl rfl ?_)
  by_cases hc30 : d.kind.v = 1
  · skip
    refine r_cons (s_eql true rfl rfl (dtrue hc30) rfl ?_)
    refine r_nil ?_
    refine g_true rfl ?_
    refine g_seq ?_
    refine g_region ?_
    refine r_cons (s_move (.pointer (some ⟨bk7, 0, none⟩)) rfl rfl ?_)
    refine r_cons (s_fieldAddr 24 3 3 3 2 rfl fi_24_3 rfl rfl ?_)
    refine r_cons (s_load (.int .i64 d.seq.v) ag_2 rfl (H29.blk_at (i := 1) rfl) rfl rfl ?_)
    refine r_cons (s_conv ((d.seq.v.toNat : Nat) : Int) rfl us_2 ik_54 ((wu64 (by omega)).trans (by omega)) rfl ?_)
    refine r_cons (s_call [.pointer (some ⟨bk7, 0, none⟩), .int .u64 ((d.seq.v.toNat : Nat) : Int)] pl_52 rfl rfl (Sink_Nat bk7 (lowB d.kind.v.toNat 2 ++ lowB d.frm.v.toNat 4 ++ lowB d.to_.v.toNat 4 ++ natB d.ack.v.toNat) d.seq.v.toNat (by omega) (by first | omega | (simp only [List.length_append, List.length_nil, lowB_len, natB_len]; omega) | (repeat (first | exact Nat.zero_le _ | assumption | refine putL_le ?_ | refine bitsL_le ?_ | refine evPutL_le ?_ | (simp only [List.length_append, List.length_nil, lowB_len, natB_len]; omega)))) (i := 0) rfl H29) ?_)
    rintro _ w31 ⟨rfl, H32⟩
    have hk33 : putE (lowB d.kind.v.toNat 2 ++ lowB d.frm.v.toNat 4 ++ lowB d.to_.v.toNat 4 ++ natB d.ack.v.toNat) (sizeU d.seq.v.toNat : Int) = 0 ∧ putL (lowB d.kind.v.toNat 2 ++ lowB d.frm.v.toNat 4 ++ lowB d.to_.v.toNat 4 ++ natB d.ack.v.toNat) (natB d.seq.v.toNat) = lowB d.kind.v.toNat 2 ++ lowB d.frm.v.toNat 4 ++ lowB d.to_.v.toNat 4 ++ natB d.ack.v.toNat ++ natB d.seq.v.toNat := put_ok (L := lowB d.kind.v.toNat 2 ++ lowB d.frm.v.toNat 4 ++ lowB d.to_.v.toNat 4 ++ natB d.ack.v.toNat) (by rw [natB_len]) (by (try simp only [List.length_append, List.length_nil, lowB_len, natB_len]); omega)
    have H35 : St W w31 (SinkA bk7 (lowB d.kind.v.toNat 2 ++ lowB d.frm.v.toNat 4 ++ lowB d.to_.v.toNat 4 ++ natB d.ack.v.toNat ++ natB d.seq.v.toNat) :: blk bk4 (.cells #[.int .i64 d.frm.v, .int .i64 d.to_.v, .int .i64 d.kind.v, .int .i64 d.seq.v, .int .i64 d.ack.v, .slice pp1 d.body.length cc2] 24 (0, 0)) :: F) := by rw [← hk33.2]; exact H32
    refine r_nil ?_
    refine g_region ?_
    refine r_cons (s_move (.pointer (some ⟨bk7, 0, none⟩)) rfl rfl ?_)
    refine r_cons (s_fieldAddr 24 5 5 5 22 rfl fi_24_5 rfl rfl ?_)
    refine r_cons (s_load (.slice pp1 d.body.length cc2) ag_22 rfl (H35.blk_at (i := 1) rfl) rfl rfl ?_)
    refine r_cons (s_bytes_str (xs := d.body) rfl (by rw [bytesV_flat]; exact (hA_d _ _ _ (j + 2) H35 (by exact hj)).1) un_22 un_5 un_9 rfl ?_)
    refine r_cons (s_call [.pointer (some ⟨bk7, 0, none⟩), .string (bstr d.body)] pl_53 rfl rfl (Sink_Text bk7 (lowB d.kind.v.toNat 2 ++ lowB d.frm.v.toNat 4 ++ lowB d.to_.v.toNat 4 ++ natB d.ack.v.toNat ++ natB d.seq.v.toNat) (bstr d.body) (by rw [bstr_size]; omega) (by first | omega | (simp only [List.length_append, List.length_nil, lowB_len, natB_len]; omega) | (repeat (first | exact Nat.zero_le _ | assumption | refine putL_le ?_ | refine bitsL_le ?_ | refine evPutL_le ?_ | (simp only [List.length_append, List.length_nil, lowB_len, natB_len]; omega)))) (i := 0) rfl H35) ?_)
    rintro _ w36 ⟨rfl, H37⟩
    have hk38 : putE (lowB d.kind.v.toNat 2 ++ lowB d.frm.v.toNat 4 ++ lowB d.to_.v.toNat 4 ++ natB d.ack.v.toNat ++ natB d.seq.v.toNat) ((textB (bstr d.body)).length : Int) = 0 ∧ putL (lowB d.kind.v.toNat 2 ++ lowB d.frm.v.toNat 4 ++ lowB d.to_.v.toNat 4 ++ natB d.ack.v.toNat ++ natB d.seq.v.toNat) (textB (bstr d.body)) = lowB d.kind.v.toNat 2 ++ lowB d.frm.v.toNat 4 ++ lowB d.to_.v.toNat 4 ++ natB d.ack.v.toNat ++ natB d.seq.v.toNat ++ textB (bstr d.body) := put_ok (L := lowB d.kind.v.toNat 2 ++ lowB d.frm.v.toNat 4 ++ lowB d.to_.v.toNat 4 ++ natB d.ack.v.toNat ++ natB d.seq.v.toNat) rfl (by (try simp only [List.length_append, List.length_nil, lowB_len, natB_len]); omega)
    have H40 : St W w36 (SinkA bk7 (lowB d.kind.v.toNat 2 ++ lowB d.frm.v.toNat 4 ++ lowB d.to_.v.toNat 4 ++ natB d.ack.v.toNat ++ natB d.seq.v.toNat ++ textB (bstr d.body)) :: blk bk4 (.cells #[.int .i64 d.frm.v, .int .i64 d.to_.v, .int .i64 d.kind.v, .int .i64 d.seq.v, .int .i64 d.ack.v, .slice pp1 d.body.length cc2] 24 (0, 0)) :: F) := by rw [← hk38.2]; exact H37
    refine r_nil ?_
    refine g_seq ?_
    refine g_region ?_
    refine r_cons (s_move (.pointer (some ⟨bk7, 0, none⟩)) rfl rfl ?_)
    refine r_cons (s_call [.pointer (some ⟨bk7, 0, none⟩)] pl_54 rfl rfl (Sink_Out bk7 (lowB d.kind.v.toNat 2 ++ lowB d.frm.v.toNat 4 ++ lowB d.to_.v.toNat 4 ++ natB d.ack.v.toNat ++ natB d.seq.v.toNat ++ textB (bstr d.body)) (by first | omega | (simp only [List.length_append, List.length_nil, lowB_len, natB_len]; omega) | (repeat (first | exact Nat.zero_le _ | assumption | refine putL_le ?_ | refine bitsL_le ?_ | refine evPutL_le ?_ | (simp only [List.length_append, List.length_nil, lowB_len, natB_len]; omega)))) (i := 0) rfl H40) ?_)
    rintro _ w43 ⟨pp41, cc42, rfl, H44⟩
    refine r_cons (s_assign (.slice pp41 (((lowB d.kind.v.toNat 2 ++ lowB d.frm.v.toNat 4 ++ lowB d.to_.v.toNat 4 ++ natB d.ack.v.toNat ++ natB d.seq.v.toNat ++ textB (bstr d.body)).length + 7) / 8) cc42) rfl rfl ?_)
    refine r_nil ?_
    refine g_ret' [.slice pp41 (((lowB d.kind.v.toNat 2 ++ lowB d.frm.v.toNat 4 ++ lowB d.to_.v.toNat 4 ++ natB d.ack.v.toNat ++ natB d.seq.v.toNat ++ textB (bstr d.body)).length + 7) / 8) cc42] Try.func36 Try.results36 ⟨rfl, trivial⟩ ?_
    have H45 : St W w43 (Row 5 1 (.slice pp41 (((lowB d.kind.v.toNat 2 ++ lowB d.frm.v.toNat 4 ++ lowB d.to_.v.toNat 4 ++ natB d.ack.v.toNat ++ natB d.seq.v.toNat ++ textB (bstr d.body)).length + 7) / 8) cc42) (((lowB d.kind.v.toNat 2 ++ lowB d.frm.v.toNat 4 ++ lowB d.to_.v.toNat 4 ++ natB d.ack.v.toNat ++ natB d.seq.v.toNat ++ textB (bstr d.body)).length + 7) / 8) ((pk (lowB d.kind.v.toNat 2 ++ lowB d.frm.v.toNat 4 ++ lowB d.to_.v.toNat 4 ++ natB d.ack.v.toNat ++ natB d.seq.v.toNat ++ textB (bstr d.body))).flatMap u8c) :: F) := ((H44.drop 1 rfl).drop 1 rfl)
    have hdg : dgBits d = (lowB d.kind.v.toNat 2 ++ lowB d.frm.v.toNat 4 ++ lowB d.to_.v.toNat 4 ++ natB d.ack.v.toNat ++ natB d.seq.v.toNat ++ textB (bstr d.body)) := by unfold dgBits; rw [if_pos (by assumption)]; simp only [List.nil_append, List.append_nil, List.append_assoc, textB_bytes]
    refine ⟨_, _, _, rfl, ?_, ?_⟩
    · show _ = (pk (dgBits d)).length
      rw [hdg, pk_len]
    · show St W _ (Row 5 1 _ _ ((pk (dgBits d)).flatMap u8c) :: F)
      rw [hdg]
      exact H45
  · skip
    refine r_cons (s_eql false rfl rfl (dfalse hc30) rfl ?_)
    refine r_nil ?_
    refine g_false rfl ?_
    refine g_skip ?_
    refine g_seq ?_
    refine g_region ?_
    refine r_cons (s_move (.pointer (some ⟨bk7, 0, none⟩)) rfl rfl ?_)
    refine r_cons (s_call [.pointer (some ⟨bk7, 0, none⟩)] pl_54 rfl rfl (Sink_Out bk7 (lowB d.kind.v.toNat 2 ++ lowB d.frm.v.toNat 4 ++ lowB d.to_.v.toNat 4 ++ natB d.ack.v.toNat) (by first | omega | (simp only [List.length_append, List.length_nil, lowB_len, natB_len]; omega) | (repeat (first | exact Nat.zero_le _ | assumption | refine putL_le ?_ | refine bitsL_le ?_ | refine evPutL_le ?_ | (simp only [List.length_append, List.length_nil, lowB_len, natB_len]; omega)))) (i := 0) rfl H29) ?_)
    rintro _ w48 ⟨pp46, cc47, rfl, H49⟩
    refine r_cons (s_assign (.slice pp46 (((lowB d.kind.v.toNat 2 ++ lowB d.frm.v.toNat 4 ++ lowB d.to_.v.toNat 4 ++ natB d.ack.v.toNat).length + 7) / 8) cc47) rfl rfl ?_)
    refine r_nil ?_
    refine g_ret' [.slice pp46 (((lowB d.kind.v.toNat 2 ++ lowB d.frm.v.toNat 4 ++ lowB d.to_.v.toNat 4 ++ natB d.ack.v.toNat).length + 7) / 8) cc47] Try.func36 Try.results36 ⟨rfl, trivial⟩ ?_
    have H50 : St W w48 (Row 5 1 (.slice pp46 (((lowB d.kind.v.toNat 2 ++ lowB d.frm.v.toNat 4 ++ lowB d.to_.v.toNat 4 ++ natB d.ack.v.toNat).length + 7) / 8) cc47) (((lowB d.kind.v.toNat 2 ++ lowB d.frm.v.toNat 4 ++ lowB d.to_.v.toNat 4 ++ natB d.ack.v.toNat).length + 7) / 8) ((pk (lowB d.kind.v.toNat 2 ++ lowB d.frm.v.toNat 4 ++ lowB d.to_.v.toNat 4 ++ natB d.ack.v.toNat)).flatMap u8c) :: F) := ((H49.drop 1 rfl).drop 1 rfl)
    have hdg : dgBits d = (lowB d.kind.v.toNat 2 ++ lowB d.frm.v.toNat 4 ++ lowB d.to_.v.toNat 4 ++ natB d.ack.v.toNat) := by unfold dgBits; rw [if_neg (by assumption)]; simp only [List.nil_append, List.append_nil, List.append_assoc, textB_bytes]
    refine ⟨_, _, _, rfl, ?_, ?_⟩
    · show _ = (pk (dgBits d)).length
      rw [hdg, pk_len]
    · show St W _ (Row 5 1 _ _ ((pk (dgBits d)).flatMap u8c) :: F)
      rw [hdg]
      exact H50
set_option maxHeartbeats 4000000 in
set_option maxRecDepth 100000 in
theorem frame_Encode {W w : World} {F : List Atom} (d : DgM) (bv_d : Value) {A_d : Atom} (hA_d : RdA A_d 1 bv_d d.body.length (d.body.flatMap u8c)) {j : Nat} (hj : F[j]? = some A_d) (H : St W w F) : Calls Try.prog 14 #[.agg #[.int .i64 d.frm.v, .int .i64 d.to_.v, .int .i64 d.kind.v, .int .i64 d.seq.v, .int .i64 d.ack.v, bv_d]] w (Ret fun v w' => ∃ p n c, v = .tuple #[.slice p n c, .int .i64 (dgE d)] ∧ n = (dgBytes d).length ∧ St W w' (Row 5 1 (.slice p n c) n ((dgBytes d).flatMap u8c) :: F)) := by
  have hml := (hA_d _ _ _ j H hj).2
  obtain ⟨pp1, cc2, rfl, hn3⟩ := Rd.shape (hA_d _ _ _ j H hj).1
  refine calls_of_go (n := 31) Try.func14 rfl Try.ntmps14 rfl ?_
  refine g_seq ?_
  refine g_region ?_
  refine r_cons (s_box H 24 (.agg #[.int .i64 d.frm.v, .int .i64 d.to_.v, .int .i64 d.kind.v, .int .i64 d.seq.v, .int .i64 d.ack.v, .slice pp1 d.body.length cc2]) rfl (cs := #[.int .i64 d.frm.v, .int .i64 d.to_.v, .int .i64 d.kind.v, .int .i64 d.seq.v, .int .i64 d.ack.v, .slice pp1 d.body.length cc2]) rfl rfl ?_); intro bk4 w5 H6
  refine r_cons (s_assign (.slice none 0 0) rfl rfl ?_)
  refine r_cons (s_assign (.int .i64 0) rfl rfl ?_)
  refine r_nil ?_
  refine g_seq ?_
  refine g_seq ?_
  refine g_region ?_
  refine r_cons (s_loadAgg [.int .i64 d.frm.v, .int .i64 d.to_.v, .int .i64 d.kind.v, .int .i64 d.seq.v, .int .i64 d.ack.v, .slice pp1 d.body.length cc2] 6 ag_24 rfl (H6.blk_at (i := 0) rfl) (Nat.le_of_ble_eq_true rfl) rfl rfl ?_)
  refine r_cons (s_call [.agg #[.int .i64 d.frm.v, .int .i64 d.to_.v, .int .i64 d.kind.v, .int .i64 d.seq.v, .int .i64 d.ack.v, .slice pp1 d.body.length cc2]] pl_15 rfl rfl (frame_Check d _ hA_d (j := j + 1) (by exact hj) H6) ?_)
  rintro _ w7 ⟨rfl, H8⟩
  refine r_cons (s_assign (.int .i64 (dgE d)) rfl rfl ?_)
  refine r_nil ?_
  refine g_seq ?_
  refine g_region ?_
  refine r_cons (s_move (.int .i64 (dgE d)) rfl rfl ?_)
  by_cases hc9 : dgE d = 0
  · skip
    refine r_cons (s_neq false rfl rfl (ntrue hc9) rfl ?_)
    refine r_nil ?_
    refine g_false rfl ?_
    refine g_skip ?_
    refine g_seq ?_
    refine g_region ?_
    refine r_cons (s_loadAgg [.int .i64 d.frm.v, .int .i64 d.to_.v, .int .i64 d.kind.v, .int .i64 d.seq.v, .int .i64 d.ack.v, .slice pp1 d.body.length cc2] 6 ag_24 rfl (H8.blk_at (i := 0) rfl) (Nat.le_of_ble_eq_true rfl) rfl rfl ?_)
    have hd : dgE d = 0 := by assumption
    have hle := dgBits_le hd
    have hhl : (dgHead d).length ≤ 20000 := by show (pk (dgBits d)).length ≤ _; rw [pk_len]; omega
    have hsl := sumN_lt (dgHead d)
    refine r_cons (s_call [.agg #[.int .i64 d.frm.v, .int .i64 d.to_.v, .int .i64 d.kind.v, .int .i64 d.seq.v, .int .i64 d.ack.v, .slice pp1 d.body.length cc2]] pl_36 rfl rfl (frame_form d _ (by assumption) hA_d (j := j + 1) (by exact hj) H8) ?_)
    rintro _ w12 ⟨pp10, _, cc11, rfl, rfl, H13⟩
    refine r_cons (s_assign (.slice pp10 ((dgHead d).length) cc11) rfl rfl ?_)
    refine r_nil ?_
    refine g_seq ?_
    refine g_region ?_
    refine r_cons (s_move (.slice pp10 ((dgHead d).length) cc11) rfl rfl ?_)
    refine r_cons (s_buildSlice H13 1 1 (cs := #[.slice pp10 ((dgHead d).length) cc11]) #[.slice none 0 0] el_64 ze_22 (by decide) (by decide) (by kernel_rfl) rfl ?_); intro bk14 w15 H16
    have H17 : St W w15 (blk bk14 (.cells #[.slice pp10 ((dgHead d).length) cc11] 22 (0, 0)) :: Row 5 1 (.slice pp10 ((dgHead d).length) cc11) ((dgHead d).length) ((dgHead d).flatMap u8c) :: blk bk4 (.cells #[.int .i64 d.frm.v, .int .i64 d.to_.v, .int .i64 d.kind.v, .int .i64 d.seq.v, .int .i64 d.ack.v, .slice pp1 d.body.length cc2] 24 (0, 0)) :: F) := (((H16.move 2 rfl).move 2 rfl).move 2 rfl)
    refine r_cons (s_call [.slice (some ⟨bk14, 0, none⟩) 1 1] pl_20 rfl rfl (Sum1_row bk14 (dgHead d) _ H17) ?_)
    rintro _ w18 ⟨rfl, H19⟩
    refine r_cons (s_assign (.int .u32 ((sumN (dgHead d) : Nat) : Int)) rfl rfl ?_)
    refine r_nil ?_
    refine g_seq ?_
    refine g_region ?_
    refine r_cons (s_move (.slice pp10 ((dgHead d).length) cc11) rfl rfl ?_)
    refine r_cons (s_move (.int .u32 ((sumN (dgHead d) : Nat) : Int)) rfl rfl ?_)
    refine r_cons (s_shr (((sumN (dgHead d)) / 2 ^ 24 : Nat) : Int) rfl rfl (by omega) (shr_nat (k := 24) rfl (by decide)) rfl ?_)
    refine r_cons (s_conv (((sumN (dgHead d)) / 2 ^ 24 : Nat) : Int) rfl us_37 ik_5 (wu8 (by omega)) rfl ?_)
    refine r_cons (s_move (.int .u32 ((sumN (dgHead d) : Nat) : Int)) rfl rfl ?_)
    refine r_cons (s_shr (((sumN (dgHead d)) / 2 ^ 16 : Nat) : Int) rfl rfl (by omega) (shr_nat (k := 16) rfl (by decide)) rfl ?_)
    refine r_cons (s_conv (((sumN (dgHead d)) / 2 ^ 16 % 256 : Nat) : Int) rfl us_37 ik_5 (wrap8 _) rfl ?_)
    refine r_cons (s_move (.int .u32 ((sumN (dgHead d) : Nat) : Int)) rfl rfl ?_)
    refine r_cons (s_shr (((sumN (dgHead d)) / 2 ^ 8 : Nat) : Int) rfl rfl (by omega) (shr_nat (k := 8) rfl (by decide)) rfl ?_)
    refine r_cons (s_conv (((sumN (dgHead d)) / 2 ^ 8 % 256 : Nat) : Int) rfl us_37 ik_5 (wrap8 _) rfl ?_)
    refine r_cons (s_move (.int .u32 ((sumN (dgHead d) : Nat) : Int)) rfl rfl ?_)
    refine r_cons (s_conv ((sumN (dgHead d) % 256 : Nat) : Int) rfl us_37 ik_5 (wrap8 _) rfl ?_)
    refine r_cons (s_buildSlice H19 1 4 (cs := #[.int .u8 (((sumN (dgHead d)) / 2 ^ 24 : Nat) : Int), .int .u8 (((sumN (dgHead d)) / 2 ^ 16 % 256 : Nat) : Int), .int .u8 (((sumN (dgHead d)) / 2 ^ 8 % 256 : Nat) : Int), .int .u8 ((sumN (dgHead d) % 256 : Nat) : Int)]) #[.int .u8 0] el_22 ze_5 (by decide) (by decide) (by kernel_rfl) rfl ?_); intro bk20 w21 H22
    refine r_cons (s_append H22 2 rfl rfl rfl (rd_blk (H22.blk_at (i := 0) rfl) rfl (Nat.le_of_ble_eq_true rfl) (by simp [Value.oneCell'])) ap_22 (by decide) (by unfold maxLen; omega) (by omega) (n' := (dgHead d).length + 4) (xs' := (dgBytes d).flatMap u8c) (by omega) (by rw [dgBytes_yes hd, List.flatMap_append, sumB_cells hsl]; rfl) rfl ?_); intro vv23 w24 H25 hn26
    obtain ⟨pp27, cc28, rfl⟩ := Row.slice H25 (i := 2) rfl
    refine r_cons (s_assign (.slice pp27 ((dgHead d).length + 4) cc28) rfl rfl ?_)
    refine r_cons (s_assign (.int .i64 0) rfl rfl ?_)
    refine r_nil ?_
    refine g_ret' [.slice pp27 ((dgHead d).length + 4) cc28, .int .i64 0] Try.func14 Try.results14 ⟨rfl, rfl, trivial⟩ ?_
    have H29 : St W w24 (Row 5 1 (.slice pp27 ((dgHead d).length + 4) cc28) ((dgHead d).length + 4) ((dgBytes d).flatMap u8c) :: F) := ((((H25.move 2 rfl).drop 1 rfl).drop 1 rfl).drop 1 rfl)
    exact ⟨_, _, _, by rw [hd]; rfl, by rw [dgBytes_yes hd, List.length_append, sumB_len], H29⟩
  · skip
    refine r_cons (s_neq true rfl rfl (nfalse hc9) rfl ?_)
    refine r_nil ?_
    refine g_true rfl ?_
    refine g_seq ?_
    refine g_region ?_
    refine r_cons (s_move (.int .i64 (dgE d)) rfl rfl ?_)
    refine r_cons (s_assign (.slice none 0 0) rfl rfl ?_)
    refine r_cons (s_assign (.int .i64 (dgE d)) rfl rfl ?_)
    refine r_nil ?_
    refine g_ret' [.slice none 0 0, .int .i64 (dgE d)] Try.func14 Try.results14 ⟨rfl, rfl, trivial⟩ ?_
    have H30 := Row.nil_intro H8 5 1
    have H31 : St W w7 (Row 5 1 (.slice none 0 0) 0 [] :: F) := (H30.drop 1 rfl)
    have hno : ¬ dgE d = 0 := by assumption
    exact ⟨none, 0, 0, rfl, by rw [dgBytes_no hno]; rfl, by rw [dgBytes_no hno]; exact H31⟩
set_option maxHeartbeats 4000000 in
set_option maxRecDepth 100000 in
theorem rd_bits_ok {W w : World} {F : List Atom} (r b : Nat) (bs : List UInt8) (p : Nat) (hp : p ≤ 8 * bs.length) (hb : bs.length ≤ 140737488355328) (kk_ : Int) (hk : 0 ≤ kk_ ∧ kk_ ≤ 8) (H : St W w (blk r (.cells #[.pointer (some ⟨b, 0, none⟩), .int .i64 0] 50 (0, 0)) :: SrcA b bs p :: F)) : Calls Try.prog 27 #[.pointer (some ⟨r, 0, none⟩), .int .i64 kk_] w (Ret fun v w' => (srcE (remB bs p) kk_ = 0 ∧ v = .int .i64 (srcU (remB bs p) kk_ : Int) ∧ ∃ p', remB bs p' = (remB bs p).drop (srcN (remB bs p) kk_) ∧ p' ≤ 8 * bs.length ∧ St W w' (blk r (.cells #[.pointer (some ⟨b, 0, none⟩), .int .i64 0] 50 (0, 0)) :: SrcA b bs p' :: F)) ∨ (¬ srcE (remB bs p) kk_ = 0 ∧ v = .int .i64 0 ∧ St W w' (blk r (.cells #[.pointer (some ⟨b, 0, none⟩), .int .i64 (srcE (remB bs p) kk_)] 50 (0, 0)) :: SrcA b bs p :: F))) := by
  refine calls_of_go (n := 27) Try.func27 rfl Try.ntmps27 rfl ?_
  refine g_seq ?_
  refine g_region ?_
  refine r_cons (s_assign (.int .i64 0) rfl rfl ?_)
  refine r_nil ?_
  refine g_seq ?_
  refine g_seq ?_
  refine g_region ?_
  refine r_cons (s_move (.pointer (some ⟨r, 0, none⟩)) rfl rfl ?_)
  refine r_cons (s_nilCheck (.pointer (some ⟨r, 0, none⟩)) rfl ⟨_, rfl⟩ rfl ?_)
  refine r_cons (s_fieldAddr 50 1 1 1 25 rfl fi_50_1 rfl rfl ?_)
  refine r_cons (s_load (.int .i64 0) ag_25 rfl (H.blk_at (i := 0) rfl) rfl rfl ?_)
  refine r_cons (s_neq false rfl rfl (ntrue (by decide)) rfl ?_)
  refine r_nil ?_
  refine g_false rfl ?_
  refine g_skip ?_
  refine g_seq ?_
  refine g_region ?_
  refine r_cons (s_move (.pointer (some ⟨r, 0, none⟩)) rfl rfl ?_)
  refine r_cons (s_nilCheck (.pointer (some ⟨r, 0, none⟩)) rfl ⟨_, rfl⟩ rfl ?_)
  refine r_cons (s_fieldAddr 50 0 0 0 47 rfl fi_50_0 rfl rfl ?_)
  refine r_cons (s_load (.pointer (some ⟨b, 0, none⟩)) ag_47 rfl (H.blk_at (i := 0) rfl) rfl rfl ?_)
  refine r_cons (s_move (.int .i64 kk_) rfl rfl ?_)
  refine r_cons (s_call [.pointer (some ⟨b, 0, none⟩), .int .i64 kk_] pl_43 rfl rfl (Src_Bits b bs p (by first | omega | decide +kernel | (repeat (first | assumption | exact Nat.zero_le _ | refine natN_pos ?_ | refine srcN_pos ?_ | refine textN_pos ?_))) (by first | omega | decide +kernel) kk_  (i := 1) rfl H) ?_)
  rintro _ w1 ⟨rfl, H2⟩
  refine r_cons (s_move (.tuple #[.int .u64 (srcU (remB bs p) kk_ : Int), .int .i64 (srcE (remB bs p) kk_)]) rfl rfl ?_)
  refine r_cons (s_extract (.int .u64 (srcU (remB bs p) kk_ : Int)) #[.int .u64 (srcU (remB bs p) kk_ : Int), .int .i64 (srcE (remB bs p) kk_)] rfl rfl rfl ?_)
  refine r_cons (s_extract (.int .i64 (srcE (remB bs p) kk_)) #[.int .u64 (srcU (remB bs p) kk_ : Int), .int .i64 (srcE (remB bs p) kk_)] rfl rfl rfl ?_)
  refine r_cons (s_assign (.int .u64 (srcU (remB bs p) kk_ : Int)) rfl rfl ?_)
  refine r_cons (s_assign (.int .i64 (srcE (remB bs p) kk_)) rfl rfl ?_)
  refine r_nil ?_
  refine g_seq ?_
  refine g_region ?_
  refine r_cons (s_move (.pointer (some ⟨r, 0, none⟩)) rfl rfl ?_)
  refine r_cons (s_move (.int .i64 (srcE (remB bs p) kk_)) rfl rfl ?_)
  refine r_cons (s_nilCheck (.pointer (some ⟨r, 0, none⟩)) rfl ⟨_, rfl⟩ rfl ?_)
  refine r_cons (s_fieldAddr 50 1 1 1 25 rfl fi_50_1 rfl rfl ?_)
  refine r_cons (s_store H2 0 (.int .i64 (srcE (remB bs p) kk_)) rfl rfl rfl sz_25 rfl (Nat.le_of_ble_eq_true rfl) rfl (cs' := #[.pointer (some ⟨b, 0, none⟩), .int .i64 (srcE (remB bs p) kk_)]) rfl ?_); intro w3 H4
  refine r_nil ?_
  refine g_seq ?_
  refine g_region ?_
  refine r_cons (s_move (.int .u64 (srcU (remB bs p) kk_ : Int)) rfl rfl ?_)
  have hlt := srcU_lt8 (R := remB bs p) hk
  refine r_cons (s_conv (srcU (remB bs p) kk_ : Int) rfl us_54 ik_3 (wi64 (by omega)) rfl ?_)
  refine r_cons (s_assign (.int .i64 (srcU (remB bs p) kk_ : Int)) rfl rfl ?_)
  refine r_nil ?_
  refine g_ret' [.int .i64 (srcU (remB bs p) kk_ : Int)] Try.func27 Try.results27 ⟨rfl, trivial⟩ ?_
  have H5 : St W w3 (blk r (.cells #[.pointer (some ⟨b, 0, none⟩), .int .i64 (srcE (remB bs p) kk_)] 50 (0, 0)) :: SrcA b bs (p + srcN (remB bs p) kk_) :: F) := ((H4.move 1 rfl).move 1 rfl)
  rcases Decidable.em (srcE (remB bs p) kk_ = 0) with he | he
  · refine .inl ⟨he, rfl, p + srcN (remB bs p) kk_, remB_drop bs p _ ▸ rfl, srcN_pos hp, ?_⟩
    have hx := H5
    rw [he] at hx
    exact hx
  · refine .inr ⟨he, by rw [srcU_no he]; rfl, ?_⟩
    have hx := H5
    rw [srcN_no he] at hx
    exact hx
set_option maxHeartbeats 4000000 in
set_option maxRecDepth 100000 in
theorem rd_bits_no {W w : World} {F : List Atom} (r b : Nat) (e : Int) (he : ¬ e = 0) (kk_ : Int) (hk : 0 ≤ kk_ ∧ kk_ ≤ 8) {i : Nat} (hi : F[i]? = some (blk r (.cells #[.pointer (some ⟨b, 0, none⟩), .int .i64 e] 50 (0, 0)))) (H : St W w F) : Calls Try.prog 27 #[.pointer (some ⟨r, 0, none⟩), .int .i64 kk_] w (Ret fun v w' => v = .int .i64 0 ∧ St W w' F) := by
  have H0 := H.front hi
  refine calls_of_go (n := 27) Try.func27 rfl Try.ntmps27 rfl ?_
  refine g_seq ?_
  refine g_region ?_
  refine r_cons (s_assign (.int .i64 0) rfl rfl ?_)
  refine r_nil ?_
  refine g_seq ?_
  refine g_seq ?_
  refine g_region ?_
  refine r_cons (s_move (.pointer (some ⟨r, 0, none⟩)) rfl rfl ?_)
  refine r_cons (s_nilCheck (.pointer (some ⟨r, 0, none⟩)) rfl ⟨_, rfl⟩ rfl ?_)
  refine r_cons (s_fieldAddr 50 1 1 1 25 rfl fi_50_1 rfl rfl ?_)
  refine r_cons (s_load (.int .i64 e) ag_25 rfl (H0.blk_at (i := 0) rfl) rfl rfl ?_)
  refine r_cons (s_neq true rfl rfl (nfalse he) rfl ?_)
  refine r_nil ?_
  refine g_true rfl ?_
  refine g_seq ?_
  refine g_region ?_
  refine r_cons (s_assign (.int .i64 0) rfl rfl ?_)
  refine r_nil ?_
  refine g_ret' [.int .i64 0] Try.func27 Try.results27 ⟨rfl, trivial⟩ ?_
  have H1 : St W w (blk r (.cells #[.pointer (some ⟨b, 0, none⟩), .int .i64 e] 50 (0, 0)) :: (F.set i emp)) := H0
  exact ⟨rfl, St.back_same hi H1⟩
set_option maxHeartbeats 4000000 in
set_option maxRecDepth 100000 in
theorem rd_nat_ok {W w : World} {F : List Atom} (r b : Nat) (bs : List UInt8) (p : Nat) (hp : p ≤ 8 * bs.length) (hb : bs.length ≤ 140737488355328) (H : St W w (blk r (.cells #[.pointer (some ⟨b, 0, none⟩), .int .i64 0] 50 (0, 0)) :: SrcA b bs p :: F)) : Calls Try.prog 30 #[.pointer (some ⟨r, 0, none⟩)] w (Ret fun v w' => (natE (remB bs p) = 0 ∧ v = .int .u64 (natU (remB bs p) : Int) ∧ ∃ p', remB bs p' = (remB bs p).drop (natN (remB bs p)) ∧ p' ≤ 8 * bs.length ∧ St W w' (blk r (.cells #[.pointer (some ⟨b, 0, none⟩), .int .i64 0] 50 (0, 0)) :: SrcA b bs p' :: F)) ∨ (¬ natE (remB bs p) = 0 ∧ v = .int .u64 0 ∧ St W w' (blk r (.cells #[.pointer (some ⟨b, 0, none⟩), .int .i64 (natE (remB bs p))] 50 (0, 0)) :: SrcA b bs p :: F))) := by
  refine calls_of_go (n := 23) Try.func30 rfl Try.ntmps30 rfl ?_
  refine g_seq ?_
  refine g_region ?_
  refine r_cons (s_assign (.int .u64 0) rfl rfl ?_)
  refine r_nil ?_
  refine g_seq ?_
  refine g_seq ?_
  refine g_region ?_
  refine r_cons (s_move (.pointer (some ⟨r, 0, none⟩)) rfl rfl ?_)
  refine r_cons (s_nilCheck (.pointer (some ⟨r, 0, none⟩)) rfl ⟨_, rfl⟩ rfl ?_)
  refine r_cons (s_fieldAddr 50 1 1 1 25 rfl fi_50_1 rfl rfl ?_)
  refine r_cons (s_load (.int .i64 0) ag_25 rfl (H.blk_at (i := 0) rfl) rfl rfl ?_)
  refine r_cons (s_neq false rfl rfl (ntrue (by decide)) rfl ?_)
  refine r_nil ?_
  refine g_false rfl ?_
  refine g_skip ?_
  refine g_seq ?_
  refine g_region ?_
  refine r_cons (s_move (.pointer (some ⟨r, 0, none⟩)) rfl rfl ?_)
  refine r_cons (s_nilCheck (.pointer (some ⟨r, 0, none⟩)) rfl ⟨_, rfl⟩ rfl ?_)
  refine r_cons (s_fieldAddr 50 0 0 0 47 rfl fi_50_0 rfl rfl ?_)
  refine r_cons (s_load (.pointer (some ⟨b, 0, none⟩)) ag_47 rfl (H.blk_at (i := 0) rfl) rfl rfl ?_)
  refine r_cons (s_call [.pointer (some ⟨b, 0, none⟩)] pl_44 rfl rfl (Src_Nat b bs p (by first | omega | decide +kernel | (repeat (first | assumption | exact Nat.zero_le _ | refine natN_pos ?_ | refine srcN_pos ?_ | refine textN_pos ?_))) (by first | omega | decide +kernel)   (i := 1) rfl H) ?_)
  rintro _ w1 ⟨rfl, H2⟩
  refine r_cons (s_move (.tuple #[.int .u64 (natU (remB bs p) : Int), .int .i64 (natE (remB bs p))]) rfl rfl ?_)
  refine r_cons (s_extract (.int .u64 (natU (remB bs p) : Int)) #[.int .u64 (natU (remB bs p) : Int), .int .i64 (natE (remB bs p))] rfl rfl rfl ?_)
  refine r_cons (s_extract (.int .i64 (natE (remB bs p))) #[.int .u64 (natU (remB bs p) : Int), .int .i64 (natE (remB bs p))] rfl rfl rfl ?_)
  refine r_cons (s_assign (.int .u64 (natU (remB bs p) : Int)) rfl rfl ?_)
  refine r_cons (s_assign (.int .i64 (natE (remB bs p))) rfl rfl ?_)
  refine r_nil ?_
  refine g_seq ?_
  refine g_region ?_
  refine r_cons (s_move (.pointer (some ⟨r, 0, none⟩)) rfl rfl ?_)
  refine r_cons (s_move (.int .i64 (natE (remB bs p))) rfl rfl ?_)
  refine r_cons (s_nilCheck (.pointer (some ⟨r, 0, none⟩)) rfl ⟨_, rfl⟩ rfl ?_)
  refine r_cons (s_fieldAddr 50 1 1 1 25 rfl fi_50_1 rfl rfl ?_)
  refine r_cons (s_store H2 0 (.int .i64 (natE (remB bs p))) rfl rfl rfl sz_25 rfl (Nat.le_of_ble_eq_true rfl) rfl (cs' := #[.pointer (some ⟨b, 0, none⟩), .int .i64 (natE (remB bs p))]) rfl ?_); intro w3 H4
  refine r_nil ?_
  refine g_seq ?_
  refine g_region ?_
  refine r_cons (s_move (.int .u64 (natU (remB bs p) : Int)) rfl rfl ?_)
  refine r_cons (s_assign (.int .u64 (natU (remB bs p) : Int)) rfl rfl ?_)
  refine r_nil ?_
  refine g_ret' [.int .u64 (natU (remB bs p) : Int)] Try.func30 Try.results30 ⟨rfl, trivial⟩ ?_
  have H5 : St W w3 (blk r (.cells #[.pointer (some ⟨b, 0, none⟩), .int .i64 (natE (remB bs p))] 50 (0, 0)) :: SrcA b bs (p + natN (remB bs p)) :: F) := ((H4.move 1 rfl).move 1 rfl)
  rcases Decidable.em (natE (remB bs p) = 0) with he | he
  · refine .inl ⟨he, rfl, p + natN (remB bs p), remB_drop bs p _ ▸ rfl, natN_pos hp, ?_⟩
    have hx := H5
    rw [he] at hx
    exact hx
  · refine .inr ⟨he, by rw [natU_no he]; rfl, ?_⟩
    have hx := H5
    rw [natN_no he] at hx
    exact hx
set_option maxHeartbeats 4000000 in
set_option maxRecDepth 100000 in
theorem rd_nat_no {W w : World} {F : List Atom} (r b : Nat) (e : Int) (he : ¬ e = 0) {i : Nat} (hi : F[i]? = some (blk r (.cells #[.pointer (some ⟨b, 0, none⟩), .int .i64 e] 50 (0, 0)))) (H : St W w F) : Calls Try.prog 30 #[.pointer (some ⟨r, 0, none⟩)] w (Ret fun v w' => v = .int .u64 0 ∧ St W w' F) := by
  have H0 := H.front hi
  refine calls_of_go (n := 23) Try.func30 rfl Try.ntmps30 rfl ?_
  refine g_seq ?_
  refine g_region ?_
  refine r_cons (s_assign (.int .u64 0) rfl rfl ?_)
  refine r_nil ?_
  refine g_seq ?_
  refine g_seq ?_
  refine g_region ?_
  refine r_cons (s_move (.pointer (some ⟨r, 0, none⟩)) rfl rfl ?_)
  refine r_cons (s_nilCheck (.pointer (some ⟨r, 0, none⟩)) rfl ⟨_, rfl⟩ rfl ?_)
  refine r_cons (s_fieldAddr 50 1 1 1 25 rfl fi_50_1 rfl rfl ?_)
  refine r_cons (s_load (.int .i64 e) ag_25 rfl (H0.blk_at (i := 0) rfl) rfl rfl ?_)
  refine r_cons (s_neq true rfl rfl (nfalse he) rfl ?_)
  refine r_nil ?_
  refine g_true rfl ?_
  refine g_seq ?_
  refine g_region ?_
  refine r_cons (s_assign (.int .u64 0) rfl rfl ?_)
  refine r_nil ?_
  refine g_ret' [.int .u64 0] Try.func30 Try.results30 ⟨rfl, trivial⟩ ?_
  have H1 : St W w (blk r (.cells #[.pointer (some ⟨b, 0, none⟩), .int .i64 e] 50 (0, 0)) :: (F.set i emp)) := H0
  exact ⟨rfl, St.back_same hi H1⟩
set_option maxHeartbeats 4000000 in
set_option maxRecDepth 100000 in
theorem rd_fails_e {W w : World} {F : List Atom} (r b : Nat) (e : Int) (he : ¬ e = 0) (x : Bool) {i : Nat} (hi : F[i]? = some (blk r (.cells #[.pointer (some ⟨b, 0, none⟩), .int .i64 e] 50 (0, 0)))) (H : St W w F) : Calls Try.prog 28 #[.pointer (some ⟨r, 0, none⟩), .bool x] w (Ret fun v w' => v = .tuple #[] ∧ St W w' F) := by
  have H0 := H.front hi
  refine calls_of_go (n := 15) Try.func28 rfl Try.ntmps28 rfl ?_
  refine g_seq ?_
  refine g_region ?_
  refine r_cons (s_move (.pointer (some ⟨r, 0, none⟩)) rfl rfl ?_)
  refine r_cons (s_nilCheck (.pointer (some ⟨r, 0, none⟩)) rfl ⟨_, rfl⟩ rfl ?_)
  refine r_cons (s_fieldAddr 50 1 1 1 25 rfl fi_50_1 rfl rfl ?_)
  refine r_cons (s_load (.int .i64 e) ag_25 rfl (H0.blk_at (i := 0) rfl) rfl rfl ?_)
  refine r_cons (s_eql false rfl rfl (dfalse he) rfl ?_)
  refine r_cons (s_move (.bool false) rfl rfl ?_)
  refine r_cons (r_pass rfl rfl rfl rfl rfl ?_)
  refine r_cons (s_pick_f (.bool false) rfl rfl rfl ?_)
  refine r_nil ?_
  refine g_false rfl ?_
  refine g_skip ?_
  refine g_end' [] Try.func28 Try.results28 trivial ?_
  have H1 : St W w (blk r (.cells #[.pointer (some ⟨b, 0, none⟩), .int .i64 e] 50 (0, 0)) :: (F.set i emp)) := H0
  exact ⟨rfl, St.back_same hi H1⟩
set_option maxHeartbeats 4000000 in
set_option maxRecDepth 100000 in
theorem rd_fails_f {W w : World} {F : List Atom} (r b : Nat) {i : Nat} (hi : F[i]? = some (blk r (.cells #[.pointer (some ⟨b, 0, none⟩), .int .i64 0] 50 (0, 0)))) (H : St W w F) : Calls Try.prog 28 #[.pointer (some ⟨r, 0, none⟩), .bool false] w (Ret fun v w' => v = .tuple #[] ∧ St W w' F) := by
  have H0 := H.front hi
  refine calls_of_go (n := 15) Try.func28 rfl Try.ntmps28 rfl ?_
  refine g_seq ?_
  refine g_region ?_
  refine r_cons (s_move (.pointer (some ⟨r, 0, none⟩)) rfl rfl ?_)
  refine r_cons (s_nilCheck (.pointer (some ⟨r, 0, none⟩)) rfl ⟨_, rfl⟩ rfl ?_)
  refine r_cons (s_fieldAddr 50 1 1 1 25 rfl fi_50_1 rfl rfl ?_)
  refine r_cons (s_load (.int .i64 0) ag_25 rfl (H0.blk_at (i := 0) rfl) rfl rfl ?_)
  refine r_cons (s_eql true rfl rfl (dtrue (by decide)) rfl ?_)
  refine r_cons (s_move (.bool true) rfl rfl ?_)
  refine r_cons (r_take rfl rfl ?_)
  refine s_move (.bool false) rfl rfl ?_
  refine r_cons (s_pick_t (.bool false) rfl rfl rfl ?_)
  refine r_nil ?_
  refine g_false rfl ?_
  refine g_skip ?_
  refine g_end' [] Try.func28 Try.results28 trivial ?_
  have H1 : St W w (blk r (.cells #[.pointer (some ⟨b, 0, none⟩), .int .i64 0] 50 (0, 0)) :: (F.set i emp)) := H0
  exact ⟨rfl, St.back_same hi H1⟩
set_option maxHeartbeats 4000000 in
set_option maxRecDepth 100000 in
theorem rd_fails_t {W w : World} {F : List Atom} (r b : Nat) {i : Nat} (hi : F[i]? = some (blk r (.cells #[.pointer (some ⟨b, 0, none⟩), .int .i64 0] 50 (0, 0)))) (H : St W w F) : Calls Try.prog 28 #[.pointer (some ⟨r, 0, none⟩), .bool true] w (Ret fun v w' => v = .tuple #[] ∧ St W w' (F.set i (blk r (.cells #[.pointer (some ⟨b, 0, none⟩), .int .i64 21] 50 (0, 0))))) := by
  have H0 := H.front hi
  refine calls_of_go (n := 15) Try.func28 rfl Try.ntmps28 rfl ?_
  refine g_seq ?_
  refine g_region ?_
  refine r_cons (s_move (.pointer (some ⟨r, 0, none⟩)) rfl rfl ?_)
  refine r_cons (s_nilCheck (.pointer (some ⟨r, 0, none⟩)) rfl ⟨_, rfl⟩ rfl ?_)
  refine r_cons (s_fieldAddr 50 1 1 1 25 rfl fi_50_1 rfl rfl ?_)
  refine r_cons (s_load (.int .i64 0) ag_25 rfl (H0.blk_at (i := 0) rfl) rfl rfl ?_)
  refine r_cons (s_eql true rfl rfl (dtrue (by decide)) rfl ?_)
  refine r_cons (s_move (.bool true) rfl rfl ?_)
  refine r_cons (r_take rfl rfl ?_)
  refine s_move (.bool true) rfl rfl ?_
  refine r_cons (s_pick_t (.bool true) rfl rfl rfl ?_)
  refine r_nil ?_
  refine g_true rfl ?_
  refine g_region ?_
  refine r_cons (s_move (.pointer (some ⟨r, 0, none⟩)) rfl rfl ?_)
  refine r_cons (s_nilCheck (.pointer (some ⟨r, 0, none⟩)) rfl ⟨_, rfl⟩ rfl ?_)
  refine r_cons (s_fieldAddr 50 1 1 1 25 rfl fi_50_1 rfl rfl ?_)
  refine r_cons (s_store H0 0 (.int .i64 21) rfl rfl rfl sz_25 rfl (Nat.le_of_ble_eq_true rfl) rfl (cs' := #[.pointer (some ⟨b, 0, none⟩), .int .i64 21]) rfl ?_); intro w1 H2
  refine r_nil ?_
  refine g_end' [] Try.func28 Try.results28 trivial ?_
  have H3 : St W w1 (blk r (.cells #[.pointer (some ⟨b, 0, none⟩), .int .i64 21] 50 (0, 0)) :: (F.set i emp)) := H2
  exact ⟨rfl, St.back hi H3⟩
set_option maxHeartbeats 4000000 in
set_option maxRecDepth 100000 in
theorem frame_clip {W w : World} {F : List Atom} (u : Nat) (hu : u < 18446744073709551616) (H : St W w F) : Calls Try.prog 29 #[.int .u64 (u : Int)] w (Ret fun v w' => v = .int .i64 (tmN u) ∧ St W w' F) := by
  refine calls_of_go (n := 7) Try.func29 rfl Try.ntmps29 rfl ?_
  refine g_seq ?_
  refine g_region ?_
  refine r_cons (s_assign (.int .i64 0) rfl rfl ?_)
  refine r_nil ?_
  refine g_seq ?_
  refine g_seq ?_
  refine g_region ?_
  refine r_cons (s_move (.int .u64 (u : Int)) rfl rfl ?_)
  by_cases hc1 : (1099511627776 : Int) < (u : Int)
  · skip
    refine r_cons (s_gtr true rfl rfl (dtrue hc1) rfl ?_)
    refine r_nil ?_
    refine g_true rfl ?_
    refine g_seq ?_
    refine g_region ?_
    refine r_cons (s_assign (.int .i64 (-1)) rfl rfl ?_)
    refine r_nil ?_
    refine g_ret' [.int .i64 (-1)] Try.func29 Try.results29 ⟨rfl, trivial⟩ ?_
    have H2 : St W w F := H
    exact ⟨vint (by unfold tmN; first | (rw [if_pos (by omega)]; done) | (rw [if_neg (by omega)]; done)), H2⟩
  · skip
    refine r_cons (s_gtr false rfl rfl (dfalse hc1) rfl ?_)
    refine r_nil ?_
    refine g_false rfl ?_
    refine g_skip ?_
    refine g_seq ?_
    refine g_region ?_
    refine r_cons (s_move (.int .u64 (u : Int)) rfl rfl ?_)
    refine r_cons (s_conv (u : Int) rfl us_54 ik_2 (wi64 (by omega)) rfl ?_)
    refine r_cons (s_assign (.int .i64 (u : Int)) rfl rfl ?_)
    refine r_nil ?_
    refine g_ret' [.int .i64 (u : Int)] Try.func29 Try.results29 ⟨rfl, trivial⟩ ?_
    have H3 : St W w F := H
    exact ⟨vint (by unfold tmN; first | (rw [if_pos (by omega)]; done) | (rw [if_neg (by omega)]; done)), H3⟩
set_option maxHeartbeats 4000000 in
set_option maxRecDepth 100000 in
theorem rd_body_ok {W w : World} {F : List Atom} (r b : Nat) (bs : List UInt8) (p : Nat) (hp : p ≤ 8 * bs.length) (hb : bs.length ≤ 140737488355328) (H : St W w (blk r (.cells #[.pointer (some ⟨b, 0, none⟩), .int .i64 0] 50 (0, 0)) :: SrcA b bs p :: F)) : Calls Try.prog 31 #[.pointer (some ⟨r, 0, none⟩)] w (Ret fun v w' => (bodyE (remB bs p) = 0 ∧ ∃ q c p', v = .slice q (natU (remB bs p)) c ∧ remB bs p' = (remB bs p).drop (textN (remB bs p)) ∧ p' ≤ 8 * bs.length ∧ St W w' (Row 5 1 (.slice q (natU (remB bs p)) c) (natU (remB bs p)) ((textBytes (remB bs p)).flatMap u8c) :: blk r (.cells #[.pointer (some ⟨b, 0, none⟩), .int .i64 0] 50 (0, 0)) :: SrcA b bs p' :: F)) ∨ (¬ bodyE (remB bs p) = 0 ∧ ∃ q n c, v = .slice q n c ∧ ∃ p', St W w' (blk r (.cells #[.pointer (some ⟨b, 0, none⟩), .int .i64 (bodyE (remB bs p))] 50 (0, 0)) :: SrcA b bs p' :: F))) := by
  refine calls_of_go (n := 31) Try.func31 rfl Try.ntmps31 rfl ?_
  refine g_seq ?_
  refine g_region ?_
  refine r_cons (s_assign (.slice none 0 0) rfl rfl ?_)
  refine r_nil ?_
  refine g_seq ?_
  refine g_region ?_
  refine r_cons (s_move (.pointer (some ⟨r, 0, none⟩)) rfl rfl ?_)
  have H1 : St W w (blk r (.cells #[.pointer (some ⟨b, 0, none⟩), .int .i64 0] 50 (0, 0)) :: SrcA b bs p :: F) := ((H.move 1 rfl).move 1 rfl)
  refine r_cons (s_call [.pointer (some ⟨r, 0, none⟩)] pl_30 rfl rfl (rd_nat_ok r b bs p (by first | omega | decide +kernel | (repeat (first | assumption | exact Nat.zero_le _ | refine natN_pos ?_ | refine srcN_pos ?_ | refine textN_pos ?_))) (by omega)  H1) ?_)
  rintro _ w7 (⟨he2, rfl, q4, hR5, hp6, H3⟩ | ⟨he2, rfl, H3⟩)
  · skip
    refine r_cons (s_assign (.int .u64 (natU (remB bs p) : Int)) rfl rfl ?_)
    refine r_nil ?_
    refine g_seq ?_
    refine g_region ?_
    refine r_cons (s_move (.pointer (some ⟨r, 0, none⟩)) rfl rfl ?_)
    refine r_cons (s_move (.int .u64 (natU (remB bs p) : Int)) rfl rfl ?_)
    by_cases hc8 : (16384 : Int) < (natU (remB bs p) : Int)
    · skip
      refine r_cons (s_gtr true rfl rfl (dtrue hc8) rfl ?_)
      refine r_cons (s_call [.pointer (some ⟨r, 0, none⟩), .bool true] pl_28 rfl rfl (rd_fails_t r b (i := 0) rfl H3) ?_)
      rintro _ w9 ⟨rfl, H10⟩
      refine r_nil ?_
      refine g_seq ?_
      refine g_region ?_
      refine r_cons (s_assign (.slice none 0 0) rfl rfl ?_)
      refine r_nil ?_
      refine g_seq ?_
      refine g_seq ?_
      refine g_region ?_
      refine r_cons (s_assign (.int .u64 0) rfl rfl ?_)
      refine r_nil ?_
      refine g_block ?_
      refine g_loop ?_
      refine g_seq ?_
      refine g_seq ?_
      refine g_region ?_
      refine r_cons (s_move (.int .u64 0) rfl rfl ?_)
      refine r_cons (s_move (.int .u64 (natU (remB bs p) : Int)) rfl rfl ?_)
      refine r_cons (s_lss true rfl rfl (dtrue (by omega)) rfl ?_)
      refine r_cons (s_move (.bool true) rfl rfl ?_)
      refine r_cons (r_take rfl rfl ?_)
      refine s_move (.pointer (some ⟨r, 0, none⟩)) rfl rfl ?_
      refine r_cons (r_take rfl rfl ?_)
      refine s_nilCheck (.pointer (some ⟨r, 0, none⟩)) rfl ⟨_, rfl⟩ rfl ?_
      refine r_cons (r_take rfl rfl ?_)
      refine s_fieldAddr 50 1 1 1 25 rfl fi_50_1 rfl rfl ?_
      refine r_cons (r_take rfl rfl ?_)
      refine s_load (.int .i64 21) ag_25 rfl (H10.blk_at (i := 0) rfl) rfl rfl ?_
      refine r_cons (r_take rfl rfl ?_)
      refine s_eql false rfl rfl (dfalse (by decide)) rfl ?_
      refine r_cons (s_pick_t (.bool false) rfl rfl rfl ?_)
      refine r_nil ?_
      refine g_false rfl ?_
      refine g_exit (by rfl) ?_
      refine g_seq ?_
      refine g_region ?_
      refine r_cons (s_move (.slice none 0 0) rfl rfl ?_)
      refine r_cons (s_assign (.slice none 0 0) rfl rfl ?_)
      refine r_nil ?_
      refine g_ret' [.slice none 0 0] Try.func31 Try.results31 ⟨rfl, trivial⟩ ?_
      have H11 : St W w9 (blk r (.cells #[.pointer (some ⟨b, 0, none⟩), .int .i64 21] 50 (0, 0)) :: SrcA b bs q4 :: F) := ((H10.move 1 rfl).move 1 rfl)
      have hB : bodyE (remB bs p) = 21 := bodyE_21 he2 (by omega)
      exact .inr ⟨by rw [hB]; decide, _, _, _, rfl, _, by rw [hB]; exact H11⟩
    · skip
      refine r_cons (s_gtr false rfl rfl (dfalse hc8) rfl ?_)
      refine r_cons (s_call [.pointer (some ⟨r, 0, none⟩), .bool false] pl_28 rfl rfl (rd_fails_f r b (i := 0) rfl H3) ?_)
      rintro _ w12 ⟨rfl, H13⟩
      refine r_nil ?_
      refine g_seq ?_
      refine g_region ?_
      refine r_cons (s_assign (.slice none 0 0) rfl rfl ?_)
      refine r_nil ?_
      refine g_seq ?_
      refine g_seq ?_
      refine g_region ?_
      refine r_cons (s_assign (.int .u64 0) rfl rfl ?_)
      refine r_nil ?_
      refine g_block ?_
      have hnE : natE (remB bs p) = 0 := he2
      have H14 := Row.nil_intro H13 5 1
      have H15 : St W w12 (Row 5 1 (.slice none 0 0) 0 [] :: blk r (.cells #[.pointer (some ⟨b, 0, none⟩), .int .i64 0] 50 (0, 0)) :: SrcA b bs q4 :: F) := (((H14.move 2 rfl).move 2 rfl).move 2 rfl)
      refine g_loop_inv (fun (x_ : Nat × Int × (List UInt8) × Nat × (Option Addr) × Nat) => match x_ with | (j, ee, L, pj, pq, cq) => [(0, .pointer (some ⟨r, 0, none⟩)), (2, .slice none 0 0), (3, .int .u64 (natU (remB bs p) : Int)), (4, .slice pq L.length cq), (5, .int .u64 (j : Int))]) (fun (x_ : Nat × Int × (List UInt8) × Nat × (Option Addr) × Nat) w => match x_ with | (j, ee, L, pj, pq, cq) => (j ≤ natU (remB bs p)) ∧ (bodyInv bs p j ee L pj) ∧ St W w (Row 5 1 (.slice pq L.length cq) L.length (L.flatMap u8c) :: blk r (.cells #[.pointer (some ⟨b, 0, none⟩), .int .i64 ee] 50 (0, 0)) :: SrcA b bs pj :: F)) (fun (x_ : Nat × Int × (List UInt8) × Nat × (Option Addr) × Nat) => match x_ with | (j, ee, L, pj, pq, cq) => natU (remB bs p) - j) (0, 0, [], q4, none, 0) ?_ ?_ ?_
      · exact ⟨by first | rfl | exact vint (by omega), by first | rfl | exact vint (by omega), by first | rfl | exact vint (by omega), by first | rfl | exact vint (by omega), by first | rfl | exact vint (by omega), trivial⟩
      · exact ⟨(by omega), (bodyInv_0 hR5 (by omega)), H15⟩
      · rintro ⟨j, ee, L, pj, pq, cq⟩ ρ16 w17 ⟨hj, hinv, H18⟩ nx19
        change Ends _ _ (upds ρ16 [(0, .pointer (some ⟨r, 0, none⟩)), (2, .slice none 0 0), (3, .int .u64 (natU (remB bs p) : Int)), (4, .slice pq L.length cq), (5, .int .u64 (j : Int))]) w17
        refine g_seq ?_
        refine g_seq ?_
        refine g_region ?_
        refine r_cons (s_move (.int .u64 (j : Int)) rfl rfl ?_)
        refine r_cons (s_move (.int .u64 (natU (remB bs p) : Int)) rfl rfl ?_)
        by_cases hc20 : (j : Int) < (natU (remB bs p) : Int)
        · skip
          refine r_cons (s_lss true rfl rfl (dtrue hc20) rfl ?_)
          refine r_cons (s_move (.bool true) rfl rfl ?_)
          refine r_cons (r_take rfl rfl ?_)
          refine s_move (.pointer (some ⟨r, 0, none⟩)) rfl rfl ?_
          refine r_cons (r_take rfl rfl ?_)
          refine s_nilCheck (.pointer (some ⟨r, 0, none⟩)) rfl ⟨_, rfl⟩ rfl ?_
          refine r_cons (r_take rfl rfl ?_)
          refine s_fieldAddr 50 1 1 1 25 rfl fi_50_1 rfl rfl ?_
          refine r_cons (r_take rfl rfl ?_)
          refine s_load (.int .i64 ee) ag_25 rfl (H18.blk_at (i := 1) rfl) rfl rfl ?_
          refine r_cons (r_take rfl rfl ?_)
          by_cases hc21 : ee = 0
          · skip
            refine s_eql true rfl rfl (dtrue hc21) rfl ?_
            refine r_cons (s_pick_t (.bool true) rfl rfl rfl ?_)
            refine r_nil ?_
            refine g_true rfl ?_
            refine g_skip ?_
            refine g_seq ?_
            refine g_block ?_
            refine g_region ?_
            have hee : ee = 0 := by assumption
            subst hee
            have H22 : St W w17 (Row 5 1 (.slice pq L.length cq) L.length (L.flatMap u8c) :: blk r (.cells #[.pointer (some ⟨b, 0, none⟩), .int .i64 0] 50 (0, 0)) :: SrcA b bs pj :: F) := H18
            have hpj : pj ≤ 8 * bs.length := by rcases hinv with h | h; exact h.2.2.2.2; exact absurd rfl h.1
            have hLl : L.length = j := by rcases hinv with h | h; rw [h.2.1]; simp; exact absurd rfl h.1
            refine r_cons (s_move (.slice pq L.length cq) rfl rfl ?_)
            refine r_cons (s_move (.pointer (some ⟨r, 0, none⟩)) rfl rfl ?_)
            have H23 : St W w17 (blk r (.cells #[.pointer (some ⟨b, 0, none⟩), .int .i64 0] 50 (0, 0)) :: SrcA b bs pj :: Row 5 1 (.slice pq L.length cq) L.length (L.flatMap u8c) :: F) := ((H22.move 2 rfl).move 2 rfl)
            refine r_cons (s_call [.pointer (some ⟨r, 0, none⟩), .int .i64 8] pl_27 rfl rfl (rd_bits_ok r b bs pj (by first | omega | decide +kernel | (repeat (first | assumption | exact Nat.zero_le _ | refine natN_pos ?_ | refine srcN_pos ?_ | refine textN_pos ?_))) (by omega) 8 (by decide) H23) ?_)
            rintro _ w29 (⟨he24, rfl, q26, hR27, hp28, H25⟩ | ⟨he24, rfl, H25⟩)
            · skip
              have hlt : srcU (remB bs pj) 8 < 256 := srcU_lt_pow (k := 8)
              refine r_cons (s_conv (srcU (remB bs pj) 8 : Int) rfl us_3 ik_5 (wu8 (by omega)) rfl ?_)
              refine r_cons (s_buildSlice H25 1 1 (cs := #[.int .u8 (srcU (remB bs pj) 8 : Int)]) #[.int .u8 0] el_22 ze_5 (by decide) (by decide) (by kernel_rfl) rfl ?_); intro bk30 w31 H32
              refine r_cons (s_append H32 3 rfl rfl rfl (rd_blk (H32.blk_at (i := 0) rfl) rfl (Nat.le_of_ble_eq_true rfl) (by simp [Value.oneCell'])) ap_22 (by decide) (by unfold maxLen; omega) (by omega) (n' := L.length + 1) (xs' := (L ++ [UInt8.ofNat (srcU (remB bs pj) 8)]).flatMap u8c) (by omega) (by rw [List.flatMap_append]; congr 1; show [Value.int .u8 _] = [Value.int .u8 ((UInt8.ofNat (srcU (remB bs pj) 8)).toNat : Int)]; rw [u8_nat hlt]) rfl ?_); intro vv33 w34 H35 hn36
              obtain ⟨pp37, cc38, rfl⟩ := Row.slice H35 (i := 3) rfl
              refine r_cons (s_assign (.slice pp37 (L.length + 1) cc38) rfl rfl ?_)
              refine r_nil ?_
              refine g_inBlock ?_
              refine g_region ?_
              refine r_cons (s_move (.int .u64 (j : Int)) rfl rfl ?_)
              refine r_cons (s_add ((j : Int) + 1) rfl rfl (wu64 (by omega)) rfl ?_)
              refine r_cons (s_assign (.int .u64 ((j : Int) + 1)) rfl rfl ?_)
              refine r_nil ?_
              have H39 : St W w34 (Row 5 1 (.slice pp37 (L.length + 1) cc38) (L.length + 1) ((L ++ [UInt8.ofNat (srcU (remB bs pj) 8)]).flatMap u8c) :: blk r (.cells #[.pointer (some ⟨b, 0, none⟩), .int .i64 0] 50 (0, 0)) :: SrcA b bs q26 :: F) := ((((H35.move 2 rfl).move 2 rfl).move 3 rfl).drop 3 rfl)
              have hln : (L ++ [UInt8.ofNat (srcU (remB bs pj) 8)]).length = L.length + 1 := by simp
              have H40 : St W w34 (Row 5 1 (.slice pp37 ((L ++ [UInt8.ofNat (srcU (remB bs pj) 8)]).length) cc38) ((L ++ [UInt8.ofNat (srcU (remB bs pj) 8)]).length) ((L ++ [UInt8.ofNat (srcU (remB bs pj) 8)]).flatMap u8c) :: blk r (.cells #[.pointer (some ⟨b, 0, none⟩), .int .i64 0] 50 (0, 0)) :: SrcA b bs q26 :: F) := by rw [hln]; exact H39
              exact nx19 (j + 1, 0, (L ++ [UInt8.ofNat (srcU (remB bs pj) 8)]), q26, pp37, cc38) _ _ ⟨(by omega), (bodyInv_step hnE (by omega) hinv he24 hR27 (by omega)), H40⟩ (by first | (dsimp only; omega) | omega) ⟨by first | rfl | exact vint (by omega), by first | rfl | exact vint (by omega), by first | rfl | exact vint (by omega), congrArg (fun z_ => Value.slice pp37 z_ cc38) hln.symm, by first | rfl | exact vint (by omega), trivial⟩
            · skip
              refine r_cons (s_conv 0 rfl us_3 ik_5 (wu8 (by omega)) rfl ?_)
              refine r_cons (s_buildSlice H25 1 1 (cs := #[.int .u8 0]) #[.int .u8 0] el_22 ze_5 (by decide) (by decide) (by kernel_rfl) rfl ?_); intro bk41 w42 H43
              refine r_cons (s_append H43 3 rfl rfl rfl (rd_blk (H43.blk_at (i := 0) rfl) rfl (Nat.le_of_ble_eq_true rfl) (by simp [Value.oneCell'])) ap_22 (by decide) (by unfold maxLen; omega) (by omega) (n' := L.length + 1) (xs' := (L ++ [0]).flatMap u8c) (by omega) (by rw [List.flatMap_append]; rfl) rfl ?_); intro vv44 w45 H46 hn47
              obtain ⟨pp48, cc49, rfl⟩ := Row.slice H46 (i := 3) rfl
              refine r_cons (s_assign (.slice pp48 (L.length + 1) cc49) rfl rfl ?_)
              refine r_nil ?_
              refine g_inBlock ?_
              refine g_region ?_
              refine r_cons (s_move (.int .u64 (j : Int)) rfl rfl ?_)
              refine r_cons (s_add ((j : Int) + 1) rfl rfl (wu64 (by omega)) rfl ?_)
              refine r_cons (s_assign (.int .u64 ((j : Int) + 1)) rfl rfl ?_)
              refine r_nil ?_
              have H50 : St W w45 (Row 5 1 (.slice pp48 (L.length + 1) cc49) (L.length + 1) ((L ++ [0]).flatMap u8c) :: blk r (.cells #[.pointer (some ⟨b, 0, none⟩), .int .i64 (srcE (remB bs pj) 8)] 50 (0, 0)) :: SrcA b bs pj :: F) := ((((H46.move 2 rfl).move 2 rfl).move 3 rfl).drop 3 rfl)
              have hln : (L ++ [0]).length = L.length + 1 := by simp
              have H51 : St W w45 (Row 5 1 (.slice pp48 ((L ++ [0]).length) cc49) ((L ++ [0]).length) ((L ++ [0]).flatMap u8c) :: blk r (.cells #[.pointer (some ⟨b, 0, none⟩), .int .i64 (srcE (remB bs pj) 8)] 50 (0, 0)) :: SrcA b bs pj :: F) := by rw [hln]; exact H50
              exact nx19 (j + 1, srcE (remB bs pj) 8, (L ++ [0]), pj, pp48, cc49) _ _ ⟨(by omega), (bodyInv_bad hnE (by omega) hinv he24), H51⟩ (by first | (dsimp only; omega) | omega) ⟨by first | rfl | exact vint (by omega), by first | rfl | exact vint (by omega), by first | rfl | exact vint (by omega), congrArg (fun z_ => Value.slice pp48 z_ cc49) hln.symm, by first | rfl | exact vint (by omega), trivial⟩
          · skip
            refine s_eql false rfl rfl (dfalse hc21) rfl ?_
            refine r_cons (s_pick_t (.bool false) rfl rfl rfl ?_)
            refine r_nil ?_
            refine g_false rfl ?_
            refine g_exit (by rfl) ?_
            refine g_seq ?_
            refine g_region ?_
            refine r_cons (s_move (.slice pq L.length cq) rfl rfl ?_)
            refine r_cons (s_assign (.slice pq L.length cq) rfl rfl ?_)
            refine r_nil ?_
            refine g_ret' [.slice pq L.length cq] Try.func31 Try.results31 ⟨rfl, trivial⟩ ?_
            have H52 : St W w17 (Row 5 1 (.slice pq L.length cq) L.length (L.flatMap u8c) :: blk r (.cells #[.pointer (some ⟨b, 0, none⟩), .int .i64 ee] 50 (0, 0)) :: SrcA b bs pj :: F) := (((H18.move 2 rfl).move 2 rfl).move 2 rfl)
            rcases bodyInv_end hnE (by omega) hj (by omega) hinv with ⟨g1, g2, g3, g4, g5, g6⟩ | ⟨g1, g2⟩
            · subst g2 g3
              rw [g4]
              refine .inl ⟨g1, _, _, pj, rfl, g5, g6, ?_⟩
              have hx := H52
              rw [g4] at hx
              exact hx
            · refine .inr ⟨g1, _, _, _, rfl, pj, ?_⟩
              rw [← g2]
              exact H52.drop 0 rfl
        · skip
          refine r_cons (s_lss false rfl rfl (dfalse hc20) rfl ?_)
          refine r_cons (s_move (.bool false) rfl rfl ?_)
          refine r_cons (r_pass rfl rfl rfl rfl rfl ?_)
          refine r_cons (r_pass rfl rfl rfl rfl rfl ?_)
          refine r_cons (r_pass rfl rfl rfl rfl rfl ?_)
          refine r_cons (r_pass rfl rfl rfl rfl rfl ?_)
          refine r_cons (r_pass rfl rfl rfl rfl rfl ?_)
          refine r_cons (s_pick_f (.bool false) rfl rfl rfl ?_)
          refine r_nil ?_
          refine g_false rfl ?_
          refine g_exit (by rfl) ?_
          refine g_seq ?_
          refine g_region ?_
          refine r_cons (s_move (.slice pq L.length cq) rfl rfl ?_)
          refine r_cons (s_assign (.slice pq L.length cq) rfl rfl ?_)
          refine r_nil ?_
          refine g_ret' [.slice pq L.length cq] Try.func31 Try.results31 ⟨rfl, trivial⟩ ?_
          have H53 : St W w17 (Row 5 1 (.slice pq L.length cq) L.length (L.flatMap u8c) :: blk r (.cells #[.pointer (some ⟨b, 0, none⟩), .int .i64 ee] 50 (0, 0)) :: SrcA b bs pj :: F) := (((H18.move 2 rfl).move 2 rfl).move 2 rfl)
          rcases bodyInv_end hnE (by omega) hj (by omega) hinv with ⟨g1, g2, g3, g4, g5, g6⟩ | ⟨g1, g2⟩
          · subst g2 g3
            rw [g4]
            refine .inl ⟨g1, _, _, pj, rfl, g5, g6, ?_⟩
            have hx := H53
            rw [g4] at hx
            exact hx
          · refine .inr ⟨g1, _, _, _, rfl, pj, ?_⟩
            rw [← g2]
            exact H53.drop 0 rfl
  · skip
    refine r_cons (s_assign (.int .u64 0) rfl rfl ?_)
    refine r_nil ?_
    refine g_seq ?_
    refine g_region ?_
    refine r_cons (s_move (.pointer (some ⟨r, 0, none⟩)) rfl rfl ?_)
    refine r_cons (s_move (.int .u64 0) rfl rfl ?_)
    refine r_cons (s_gtr false rfl rfl (dfalse (by decide)) rfl ?_)
    refine r_cons (s_call [.pointer (some ⟨r, 0, none⟩), .bool false] pl_28 rfl rfl (rd_fails_e r b (natE (remB bs p)) (by first | assumption | decide) false (i := 0) rfl H3) ?_)
    rintro _ w54 ⟨rfl, H55⟩
    refine r_nil ?_
    refine g_seq ?_
    refine g_region ?_
    refine r_cons (s_assign (.slice none 0 0) rfl rfl ?_)
    refine r_nil ?_
    refine g_seq ?_
    refine g_seq ?_
    refine g_region ?_
    refine r_cons (s_assign (.int .u64 0) rfl rfl ?_)
    refine r_nil ?_
    refine g_block ?_
    refine g_loop ?_
    refine g_seq ?_
    refine g_seq ?_
    refine g_region ?_
    refine r_cons (s_move (.int .u64 0) rfl rfl ?_)
    refine r_cons (s_move (.int .u64 0) rfl rfl ?_)
    refine r_cons (s_lss false rfl rfl (dfalse (by decide)) rfl ?_)
    refine r_cons (s_move (.bool false) rfl rfl ?_)
    refine r_cons (r_pass rfl rfl rfl rfl rfl ?_)
    refine r_cons (r_pass rfl rfl rfl rfl rfl ?_)
    refine r_cons (r_pass rfl rfl rfl rfl rfl ?_)
    refine r_cons (r_pass rfl rfl rfl rfl rfl ?_)
    refine r_cons (r_pass rfl rfl rfl rfl rfl ?_)
    refine r_cons (s_pick_f (.bool false) rfl rfl rfl ?_)
    refine r_nil ?_
    refine g_false rfl ?_
    refine g_exit (by rfl) ?_
    refine g_seq ?_
    refine g_region ?_
    refine r_cons (s_move (.slice none 0 0) rfl rfl ?_)
    refine r_cons (s_assign (.slice none 0 0) rfl rfl ?_)
    refine r_nil ?_
    refine g_ret' [.slice none 0 0] Try.func31 Try.results31 ⟨rfl, trivial⟩ ?_
    have H56 : St W w54 (blk r (.cells #[.pointer (some ⟨b, 0, none⟩), .int .i64 (natE (remB bs p))] 50 (0, 0)) :: SrcA b bs p :: F) := ((H55.move 1 rfl).move 1 rfl)
    have hB : bodyE (remB bs p) = natE (remB bs p) := bodyE_nat he2
    exact .inr ⟨by rw [hB]; exact he2, _, _, _, rfl, _, by rw [hB]; exact H56⟩
set_option maxHeartbeats 4000000 in
set_option maxRecDepth 100000 in
theorem rd_body_no {W w : World} {F : List Atom} (r b : Nat) (e : Int) (he : ¬ e = 0) {i : Nat} (hi : F[i]? = some (blk r (.cells #[.pointer (some ⟨b, 0, none⟩), .int .i64 e] 50 (0, 0)))) (H : St W w F) : Calls Try.prog 31 #[.pointer (some ⟨r, 0, none⟩)] w (Ret fun v w' => v = .slice none 0 0 ∧ St W w' F) := by
  have H0 := H.front hi
  refine calls_of_go (n := 31) Try.func31 rfl Try.ntmps31 rfl ?_
  refine g_seq ?_
  refine g_region ?_
  refine r_cons (s_assign (.slice none 0 0) rfl rfl ?_)
  refine r_nil ?_
  refine g_seq ?_
  refine g_region ?_
  refine r_cons (s_move (.pointer (some ⟨r, 0, none⟩)) rfl rfl ?_)
  refine r_cons (s_call [.pointer (some ⟨r, 0, none⟩)] pl_30 rfl rfl (rd_nat_no r b e (by first | assumption | decide)  (i := 0) rfl H0) ?_)
  rintro _ w1 ⟨rfl, H2⟩
  refine r_cons (s_assign (.int .u64 0) rfl rfl ?_)
  refine r_nil ?_
  refine g_seq ?_
  refine g_region ?_
  refine r_cons (s_move (.pointer (some ⟨r, 0, none⟩)) rfl rfl ?_)
  refine r_cons (s_move (.int .u64 0) rfl rfl ?_)
  refine r_cons (s_gtr false rfl rfl (dfalse (by decide)) rfl ?_)
  refine r_cons (s_call [.pointer (some ⟨r, 0, none⟩), .bool false] pl_28 rfl rfl (rd_fails_e r b e (by first | assumption | decide) false (i := 0) rfl H2) ?_)
  rintro _ w3 ⟨rfl, H4⟩
  refine r_nil ?_
  refine g_seq ?_
  refine g_region ?_
  refine r_cons (s_assign (.slice none 0 0) rfl rfl ?_)
  refine r_nil ?_
  refine g_seq ?_
  refine g_seq ?_
  refine g_region ?_
  refine r_cons (s_assign (.int .u64 0) rfl rfl ?_)
  refine r_nil ?_
  refine g_block ?_
  refine g_loop ?_
  refine g_seq ?_
  refine g_seq ?_
  refine g_region ?_
  refine r_cons (s_move (.int .u64 0) rfl rfl ?_)
  refine r_cons (s_move (.int .u64 0) rfl rfl ?_)
  refine r_cons (s_lss false rfl rfl (dfalse (by decide)) rfl ?_)
  refine r_cons (s_move (.bool false) rfl rfl ?_)
  refine r_cons (r_pass rfl rfl rfl rfl rfl ?_)
  refine r_cons (r_pass rfl rfl rfl rfl rfl ?_)
  refine r_cons (r_pass rfl rfl rfl rfl rfl ?_)
  refine r_cons (r_pass rfl rfl rfl rfl rfl ?_)
  refine r_cons (r_pass rfl rfl rfl rfl rfl ?_)
  refine r_cons (s_pick_f (.bool false) rfl rfl rfl ?_)
  refine r_nil ?_
  refine g_false rfl ?_
  refine g_exit (by rfl) ?_
  refine g_seq ?_
  refine g_region ?_
  refine r_cons (s_move (.slice none 0 0) rfl rfl ?_)
  refine r_cons (s_assign (.slice none 0 0) rfl rfl ?_)
  refine r_nil ?_
  refine g_ret' [.slice none 0 0] Try.func31 Try.results31 ⟨rfl, trivial⟩ ?_
  have H5 : St W w3 (blk r (.cells #[.pointer (some ⟨b, 0, none⟩), .int .i64 e] 50 (0, 0)) :: (F.set i emp)) := H4
  exact ⟨rfl, St.back_same hi H5⟩
end Sl
