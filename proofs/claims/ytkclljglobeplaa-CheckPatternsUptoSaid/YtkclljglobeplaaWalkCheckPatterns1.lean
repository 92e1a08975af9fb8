/- Walks of the program's functions. Printed by a program of this claim's author. No condition. -/
import Derived.Test.YtkclljglobeplaaSlCG
import Derived.Test.YtkclljglobeplaaSlQ
import Derived.Test.YtkclljglobeplaaProg
import Derived.Test.YtkclljglobeplaaWalkCheckPatterns0
namespace Sl
open _root_.Go _root_.Go.RowKit _root_.Go.Proofs
set_option linter.all false
set_option maxHeartbeats 4000000 in
set_option maxRecDepth 100000 in
theorem ref07_Vars_r (N : Nat) : ∀ (n : NodeD), sizeOf n < N → ∀ {W w : World} {F : List Atom}  {i : Nat} (hi : F[i]? = some (NodeA n)) (hz : sizeN n ≤ 1048576) (H : St W w F), Calls Try.prog 25 #[.agg #[.int .i64 n.kind.v, .string n.var.v, .string n.typ.v, .slice n.tp n.tests.length n.tc, .slice n.kp n.kids.length n.kc]] w (Ret fun v w' => ∃ p c, v = .slice p (varsS n).length c ∧ St W w' (Im 1 (.slice p (varsS n).length c) (varsS n).length ((varsS n).flatMap strCell) :: F)) := by
  induction N with | zero => exact fun n hN => absurd hN (Nat.not_lt_zero _) | succ N ih => ?_
  intro n hN W w F i hi hz H
  have H1 := NodeA.kids H (i := i + 0) (by exact hi)
  have H2 : St W w (Im 5 (.slice n.kp n.kids.length n.kc) n.kids.length (n.kids.flatMap nodeCell) :: NodesA n.kids :: F) := H1
  refine calls_of_go (n := 40) Try.func25 rfl Try.ntmps25 rfl ?_
  refine g_seq ?_
  refine g_region ?_
  refine r_cons (s_box H2 25 (.agg #[.int .i64 n.kind.v, .string n.var.v, .string n.typ.v, .slice n.tp n.tests.length n.tc, .slice n.kp n.kids.length n.kc]) rfl (cs := #[.int .i64 n.kind.v, .string n.var.v, .string n.typ.v, .slice n.tp n.tests.length n.tc, .slice n.kp n.kids.length n.kc]) rfl rfl ?_); intro bk3 w4 H5
  refine r_cons (s_assign (.slice none 0 0) rfl rfl ?_)
  refine r_nil ?_
  refine g_seq ?_
  refine g_region ?_
  refine r_cons (s_assign (.slice none 0 0) rfl rfl ?_)
  refine r_nil ?_
  refine g_seq ?_
  refine g_seq ?_
  refine g_region ?_
  refine r_cons (s_fieldAddr 25 1 1 1 9 rfl fi_25_1 rfl rfl ?_)
  refine r_cons (s_load (.string n.var.v) ag_9 rfl (H5.blk_at (i := 0) rfl) rfl rfl ?_)
  by_cases hc6 : n.var.v = ByteArray.empty
  · skip
    refine r_cons (s_sneq false rfl rfl (ntrue hc6) rfl ?_)
    refine r_nil ?_
    refine g_false rfl ?_
    refine g_skip ?_
    refine g_seq ?_
    refine g_seq ?_
    refine g_region ?_
    refine r_cons (s_assign (.int .i64 0) rfl rfl ?_)
    refine r_nil ?_
    refine g_block ?_
    obtain ⟨pA7, cA8, gA9, oA10, kA11, eA12, zA13, he19, hn14, hp15, hx16, hs17, hml, H18⟩ := Im.open_ H5 (i := 1) rfl
    obtain ⟨rfl, rfl⟩ : n.kp = pA7 ∧ n.kc = cA8 := by injection he19 with a_ b_ c_; exact ⟨a_, c_⟩
    have H20 : St W w4 (Im 1 (.slice none 0 0) (([] : List Str).length) (([] : List Str).flatMap strCell) :: imi (0 < n.kids.length) gA9 (.cells kA11 eA12 zA13) :: blk bk3 (.cells #[.int .i64 n.kind.v, .string n.var.v, .string n.typ.v, .slice n.tp n.tests.length n.tc, .slice n.kp n.kids.length n.kc] 25 (0, 0)) :: Im 5 (.slice n.kp n.kids.length n.kc) n.kids.length (n.kids.flatMap nodeCell) :: NodesA n.kids :: F) := Row.im (Row.nil_intro H18 9 1) (i := 0) rfl
    have hA21 : ([] : List Str) = (sortS (varF (n.kids.take 0) (varA n))) := by rw [show varA n = [] from if_pos hc6]; exact sortS_nil.symm
    have H22 : St W w4 (Im 1 (.slice none ((sortS (varF (n.kids.take 0) (varA n))).length) 0) ((sortS (varF (n.kids.take 0) (varA n))).length) ((sortS (varF (n.kids.take 0) (varA n))).flatMap strCell) :: imi (0 < n.kids.length) gA9 (.cells kA11 eA12 zA13) :: blk bk3 (.cells #[.int .i64 n.kind.v, .string n.var.v, .string n.typ.v, .slice n.tp n.tests.length n.tc, .slice n.kp n.kids.length n.kc] 25 (0, 0)) :: Im 5 (.slice n.kp n.kids.length n.kc) n.kids.length (n.kids.flatMap nodeCell) :: NodesA n.kids :: F) := by rw [← hA21]; exact H20
    have H23 : St W w4 (Im 1 (.slice none ((sortS (varF (n.kids.take 0) (varA n))).length) 0) ((sortS (varF (n.kids.take 0) (varA n))).length) ((sortS (varF (n.kids.take 0) (varA n))).flatMap strCell) :: imi (0 < n.kids.length) gA9 (.cells kA11 eA12 zA13) :: blk bk3 (.cells #[.int .i64 n.kind.v, .string n.var.v, .string n.typ.v, .slice n.tp n.tests.length n.tc, .slice n.kp n.kids.length n.kc] 25 (0, 0)) :: Im 5 (.slice n.kp n.kids.length n.kc) n.kids.length (n.kids.flatMap nodeCell) :: NodesA n.kids :: F) := (((((H22.move 4 rfl).move 4 rfl).move 4 rfl).move 4 rfl).move 4 rfl)
    refine g_loop_inv (fun (x_ : (Option Addr) × Nat × Nat) => match x_ with | (p_j3, c_j3, j) => [(1, .pointer (some ⟨bk3, 0, none⟩)), (2, .slice none 0 0), (3, .slice p_j3 ((sortS (varF (n.kids.take j) (varA n))).length) c_j3), (4, .int .i64 (j : Int))]) (fun (x_ : (Option Addr) × Nat × Nat) w => match x_ with | (p_j3, c_j3, j) => (j ≤ n.kids.length) ∧ St W w (Im 1 (.slice p_j3 ((sortS (varF (n.kids.take j) (varA n))).length) c_j3) ((sortS (varF (n.kids.take j) (varA n))).length) ((sortS (varF (n.kids.take j) (varA n))).flatMap strCell) :: imi (0 < n.kids.length) gA9 (.cells kA11 eA12 zA13) :: blk bk3 (.cells #[.int .i64 n.kind.v, .string n.var.v, .string n.typ.v, .slice n.tp n.tests.length n.tc, .slice n.kp n.kids.length n.kc] 25 (0, 0)) :: Im 5 (.slice n.kp n.kids.length n.kc) n.kids.length (n.kids.flatMap nodeCell) :: NodesA n.kids :: F)) (fun (x_ : (Option Addr) × Nat × Nat) => match x_ with | (p_j3, c_j3, j) => n.kids.length - j) (none, 0, 0) ?_ ?_ ?_
    · exact ⟨by first | rfl | exact vint (by omega), by first | rfl | exact vint (by omega), (show (.slice none 0 0 : Value) = .slice none ((sortS (varF (n.kids.take 0) (varA n))).length) 0 from by first | (rw [← hA21]; done) | (rw [← hA21]; rfl)), by first | rfl | exact vint (by omega), trivial⟩
    · exact ⟨(by omega), H23⟩
    · rintro ⟨p_j3, c_j3, j⟩ ρ24 w25 ⟨hjl, H26⟩ nx27
      change Ends _ _ (upds ρ24 [(1, .pointer (some ⟨bk3, 0, none⟩)), (2, .slice none 0 0), (3, .slice p_j3 ((sortS (varF (n.kids.take j) (varA n))).length) c_j3), (4, .int .i64 (j : Int))]) w25
      refine g_seq ?_
      refine g_seq ?_
      refine g_region ?_
      refine r_cons (s_move (.int .i64 (j : Int)) rfl rfl ?_)
      refine r_cons (s_fieldAddr 25 4 4 4 23 rfl fi_25_4 rfl rfl ?_)
      refine r_cons (s_load (.slice n.kp n.kids.length n.kc) ag_23 rfl (H26.blk_at (i := 2) rfl) rfl rfl ?_)
      refine r_cons (s_len n.kids.length rfl ⟨_, un_23⟩ rfl ?_)
      by_cases hc28 : (j : Int) < (n.kids.length : Int)
      · skip
        refine r_cons (s_lss true rfl rfl (dtrue hc28) rfl ?_)
        refine r_nil ?_
        refine g_true rfl ?_
        refine g_skip ?_
        refine g_seq ?_
        refine g_block ?_
        refine g_seq ?_
        refine g_region ?_
        refine r_cons (s_fieldAddr 25 4 4 4 23 rfl fi_25_4 rfl rfl ?_)
        refine r_cons (s_load (.slice n.kp n.kids.length n.kc) ag_23 rfl (H26.blk_at (i := 2) rfl) rfl rfl ?_)
        refine r_cons (s_move (.int .i64 (j : Int)) rfl rfl ?_)
        refine r_cons (s_indexAddr gA9 (off := oA10) (j : Int) 5 (oA10 + j * 5) (by exact congrArg (fun z_ => Value.slice z_ n.kids.length n.kc) (hp15 (by omega))) rfl el_23 (by omega) rfl rfl ?_)
        refine r_cons (s_loadAgg [.int .i64 ((n.kids.getD j default).kind.v), .string ((n.kids.getD j default).var.v), .string ((n.kids.getD j default).typ.v), .slice ((n.kids.getD j default).tp) ((n.kids.getD j default).tests.length) ((n.kids.getD j default).tc), .slice ((n.kids.getD j default).kp) ((n.kids.getD j default).kids.length) ((n.kids.getD j default).kc)] 5 ag_25 rfl (H26.imi_at (i := 1) rfl (by omega)) (by have := elem_size (i := j) (s := 5) (hs17 (by omega)) (by omega); omega) (elem_take nodeCell_len (hx16 (by omega)) (by omega) default) rfl ?_)
        have H29 := NodesA.at H26 (i := 4) rfl (j := j) (by omega)
        refine r_cons (s_call [.agg #[.int .i64 ((n.kids.getD j default).kind.v), .string ((n.kids.getD j default).var.v), .string ((n.kids.getD j default).typ.v), .slice ((n.kids.getD j default).tp) ((n.kids.getD j default).tests.length) ((n.kids.getD j default).tc), .slice ((n.kids.getD j default).kp) ((n.kids.getD j default).kids.length) ((n.kids.getD j default).kc)]] pl_25 rfl rfl (ih (n.kids.getD j default) (by have h9 := kid_lt (n := n) (j := j) (by omega); omega) (i := 0) rfl (by have h9 := sizeN_kid (n := n) (j := j) (by omega); omega) H29) ?_)
        rintro _ w32 ⟨pp30, cc31, rfl, H33⟩
        refine r_cons (s_assign (.slice pp30 ((varsS (n.kids.getD j default)).length) cc31) rfl rfl ?_)
        refine r_nil ?_
        refine g_seq ?_
        refine g_region ?_
        refine r_cons (s_assign (.int .i64 0) rfl rfl ?_)
        refine r_nil ?_
        refine g_block ?_
        obtain ⟨pA34, cA35, gA36, oA37, kA38, eA39, zA40, he46, hn41, hp42, hx43, hs44, hml, H45⟩ := Im.open_ H33 (i := 0) rfl
        obtain ⟨rfl, rfl⟩ : pp30 = pA34 ∧ cc31 = cA35 := by injection he46 with a_ b_ c_; exact ⟨a_, c_⟩
        have hA47 : (sortS (varF (n.kids.take j) (varA n))) = (sortS (((varsS (n.kids.getD j default)).take 0).foldl addS (varF (n.kids.take j) (varA n)))) := rfl
        have H48 : St W w32 (imi (0 < (varsS (n.kids.getD j default)).length) gA36 (.cells kA38 eA39 zA40) :: Im 1 (.slice pp30 ((varsS (n.kids.getD j default)).length) cc31) ((varsS (n.kids.getD j default)).length) ((varsS (n.kids.getD j default)).flatMap strCell) :: NodeA (n.kids.getD j default) :: Im 1 (.slice p_j3 ((sortS (((varsS (n.kids.getD j default)).take 0).foldl addS (varF (n.kids.take j) (varA n)))).length) c_j3) ((sortS (((varsS (n.kids.getD j default)).take 0).foldl addS (varF (n.kids.take j) (varA n)))).length) ((sortS (((varsS (n.kids.getD j default)).take 0).foldl addS (varF (n.kids.take j) (varA n)))).flatMap strCell) :: imi (0 < n.kids.length) gA9 (.cells kA11 eA12 zA13) :: blk bk3 (.cells #[.int .i64 n.kind.v, .string n.var.v, .string n.typ.v, .slice n.tp n.tests.length n.tc, .slice n.kp n.kids.length n.kc] 25 (0, 0)) :: Im 5 (.slice n.kp n.kids.length n.kc) n.kids.length (n.kids.flatMap nodeCell) :: NodesA n.kids :: F) := by rw [← hA47]; exact H45
        have H49 : St W w32 (imi (0 < (varsS (n.kids.getD j default)).length) gA36 (.cells kA38 eA39 zA40) :: Im 1 (.slice pp30 ((varsS (n.kids.getD j default)).length) cc31) ((varsS (n.kids.getD j default)).length) ((varsS (n.kids.getD j default)).flatMap strCell) :: NodeA (n.kids.getD j default) :: Im 1 (.slice p_j3 ((sortS (((varsS (n.kids.getD j default)).take 0).foldl addS (varF (n.kids.take j) (varA n)))).length) c_j3) ((sortS (((varsS (n.kids.getD j default)).take 0).foldl addS (varF (n.kids.take j) (varA n)))).length) ((sortS (((varsS (n.kids.getD j default)).take 0).foldl addS (varF (n.kids.take j) (varA n)))).flatMap strCell) :: imi (0 < n.kids.length) gA9 (.cells kA11 eA12 zA13) :: blk bk3 (.cells #[.int .i64 n.kind.v, .string n.var.v, .string n.typ.v, .slice n.tp n.tests.length n.tc, .slice n.kp n.kids.length n.kc] 25 (0, 0)) :: Im 5 (.slice n.kp n.kids.length n.kc) n.kids.length (n.kids.flatMap nodeCell) :: NodesA n.kids :: F) := ((((((((H48.move 7 rfl).move 7 rfl).move 7 rfl).move 7 rfl).move 7 rfl).move 7 rfl).move 7 rfl).move 7 rfl)
        refine g_loop_inv (fun (x_ : (Option Addr) × Nat × Nat) => match x_ with | (p_q3, c_q3, q) => [(1, .pointer (some ⟨bk3, 0, none⟩)), (2, .slice none 0 0), (3, .slice p_q3 ((sortS (((varsS (n.kids.getD j default)).take q).foldl addS (varF (n.kids.take j) (varA n)))).length) c_q3), (4, .int .i64 (j : Int)), (5, .slice pp30 ((varsS (n.kids.getD j default)).length) cc31), (6, .int .i64 (q : Int))]) (fun (x_ : (Option Addr) × Nat × Nat) w => match x_ with | (p_q3, c_q3, q) => (q ≤ (varsS (n.kids.getD j default)).length) ∧ St W w (imi (0 < (varsS (n.kids.getD j default)).length) gA36 (.cells kA38 eA39 zA40) :: Im 1 (.slice pp30 ((varsS (n.kids.getD j default)).length) cc31) ((varsS (n.kids.getD j default)).length) ((varsS (n.kids.getD j default)).flatMap strCell) :: NodeA (n.kids.getD j default) :: Im 1 (.slice p_q3 ((sortS (((varsS (n.kids.getD j default)).take q).foldl addS (varF (n.kids.take j) (varA n)))).length) c_q3) ((sortS (((varsS (n.kids.getD j default)).take q).foldl addS (varF (n.kids.take j) (varA n)))).length) ((sortS (((varsS (n.kids.getD j default)).take q).foldl addS (varF (n.kids.take j) (varA n)))).flatMap strCell) :: imi (0 < n.kids.length) gA9 (.cells kA11 eA12 zA13) :: blk bk3 (.cells #[.int .i64 n.kind.v, .string n.var.v, .string n.typ.v, .slice n.tp n.tests.length n.tc, .slice n.kp n.kids.length n.kc] 25 (0, 0)) :: Im 5 (.slice n.kp n.kids.length n.kc) n.kids.length (n.kids.flatMap nodeCell) :: NodesA n.kids :: F)) (fun (x_ : (Option Addr) × Nat × Nat) => match x_ with | (p_q3, c_q3, q) => (varsS (n.kids.getD j default)).length - q) (p_j3, c_j3, 0) ?_ ?_ ?_
        · exact ⟨by first | rfl | exact vint (by omega), by first | rfl | exact vint (by omega), (show (.slice p_j3 ((sortS (varF (n.kids.take j) (varA n))).length) c_j3 : Value) = .slice p_j3 ((sortS (((varsS (n.kids.getD j default)).take 0).foldl addS (varF (n.kids.take j) (varA n)))).length) c_j3 from by first | (rw [← hA47]; done) | (rw [← hA47]; rfl)), by first | rfl | exact vint (by omega), by first | rfl | exact vint (by omega), by first | rfl | exact vint (by omega), trivial⟩
        · exact ⟨(by omega), H49⟩
        · rintro ⟨p_q3, c_q3, q⟩ ρ50 w51 ⟨hql, H52⟩ nx53
          change Ends _ _ (upds ρ50 [(1, .pointer (some ⟨bk3, 0, none⟩)), (2, .slice none 0 0), (3, .slice p_q3 ((sortS (((varsS (n.kids.getD j default)).take q).foldl addS (varF (n.kids.take j) (varA n)))).length) c_q3), (4, .int .i64 (j : Int)), (5, .slice pp30 ((varsS (n.kids.getD j default)).length) cc31), (6, .int .i64 (q : Int))]) w51
          refine g_seq ?_
          refine g_seq ?_
          refine g_region ?_
          refine r_cons (s_move (.int .i64 (q : Int)) rfl rfl ?_)
          refine r_cons (s_move (.slice pp30 ((varsS (n.kids.getD j default)).length) cc31) rfl rfl ?_)
          refine r_cons (s_len ((varsS (n.kids.getD j default)).length) rfl ⟨_, un_36⟩ rfl ?_)
          by_cases hc54 : (q : Int) < ((varsS (n.kids.getD j default)).length : Int)
          · skip
            refine r_cons (s_lss true rfl rfl (dtrue hc54) rfl ?_)
            refine r_nil ?_
            refine g_true rfl ?_
            refine g_skip ?_
            refine g_seq ?_
            refine g_block ?_
            refine g_region ?_
            refine r_cons (s_move (.slice p_q3 ((sortS (((varsS (n.kids.getD j default)).take q).foldl addS (varF (n.kids.take j) (varA n)))).length) c_q3) rfl rfl ?_)
            refine r_cons (s_move (.slice pp30 ((varsS (n.kids.getD j default)).length) cc31) rfl rfl ?_)
            refine r_cons (s_move (.int .i64 (q : Int)) rfl rfl ?_)
            refine r_cons (s_indexAddr gA36 (off := oA37) (q : Int) 1 (oA37 + q * 1) (by exact congrArg (fun z_ => Value.slice z_ ((varsS (n.kids.getD j default)).length) cc31) (hp42 (by omega))) rfl el_36 (by omega) rfl rfl ?_)
            refine r_cons (s_load (.string (((varsS (n.kids.getD j default)).getD q default).v)) ag_9 rfl (H52.imi_at (i := 0) rfl (by omega)) (elem_cell (L := (varsS (n.kids.getD j default))) (i := q) strCell_len (hx43 (by omega)) (by omega) default 0 (by decide) _ rfl) rfl ?_)
            refine r_cons (s_call [.slice p_q3 ((sortS (((varsS (n.kids.getD j default)).take q).foldl addS (varF (n.kids.take j) (varA n)))).length) c_q3, .string (((varsS (n.kids.getD j default)).getD q default).v)] pl_45 rfl rfl (ref07_put (sortS (((varsS (n.kids.getD j default)).take q).foldl addS (varF (n.kids.take j) (varA n)))) (.slice p_q3 ((sortS (((varsS (n.kids.getD j default)).take q).foldl addS (varF (n.kids.take j) (varA n)))).length) c_q3) ((varsS (n.kids.getD j default)).getD q default) (m := 3) rfl (by first | (have h9 := varF_bound (n := n) (j := j) (q := q) (by omega); rw [sortS_len]; omega) | exact Nat.zero_le _) H52) ?_)
            rintro _ w57 ⟨pp55, cc56, rfl, H58⟩
            refine r_cons (s_assign (.slice pp55 ((putS (sortS (((varsS (n.kids.getD j default)).take q).foldl addS (varF (n.kids.take j) (varA n)))) ((varsS (n.kids.getD j default)).getD q default)).length) cc56) rfl rfl ?_)
            refine r_nil ?_
            refine g_inBlock ?_
            refine g_region ?_
            refine r_cons (s_move (.int .i64 (q : Int)) rfl rfl ?_)
            refine r_cons (s_add ((q : Int) + 1) rfl rfl (wi64 (by omega)) rfl ?_)
            refine r_cons (s_assign (.int .i64 ((q : Int) + 1)) rfl rfl ?_)
            refine r_nil ?_
            have hA59 : (putS (sortS (((varsS (n.kids.getD j default)).take q).foldl addS (varF (n.kids.take j) (varA n)))) ((varsS (n.kids.getD j default)).getD q default)) = (sortS (((varsS (n.kids.getD j default)).take (q + 1)).foldl addS (varF (n.kids.take j) (varA n)))) := (putS_sort _ _).trans (congrArg sortS (fold_stepS addS _ (by omega)).symm)
            have H60 : St W w57 (Im 1 (.slice pp55 ((sortS (((varsS (n.kids.getD j default)).take (q + 1)).foldl addS (varF (n.kids.take j) (varA n)))).length) cc56) ((sortS (((varsS (n.kids.getD j default)).take (q + 1)).foldl addS (varF (n.kids.take j) (varA n)))).length) ((sortS (((varsS (n.kids.getD j default)).take (q + 1)).foldl addS (varF (n.kids.take j) (varA n)))).flatMap strCell) :: imi (0 < (varsS (n.kids.getD j default)).length) gA36 (.cells kA38 eA39 zA40) :: Im 1 (.slice pp30 ((varsS (n.kids.getD j default)).length) cc31) ((varsS (n.kids.getD j default)).length) ((varsS (n.kids.getD j default)).flatMap strCell) :: NodeA (n.kids.getD j default) :: Im 1 (.slice p_q3 ((sortS (((varsS (n.kids.getD j default)).take q).foldl addS (varF (n.kids.take j) (varA n)))).length) c_q3) ((sortS (((varsS (n.kids.getD j default)).take q).foldl addS (varF (n.kids.take j) (varA n)))).length) ((sortS (((varsS (n.kids.getD j default)).take q).foldl addS (varF (n.kids.take j) (varA n)))).flatMap strCell) :: imi (0 < n.kids.length) gA9 (.cells kA11 eA12 zA13) :: blk bk3 (.cells #[.int .i64 n.kind.v, .string n.var.v, .string n.typ.v, .slice n.tp n.tests.length n.tc, .slice n.kp n.kids.length n.kc] 25 (0, 0)) :: Im 5 (.slice n.kp n.kids.length n.kc) n.kids.length (n.kids.flatMap nodeCell) :: NodesA n.kids :: F) := by rw [← hA59]; exact H58
            have H61 : St W w57 (imi (0 < (varsS (n.kids.getD j default)).length) gA36 (.cells kA38 eA39 zA40) :: Im 1 (.slice pp30 ((varsS (n.kids.getD j default)).length) cc31) ((varsS (n.kids.getD j default)).length) ((varsS (n.kids.getD j default)).flatMap strCell) :: NodeA (n.kids.getD j default) :: Im 1 (.slice pp55 ((sortS (((varsS (n.kids.getD j default)).take (q + 1)).foldl addS (varF (n.kids.take j) (varA n)))).length) cc56) ((sortS (((varsS (n.kids.getD j default)).take (q + 1)).foldl addS (varF (n.kids.take j) (varA n)))).length) ((sortS (((varsS (n.kids.getD j default)).take (q + 1)).foldl addS (varF (n.kids.take j) (varA n)))).flatMap strCell) :: imi (0 < n.kids.length) gA9 (.cells kA11 eA12 zA13) :: blk bk3 (.cells #[.int .i64 n.kind.v, .string n.var.v, .string n.typ.v, .slice n.tp n.tests.length n.tc, .slice n.kp n.kids.length n.kc] 25 (0, 0)) :: Im 5 (.slice n.kp n.kids.length n.kc) n.kids.length (n.kids.flatMap nodeCell) :: NodesA n.kids :: F) := (((((((((H60.move 8 rfl).move 8 rfl).move 8 rfl).move 8 rfl).move 4 rfl).move 7 rfl).move 7 rfl).move 7 rfl).drop 8 rfl)
            exact nx53 (pp55, cc56, q + 1) _ _ ⟨(by omega), H61⟩ (by first | (dsimp only; omega) | omega) ⟨by first | rfl | exact vint (by omega), by first | rfl | exact vint (by omega), (show (.slice pp55 ((putS (sortS (((varsS (n.kids.getD j default)).take q).foldl addS (varF (n.kids.take j) (varA n)))) ((varsS (n.kids.getD j default)).getD q default)).length) cc56 : Value) = .slice pp55 ((sortS (((varsS (n.kids.getD j default)).take (q + 1)).foldl addS (varF (n.kids.take j) (varA n)))).length) cc56 from by first | (rw [← hA59]; done) | (rw [← hA59]; rfl)), by first | rfl | exact vint (by omega), by first | rfl | exact vint (by omega), by first | rfl | exact vint (by omega), trivial⟩
          · skip
            refine r_cons (s_lss false rfl rfl (dfalse hc54) rfl ?_)
            refine r_nil ?_
            refine g_false rfl ?_
            refine g_exit (by rfl) ?_
            refine g_inBlock ?_
            refine g_region ?_
            refine r_cons (s_move (.int .i64 (j : Int)) rfl rfl ?_)
            refine r_cons (s_add ((j : Int) + 1) rfl rfl (wi64 (by omega)) rfl ?_)
            refine r_cons (s_assign (.int .i64 ((j : Int) + 1)) rfl rfl ?_)
            refine r_nil ?_
            have hA62 : (sortS (((varsS (n.kids.getD j default)).take q).foldl addS (varF (n.kids.take j) (varA n)))) = (sortS (varF (n.kids.take (j + 1)) (varA n))) := by rw [varF_step (by omega), fold_allS _ _ (by omega)]
            have H63 : St W w51 (imi (0 < (varsS (n.kids.getD j default)).length) gA36 (.cells kA38 eA39 zA40) :: Im 1 (.slice pp30 ((varsS (n.kids.getD j default)).length) cc31) ((varsS (n.kids.getD j default)).length) ((varsS (n.kids.getD j default)).flatMap strCell) :: NodeA (n.kids.getD j default) :: Im 1 (.slice p_q3 ((sortS (varF (n.kids.take (j + 1)) (varA n))).length) c_q3) ((sortS (varF (n.kids.take (j + 1)) (varA n))).length) ((sortS (varF (n.kids.take (j + 1)) (varA n))).flatMap strCell) :: imi (0 < n.kids.length) gA9 (.cells kA11 eA12 zA13) :: blk bk3 (.cells #[.int .i64 n.kind.v, .string n.var.v, .string n.typ.v, .slice n.tp n.tests.length n.tc, .slice n.kp n.kids.length n.kc] 25 (0, 0)) :: Im 5 (.slice n.kp n.kids.length n.kc) n.kids.length (n.kids.flatMap nodeCell) :: NodesA n.kids :: F) := by rw [← hA62]; exact H52
            have H64 : St W w51 (Im 1 (.slice p_q3 ((sortS (varF (n.kids.take (j + 1)) (varA n))).length) c_q3) ((sortS (varF (n.kids.take (j + 1)) (varA n))).length) ((sortS (varF (n.kids.take (j + 1)) (varA n))).flatMap strCell) :: imi (0 < n.kids.length) gA9 (.cells kA11 eA12 zA13) :: blk bk3 (.cells #[.int .i64 n.kind.v, .string n.var.v, .string n.typ.v, .slice n.tp n.tests.length n.tc, .slice n.kp n.kids.length n.kc] 25 (0, 0)) :: Im 5 (.slice n.kp n.kids.length n.kc) n.kids.length (n.kids.flatMap nodeCell) :: NodesA n.kids :: F) := ((((((((H63.move 7 rfl).move 7 rfl).move 7 rfl).move 7 rfl).move 7 rfl).drop 5 rfl).drop 5 rfl).drop 5 rfl)
            exact nx27 (p_q3, c_q3, j + 1) _ _ ⟨(by omega), H64⟩ (by first | (dsimp only; omega) | omega) ⟨by first | rfl | exact vint (by omega), by first | rfl | exact vint (by omega), (show (.slice p_q3 ((sortS (((varsS (n.kids.getD j default)).take q).foldl addS (varF (n.kids.take j) (varA n)))).length) c_q3 : Value) = .slice p_q3 ((sortS (varF (n.kids.take (j + 1)) (varA n))).length) c_q3 from by first | (rw [← hA62]; done) | (rw [← hA62]; rfl)), by first | rfl | exact vint (by omega), trivial⟩
      · skip
        refine r_cons (s_lss false rfl rfl (dfalse hc28) rfl ?_)
        refine r_nil ?_
        refine g_false rfl ?_
        refine g_exit (by rfl) ?_
        refine g_seq ?_
        refine g_region ?_
        refine r_cons (s_move (.slice p_j3 ((sortS (varF (n.kids.take j) (varA n))).length) c_j3) rfl rfl ?_)
        refine r_cons (s_assign (.slice p_j3 ((sortS (varF (n.kids.take j) (varA n))).length) c_j3) rfl rfl ?_)
        refine r_nil ?_
        refine g_ret' [.slice p_j3 ((sortS (varF (n.kids.take j) (varA n))).length) c_j3] Try.func25 Try.results25 ⟨rfl, trivial⟩ ?_
        have H65 : St W w25 (Im 1 (.slice p_j3 ((sortS (varF (n.kids.take j) (varA n))).length) c_j3) ((sortS (varF (n.kids.take j) (varA n))).length) ((sortS (varF (n.kids.take j) (varA n))).flatMap strCell) :: F) := ((((H26.drop 1 rfl).drop 1 rfl).drop 1 rfl).drop 1 rfl)
        have hq9 : (sortS (varF (n.kids.take j) (varA n))) = varsS n := by rw [List.take_of_length_le (by omega)]; exact varsS_fold n
        exact ⟨p_j3, c_j3, by rw [← hq9]; rfl, by rw [← hq9]; exact H65⟩
  · skip
    refine r_cons (s_sneq true rfl rfl (nfalse hc6) rfl ?_)
    refine r_nil ?_
    refine g_true rfl ?_
    refine g_region ?_
    refine r_cons (s_move (.slice none 0 0) rfl rfl ?_)
    refine r_cons (s_fieldAddr 25 1 1 1 9 rfl fi_25_1 rfl rfl ?_)
    refine r_cons (s_load (.string n.var.v) ag_9 rfl (H5.blk_at (i := 0) rfl) rfl rfl ?_)
    have H66 : St W w4 (Im 1 (.slice none 0 0) (([] : List Str).length) (([] : List Str).flatMap strCell) :: blk bk3 (.cells #[.int .i64 n.kind.v, .string n.var.v, .string n.typ.v, .slice n.tp n.tests.length n.tc, .slice n.kp n.kids.length n.kc] 25 (0, 0)) :: Im 5 (.slice n.kp n.kids.length n.kc) n.kids.length (n.kids.flatMap nodeCell) :: NodesA n.kids :: F) := Row.im (Row.nil_intro H5 9 1) (i := 0) rfl
    refine r_cons (s_call [.slice none 0 0, .string n.var.v] pl_45 rfl rfl (ref07_put ([] : List Str) (.slice none 0 0) n.var (m := 0) rfl (by first | (have h9 := varF_bound (n := n) (j := j) (q := q) (by omega); rw [sortS_len]; omega) | exact Nat.zero_le _) H66) ?_)
    rintro _ w69 ⟨pp67, cc68, rfl, H70⟩
    refine r_cons (s_assign (.slice pp67 ((putS ([] : List Str) n.var).length) cc68) rfl rfl ?_)
    refine r_nil ?_
    refine g_seq ?_
    refine g_seq ?_
    refine g_region ?_
    refine r_cons (s_assign (.int .i64 0) rfl rfl ?_)
    refine r_nil ?_
    refine g_block ?_
    obtain ⟨pA71, cA72, gA73, oA74, kA75, eA76, zA77, he83, hn78, hp79, hx80, hs81, hml, H82⟩ := Im.open_ H70 (i := 3) rfl
    obtain ⟨rfl, rfl⟩ : n.kp = pA71 ∧ n.kc = cA72 := by injection he83 with a_ b_ c_; exact ⟨a_, c_⟩
    have hA84 : (putS ([] : List Str) n.var) = (sortS (varF (n.kids.take 0) (varA n))) := by rw [show varA n = addS [] n.var from if_neg hc6]; exact (congrArg (fun l_ => putS l_ n.var) sortS_nil.symm).trans (putS_sort [] n.var)
    have H85 : St W w69 (imi (0 < n.kids.length) gA73 (.cells kA75 eA76 zA77) :: Im 1 (.slice pp67 ((sortS (varF (n.kids.take 0) (varA n))).length) cc68) ((sortS (varF (n.kids.take 0) (varA n))).length) ((sortS (varF (n.kids.take 0) (varA n))).flatMap strCell) :: Im 1 (.slice none 0 0) (([] : List Str).length) (([] : List Str).flatMap strCell) :: blk bk3 (.cells #[.int .i64 n.kind.v, .string n.var.v, .string n.typ.v, .slice n.tp n.tests.length n.tc, .slice n.kp n.kids.length n.kc] 25 (0, 0)) :: Im 5 (.slice n.kp n.kids.length n.kc) n.kids.length (n.kids.flatMap nodeCell) :: NodesA n.kids :: F) := by rw [← hA84]; exact H82
    have H86 : St W w69 (imi (0 < n.kids.length) gA73 (.cells kA75 eA76 zA77) :: Im 1 (.slice pp67 ((sortS (varF (n.kids.take 0) (varA n))).length) cc68) ((sortS (varF (n.kids.take 0) (varA n))).length) ((sortS (varF (n.kids.take 0) (varA n))).flatMap strCell) :: Im 1 (.slice none 0 0) (([] : List Str).length) (([] : List Str).flatMap strCell) :: blk bk3 (.cells #[.int .i64 n.kind.v, .string n.var.v, .string n.typ.v, .slice n.tp n.tests.length n.tc, .slice n.kp n.kids.length n.kc] 25 (0, 0)) :: Im 5 (.slice n.kp n.kids.length n.kc) n.kids.length (n.kids.flatMap nodeCell) :: NodesA n.kids :: F) := ((((((H85.move 5 rfl).move 5 rfl).move 5 rfl).move 5 rfl).move 5 rfl).move 5 rfl)
    refine g_loop_inv (fun (x_ : (Option Addr) × Nat × Nat) => match x_ with | (p_j3, c_j3, j) => [(1, .pointer (some ⟨bk3, 0, none⟩)), (2, .slice none 0 0), (3, .slice p_j3 ((sortS (varF (n.kids.take j) (varA n))).length) c_j3), (4, .int .i64 (j : Int))]) (fun (x_ : (Option Addr) × Nat × Nat) w => match x_ with | (p_j3, c_j3, j) => (j ≤ n.kids.length) ∧ St W w (imi (0 < n.kids.length) gA73 (.cells kA75 eA76 zA77) :: Im 1 (.slice p_j3 ((sortS (varF (n.kids.take j) (varA n))).length) c_j3) ((sortS (varF (n.kids.take j) (varA n))).length) ((sortS (varF (n.kids.take j) (varA n))).flatMap strCell) :: Im 1 (.slice none 0 0) (([] : List Str).length) (([] : List Str).flatMap strCell) :: blk bk3 (.cells #[.int .i64 n.kind.v, .string n.var.v, .string n.typ.v, .slice n.tp n.tests.length n.tc, .slice n.kp n.kids.length n.kc] 25 (0, 0)) :: Im 5 (.slice n.kp n.kids.length n.kc) n.kids.length (n.kids.flatMap nodeCell) :: NodesA n.kids :: F)) (fun (x_ : (Option Addr) × Nat × Nat) => match x_ with | (p_j3, c_j3, j) => n.kids.length - j) (pp67, cc68, 0) ?_ ?_ ?_
    · exact ⟨by first | rfl | exact vint (by omega), by first | rfl | exact vint (by omega), (show (.slice pp67 ((putS ([] : List Str) n.var).length) cc68 : Value) = .slice pp67 ((sortS (varF (n.kids.take 0) (varA n))).length) cc68 from by first | (rw [← hA84]; done) | (rw [← hA84]; rfl)), by first | rfl | exact vint (by omega), trivial⟩
    · exact ⟨(by omega), H86⟩
    · rintro ⟨p_j3, c_j3, j⟩ ρ87 w88 ⟨hjl, H89⟩ nx90
      change Ends _ _ (upds ρ87 [(1, .pointer (some ⟨bk3, 0, none⟩)), (2, .slice none 0 0), (3, .slice p_j3 ((sortS (varF (n.kids.take j) (varA n))).length) c_j3), (4, .int .i64 (j : Int))]) w88
      refine g_seq ?_
      refine g_seq ?_
      refine g_region ?_
      refine r_cons (s_move (.int .i64 (j : Int)) rfl rfl ?_)
      refine r_cons (s_fieldAddr 25 4 4 4 23 rfl fi_25_4 rfl rfl ?_)
      refine r_cons (s_load (.slice n.kp n.kids.length n.kc) ag_23 rfl (H89.blk_at (i := 3) rfl) rfl rfl ?_)
      refine r_cons (s_len n.kids.length rfl ⟨_, un_23⟩ rfl ?_)
      by_cases hc91 : (j : Int) < (n.kids.length : Int)
      · skip
        refine r_cons (s_lss true rfl rfl (dtrue hc91) rfl ?_)
        refine r_nil ?_
        refine g_true rfl ?_
        refine g_skip ?_
        refine g_seq ?_
        refine g_block ?_
        refine g_seq ?_
        refine g_region ?_
        refine r_cons (s_fieldAddr 25 4 4 4 23 rfl fi_25_4 rfl rfl ?_)
        refine r_cons (s_load (.slice n.kp n.kids.length n.kc) ag_23 rfl (H89.blk_at (i := 3) rfl) rfl rfl ?_)
        refine r_cons (s_move (.int .i64 (j : Int)) rfl rfl ?_)
        refine r_cons (s_indexAddr gA73 (off := oA74) (j : Int) 5 (oA74 + j * 5) (by exact congrArg (fun z_ => Value.slice z_ n.kids.length n.kc) (hp79 (by omega))) rfl el_23 (by omega) rfl rfl ?_)
        refine r_cons (s_loadAgg [.int .i64 ((n.kids.getD j default).kind.v), .string ((n.kids.getD j default).var.v), .string ((n.kids.getD j default).typ.v), .slice ((n.kids.getD j default).tp) ((n.kids.getD j default).tests.length) ((n.kids.getD j default).tc), .slice ((n.kids.getD j default).kp) ((n.kids.getD j default).kids.length) ((n.kids.getD j default).kc)] 5 ag_25 rfl (H89.imi_at (i := 0) rfl (by omega)) (by have := elem_size (i := j) (s := 5) (hs81 (by omega)) (by omega); omega) (elem_take nodeCell_len (hx80 (by omega)) (by omega) default) rfl ?_)
        have H92 := NodesA.at H89 (i := 5) rfl (j := j) (by omega)
        refine r_cons (s_call [.agg #[.int .i64 ((n.kids.getD j default).kind.v), .string ((n.kids.getD j default).var.v), .string ((n.kids.getD j default).typ.v), .slice ((n.kids.getD j default).tp) ((n.kids.getD j default).tests.length) ((n.kids.getD j default).tc), .slice ((n.kids.getD j default).kp) ((n.kids.getD j default).kids.length) ((n.kids.getD j default).kc)]] pl_25 rfl rfl (ih (n.kids.getD j default) (by have h9 := kid_lt (n := n) (j := j) (by omega); omega) (i := 0) rfl (by have h9 := sizeN_kid (n := n) (j := j) (by omega); omega) H92) ?_)
        rintro _ w95 ⟨pp93, cc94, rfl, H96⟩
        refine r_cons (s_assign (.slice pp93 ((varsS (n.kids.getD j default)).length) cc94) rfl rfl ?_)
        refine r_nil ?_
        refine g_seq ?_
        refine g_region ?_
        refine r_cons (s_assign (.int .i64 0) rfl rfl ?_)
        refine r_nil ?_
        refine g_block ?_
        obtain ⟨pA97, cA98, gA99, oA100, kA101, eA102, zA103, he109, hn104, hp105, hx106, hs107, hml, H108⟩ := Im.open_ H96 (i := 0) rfl
        obtain ⟨rfl, rfl⟩ : pp93 = pA97 ∧ cc94 = cA98 := by injection he109 with a_ b_ c_; exact ⟨a_, c_⟩
        have hA110 : (sortS (varF (n.kids.take j) (varA n))) = (sortS (((varsS (n.kids.getD j default)).take 0).foldl addS (varF (n.kids.take j) (varA n)))) := rfl
        have H111 : St W w95 (imi (0 < (varsS (n.kids.getD j default)).length) gA99 (.cells kA101 eA102 zA103) :: Im 1 (.slice pp93 ((varsS (n.kids.getD j default)).length) cc94) ((varsS (n.kids.getD j default)).length) ((varsS (n.kids.getD j default)).flatMap strCell) :: NodeA (n.kids.getD j default) :: imi (0 < n.kids.length) gA73 (.cells kA75 eA76 zA77) :: Im 1 (.slice p_j3 ((sortS (((varsS (n.kids.getD j default)).take 0).foldl addS (varF (n.kids.take j) (varA n)))).length) c_j3) ((sortS (((varsS (n.kids.getD j default)).take 0).foldl addS (varF (n.kids.take j) (varA n)))).length) ((sortS (((varsS (n.kids.getD j default)).take 0).foldl addS (varF (n.kids.take j) (varA n)))).flatMap strCell) :: Im 1 (.slice none 0 0) (([] : List Str).length) (([] : List Str).flatMap strCell) :: blk bk3 (.cells #[.int .i64 n.kind.v, .string n.var.v, .string n.typ.v, .slice n.tp n.tests.length n.tc, .slice n.kp n.kids.length n.kc] 25 (0, 0)) :: Im 5 (.slice n.kp n.kids.length n.kc) n.kids.length (n.kids.flatMap nodeCell) :: NodesA n.kids :: F) := by rw [← hA110]; exact H108
        have H112 : St W w95 (imi (0 < (varsS (n.kids.getD j default)).length) gA99 (.cells kA101 eA102 zA103) :: Im 1 (.slice pp93 ((varsS (n.kids.getD j default)).length) cc94) ((varsS (n.kids.getD j default)).length) ((varsS (n.kids.getD j default)).flatMap strCell) :: NodeA (n.kids.getD j default) :: imi (0 < n.kids.length) gA73 (.cells kA75 eA76 zA77) :: Im 1 (.slice p_j3 ((sortS (((varsS (n.kids.getD j default)).take 0).foldl addS (varF (n.kids.take j) (varA n)))).length) c_j3) ((sortS (((varsS (n.kids.getD j default)).take 0).foldl addS (varF (n.kids.take j) (varA n)))).length) ((sortS (((varsS (n.kids.getD j default)).take 0).foldl addS (varF (n.kids.take j) (varA n)))).flatMap strCell) :: Im 1 (.slice none 0 0) (([] : List Str).length) (([] : List Str).flatMap strCell) :: blk bk3 (.cells #[.int .i64 n.kind.v, .string n.var.v, .string n.typ.v, .slice n.tp n.tests.length n.tc, .slice n.kp n.kids.length n.kc] 25 (0, 0)) :: Im 5 (.slice n.kp n.kids.length n.kc) n.kids.length (n.kids.flatMap nodeCell) :: NodesA n.kids :: F) := (((((((((H111.move 8 rfl).move 8 rfl).move 8 rfl).move 8 rfl).move 8 rfl).move 8 rfl).move 8 rfl).move 8 rfl).move 8 rfl)
        refine g_loop_inv (fun (x_ : (Option Addr) × Nat × Nat) => match x_ with | (p_q3, c_q3, q) => [(1, .pointer (some ⟨bk3, 0, none⟩)), (2, .slice none 0 0), (3, .slice p_q3 ((sortS (((varsS (n.kids.getD j default)).take q).foldl addS (varF (n.kids.take j) (varA n)))).length) c_q3), (4, .int .i64 (j : Int)), (5, .slice pp93 ((varsS (n.kids.getD j default)).length) cc94), (6, .int .i64 (q : Int))]) (fun (x_ : (Option Addr) × Nat × Nat) w => match x_ with | (p_q3, c_q3, q) => (q ≤ (varsS (n.kids.getD j default)).length) ∧ St W w (imi (0 < (varsS (n.kids.getD j default)).length) gA99 (.cells kA101 eA102 zA103) :: Im 1 (.slice pp93 ((varsS (n.kids.getD j default)).length) cc94) ((varsS (n.kids.getD j default)).length) ((varsS (n.kids.getD j default)).flatMap strCell) :: NodeA (n.kids.getD j default) :: imi (0 < n.kids.length) gA73 (.cells kA75 eA76 zA77) :: Im 1 (.slice p_q3 ((sortS (((varsS (n.kids.getD j default)).take q).foldl addS (varF (n.kids.take j) (varA n)))).length) c_q3) ((sortS (((varsS (n.kids.getD j default)).take q).foldl addS (varF (n.kids.take j) (varA n)))).length) ((sortS (((varsS (n.kids.getD j default)).take q).foldl addS (varF (n.kids.take j) (varA n)))).flatMap strCell) :: Im 1 (.slice none 0 0) (([] : List Str).length) (([] : List Str).flatMap strCell) :: blk bk3 (.cells #[.int .i64 n.kind.v, .string n.var.v, .string n.typ.v, .slice n.tp n.tests.length n.tc, .slice n.kp n.kids.length n.kc] 25 (0, 0)) :: Im 5 (.slice n.kp n.kids.length n.kc) n.kids.length (n.kids.flatMap nodeCell) :: NodesA n.kids :: F)) (fun (x_ : (Option Addr) × Nat × Nat) => match x_ with | (p_q3, c_q3, q) => (varsS (n.kids.getD j default)).length - q) (p_j3, c_j3, 0) ?_ ?_ ?_
        · exact ⟨by first | rfl | exact vint (by omega), by first | rfl | exact vint (by omega), (show (.slice p_j3 ((sortS (varF (n.kids.take j) (varA n))).length) c_j3 : Value) = .slice p_j3 ((sortS (((varsS (n.kids.getD j default)).take 0).foldl addS (varF (n.kids.take j) (varA n)))).length) c_j3 from by first | (rw [← hA110]; done) | (rw [← hA110]; rfl)), by first | rfl | exact vint (by omega), by first | rfl | exact vint (by omega), by first | rfl | exact vint (by omega), trivial⟩
        · exact ⟨(by omega), H112⟩
        · rintro ⟨p_q3, c_q3, q⟩ ρ113 w114 ⟨hql, H115⟩ nx116
          change Ends _ _ (upds ρ113 [(1, .pointer (some ⟨bk3, 0, none⟩)), (2, .slice none 0 0), (3, .slice p_q3 ((sortS (((varsS (n.kids.getD j default)).take q).foldl addS (varF (n.kids.take j) (varA n)))).length) c_q3), (4, .int .i64 (j : Int)), (5, .slice pp93 ((varsS (n.kids.getD j default)).length) cc94), (6, .int .i64 (q : Int))]) w114
          refine g_seq ?_
          refine g_seq ?_
          refine g_region ?_
          refine r_cons (s_move (.int .i64 (q : Int)) rfl rfl ?_)
          refine r_cons (s_move (.slice pp93 ((varsS (n.kids.getD j default)).length) cc94) rfl rfl ?_)
          refine r_cons (s_len ((varsS (n.kids.getD j default)).length) rfl ⟨_, un_36⟩ rfl ?_)
          by_cases hc117 : (q : Int) < ((varsS (n.kids.getD j default)).length : Int)
          · skip
            refine r_cons (s_lss true rfl rfl (dtrue hc117) rfl ?_)
            refine r_nil ?_
            refine g_true rfl ?_
            refine g_skip ?_
            refine g_seq ?_
            refine g_block ?_
            refine g_region ?_
            refine r_cons (s_move (.slice p_q3 ((sortS (((varsS (n.kids.getD j default)).take q).foldl addS (varF (n.kids.take j) (varA n)))).length) c_q3) rfl rfl ?_)
            refine r_cons (s_move (.slice pp93 ((varsS (n.kids.getD j default)).length) cc94) rfl rfl ?_)
            refine r_cons (s_move (.int .i64 (q : Int)) rfl rfl ?_)
            refine r_cons (s_indexAddr gA99 (off := oA100) (q : Int) 1 (oA100 + q * 1) (by exact congrArg (fun z_ => Value.slice z_ ((varsS (n.kids.getD j default)).length) cc94) (hp105 (by omega))) rfl el_36 (by omega) rfl rfl ?_)
            refine r_cons (s_load (.string (((varsS (n.kids.getD j default)).getD q default).v)) ag_9 rfl (H115.imi_at (i := 0) rfl (by omega)) (elem_cell (L := (varsS (n.kids.getD j default))) (i := q) strCell_len (hx106 (by omega)) (by omega) default 0 (by decide) _ rfl) rfl ?_)
            refine r_cons (s_call [.slice p_q3 ((sortS (((varsS (n.kids.getD j default)).take q).foldl addS (varF (n.kids.take j) (varA n)))).length) c_q3, .string (((varsS (n.kids.getD j default)).getD q default).v)] pl_45 rfl rfl (ref07_put (sortS (((varsS (n.kids.getD j default)).take q).foldl addS (varF (n.kids.take j) (varA n)))) (.slice p_q3 ((sortS (((varsS (n.kids.getD j default)).take q).foldl addS (varF (n.kids.take j) (varA n)))).length) c_q3) ((varsS (n.kids.getD j default)).getD q default) (m := 4) rfl (by first | (have h9 := varF_bound (n := n) (j := j) (q := q) (by omega); rw [sortS_len]; omega) | exact Nat.zero_le _) H115) ?_)
            rintro _ w120 ⟨pp118, cc119, rfl, H121⟩
            refine r_cons (s_assign (.slice pp118 ((putS (sortS (((varsS (n.kids.getD j default)).take q).foldl addS (varF (n.kids.take j) (varA n)))) ((varsS (n.kids.getD j default)).getD q default)).length) cc119) rfl rfl ?_)
            refine r_nil ?_
            refine g_inBlock ?_
            refine g_region ?_
            refine r_cons (s_move (.int .i64 (q : Int)) rfl rfl ?_)
            refine r_cons (s_add ((q : Int) + 1) rfl rfl (wi64 (by omega)) rfl ?_)
            refine r_cons (s_assign (.int .i64 ((q : Int) + 1)) rfl rfl ?_)
            refine r_nil ?_
            have hA122 : (putS (sortS (((varsS (n.kids.getD j default)).take q).foldl addS (varF (n.kids.take j) (varA n)))) ((varsS (n.kids.getD j default)).getD q default)) = (sortS (((varsS (n.kids.getD j default)).take (q + 1)).foldl addS (varF (n.kids.take j) (varA n)))) := (putS_sort _ _).trans (congrArg sortS (fold_stepS addS _ (by omega)).symm)
            have H123 : St W w120 (Im 1 (.slice pp118 ((sortS (((varsS (n.kids.getD j default)).take (q + 1)).foldl addS (varF (n.kids.take j) (varA n)))).length) cc119) ((sortS (((varsS (n.kids.getD j default)).take (q + 1)).foldl addS (varF (n.kids.take j) (varA n)))).length) ((sortS (((varsS (n.kids.getD j default)).take (q + 1)).foldl addS (varF (n.kids.take j) (varA n)))).flatMap strCell) :: imi (0 < (varsS (n.kids.getD j default)).length) gA99 (.cells kA101 eA102 zA103) :: Im 1 (.slice pp93 ((varsS (n.kids.getD j default)).length) cc94) ((varsS (n.kids.getD j default)).length) ((varsS (n.kids.getD j default)).flatMap strCell) :: NodeA (n.kids.getD j default) :: imi (0 < n.kids.length) gA73 (.cells kA75 eA76 zA77) :: Im 1 (.slice p_q3 ((sortS (((varsS (n.kids.getD j default)).take q).foldl addS (varF (n.kids.take j) (varA n)))).length) c_q3) ((sortS (((varsS (n.kids.getD j default)).take q).foldl addS (varF (n.kids.take j) (varA n)))).length) ((sortS (((varsS (n.kids.getD j default)).take q).foldl addS (varF (n.kids.take j) (varA n)))).flatMap strCell) :: Im 1 (.slice none 0 0) (([] : List Str).length) (([] : List Str).flatMap strCell) :: blk bk3 (.cells #[.int .i64 n.kind.v, .string n.var.v, .string n.typ.v, .slice n.tp n.tests.length n.tc, .slice n.kp n.kids.length n.kc] 25 (0, 0)) :: Im 5 (.slice n.kp n.kids.length n.kc) n.kids.length (n.kids.flatMap nodeCell) :: NodesA n.kids :: F) := by rw [← hA122]; exact H121
            have H124 : St W w120 (imi (0 < (varsS (n.kids.getD j default)).length) gA99 (.cells kA101 eA102 zA103) :: Im 1 (.slice pp93 ((varsS (n.kids.getD j default)).length) cc94) ((varsS (n.kids.getD j default)).length) ((varsS (n.kids.getD j default)).flatMap strCell) :: NodeA (n.kids.getD j default) :: imi (0 < n.kids.length) gA73 (.cells kA75 eA76 zA77) :: Im 1 (.slice pp118 ((sortS (((varsS (n.kids.getD j default)).take (q + 1)).foldl addS (varF (n.kids.take j) (varA n)))).length) cc119) ((sortS (((varsS (n.kids.getD j default)).take (q + 1)).foldl addS (varF (n.kids.take j) (varA n)))).length) ((sortS (((varsS (n.kids.getD j default)).take (q + 1)).foldl addS (varF (n.kids.take j) (varA n)))).flatMap strCell) :: Im 1 (.slice none 0 0) (([] : List Str).length) (([] : List Str).flatMap strCell) :: blk bk3 (.cells #[.int .i64 n.kind.v, .string n.var.v, .string n.typ.v, .slice n.tp n.tests.length n.tc, .slice n.kp n.kids.length n.kc] 25 (0, 0)) :: Im 5 (.slice n.kp n.kids.length n.kc) n.kids.length (n.kids.flatMap nodeCell) :: NodesA n.kids :: F) := ((((((((((H123.move 9 rfl).move 9 rfl).move 9 rfl).move 9 rfl).move 4 rfl).move 8 rfl).move 8 rfl).move 8 rfl).move 8 rfl).drop 9 rfl)
            exact nx116 (pp118, cc119, q + 1) _ _ ⟨(by omega), H124⟩ (by first | (dsimp only; omega) | omega) ⟨by first | rfl | exact vint (by omega), by first | rfl | exact vint (by omega), (show (.slice pp118 ((putS (sortS (((varsS (n.kids.getD j default)).take q).foldl addS (varF (n.kids.take j) (varA n)))) ((varsS (n.kids.getD j default)).getD q default)).length) cc119 : Value) = .slice pp118 ((sortS (((varsS (n.kids.getD j default)).take (q + 1)).foldl addS (varF (n.kids.take j) (varA n)))).length) cc119 from by first | (rw [← hA122]; done) | (rw [← hA122]; rfl)), by first | rfl | exact vint (by omega), by first | rfl | exact vint (by omega), by first | rfl | exact vint (by omega), trivial⟩
          · skip
            refine r_cons (s_lss false rfl rfl (dfalse hc117) rfl ?_)
            refine r_nil ?_
            refine g_false rfl ?_
            refine g_exit (by rfl) ?_
            refine g_inBlock ?_
            refine g_region ?_
            refine r_cons (s_move (.int .i64 (j : Int)) rfl rfl ?_)
            refine r_cons (s_add ((j : Int) + 1) rfl rfl (wi64 (by omega)) rfl ?_)
            refine r_cons (s_assign (.int .i64 ((j : Int) + 1)) rfl rfl ?_)
            refine r_nil ?_
            have hA125 : (sortS (((varsS (n.kids.getD j default)).take q).foldl addS (varF (n.kids.take j) (varA n)))) = (sortS (varF (n.kids.take (j + 1)) (varA n))) := by rw [varF_step (by omega), fold_allS _ _ (by omega)]
            have H126 : St W w114 (imi (0 < (varsS (n.kids.getD j default)).length) gA99 (.cells kA101 eA102 zA103) :: Im 1 (.slice pp93 ((varsS (n.kids.getD j default)).length) cc94) ((varsS (n.kids.getD j default)).length) ((varsS (n.kids.getD j default)).flatMap strCell) :: NodeA (n.kids.getD j default) :: imi (0 < n.kids.length) gA73 (.cells kA75 eA76 zA77) :: Im 1 (.slice p_q3 ((sortS (varF (n.kids.take (j + 1)) (varA n))).length) c_q3) ((sortS (varF (n.kids.take (j + 1)) (varA n))).length) ((sortS (varF (n.kids.take (j + 1)) (varA n))).flatMap strCell) :: Im 1 (.slice none 0 0) (([] : List Str).length) (([] : List Str).flatMap strCell) :: blk bk3 (.cells #[.int .i64 n.kind.v, .string n.var.v, .string n.typ.v, .slice n.tp n.tests.length n.tc, .slice n.kp n.kids.length n.kc] 25 (0, 0)) :: Im 5 (.slice n.kp n.kids.length n.kc) n.kids.length (n.kids.flatMap nodeCell) :: NodesA n.kids :: F) := by rw [← hA125]; exact H115
            have H127 : St W w114 (imi (0 < n.kids.length) gA73 (.cells kA75 eA76 zA77) :: Im 1 (.slice p_q3 ((sortS (varF (n.kids.take (j + 1)) (varA n))).length) c_q3) ((sortS (varF (n.kids.take (j + 1)) (varA n))).length) ((sortS (varF (n.kids.take (j + 1)) (varA n))).flatMap strCell) :: Im 1 (.slice none 0 0) (([] : List Str).length) (([] : List Str).flatMap strCell) :: blk bk3 (.cells #[.int .i64 n.kind.v, .string n.var.v, .string n.typ.v, .slice n.tp n.tests.length n.tc, .slice n.kp n.kids.length n.kc] 25 (0, 0)) :: Im 5 (.slice n.kp n.kids.length n.kc) n.kids.length (n.kids.flatMap nodeCell) :: NodesA n.kids :: F) := (((((((((H126.move 8 rfl).move 8 rfl).move 8 rfl).move 8 rfl).move 8 rfl).move 8 rfl).drop 6 rfl).drop 6 rfl).drop 6 rfl)
            exact nx90 (p_q3, c_q3, j + 1) _ _ ⟨(by omega), H127⟩ (by first | (dsimp only; omega) | omega) ⟨by first | rfl | exact vint (by omega), by first | rfl | exact vint (by omega), (show (.slice p_q3 ((sortS (((varsS (n.kids.getD j default)).take q).foldl addS (varF (n.kids.take j) (varA n)))).length) c_q3 : Value) = .slice p_q3 ((sortS (varF (n.kids.take (j + 1)) (varA n))).length) c_q3 from by first | (rw [← hA125]; done) | (rw [← hA125]; rfl)), by first | rfl | exact vint (by omega), trivial⟩
      · skip
        refine r_cons (s_lss false rfl rfl (dfalse hc91) rfl ?_)
        refine r_nil ?_
        refine g_false rfl ?_
        refine g_exit (by rfl) ?_
        refine g_seq ?_
        refine g_region ?_
        refine r_cons (s_move (.slice p_j3 ((sortS (varF (n.kids.take j) (varA n))).length) c_j3) rfl rfl ?_)
        refine r_cons (s_assign (.slice p_j3 ((sortS (varF (n.kids.take j) (varA n))).length) c_j3) rfl rfl ?_)
        refine r_nil ?_
        refine g_ret' [.slice p_j3 ((sortS (varF (n.kids.take j) (varA n))).length) c_j3] Try.func25 Try.results25 ⟨rfl, trivial⟩ ?_
        have H128 : St W w88 (Im 1 (.slice p_j3 ((sortS (varF (n.kids.take j) (varA n))).length) c_j3) ((sortS (varF (n.kids.take j) (varA n))).length) ((sortS (varF (n.kids.take j) (varA n))).flatMap strCell) :: F) := ((((((H89.move 1 rfl).drop 1 rfl).drop 1 rfl).drop 1 rfl).drop 1 rfl).drop 1 rfl)
        have hq9 : (sortS (varF (n.kids.take j) (varA n))) = varsS n := by rw [List.take_of_length_le (by omega)]; exact varsS_fold n
        exact ⟨p_j3, c_j3, by rw [← hq9]; rfl, by rw [← hq9]; exact H128⟩
theorem ref07_Vars {W w : World} {F : List Atom} (n : NodeD)  {i : Nat} (hi : F[i]? = some (NodeA n)) (hz : sizeN n ≤ 1048576) (H : St W w F) : Calls Try.prog 25 #[.agg #[.int .i64 n.kind.v, .string n.var.v, .string n.typ.v, .slice n.tp n.tests.length n.tc, .slice n.kp n.kids.length n.kc]] w (Ret fun v w' => ∃ p c, v = .slice p (varsS n).length c ∧ St W w' (Im 1 (.slice p (varsS n).length c) (varsS n).length ((varsS n).flatMap strCell) :: F)) := ref07_Vars_r (sizeOf n + 1) n (Nat.lt_succ_self _) hi hz H
set_option maxHeartbeats 4000000 in
set_option maxRecDepth 100000 in
theorem set_list {W w : World} {F : List Atom} (r : Nat) (L : List Str) (hN : L.length ≤ 1048577) (H : St W w (MapA r (ents kS vB (setOf L)) :: F)) : Calls Try.prog 44 #[.map (some r)] w (Ret fun v w' => ∃ p c, v = .slice p (sortS L).length c ∧ St W w' (Im 1 (.slice p (sortS L).length c) (sortS L).length ((sortS L).flatMap strCell) :: F)) := by
  refine calls_of_go (n := 6) Try.func44 rfl Try.ntmps44 rfl ?_
  refine g_seq ?_
  refine g_region ?_
  refine r_cons (s_assign (.slice none 0 0) rfl rfl ?_)
  refine r_nil ?_
  refine g_seq ?_
  refine g_region ?_
  refine r_cons (s_move (.map (some r)) rfl rfl ?_)
  refine r_cons (s_call [.map (some r)] pl_59 rfl rfl (Keys_S r H) ?_)
  rintro _ w2 ⟨bk1, rfl, H3⟩
  refine r_cons (s_call [.func (.func 68) #[] #[.pointer (some ⟨bk1, 0, none⟩)]] pl_58 rfl rfl (Sorted_S bk1 r L (i := 0) rfl (j := 1) rfl (by omega) H3) ?_)
  rintro _ w6 ⟨pp4, cc5, rfl, H7⟩
  refine r_cons (s_assign (.slice pp4 L.length cc5) rfl rfl ?_)
  refine r_nil ?_
  refine g_ret' [.slice pp4 L.length cc5] Try.func44 Try.results44 ⟨rfl, trivial⟩ ?_
  have H8 : St W w6 (Im 1 (.slice pp4 L.length cc5) L.length ((sortS L).flatMap strCell) :: F) := ((H7.drop 1 rfl).drop 1 rfl)
  exact ⟨_, _, by rw [sortS_len]; rfl, by rw [sortS_len]; exact H8⟩
set_option maxHeartbeats 4000000 in
set_option maxRecDepth 100000 in
theorem check_walk_r (N : Nat) : ∀ (n : NodeD), sizeOf n < N → ∀ {W w : World} {F : List Atom} (r g1 g2 : Nat) (L : List Str) {i : Nat} (hi : F[i]? = some (NodeA n)) {i1 : Nat} (h1 : F[i1]? = some (imm g1 (.cells #[.map (some r)] 57 (0, 0)))) {i2 : Nat} (h2 : F[i2]? = some (imm g2 (.cells #[.func (.func 43) #[] #[.pointer (some ⟨g1, 0, none⟩), .pointer (some ⟨g2, 0, none⟩)]] 59 (0, 0)))) (H : St W w (MapA r (ents kS vB (setOf L)) :: F)), Calls Try.prog 43 #[.agg #[.int .i64 n.kind.v, .string n.var.v, .string n.typ.v, .slice n.tp n.tests.length n.tc, .slice n.kp n.kids.length n.kc], .pointer (some ⟨g1, 0, none⟩), .pointer (some ⟨g2, 0, none⟩)] w (Ret fun v w' => v = .tuple #[] ∧ St W w' (MapA r (ents kS vB (setOf (walkN n L))) :: F)) := by
  induction N with | zero => exact fun n hN => absurd hN (Nat.not_lt_zero _) | succ N ih => ?_
  intro n hN W w F r g1 g2 L i hi i1 h1 i2 h2 H
  have H1 := H.dup (i := i1 + 1) (by exact h1) (imm_pers _ _)
  have H2 := H1.dup (i := i2 + 2) (by exact h2) (imm_pers _ _)
  have H3 : St W w (imm g2 (.cells #[.func (.func 43) #[] #[.pointer (some ⟨g1, 0, none⟩), .pointer (some ⟨g2, 0, none⟩)]] 59 (0, 0)) :: imm g1 (.cells #[.map (some r)] 57 (0, 0)) :: MapA r (ents kS vB (setOf L)) :: F) := H2
  have H4 := NodeA.kids H3 (i := i + 3) (by exact hi)
  have H5 : St W w (Im 5 (.slice n.kp n.kids.length n.kc) n.kids.length (n.kids.flatMap nodeCell) :: NodesA n.kids :: imm g2 (.cells #[.func (.func 43) #[] #[.pointer (some ⟨g1, 0, none⟩), .pointer (some ⟨g2, 0, none⟩)]] 59 (0, 0)) :: imm g1 (.cells #[.map (some r)] 57 (0, 0)) :: MapA r (ents kS vB (setOf L)) :: F) := H4
  refine calls_of_go (n := 23) Try.func43 rfl Try.ntmps43 rfl ?_
  refine g_seq ?_
  refine g_region ?_
  refine r_cons (s_box H5 25 (.agg #[.int .i64 n.kind.v, .string n.var.v, .string n.typ.v, .slice n.tp n.tests.length n.tc, .slice n.kp n.kids.length n.kc]) rfl (cs := #[.int .i64 n.kind.v, .string n.var.v, .string n.typ.v, .slice n.tp n.tests.length n.tc, .slice n.kp n.kids.length n.kc]) rfl rfl ?_); intro bk6 w7 H8
  refine r_nil ?_
  refine g_seq ?_
  refine g_seq ?_
  refine g_region ?_
  refine r_cons (s_fieldAddr 25 1 1 1 9 rfl fi_25_1 rfl rfl ?_)
  refine r_cons (s_load (.string n.var.v) ag_9 rfl (H8.blk_at (i := 0) rfl) rfl rfl ?_)
  by_cases hc9 : n.var.v = ByteArray.empty
  · skip
    refine r_cons (s_sneq false rfl rfl (ntrue hc9) rfl ?_)
    refine r_nil ?_
    refine g_false rfl ?_
    refine g_skip ?_
    refine g_seq ?_
    refine g_region ?_
    refine r_cons (s_fieldAddr 25 4 4 4 23 rfl fi_25_4 rfl rfl ?_)
    refine r_cons (s_load (.slice n.kp n.kids.length n.kc) ag_23 rfl (H8.blk_at (i := 0) rfl) rfl rfl ?_)
    refine r_cons (s_len n.kids.length rfl ⟨_, un_23⟩ rfl ?_)
    refine r_cons (s_move (.int .i64 0) rfl rfl ?_)
    refine r_nil ?_
    refine g_block ?_
    obtain ⟨pA10, cA11, gA12, oA13, kA14, eA15, zA16, he22, hn17, hp18, hx19, hs20, hml, H21⟩ := Im.open_ H8 (i := 1) rfl
    obtain ⟨rfl, rfl⟩ : n.kp = pA10 ∧ n.kc = cA11 := by injection he22 with a_ b_ c_; exact ⟨a_, c_⟩
    have hM23 : L = ((n.kids.take 0).foldl (fun L k => walkN k L) L) := rfl
    have H24 : St W w7 (imi (0 < n.kids.length) gA12 (.cells kA14 eA15 zA16) :: blk bk6 (.cells #[.int .i64 n.kind.v, .string n.var.v, .string n.typ.v, .slice n.tp n.tests.length n.tc, .slice n.kp n.kids.length n.kc] 25 (0, 0)) :: Im 5 (.slice n.kp n.kids.length n.kc) n.kids.length (n.kids.flatMap nodeCell) :: NodesA n.kids :: imm g2 (.cells #[.func (.func 43) #[] #[.pointer (some ⟨g1, 0, none⟩), .pointer (some ⟨g2, 0, none⟩)]] 59 (0, 0)) :: imm g1 (.cells #[.map (some r)] 57 (0, 0)) :: MapA r (ents kS vB (setOf ((n.kids.take 0).foldl (fun L k => walkN k L) L))) :: F) := by rw [← hM23]; exact H21
    have H25 : St W w7 (imi (0 < n.kids.length) gA12 (.cells kA14 eA15 zA16) :: Im 5 (.slice n.kp n.kids.length n.kc) n.kids.length (n.kids.flatMap nodeCell) :: NodesA n.kids :: imm g2 (.cells #[.func (.func 43) #[] #[.pointer (some ⟨g1, 0, none⟩), .pointer (some ⟨g2, 0, none⟩)]] 59 (0, 0)) :: imm g1 (.cells #[.map (some r)] 57 (0, 0)) :: MapA r (ents kS vB (setOf ((n.kids.take 0).foldl (fun L k => walkN k L) L))) :: F) := (((((((H24.move 6 rfl).move 6 rfl).move 6 rfl).move 6 rfl).move 6 rfl).move 5 rfl).drop 6 rfl)
    refine g_loop_inv (fun (x_ : Nat) => match x_ with | j => [(2, .pointer (some ⟨g2, 0, none⟩)), (13, .slice n.kp n.kids.length n.kc), (14, .int .i64 (n.kids.length : Int)), (15, .int .i64 (j : Int))]) (fun (x_ : Nat) w => match x_ with | j => (j ≤ n.kids.length) ∧ St W w (imi (0 < n.kids.length) gA12 (.cells kA14 eA15 zA16) :: Im 5 (.slice n.kp n.kids.length n.kc) n.kids.length (n.kids.flatMap nodeCell) :: NodesA n.kids :: imm g2 (.cells #[.func (.func 43) #[] #[.pointer (some ⟨g1, 0, none⟩), .pointer (some ⟨g2, 0, none⟩)]] 59 (0, 0)) :: imm g1 (.cells #[.map (some r)] 57 (0, 0)) :: MapA r (ents kS vB (setOf ((n.kids.take j).foldl (fun L k => walkN k L) L))) :: F)) (fun (x_ : Nat) => match x_ with | j => n.kids.length - j) (0) ?_ ?_ ?_
    · exact ⟨by first | rfl | exact vint (by omega), by first | rfl | exact vint (by omega), by first | rfl | exact vint (by omega), by first | rfl | exact vint (by omega), trivial⟩
    · exact ⟨(by omega), H25⟩
    · rintro j ρ26 w27 ⟨hjl, H28⟩ nx29
      change Ends _ _ (upds ρ26 [(2, .pointer (some ⟨g2, 0, none⟩)), (13, .slice n.kp n.kids.length n.kc), (14, .int .i64 (n.kids.length : Int)), (15, .int .i64 (j : Int))]) w27
      refine g_seq ?_
      refine g_region ?_
      by_cases hc30 : (j : Int) < (n.kids.length : Int)
      · skip
        refine r_cons (s_lss true rfl rfl (dtrue hc30) rfl ?_)
        refine r_nil ?_
        refine g_seq ?_
        refine g_true rfl ?_
        refine g_skip ?_
        refine g_seq ?_
        refine g_block ?_
        refine g_seq ?_
        refine g_region ?_
        refine r_cons (s_indexAddr gA12 (off := oA13) (j : Int) 5 (oA13 + j * 5) (by exact congrArg (fun z_ => Value.slice z_ n.kids.length n.kc) (hp18 (by omega))) rfl el_23 (by omega) rfl rfl ?_)
        refine r_cons (s_loadAgg [.int .i64 ((n.kids.getD j default).kind.v), .string ((n.kids.getD j default).var.v), .string ((n.kids.getD j default).typ.v), .slice ((n.kids.getD j default).tp) ((n.kids.getD j default).tests.length) ((n.kids.getD j default).tc), .slice ((n.kids.getD j default).kp) ((n.kids.getD j default).kids.length) ((n.kids.getD j default).kc)] 5 ag_25 rfl (H28.imi_at (i := 0) rfl (by omega)) (by have := elem_size (i := j) (s := 5) (hs20 (by omega)) (by omega); omega) (elem_take nodeCell_len (hx19 (by omega)) (by omega) default) rfl ?_)
        refine r_cons (s_alloc H28 25 ze_25 rfl ?_); intro bk31 w32 H33
        refine r_cons (s_storeAgg H33 0 #[.int .i64 ((n.kids.getD j default).kind.v), .string ((n.kids.getD j default).var.v), .string ((n.kids.getD j default).typ.v), .slice ((n.kids.getD j default).tp) ((n.kids.getD j default).tests.length) ((n.kids.getD j default).tc), .slice ((n.kids.getD j default).kp) ((n.kids.getD j default).kids.length) ((n.kids.getD j default).kc)] 5 rfl rfl rfl sz_25 rfl (by simp [Value.oneCell']) (Nat.le_of_ble_eq_true rfl) (fun o h1 h2 => by first | (simp; done) | (simp; omega)) (cs' := #[.int .i64 ((n.kids.getD j default).kind.v), .string ((n.kids.getD j default).var.v), .string ((n.kids.getD j default).typ.v), .slice ((n.kids.getD j default).tp) ((n.kids.getD j default).tests.length) ((n.kids.getD j default).tc), .slice ((n.kids.getD j default).kp) ((n.kids.getD j default).kids.length) ((n.kids.getD j default).kc)]) rfl ?_); intro w34 H35
        refine r_nil ?_
        refine g_region ?_
        refine r_cons (s_load (.func (.func 43) #[] #[.pointer (some ⟨g1, 0, none⟩), .pointer (some ⟨g2, 0, none⟩)]) ag_59 rfl (H35.imm_at (i := 4) rfl) rfl rfl ?_)
        refine r_cons (s_loadAgg [.int .i64 ((n.kids.getD j default).kind.v), .string ((n.kids.getD j default).var.v), .string ((n.kids.getD j default).typ.v), .slice ((n.kids.getD j default).tp) ((n.kids.getD j default).tests.length) ((n.kids.getD j default).tc), .slice ((n.kids.getD j default).kp) ((n.kids.getD j default).kids.length) ((n.kids.getD j default).kc)] 5 ag_25 rfl (H35.blk_at (i := 0) rfl) (Nat.le_of_ble_eq_true rfl) rfl rfl ?_)
        have H36 := NodesA.at H35 (i := 3) rfl (j := j) (by omega)
        have H37 : St W w34 (MapA r (ents kS vB (setOf ((n.kids.take j).foldl (fun L k => walkN k L) L))) :: NodeA (n.kids.getD j default) :: blk bk31 (.cells #[.int .i64 ((n.kids.getD j default).kind.v), .string ((n.kids.getD j default).var.v), .string ((n.kids.getD j default).typ.v), .slice ((n.kids.getD j default).tp) ((n.kids.getD j default).tests.length) ((n.kids.getD j default).tc), .slice ((n.kids.getD j default).kp) ((n.kids.getD j default).kids.length) ((n.kids.getD j default).kc)] 25 (0, 0)) :: imi (0 < n.kids.length) gA12 (.cells kA14 eA15 zA16) :: Im 5 (.slice n.kp n.kids.length n.kc) n.kids.length (n.kids.flatMap nodeCell) :: NodesA n.kids :: imm g2 (.cells #[.func (.func 43) #[] #[.pointer (some ⟨g1, 0, none⟩), .pointer (some ⟨g2, 0, none⟩)]] 59 (0, 0)) :: imm g1 (.cells #[.map (some r)] 57 (0, 0)) :: F) := (H36.move 7 rfl)
        refine r_cons (s_callv [.pointer (some ⟨g1, 0, none⟩), .pointer (some ⟨g2, 0, none⟩)] [.agg #[.int .i64 ((n.kids.getD j default).kind.v), .string ((n.kids.getD j default).var.v), .string ((n.kids.getD j default).typ.v), .slice ((n.kids.getD j default).tp) ((n.kids.getD j default).tests.length) ((n.kids.getD j default).tc), .slice ((n.kids.getD j default).kp) ((n.kids.getD j default).kids.length) ((n.kids.getD j default).kc)], .pointer (some ⟨g1, 0, none⟩), .pointer (some ⟨g2, 0, none⟩)] rfl pl_43 rfl rfl (ih (n.kids.getD j default) (by have h9 := kid_lt (n := n) (j := j) (by omega); omega) r g1 g2 ((n.kids.take j).foldl (fun L k => walkN k L) L) (i := 0) rfl (i1 := 6) rfl (i2 := 5) rfl H37) ?_)
        rintro _ w38 ⟨rfl, H39⟩
        refine r_nil ?_
        refine g_inBlock ?_
        refine g_region ?_
        refine r_cons (s_add ((j : Int) + 1) rfl rfl (wi64 (by omega)) rfl ?_)
        refine r_cons (s_move (.int .i64 ((j : Int) + 1)) rfl rfl ?_)
        refine r_nil ?_
        have hM40 : (walkN (n.kids.getD j default) ((n.kids.take j).foldl (fun L k => walkN k L) L)) = ((n.kids.take (j + 1)).foldl (fun L k => walkN k L) L) := (fold_step (fun L k => walkN k L) _ (by omega)).symm
        have H41 : St W w38 (MapA r (ents kS vB (setOf ((n.kids.take (j + 1)).foldl (fun L k => walkN k L) L))) :: NodeA (n.kids.getD j default) :: blk bk31 (.cells #[.int .i64 ((n.kids.getD j default).kind.v), .string ((n.kids.getD j default).var.v), .string ((n.kids.getD j default).typ.v), .slice ((n.kids.getD j default).tp) ((n.kids.getD j default).tests.length) ((n.kids.getD j default).tc), .slice ((n.kids.getD j default).kp) ((n.kids.getD j default).kids.length) ((n.kids.getD j default).kc)] 25 (0, 0)) :: imi (0 < n.kids.length) gA12 (.cells kA14 eA15 zA16) :: Im 5 (.slice n.kp n.kids.length n.kc) n.kids.length (n.kids.flatMap nodeCell) :: NodesA n.kids :: imm g2 (.cells #[.func (.func 43) #[] #[.pointer (some ⟨g1, 0, none⟩), .pointer (some ⟨g2, 0, none⟩)]] 59 (0, 0)) :: imm g1 (.cells #[.map (some r)] 57 (0, 0)) :: F) := by rw [← hM40]; exact H39
        have H42 : St W w38 (imi (0 < n.kids.length) gA12 (.cells kA14 eA15 zA16) :: Im 5 (.slice n.kp n.kids.length n.kc) n.kids.length (n.kids.flatMap nodeCell) :: NodesA n.kids :: imm g2 (.cells #[.func (.func 43) #[] #[.pointer (some ⟨g1, 0, none⟩), .pointer (some ⟨g2, 0, none⟩)]] 59 (0, 0)) :: imm g1 (.cells #[.map (some r)] 57 (0, 0)) :: MapA r (ents kS vB (setOf ((n.kids.take (j + 1)).foldl (fun L k => walkN k L) L))) :: F) := (((((((H41.move 7 rfl).move 7 rfl).move 7 rfl).move 7 rfl).move 7 rfl).drop 6 rfl).drop 6 rfl)
        exact nx29 (j + 1) _ _ ⟨(by omega), H42⟩ (by first | (dsimp only; omega) | omega) ⟨by first | rfl | exact vint (by omega), by first | rfl | exact vint (by omega), by first | rfl | exact vint (by omega), by first | rfl | exact vint (by omega), trivial⟩
      · skip
        refine r_cons (s_lss false rfl rfl (dfalse hc30) rfl ?_)
        refine r_nil ?_
        refine g_seq ?_
        refine g_false rfl ?_
        refine g_exit (by rfl) ?_
        refine g_end' [] Try.func43 Try.results43 trivial ?_
        have hq9 : ((n.kids.take j).foldl (fun L k => walkN k L) L) = walkN n L := by rw [List.take_of_length_le (by omega), walkN_eq, if_pos hc9]
        have H43 : St W w27 (MapA r (ents kS vB (setOf ((n.kids.take j).foldl (fun L k => walkN k L) L))) :: F) := ((((((H28.move 5 rfl).drop 1 rfl).drop 1 rfl).drop 1 rfl).drop 1 rfl).drop 1 rfl)
        exact ⟨rfl, by rw [← hq9]; exact H43⟩
  · skip
    refine r_cons (s_sneq true rfl rfl (nfalse hc9) rfl ?_)
    refine r_nil ?_
    refine g_true rfl ?_
    refine g_region ?_
    refine r_cons (s_load (.map (some r)) ag_57 rfl (H8.imm_at (i := 4) rfl) rfl rfl ?_)
    refine r_cons (s_fieldAddr 25 1 1 1 9 rfl fi_25_1 rfl rfl ?_)
    refine r_cons (s_load (.string n.var.v) ag_9 rfl (H8.blk_at (i := 0) rfl) rfl rfl ?_)
    refine r_cons (s_mapUpdate (ek := kS) (ev := vB) (L := setOf L) n.var true H8 (i := 5) rfl (KeyLaw.S un_9) un_57 rfl rfl rfl ?_); intro w44 H45
    have H46 : St W w44 (blk bk6 (.cells #[.int .i64 n.kind.v, .string n.var.v, .string n.typ.v, .slice n.tp n.tests.length n.tc, .slice n.kp n.kids.length n.kc] 25 (0, 0)) :: Im 5 (.slice n.kp n.kids.length n.kc) n.kids.length (n.kids.flatMap nodeCell) :: NodesA n.kids :: imm g2 (.cells #[.func (.func 43) #[] #[.pointer (some ⟨g1, 0, none⟩), .pointer (some ⟨g2, 0, none⟩)]] 59 (0, 0)) :: imm g1 (.cells #[.map (some r)] 57 (0, 0)) :: MapA r (ents kS vB (setOf (addS L n.var))) :: F) := by have h9 := H45; rw [setOf_set] at h9; exact h9
    refine r_nil ?_
    refine g_seq ?_
    refine g_region ?_
    refine r_cons (s_fieldAddr 25 4 4 4 23 rfl fi_25_4 rfl rfl ?_)
    refine r_cons (s_load (.slice n.kp n.kids.length n.kc) ag_23 rfl (H46.blk_at (i := 0) rfl) rfl rfl ?_)
    refine r_cons (s_len n.kids.length rfl ⟨_, un_23⟩ rfl ?_)
    refine r_cons (s_move (.int .i64 0) rfl rfl ?_)
    refine r_nil ?_
    refine g_block ?_
    obtain ⟨pA47, cA48, gA49, oA50, kA51, eA52, zA53, he59, hn54, hp55, hx56, hs57, hml, H58⟩ := Im.open_ H46 (i := 1) rfl
    obtain ⟨rfl, rfl⟩ : n.kp = pA47 ∧ n.kc = cA48 := by injection he59 with a_ b_ c_; exact ⟨a_, c_⟩
    have hM60 : (addS L n.var) = ((n.kids.take 0).foldl (fun L k => walkN k L) (addS L n.var)) := rfl
    have H61 : St W w44 (imi (0 < n.kids.length) gA49 (.cells kA51 eA52 zA53) :: blk bk6 (.cells #[.int .i64 n.kind.v, .string n.var.v, .string n.typ.v, .slice n.tp n.tests.length n.tc, .slice n.kp n.kids.length n.kc] 25 (0, 0)) :: Im 5 (.slice n.kp n.kids.length n.kc) n.kids.length (n.kids.flatMap nodeCell) :: NodesA n.kids :: imm g2 (.cells #[.func (.func 43) #[] #[.pointer (some ⟨g1, 0, none⟩), .pointer (some ⟨g2, 0, none⟩)]] 59 (0, 0)) :: imm g1 (.cells #[.map (some r)] 57 (0, 0)) :: MapA r (ents kS vB (setOf ((n.kids.take 0).foldl (fun L k => walkN k L) (addS L n.var)))) :: F) := by rw [← hM60]; exact H58
    have H62 : St W w44 (imi (0 < n.kids.length) gA49 (.cells kA51 eA52 zA53) :: Im 5 (.slice n.kp n.kids.length n.kc) n.kids.length (n.kids.flatMap nodeCell) :: NodesA n.kids :: imm g2 (.cells #[.func (.func 43) #[] #[.pointer (some ⟨g1, 0, none⟩), .pointer (some ⟨g2, 0, none⟩)]] 59 (0, 0)) :: imm g1 (.cells #[.map (some r)] 57 (0, 0)) :: MapA r (ents kS vB (setOf ((n.kids.take 0).foldl (fun L k => walkN k L) (addS L n.var)))) :: F) := (((((((H61.move 6 rfl).move 6 rfl).move 6 rfl).move 6 rfl).move 6 rfl).move 5 rfl).drop 6 rfl)
    refine g_loop_inv (fun (x_ : Nat) => match x_ with | j => [(2, .pointer (some ⟨g2, 0, none⟩)), (13, .slice n.kp n.kids.length n.kc), (14, .int .i64 (n.kids.length : Int)), (15, .int .i64 (j : Int))]) (fun (x_ : Nat) w => match x_ with | j => (j ≤ n.kids.length) ∧ St W w (imi (0 < n.kids.length) gA49 (.cells kA51 eA52 zA53) :: Im 5 (.slice n.kp n.kids.length n.kc) n.kids.length (n.kids.flatMap nodeCell) :: NodesA n.kids :: imm g2 (.cells #[.func (.func 43) #[] #[.pointer (some ⟨g1, 0, none⟩), .pointer (some ⟨g2, 0, none⟩)]] 59 (0, 0)) :: imm g1 (.cells #[.map (some r)] 57 (0, 0)) :: MapA r (ents kS vB (setOf ((n.kids.take j).foldl (fun L k => walkN k L) (addS L n.var)))) :: F)) (fun (x_ : Nat) => match x_ with | j => n.kids.length - j) (0) ?_ ?_ ?_
    · exact ⟨by first | rfl | exact vint (by omega), by first | rfl | exact vint (by omega), by first | rfl | exact vint (by omega), by first | rfl | exact vint (by omega), trivial⟩
    · exact ⟨(by omega), H62⟩
    · rintro j ρ63 w64 ⟨hjl, H65⟩ nx66
      change Ends _ _ (upds ρ63 [(2, .pointer (some ⟨g2, 0, none⟩)), (13, .slice n.kp n.kids.length n.kc), (14, .int .i64 (n.kids.length : Int)), (15, .int .i64 (j : Int))]) w64
      refine g_seq ?_
      refine g_region ?_
      by_cases hc67 : (j : Int) < (n.kids.length : Int)
      · skip
        refine r_cons (s_lss true rfl rfl (dtrue hc67) rfl ?_)
        refine r_nil ?_
        refine g_seq ?_
        refine g_true rfl ?_
        refine g_skip ?_
        refine g_seq ?_
        refine g_block ?_
        refine g_seq ?_
        refine g_region ?_
        refine r_cons (s_indexAddr gA49 (off := oA50) (j : Int) 5 (oA50 + j * 5) (by exact congrArg (fun z_ => Value.slice z_ n.kids.length n.kc) (hp55 (by omega))) rfl el_23 (by omega) rfl rfl ?_)
        refine r_cons (s_loadAgg [.int .i64 ((n.kids.getD j default).kind.v), .string ((n.kids.getD j default).var.v), .string ((n.kids.getD j default).typ.v), .slice ((n.kids.getD j default).tp) ((n.kids.getD j default).tests.length) ((n.kids.getD j default).tc), .slice ((n.kids.getD j default).kp) ((n.kids.getD j default).kids.length) ((n.kids.getD j default).kc)] 5 ag_25 rfl (H65.imi_at (i := 0) rfl (by omega)) (by have := elem_size (i := j) (s := 5) (hs57 (by omega)) (by omega); omega) (elem_take nodeCell_len (hx56 (by omega)) (by omega) default) rfl ?_)
        refine r_cons (s_alloc H65 25 ze_25 rfl ?_); intro bk68 w69 H70
        refine r_cons (s_storeAgg H70 0 #[.int .i64 ((n.kids.getD j default).kind.v), .string ((n.kids.getD j default).var.v), .string ((n.kids.getD j default).typ.v), .slice ((n.kids.getD j default).tp) ((n.kids.getD j default).tests.length) ((n.kids.getD j default).tc), .slice ((n.kids.getD j default).kp) ((n.kids.getD j default).kids.length) ((n.kids.getD j default).kc)] 5 rfl rfl rfl sz_25 rfl (by simp [Value.oneCell']) (Nat.le_of_ble_eq_true rfl) (fun o h1 h2 => by first | (simp; done) | (simp; omega)) (cs' := #[.int .i64 ((n.kids.getD j default).kind.v), .string ((n.kids.getD j default).var.v), .string ((n.kids.getD j default).typ.v), .slice ((n.kids.getD j default).tp) ((n.kids.getD j default).tests.length) ((n.kids.getD j default).tc), .slice ((n.kids.getD j default).kp) ((n.kids.getD j default).kids.length) ((n.kids.getD j default).kc)]) rfl ?_); intro w71 H72
        refine r_nil ?_
        refine g_region ?_
        refine r_cons (s_load (.func (.func 43) #[] #[.pointer (some ⟨g1, 0, none⟩), .pointer (some ⟨g2, 0, none⟩)]) ag_59 rfl (H72.imm_at (i := 4) rfl) rfl rfl ?_)
        refine r_cons (s_loadAgg [.int .i64 ((n.kids.getD j default).kind.v), .string ((n.kids.getD j default).var.v), .string ((n.kids.getD j default).typ.v), .slice ((n.kids.getD j default).tp) ((n.kids.getD j default).tests.length) ((n.kids.getD j default).tc), .slice ((n.kids.getD j default).kp) ((n.kids.getD j default).kids.length) ((n.kids.getD j default).kc)] 5 ag_25 rfl (H72.blk_at (i := 0) rfl) (Nat.le_of_ble_eq_true rfl) rfl rfl ?_)
        have H73 := NodesA.at H72 (i := 3) rfl (j := j) (by omega)
        have H74 : St W w71 (MapA r (ents kS vB (setOf ((n.kids.take j).foldl (fun L k => walkN k L) (addS L n.var)))) :: NodeA (n.kids.getD j default) :: blk bk68 (.cells #[.int .i64 ((n.kids.getD j default).kind.v), .string ((n.kids.getD j default).var.v), .string ((n.kids.getD j default).typ.v), .slice ((n.kids.getD j default).tp) ((n.kids.getD j default).tests.length) ((n.kids.getD j default).tc), .slice ((n.kids.getD j default).kp) ((n.kids.getD j default).kids.length) ((n.kids.getD j default).kc)] 25 (0, 0)) :: imi (0 < n.kids.length) gA49 (.cells kA51 eA52 zA53) :: Im 5 (.slice n.kp n.kids.length n.kc) n.kids.length (n.kids.flatMap nodeCell) :: NodesA n.kids :: imm g2 (.cells #[.func (.func 43) #[] #[.pointer (some ⟨g1, 0, none⟩), .pointer (some ⟨g2, 0, none⟩)]] 59 (0, 0)) :: imm g1 (.cells #[.map (some r)] 57 (0, 0)) :: F) := (H73.move 7 rfl)
        refine r_cons (s_callv [.pointer (some ⟨g1, 0, none⟩), .pointer (some ⟨g2, 0, none⟩)] [.agg #[.int .i64 ((n.kids.getD j default).kind.v), .string ((n.kids.getD j default).var.v), .string ((n.kids.getD j default).typ.v), .slice ((n.kids.getD j default).tp) ((n.kids.getD j default).tests.length) ((n.kids.getD j default).tc), .slice ((n.kids.getD j default).kp) ((n.kids.getD j default).kids.length) ((n.kids.getD j default).kc)], .pointer (some ⟨g1, 0, none⟩), .pointer (some ⟨g2, 0, none⟩)] rfl pl_43 rfl rfl (ih (n.kids.getD j default) (by have h9 := kid_lt (n := n) (j := j) (by omega); omega) r g1 g2 ((n.kids.take j).foldl (fun L k => walkN k L) (addS L n.var)) (i := 0) rfl (i1 := 6) rfl (i2 := 5) rfl H74) ?_)
        rintro _ w75 ⟨rfl, H76⟩
        refine r_nil ?_
        refine g_inBlock ?_
        refine g_region ?_
        refine r_cons (s_add ((j : Int) + 1) rfl rfl (wi64 (by omega)) rfl ?_)
        refine r_cons (s_move (.int .i64 ((j : Int) + 1)) rfl rfl ?_)
        refine r_nil ?_
        have hM77 : (walkN (n.kids.getD j default) ((n.kids.take j).foldl (fun L k => walkN k L) (addS L n.var))) = ((n.kids.take (j + 1)).foldl (fun L k => walkN k L) (addS L n.var)) := (fold_step (fun L k => walkN k L) _ (by omega)).symm
        have H78 : St W w75 (MapA r (ents kS vB (setOf ((n.kids.take (j + 1)).foldl (fun L k => walkN k L) (addS L n.var)))) :: NodeA (n.kids.getD j default) :: blk bk68 (.cells #[.int .i64 ((n.kids.getD j default).kind.v), .string ((n.kids.getD j default).var.v), .string ((n.kids.getD j default).typ.v), .slice ((n.kids.getD j default).tp) ((n.kids.getD j default).tests.length) ((n.kids.getD j default).tc), .slice ((n.kids.getD j default).kp) ((n.kids.getD j default).kids.length) ((n.kids.getD j default).kc)] 25 (0, 0)) :: imi (0 < n.kids.length) gA49 (.cells kA51 eA52 zA53) :: Im 5 (.slice n.kp n.kids.length n.kc) n.kids.length (n.kids.flatMap nodeCell) :: NodesA n.kids :: imm g2 (.cells #[.func (.func 43) #[] #[.pointer (some ⟨g1, 0, none⟩), .pointer (some ⟨g2, 0, none⟩)]] 59 (0, 0)) :: imm g1 (.cells #[.map (some r)] 57 (0, 0)) :: F) := by rw [← hM77]; exact H76
        have H79 : St W w75 (imi (0 < n.kids.length) gA49 (.cells kA51 eA52 zA53) :: Im 5 (.slice n.kp n.kids.length n.kc) n.kids.length (n.kids.flatMap nodeCell) :: NodesA n.kids :: imm g2 (.cells #[.func (.func 43) #[] #[.pointer (some ⟨g1, 0, none⟩), .pointer (some ⟨g2, 0, none⟩)]] 59 (0, 0)) :: imm g1 (.cells #[.map (some r)] 57 (0, 0)) :: MapA r (ents kS vB (setOf ((n.kids.take (j + 1)).foldl (fun L k => walkN k L) (addS L n.var)))) :: F) := (((((((H78.move 7 rfl).move 7 rfl).move 7 rfl).move 7 rfl).move 7 rfl).drop 6 rfl).drop 6 rfl)
        exact nx66 (j + 1) _ _ ⟨(by omega), H79⟩ (by first | (dsimp only; omega) | omega) ⟨by first | rfl | exact vint (by omega), by first | rfl | exact vint (by omega), by first | rfl | exact vint (by omega), by first | rfl | exact vint (by omega), trivial⟩
      · skip
        refine r_cons (s_lss false rfl rfl (dfalse hc67) rfl ?_)
        refine r_nil ?_
        refine g_seq ?_
        refine g_false rfl ?_
        refine g_exit (by rfl) ?_
        refine g_end' [] Try.func43 Try.results43 trivial ?_
        have hq9 : ((n.kids.take j).foldl (fun L k => walkN k L) (addS L n.var)) = walkN n L := by rw [List.take_of_length_le (by omega), walkN_eq, if_neg hc9]
        have H80 : St W w64 (MapA r (ents kS vB (setOf ((n.kids.take j).foldl (fun L k => walkN k L) (addS L n.var)))) :: F) := ((((((H65.move 5 rfl).drop 1 rfl).drop 1 rfl).drop 1 rfl).drop 1 rfl).drop 1 rfl)
        exact ⟨rfl, by rw [← hq9]; exact H80⟩
theorem check_walk {W w : World} {F : List Atom} (n : NodeD) (r g1 g2 : Nat) (L : List Str) {i : Nat} (hi : F[i]? = some (NodeA n)) {i1 : Nat} (h1 : F[i1]? = some (imm g1 (.cells #[.map (some r)] 57 (0, 0)))) {i2 : Nat} (h2 : F[i2]? = some (imm g2 (.cells #[.func (.func 43) #[] #[.pointer (some ⟨g1, 0, none⟩), .pointer (some ⟨g2, 0, none⟩)]] 59 (0, 0)))) (H : St W w (MapA r (ents kS vB (setOf L)) :: F)) : Calls Try.prog 43 #[.agg #[.int .i64 n.kind.v, .string n.var.v, .string n.typ.v, .slice n.tp n.tests.length n.tc, .slice n.kp n.kids.length n.kc], .pointer (some ⟨g1, 0, none⟩), .pointer (some ⟨g2, 0, none⟩)] w (Ret fun v w' => v = .tuple #[] ∧ St W w' (MapA r (ents kS vB (setOf (walkN n L))) :: F)) := check_walk_r (sizeOf n + 1) n (Nat.lt_succ_self _) r g1 g2 L hi h1 h2 H
set_option maxHeartbeats 4000000 in
set_option maxRecDepth 100000 in
theorem check_Vars {W w : World} {F : List Atom} (n : NodeD) {i : Nat} (hi : F[i]? = some (NodeA n)) (hz : sizeN n ≤ 1048576) (H : St W w F) : Calls Try.prog 24 #[.agg #[.int .i64 n.kind.v, .string n.var.v, .string n.typ.v, .slice n.tp n.tests.length n.tc, .slice n.kp n.kids.length n.kc]] w (Ret fun v w' => ∃ p c, v = .slice p (varsS n).length c ∧ St W w' (Im 1 (.slice p (varsS n).length c) (varsS n).length ((varsS n).flatMap strCell) :: F)) := by
  have H1 := H.dup (i := i) (by exact hi) (NodeA_pers _)
  have H2 : St W w (NodeA n :: F) := H1
  refine calls_of_go (n := 12) Try.func24 rfl Try.ntmps24 rfl ?_
  refine g_seq ?_
  refine g_region ?_
  refine r_cons (s_box H2 25 (.agg #[.int .i64 n.kind.v, .string n.var.v, .string n.typ.v, .slice n.tp n.tests.length n.tc, .slice n.kp n.kids.length n.kc]) rfl (cs := #[.int .i64 n.kind.v, .string n.var.v, .string n.typ.v, .slice n.tp n.tests.length n.tc, .slice n.kp n.kids.length n.kc]) rfl rfl ?_); intro bk3 w4 H5
  refine r_cons (s_assign (.slice none 0 0) rfl rfl ?_)
  refine r_nil ?_
  refine g_seq ?_
  refine g_region ?_
  refine r_cons (s_makeMap H5 rfl ?_); intro mp6 w7 H8
  have H9 : St W w7 (MapA mp6 (ents kS vB (setOf ([] : List Str))) :: blk bk3 (.cells #[.int .i64 n.kind.v, .string n.var.v, .string n.typ.v, .slice n.tp n.tests.length n.tc, .slice n.kp n.kids.length n.kc] 25 (0, 0)) :: NodeA n :: F) := H8
  refine r_cons (s_alloc H9 57 ze_57 rfl ?_); intro bk10 w11 H12
  refine r_cons (s_store H12 0 (.map (some mp6)) rfl rfl rfl sz_57 rfl (Nat.le_of_ble_eq_true rfl) rfl (cs' := #[.map (some mp6)]) rfl ?_); intro w13 H14
  refine r_nil ?_
  refine g_seq ?_
  refine g_region ?_
  refine r_cons (s_alloc H14 59 ze_59 rfl ?_); intro bk15 w16 H17
  refine r_nil ?_
  refine g_seq ?_
  refine g_region ?_
  refine r_cons (s_makeFunc (.func (.func 43) #[] #[.pointer (some ⟨bk10, 0, none⟩), .pointer (some ⟨bk15, 0, none⟩)]) rfl rfl ?_)
  refine r_cons (s_store H17 0 (.func (.func 43) #[] #[.pointer (some ⟨bk10, 0, none⟩), .pointer (some ⟨bk15, 0, none⟩)]) rfl rfl rfl sz_59 rfl (Nat.le_of_ble_eq_true rfl) rfl (cs' := #[.func (.func 43) #[] #[.pointer (some ⟨bk10, 0, none⟩), .pointer (some ⟨bk15, 0, none⟩)]]) rfl ?_); intro w18 H19
  refine r_nil ?_
  refine g_seq ?_
  refine g_region ?_
  have H20 : St W w18 (blk bk15 (.cells #[.func (.func 43) #[] #[.pointer (some ⟨bk10, 0, none⟩), .pointer (some ⟨bk15, 0, none⟩)]] 59 (0, 0)) :: imm bk10 (.cells #[.map (some mp6)] 57 (0, 0)) :: MapA mp6 (ents kS vB (setOf ([] : List Str))) :: blk bk3 (.cells #[.int .i64 n.kind.v, .string n.var.v, .string n.typ.v, .slice n.tp n.tests.length n.tc, .slice n.kp n.kids.length n.kc] 25 (0, 0)) :: NodeA n :: F) := blk_imm H19 (i := 1) rfl
  have H21 : St W w18 (imm bk15 (.cells #[.func (.func 43) #[] #[.pointer (some ⟨bk10, 0, none⟩), .pointer (some ⟨bk15, 0, none⟩)]] 59 (0, 0)) :: imm bk10 (.cells #[.map (some mp6)] 57 (0, 0)) :: MapA mp6 (ents kS vB (setOf ([] : List Str))) :: blk bk3 (.cells #[.int .i64 n.kind.v, .string n.var.v, .string n.typ.v, .slice n.tp n.tests.length n.tc, .slice n.kp n.kids.length n.kc] 25 (0, 0)) :: NodeA n :: F) := blk_imm H20 (i := 0) rfl
  refine r_cons (s_load (.func (.func 43) #[] #[.pointer (some ⟨bk10, 0, none⟩), .pointer (some ⟨bk15, 0, none⟩)]) ag_59 rfl (H21.imm_at (i := 0) rfl) rfl rfl ?_)
  refine r_cons (s_loadAgg [.int .i64 n.kind.v, .string n.var.v, .string n.typ.v, .slice n.tp n.tests.length n.tc, .slice n.kp n.kids.length n.kc] 5 ag_25 rfl (H21.blk_at (i := 3) rfl) (Nat.le_of_ble_eq_true rfl) rfl rfl ?_)
  have H22 : St W w18 (MapA mp6 (ents kS vB (setOf ([] : List Str))) :: imm bk15 (.cells #[.func (.func 43) #[] #[.pointer (some ⟨bk10, 0, none⟩), .pointer (some ⟨bk15, 0, none⟩)]] 59 (0, 0)) :: imm bk10 (.cells #[.map (some mp6)] 57 (0, 0)) :: blk bk3 (.cells #[.int .i64 n.kind.v, .string n.var.v, .string n.typ.v, .slice n.tp n.tests.length n.tc, .slice n.kp n.kids.length n.kc] 25 (0, 0)) :: NodeA n :: F) := (H21.move 2 rfl)
  refine r_cons (s_callv [.pointer (some ⟨bk10, 0, none⟩), .pointer (some ⟨bk15, 0, none⟩)] [.agg #[.int .i64 n.kind.v, .string n.var.v, .string n.typ.v, .slice n.tp n.tests.length n.tc, .slice n.kp n.kids.length n.kc], .pointer (some ⟨bk10, 0, none⟩), .pointer (some ⟨bk15, 0, none⟩)] rfl pl_43 rfl rfl (check_walk n mp6 bk10 bk15 ([] : List Str) (i := 3) rfl (i1 := 1) rfl (i2 := 0) rfl H22) ?_)
  rintro _ w23 ⟨rfl, H24⟩
  refine r_nil ?_
  refine g_seq ?_
  refine g_region ?_
  refine r_cons (s_load (.map (some mp6)) ag_57 rfl (H24.imm_at (i := 2) rfl) rfl rfl ?_)
  refine r_cons (s_call [.map (some mp6)] pl_44 rfl rfl (set_list mp6 (walkN n ([] : List Str)) (by have h9 := walkN_len n []; simp only [List.length_nil] at h9; omega) H24) ?_)
  rintro _ w27 ⟨pp25, cc26, rfl, H28⟩
  refine r_cons (s_assign (.slice pp25 ((sortS (walkN n ([] : List Str))).length) cc26) rfl rfl ?_)
  refine r_nil ?_
  refine g_ret' [.slice pp25 ((sortS (walkN n ([] : List Str))).length) cc26] Try.func24 Try.results24 ⟨rfl, trivial⟩ ?_
  have H29 : St W w27 (Im 1 (.slice pp25 ((sortS (walkN n ([] : List Str))).length) cc26) ((sortS (walkN n ([] : List Str))).length) ((sortS (walkN n ([] : List Str))).flatMap strCell) :: F) := ((((H28.drop 1 rfl).drop 1 rfl).drop 1 rfl).drop 1 rfl)
  exact ⟨_, _, rfl, H29⟩
set_option maxHeartbeats 4000000 in
set_option maxRecDepth 100000 in
theorem check_Sure_r (N : Nat) : ∀ (n : NodeD), sizeOf n < N → ∀ {W w : World} {F : List Atom}  {i : Nat} (hi : F[i]? = some (NodeA n)) (hz : sizeN n ≤ 1048576) (H : St W w F), Calls Try.prog 26 #[.agg #[.int .i64 n.kind.v, .string n.var.v, .string n.typ.v, .slice n.tp n.tests.length n.tc, .slice n.kp n.kids.length n.kc]] w (Ret fun v w' => ∃ p c, v = .slice p (sureN n).length c ∧ St W w' (Im 1 (.slice p (sureN n).length c) (sureN n).length ((sureN n).flatMap strCell) :: F)) := by
  induction N with | zero => exact fun n hN => absurd hN (Nat.not_lt_zero _) | succ N ih => ?_
  intro n hN W w F i hi hz H
  have H1 := NodeA.kids H (i := i + 0) (by exact hi)
  have H2 : St W w (Im 5 (.slice n.kp n.kids.length n.kc) n.kids.length (n.kids.flatMap nodeCell) :: NodesA n.kids :: F) := H1
  refine calls_of_go (n := 66) Try.func26 rfl Try.ntmps26 rfl ?_
  refine g_seq ?_
  refine g_region ?_
  refine r_cons (s_box H2 25 (.agg #[.int .i64 n.kind.v, .string n.var.v, .string n.typ.v, .slice n.tp n.tests.length n.tc, .slice n.kp n.kids.length n.kc]) rfl (cs := #[.int .i64 n.kind.v, .string n.var.v, .string n.typ.v, .slice n.tp n.tests.length n.tc, .slice n.kp n.kids.length n.kc]) rfl rfl ?_); intro bk3 w4 H5
  refine r_cons (s_assign (.slice none 0 0) rfl rfl ?_)
  refine r_nil ?_
  refine g_seq ?_
  refine g_region ?_
  refine r_cons (s_makeMap H5 rfl ?_); intro mp6 w7 H8
  have H9 : St W w7 (MapA mp6 (ents kS vB (setOf ([] : List Str))) :: blk bk3 (.cells #[.int .i64 n.kind.v, .string n.var.v, .string n.typ.v, .slice n.tp n.tests.length n.tc, .slice n.kp n.kids.length n.kc] 25 (0, 0)) :: Im 5 (.slice n.kp n.kids.length n.kc) n.kids.length (n.kids.flatMap nodeCell) :: NodesA n.kids :: F) := H8
  refine r_cons (s_assign (.map (some mp6)) rfl rfl ?_)
  refine r_nil ?_
  refine g_seq ?_
  refine g_seq ?_
  refine g_region ?_
  refine r_cons (s_fieldAddr 25 4 4 4 23 rfl fi_25_4 rfl rfl ?_)
  refine r_cons (s_load (.slice n.kp n.kids.length n.kc) ag_23 rfl (H9.blk_at (i := 1) rfl) rfl rfl ?_)
  refine r_cons (s_len n.kids.length rfl ⟨_, un_23⟩ rfl ?_)
  by_cases hc10 : (n.kids.length : Int) = 0
  · skip
    refine r_cons (s_eql true rfl rfl (dtrue hc10) rfl ?_)
    refine r_nil ?_
    refine g_true rfl ?_
    refine g_seq ?_
    refine g_seq ?_
    refine g_region ?_
    refine r_cons (s_fieldAddr 25 1 1 1 9 rfl fi_25_1 rfl rfl ?_)
    refine r_cons (s_load (.string n.var.v) ag_9 rfl (H9.blk_at (i := 1) rfl) rfl rfl ?_)
    by_cases hc11 : n.var.v = ByteArray.empty
    · skip
      refine r_cons (s_sneq false rfl rfl (ntrue hc11) rfl ?_)
      refine r_nil ?_
      refine g_false rfl ?_
      refine g_skip ?_
      refine g_seq ?_
      refine g_region ?_
      refine r_cons (s_move (.map (some mp6)) rfl rfl ?_)
      refine r_cons (s_call [.map (some mp6)] pl_44 rfl rfl (set_list mp6 ([] : List Str) (by decide) H9) ?_)
      rintro _ w14 ⟨pp12, cc13, rfl, H15⟩
      refine r_cons (s_assign (.slice pp12 ((sortS ([] : List Str)).length) cc13) rfl rfl ?_)
      refine r_nil ?_
      refine g_ret' [.slice pp12 ((sortS ([] : List Str)).length) cc13] Try.func26 Try.results26 ⟨rfl, trivial⟩ ?_
      have H16 : St W w14 (Im 1 (.slice pp12 ((sortS ([] : List Str)).length) cc13) ((sortS ([] : List Str)).length) ((sortS ([] : List Str)).flatMap strCell) :: F) := (((H15.drop 1 rfl).drop 1 rfl).drop 1 rfl)
      have hq9 : (sortS ([] : List Str)) = sureN n := by rw [sureN_leaf (by rw [List.isEmpty_iff]; exact List.eq_nil_of_length_eq_zero (by omega)), if_pos hc11]; exact sortS_nil
      exact ⟨pp12, cc13, by rw [← hq9]; rfl, by rw [← hq9]; exact H16⟩
    · skip
      refine r_cons (s_sneq true rfl rfl (nfalse hc11) rfl ?_)
      refine r_nil ?_
      refine g_true rfl ?_
      refine g_region ?_
      refine r_cons (s_move (.map (some mp6)) rfl rfl ?_)
      refine r_cons (s_fieldAddr 25 1 1 1 9 rfl fi_25_1 rfl rfl ?_)
      refine r_cons (s_load (.string n.var.v) ag_9 rfl (H9.blk_at (i := 1) rfl) rfl rfl ?_)
      refine r_cons (s_mapUpdate (ek := kS) (ev := vB) (L := setOf ([] : List Str)) n.var true H9 (i := 0) rfl (KeyLaw.S un_9) un_57 rfl rfl rfl ?_); intro w17 H18
      have H19 : St W w17 (MapA mp6 (ents kS vB (setOf (addS ([] : List Str) n.var))) :: blk bk3 (.cells #[.int .i64 n.kind.v, .string n.var.v, .string n.typ.v, .slice n.tp n.tests.length n.tc, .slice n.kp n.kids.length n.kc] 25 (0, 0)) :: Im 5 (.slice n.kp n.kids.length n.kc) n.kids.length (n.kids.flatMap nodeCell) :: NodesA n.kids :: F) := by have h9 := H18; rw [setOf_set] at h9; exact h9
      refine r_nil ?_
      refine g_seq ?_
      refine g_region ?_
      refine r_cons (s_move (.map (some mp6)) rfl rfl ?_)
      refine r_cons (s_call [.map (some mp6)] pl_44 rfl rfl (set_list mp6 (addS ([] : List Str) n.var) (by simp [addS]) H19) ?_)
      rintro _ w22 ⟨pp20, cc21, rfl, H23⟩
      refine r_cons (s_assign (.slice pp20 ((sortS (addS ([] : List Str) n.var)).length) cc21) rfl rfl ?_)
      refine r_nil ?_
      refine g_ret' [.slice pp20 ((sortS (addS ([] : List Str) n.var)).length) cc21] Try.func26 Try.results26 ⟨rfl, trivial⟩ ?_
      have H24 : St W w22 (Im 1 (.slice pp20 ((sortS (addS ([] : List Str) n.var)).length) cc21) ((sortS (addS ([] : List Str) n.var)).length) ((sortS (addS ([] : List Str) n.var)).flatMap strCell) :: F) := (((H23.drop 1 rfl).drop 1 rfl).drop 1 rfl)
      have hq9 : (sortS (addS ([] : List Str) n.var)) = sureN n := by rw [sureN_leaf (by rw [List.isEmpty_iff]; exact List.eq_nil_of_length_eq_zero (by omega)), if_neg hc11]; exact sortS_one _
      exact ⟨pp20, cc21, by rw [← hq9]; rfl, by rw [← hq9]; exact H24⟩
  · skip
    refine r_cons (s_eql false rfl rfl (dfalse hc10) rfl ?_)
    refine r_nil ?_
    refine g_false rfl ?_
    refine g_skip ?_
    refine g_seq ?_
    refine g_region ?_
    refine r_cons (s_makeMap H9 rfl ?_); intro mp25 w26 H27
    have H28 : St W w26 (MapA mp25 (ents kS vI ([] : List (Str × Int))) :: MapA mp6 (ents kS vB (setOf ([] : List Str))) :: blk bk3 (.cells #[.int .i64 n.kind.v, .string n.var.v, .string n.typ.v, .slice n.tp n.tests.length n.tc, .slice n.kp n.kids.length n.kc] 25 (0, 0)) :: Im 5 (.slice n.kp n.kids.length n.kc) n.kids.length (n.kids.flatMap nodeCell) :: NodesA n.kids :: F) := H27
    refine r_cons (s_assign (.map (some mp25)) rfl rfl ?_)
    refine r_nil ?_
    refine g_seq ?_
    refine g_seq ?_
    refine g_region ?_
    refine r_cons (s_fieldAddr 25 4 4 4 23 rfl fi_25_4 rfl rfl ?_)
    refine r_cons (s_load (.slice n.kp n.kids.length n.kc) ag_23 rfl (H28.blk_at (i := 2) rfl) rfl rfl ?_)
    refine r_cons (s_len n.kids.length rfl ⟨_, un_23⟩ rfl ?_)
    refine r_cons (s_move (.int .i64 0) rfl rfl ?_)
    refine r_nil ?_
    refine g_block ?_
    obtain ⟨pA29, cA30, gA31, oA32, kA33, eA34, zA35, he41, hn36, hp37, hx38, hs39, hml, H40⟩ := Im.open_ H28 (i := 3) rfl
    obtain ⟨rfl, rfl⟩ : n.kp = pA29 ∧ n.kc = cA30 := by injection he41 with a_ b_ c_; exact ⟨a_, c_⟩
    have hM42 : ([] : List (Str × Int)) = (cntN (n.kids.take 0)) := rfl
    have H43 : St W w26 (imi (0 < n.kids.length) gA31 (.cells kA33 eA34 zA35) :: MapA mp25 (ents kS vI (cntN (n.kids.take 0))) :: MapA mp6 (ents kS vB (setOf ([] : List Str))) :: blk bk3 (.cells #[.int .i64 n.kind.v, .string n.var.v, .string n.typ.v, .slice n.tp n.tests.length n.tc, .slice n.kp n.kids.length n.kc] 25 (0, 0)) :: Im 5 (.slice n.kp n.kids.length n.kc) n.kids.length (n.kids.flatMap nodeCell) :: NodesA n.kids :: F) := by rw [← hM42]; exact H40
    have H44 : St W w26 (imi (0 < n.kids.length) gA31 (.cells kA33 eA34 zA35) :: MapA mp25 (ents kS vI (cntN (n.kids.take 0))) :: MapA mp6 (ents kS vB (setOf ([] : List Str))) :: blk bk3 (.cells #[.int .i64 n.kind.v, .string n.var.v, .string n.typ.v, .slice n.tp n.tests.length n.tc, .slice n.kp n.kids.length n.kc] 25 (0, 0)) :: Im 5 (.slice n.kp n.kids.length n.kc) n.kids.length (n.kids.flatMap nodeCell) :: NodesA n.kids :: F) := ((((((H43.move 5 rfl).move 5 rfl).move 5 rfl).move 5 rfl).move 5 rfl).move 5 rfl)
    refine g_loop_inv (fun (x_ : Nat) => match x_ with | j => [(1, .pointer (some ⟨bk3, 0, none⟩)), (2, .slice none 0 0), (3, .map (some mp6)), (4, .map (some mp25)), (26, .slice n.kp n.kids.length n.kc), (27, .int .i64 (n.kids.length : Int)), (28, .int .i64 (j : Int))]) (fun (x_ : Nat) w => match x_ with | j => (j ≤ n.kids.length) ∧ St W w (imi (0 < n.kids.length) gA31 (.cells kA33 eA34 zA35) :: MapA mp25 (ents kS vI (cntN (n.kids.take j))) :: MapA mp6 (ents kS vB (setOf ([] : List Str))) :: blk bk3 (.cells #[.int .i64 n.kind.v, .string n.var.v, .string n.typ.v, .slice n.tp n.tests.length n.tc, .slice n.kp n.kids.length n.kc] 25 (0, 0)) :: Im 5 (.slice n.kp n.kids.length n.kc) n.kids.length (n.kids.flatMap nodeCell) :: NodesA n.kids :: F)) (fun (x_ : Nat) => match x_ with | j => n.kids.length - j) (0) ?_ ?_ ?_
    · exact ⟨by first | rfl | exact vint (by omega), by first | rfl | exact vint (by omega), by first | rfl | exact vint (by omega), by first | rfl | exact vint (by omega), by first | rfl | exact vint (by omega), by first | rfl | exact vint (by omega), by first | rfl | exact vint (by omega), trivial⟩
    · exact ⟨(by omega), H44⟩
    · rintro j ρ45 w46 ⟨hjl, H47⟩ nx48
      change Ends _ _ (upds ρ45 [(1, .pointer (some ⟨bk3, 0, none⟩)), (2, .slice none 0 0), (3, .map (some mp6)), (4, .map (some mp25)), (26, .slice n.kp n.kids.length n.kc), (27, .int .i64 (n.kids.length : Int)), (28, .int .i64 (j : Int))]) w46
      refine g_seq ?_
      refine g_region ?_
      by_cases hc49 : (j : Int) < (n.kids.length : Int)
      · skip
        refine r_cons (s_lss true rfl rfl (dtrue hc49) rfl ?_)
        refine r_nil ?_
        refine g_seq ?_
        refine g_true rfl ?_
        refine g_skip ?_
        refine g_seq ?_
        refine g_block ?_
        refine g_seq ?_
        refine g_region ?_
        refine r_cons (s_indexAddr gA31 (off := oA32) (j : Int) 5 (oA32 + j * 5) (by exact congrArg (fun z_ => Value.slice z_ n.kids.length n.kc) (hp37 (by omega))) rfl el_23 (by omega) rfl rfl ?_)
        refine r_cons (s_loadAgg [.int .i64 ((n.kids.getD j default).kind.v), .string ((n.kids.getD j default).var.v), .string ((n.kids.getD j default).typ.v), .slice ((n.kids.getD j default).tp) ((n.kids.getD j default).tests.length) ((n.kids.getD j default).tc), .slice ((n.kids.getD j default).kp) ((n.kids.getD j default).kids.length) ((n.kids.getD j default).kc)] 5 ag_25 rfl (H47.imi_at (i := 0) rfl (by omega)) (by have := elem_size (i := j) (s := 5) (hs39 (by omega)) (by omega); omega) (elem_take nodeCell_len (hx38 (by omega)) (by omega) default) rfl ?_)
        refine r_cons (s_alloc H47 25 ze_25 rfl ?_); intro bk50 w51 H52
        refine r_cons (s_storeAgg H52 0 #[.int .i64 ((n.kids.getD j default).kind.v), .string ((n.kids.getD j default).var.v), .string ((n.kids.getD j default).typ.v), .slice ((n.kids.getD j default).tp) ((n.kids.getD j default).tests.length) ((n.kids.getD j default).tc), .slice ((n.kids.getD j default).kp) ((n.kids.getD j default).kids.length) ((n.kids.getD j default).kc)] 5 rfl rfl rfl sz_25 rfl (by simp [Value.oneCell']) (Nat.le_of_ble_eq_true rfl) (fun o h1 h2 => by first | (simp; done) | (simp; omega)) (cs' := #[.int .i64 ((n.kids.getD j default).kind.v), .string ((n.kids.getD j default).var.v), .string ((n.kids.getD j default).typ.v), .slice ((n.kids.getD j default).tp) ((n.kids.getD j default).tests.length) ((n.kids.getD j default).tc), .slice ((n.kids.getD j default).kp) ((n.kids.getD j default).kids.length) ((n.kids.getD j default).kc)]) rfl ?_); intro w53 H54
        refine r_nil ?_
        refine g_seq ?_
        refine g_region ?_
        refine r_cons (s_loadAgg [.int .i64 ((n.kids.getD j default).kind.v), .string ((n.kids.getD j default).var.v), .string ((n.kids.getD j default).typ.v), .slice ((n.kids.getD j default).tp) ((n.kids.getD j default).tests.length) ((n.kids.getD j default).tc), .slice ((n.kids.getD j default).kp) ((n.kids.getD j default).kids.length) ((n.kids.getD j default).kc)] 5 ag_25 rfl (H54.blk_at (i := 0) rfl) (Nat.le_of_ble_eq_true rfl) rfl rfl ?_)
        have H55 := NodesA.at H54 (i := 6) rfl (j := j) (by omega)
        refine r_cons (s_call [.agg #[.int .i64 ((n.kids.getD j default).kind.v), .string ((n.kids.getD j default).var.v), .string ((n.kids.getD j default).typ.v), .slice ((n.kids.getD j default).tp) ((n.kids.getD j default).tests.length) ((n.kids.getD j default).tc), .slice ((n.kids.getD j default).kp) ((n.kids.getD j default).kids.length) ((n.kids.getD j default).kc)]] pl_26 rfl rfl (ih (n.kids.getD j default) (by have h9 := kid_lt (n := n) (j := j) (by omega); omega) (i := 0) rfl (by have h9 := sizeN_kid (n := n) (j := j) (by omega); omega) H55) ?_)
        rintro _ w58 ⟨pp56, cc57, rfl, H59⟩
        refine r_cons (s_len ((sureN (n.kids.getD j default)).length) rfl ⟨_, un_36⟩ rfl ?_)
        refine r_cons (s_move (.int .i64 0) rfl rfl ?_)
        refine r_nil ?_
        refine g_block ?_
        obtain ⟨pA60, cA61, gA62, oA63, kA64, eA65, zA66, he72, hn67, hp68, hx69, hs70, hml, H71⟩ := Im.open_ H59 (i := 0) rfl
        obtain ⟨rfl, rfl⟩ : pp56 = pA60 ∧ cc57 = cA61 := by injection he72 with a_ b_ c_; exact ⟨a_, c_⟩
        have hM73 : (cntN (n.kids.take j)) = (((sureN (n.kids.getD j default)).take 0).foldl cnt1 (cntN (n.kids.take j))) := rfl
        have H74 : St W w58 (imi (0 < (sureN (n.kids.getD j default)).length) gA62 (.cells kA64 eA65 zA66) :: Im 1 (.slice pp56 ((sureN (n.kids.getD j default)).length) cc57) ((sureN (n.kids.getD j default)).length) ((sureN (n.kids.getD j default)).flatMap strCell) :: NodeA (n.kids.getD j default) :: blk bk50 (.cells #[.int .i64 ((n.kids.getD j default).kind.v), .string ((n.kids.getD j default).var.v), .string ((n.kids.getD j default).typ.v), .slice ((n.kids.getD j default).tp) ((n.kids.getD j default).tests.length) ((n.kids.getD j default).tc), .slice ((n.kids.getD j default).kp) ((n.kids.getD j default).kids.length) ((n.kids.getD j default).kc)] 25 (0, 0)) :: imi (0 < n.kids.length) gA31 (.cells kA33 eA34 zA35) :: MapA mp25 (ents kS vI (((sureN (n.kids.getD j default)).take 0).foldl cnt1 (cntN (n.kids.take j)))) :: MapA mp6 (ents kS vB (setOf ([] : List Str))) :: blk bk3 (.cells #[.int .i64 n.kind.v, .string n.var.v, .string n.typ.v, .slice n.tp n.tests.length n.tc, .slice n.kp n.kids.length n.kc] 25 (0, 0)) :: Im 5 (.slice n.kp n.kids.length n.kc) n.kids.length (n.kids.flatMap nodeCell) :: NodesA n.kids :: F) := by rw [← hM73]; exact H71
        have H75 : St W w58 (imi (0 < (sureN (n.kids.getD j default)).length) gA62 (.cells kA64 eA65 zA66) :: Im 1 (.slice pp56 ((sureN (n.kids.getD j default)).length) cc57) ((sureN (n.kids.getD j default)).length) ((sureN (n.kids.getD j default)).flatMap strCell) :: NodeA (n.kids.getD j default) :: imi (0 < n.kids.length) gA31 (.cells kA33 eA34 zA35) :: MapA mp25 (ents kS vI (((sureN (n.kids.getD j default)).take 0).foldl cnt1 (cntN (n.kids.take j)))) :: MapA mp6 (ents kS vB (setOf ([] : List Str))) :: blk bk3 (.cells #[.int .i64 n.kind.v, .string n.var.v, .string n.typ.v, .slice n.tp n.tests.length n.tc, .slice n.kp n.kids.length n.kc] 25 (0, 0)) :: Im 5 (.slice n.kp n.kids.length n.kc) n.kids.length (n.kids.flatMap nodeCell) :: NodesA n.kids :: F) := ((((((((((H74.move 9 rfl).move 9 rfl).move 9 rfl).move 9 rfl).move 9 rfl).move 9 rfl).move 8 rfl).move 8 rfl).move 8 rfl).drop 9 rfl)
        refine g_loop_inv (fun (x_ : Nat) => match x_ with | q => [(1, .pointer (some ⟨bk3, 0, none⟩)), (2, .slice none 0 0), (3, .map (some mp6)), (4, .map (some mp25)), (26, .slice n.kp n.kids.length n.kc), (27, .int .i64 (n.kids.length : Int)), (28, .int .i64 (j : Int)), (33, .slice pp56 ((sureN (n.kids.getD j default)).length) cc57), (34, .int .i64 ((sureN (n.kids.getD j default)).length : Int)), (35, .int .i64 (q : Int))]) (fun (x_ : Nat) w => match x_ with | q => (q ≤ (sureN (n.kids.getD j default)).length) ∧ St W w (imi (0 < (sureN (n.kids.getD j default)).length) gA62 (.cells kA64 eA65 zA66) :: Im 1 (.slice pp56 ((sureN (n.kids.getD j default)).length) cc57) ((sureN (n.kids.getD j default)).length) ((sureN (n.kids.getD j default)).flatMap strCell) :: NodeA (n.kids.getD j default) :: imi (0 < n.kids.length) gA31 (.cells kA33 eA34 zA35) :: MapA mp25 (ents kS vI (((sureN (n.kids.getD j default)).take q).foldl cnt1 (cntN (n.kids.take j)))) :: MapA mp6 (ents kS vB (setOf ([] : List Str))) :: blk bk3 (.cells #[.int .i64 n.kind.v, .string n.var.v, .string n.typ.v, .slice n.tp n.tests.length n.tc, .slice n.kp n.kids.length n.kc] 25 (0, 0)) :: Im 5 (.slice n.kp n.kids.length n.kc) n.kids.length (n.kids.flatMap nodeCell) :: NodesA n.kids :: F)) (fun (x_ : Nat) => match x_ with | q => (sureN (n.kids.getD j default)).length - q) (0) ?_ ?_ ?_
        · exact ⟨by first | rfl | exact vint (by omega), by first | rfl | exact vint (by omega), by first | rfl | exact vint (by omega), by first | rfl | exact vint (by omega), by first | rfl | exact vint (by omega), by first | rfl | exact vint (by omega), by first | rfl | exact vint (by omega), by first | rfl | exact vint (by omega), by first | rfl | exact vint (by omega), by first | rfl | exact vint (by omega), trivial⟩
        · exact ⟨(by omega), H75⟩
        · rintro q ρ76 w77 ⟨hql, H78⟩ nx79
          change Ends _ _ (upds ρ76 [(1, .pointer (some ⟨bk3, 0, none⟩)), (2, .slice none 0 0), (3, .map (some mp6)), (4, .map (some mp25)), (26, .slice n.kp n.kids.length n.kc), (27, .int .i64 (n.kids.length : Int)), (28, .int .i64 (j : Int)), (33, .slice pp56 ((sureN (n.kids.getD j default)).length) cc57), (34, .int .i64 ((sureN (n.kids.getD j default)).length : Int)), (35, .int .i64 (q : Int))]) w77
          refine g_seq ?_
          refine g_region ?_
          by_cases hc80 : (q : Int) < ((sureN (n.kids.getD j default)).length : Int)
          · skip
            refine r_cons (s_lss true rfl rfl (dtrue hc80) rfl ?_)
            refine r_nil ?_
            refine g_seq ?_
            refine g_true rfl ?_
            refine g_skip ?_
            refine g_seq ?_
            refine g_block ?_
            refine g_seq ?_
            refine g_region ?_
            refine r_cons (s_indexAddr gA62 (off := oA63) (q : Int) 1 (oA63 + q * 1) (by exact congrArg (fun z_ => Value.slice z_ ((sureN (n.kids.getD j default)).length) cc57) (hp68 (by omega))) rfl el_36 (by omega) rfl rfl ?_)
            refine r_cons (s_load (.string (((sureN (n.kids.getD j default)).getD q default).v)) ag_9 rfl (H78.imi_at (i := 0) rfl (by omega)) (elem_cell (L := (sureN (n.kids.getD j default))) (i := q) strCell_len (hx69 (by omega)) (by omega) default 0 (by decide) _ rfl) rfl ?_)
            refine r_cons (s_assign (.string (((sureN (n.kids.getD j default)).getD q default).v)) rfl rfl ?_)
            refine r_nil ?_
            refine g_region ?_
            refine r_cons (s_move (.map (some mp25)) rfl rfl ?_)
            refine r_cons (s_move (.string (((sureN (n.kids.getD j default)).getD q default).v)) rfl rfl ?_)
            refine r_cons (s_lookup (ek := kS) (ev := vI) (L := (((sureN (n.kids.getD j default)).take q).foldl cnt1 (cntN (n.kids.take j)))) ((sureN (n.kids.getD j default)).getD q default) (.int .i64 (agetI (((sureN (n.kids.getD j default)).take q).foldl cnt1 (cntN (n.kids.take j))) ((sureN (n.kids.getD j default)).getD q default))) (MapA.at H78 (i := 4) rfl) (KeyLaw.S un_9) un_62 zv_3 rfl rfl (lookI _ _) rfl ?_)
            refine r_cons (s_add (wI (agetI (((sureN (n.kids.getD j default)).take q).foldl cnt1 (cntN (n.kids.take j))) ((sureN (n.kids.getD j default)).getD q default) + 1)) rfl rfl rfl rfl ?_)
            refine r_cons (s_mapUpdate (ek := kS) (ev := vI) (L := (((sureN (n.kids.getD j default)).take q).foldl cnt1 (cntN (n.kids.take j)))) ((sureN (n.kids.getD j default)).getD q default) (wI (agetI (((sureN (n.kids.getD j default)).take q).foldl cnt1 (cntN (n.kids.take j))) ((sureN (n.kids.getD j default)).getD q default) + 1)) H78 (i := 4) rfl (KeyLaw.S un_9) un_62 rfl rfl rfl ?_); intro w81 H82
            have H83 : St W w81 (imi (0 < (sureN (n.kids.getD j default)).length) gA62 (.cells kA64 eA65 zA66) :: Im 1 (.slice pp56 ((sureN (n.kids.getD j default)).length) cc57) ((sureN (n.kids.getD j default)).length) ((sureN (n.kids.getD j default)).flatMap strCell) :: NodeA (n.kids.getD j default) :: imi (0 < n.kids.length) gA31 (.cells kA33 eA34 zA35) :: MapA mp25 (ents kS vI (aset (((sureN (n.kids.getD j default)).take q).foldl cnt1 (cntN (n.kids.take j))) ((sureN (n.kids.getD j default)).getD q default) (wI (agetI (((sureN (n.kids.getD j default)).take q).foldl cnt1 (cntN (n.kids.take j))) ((sureN (n.kids.getD j default)).getD q default) + 1)))) :: MapA mp6 (ents kS vB (setOf ([] : List Str))) :: blk bk3 (.cells #[.int .i64 n.kind.v, .string n.var.v, .string n.typ.v, .slice n.tp n.tests.length n.tc, .slice n.kp n.kids.length n.kc] 25 (0, 0)) :: Im 5 (.slice n.kp n.kids.length n.kc) n.kids.length (n.kids.flatMap nodeCell) :: NodesA n.kids :: F) := H82
            refine r_nil ?_
            refine g_inBlock ?_
            refine g_region ?_
            refine r_cons (s_add ((q : Int) + 1) rfl rfl (wi64 (by omega)) rfl ?_)
            refine r_cons (s_move (.int .i64 ((q : Int) + 1)) rfl rfl ?_)
            refine r_nil ?_
            have hM84 : (aset (((sureN (n.kids.getD j default)).take q).foldl cnt1 (cntN (n.kids.take j))) ((sureN (n.kids.getD j default)).getD q default) (wI (agetI (((sureN (n.kids.getD j default)).take q).foldl cnt1 (cntN (n.kids.take j))) ((sureN (n.kids.getD j default)).getD q default) + 1))) = (((sureN (n.kids.getD j default)).take (q + 1)).foldl cnt1 (cntN (n.kids.take j))) := (fold_stepS cnt1 _ (by omega)).symm
            have H85 : St W w81 (imi (0 < (sureN (n.kids.getD j default)).length) gA62 (.cells kA64 eA65 zA66) :: Im 1 (.slice pp56 ((sureN (n.kids.getD j default)).length) cc57) ((sureN (n.kids.getD j default)).length) ((sureN (n.kids.getD j default)).flatMap strCell) :: NodeA (n.kids.getD j default) :: imi (0 < n.kids.length) gA31 (.cells kA33 eA34 zA35) :: MapA mp25 (ents kS vI (((sureN (n.kids.getD j default)).take (q + 1)).foldl cnt1 (cntN (n.kids.take j)))) :: MapA mp6 (ents kS vB (setOf ([] : List Str))) :: blk bk3 (.cells #[.int .i64 n.kind.v, .string n.var.v, .string n.typ.v, .slice n.tp n.tests.length n.tc, .slice n.kp n.kids.length n.kc] 25 (0, 0)) :: Im 5 (.slice n.kp n.kids.length n.kc) n.kids.length (n.kids.flatMap nodeCell) :: NodesA n.kids :: F) := by rw [← hM84]; exact H83
            have H86 : St W w81 (imi (0 < (sureN (n.kids.getD j default)).length) gA62 (.cells kA64 eA65 zA66) :: Im 1 (.slice pp56 ((sureN (n.kids.getD j default)).length) cc57) ((sureN (n.kids.getD j default)).length) ((sureN (n.kids.getD j default)).flatMap strCell) :: NodeA (n.kids.getD j default) :: imi (0 < n.kids.length) gA31 (.cells kA33 eA34 zA35) :: MapA mp25 (ents kS vI (((sureN (n.kids.getD j default)).take (q + 1)).foldl cnt1 (cntN (n.kids.take j)))) :: MapA mp6 (ents kS vB (setOf ([] : List Str))) :: blk bk3 (.cells #[.int .i64 n.kind.v, .string n.var.v, .string n.typ.v, .slice n.tp n.tests.length n.tc, .slice n.kp n.kids.length n.kc] 25 (0, 0)) :: Im 5 (.slice n.kp n.kids.length n.kc) n.kids.length (n.kids.flatMap nodeCell) :: NodesA n.kids :: F) := (((((((((H85.move 8 rfl).move 8 rfl).move 8 rfl).move 8 rfl).move 8 rfl).move 8 rfl).move 8 rfl).move 8 rfl).move 8 rfl)
            exact nx79 (q + 1) _ _ ⟨(by omega), H86⟩ (by first | (dsimp only; omega) | omega) ⟨by first | rfl | exact vint (by omega), by first | rfl | exact vint (by omega), by first | rfl | exact vint (by omega), by first | rfl | exact vint (by omega), by first | rfl | exact vint (by omega), by first | rfl | exact vint (by omega), by first | rfl | exact vint (by omega), by first | rfl | exact vint (by omega), by first | rfl | exact vint (by omega), by first | rfl | exact vint (by omega), trivial⟩
          · skip
            refine r_cons (s_lss false rfl rfl (dfalse hc80) rfl ?_)
            refine r_nil ?_
            refine g_seq ?_
            refine g_false rfl ?_
            refine g_exit (by rfl) ?_
            refine g_inBlock ?_
            refine g_region ?_
            refine r_cons (s_add ((j : Int) + 1) rfl rfl (wi64 (by omega)) rfl ?_)
            refine r_cons (s_move (.int .i64 ((j : Int) + 1)) rfl rfl ?_)
            refine r_nil ?_
            have hM87 : (((sureN (n.kids.getD j default)).take q).foldl cnt1 (cntN (n.kids.take j))) = (cntN (n.kids.take (j + 1))) := by rw [cntN_step (by omega), fold_allS _ _ (by omega)]
            have H88 : St W w77 (imi (0 < (sureN (n.kids.getD j default)).length) gA62 (.cells kA64 eA65 zA66) :: Im 1 (.slice pp56 ((sureN (n.kids.getD j default)).length) cc57) ((sureN (n.kids.getD j default)).length) ((sureN (n.kids.getD j default)).flatMap strCell) :: NodeA (n.kids.getD j default) :: imi (0 < n.kids.length) gA31 (.cells kA33 eA34 zA35) :: MapA mp25 (ents kS vI (cntN (n.kids.take (j + 1)))) :: MapA mp6 (ents kS vB (setOf ([] : List Str))) :: blk bk3 (.cells #[.int .i64 n.kind.v, .string n.var.v, .string n.typ.v, .slice n.tp n.tests.length n.tc, .slice n.kp n.kids.length n.kc] 25 (0, 0)) :: Im 5 (.slice n.kp n.kids.length n.kc) n.kids.length (n.kids.flatMap nodeCell) :: NodesA n.kids :: F) := by rw [← hM87]; exact H78
            have H89 : St W w77 (imi (0 < n.kids.length) gA31 (.cells kA33 eA34 zA35) :: MapA mp25 (ents kS vI (cntN (n.kids.take (j + 1)))) :: MapA mp6 (ents kS vB (setOf ([] : List Str))) :: blk bk3 (.cells #[.int .i64 n.kind.v, .string n.var.v, .string n.typ.v, .slice n.tp n.tests.length n.tc, .slice n.kp n.kids.length n.kc] 25 (0, 0)) :: Im 5 (.slice n.kp n.kids.length n.kc) n.kids.length (n.kids.flatMap nodeCell) :: NodesA n.kids :: F) := (((((((((H88.move 8 rfl).move 8 rfl).move 8 rfl).move 8 rfl).move 8 rfl).move 8 rfl).drop 6 rfl).drop 6 rfl).drop 6 rfl)
            exact nx48 (j + 1) _ _ ⟨(by omega), H89⟩ (by first | (dsimp only; omega) | omega) ⟨by first | rfl | exact vint (by omega), by first | rfl | exact vint (by omega), by first | rfl | exact vint (by omega), by first | rfl | exact vint (by omega), by first | rfl | exact vint (by omega), by first | rfl | exact vint (by omega), by first | rfl | exact vint (by omega), trivial⟩
      · skip
        refine r_cons (s_lss false rfl rfl (dfalse hc49) rfl ?_)
        refine r_nil ?_
        refine g_seq ?_
        refine g_false rfl ?_
        refine g_exit (by rfl) ?_
        refine g_seq ?_
        refine g_seq ?_
        refine g_region ?_
        refine r_cons (s_move (.map (some mp25)) rfl rfl ?_)
        refine r_cons (s_range H47 1 rfl un_62 rfl rfl ?_); intro it90 w91 H92
        have H93 : St W w91 (MapIt it90 mp25 (ents kS vI (cntN (n.kids.take j))) (ents kS vI (cntN (n.kids.take j))) none :: imi (0 < n.kids.length) gA31 (.cells kA33 eA34 zA35) :: MapA mp6 (ents kS vB (setOf ([] : List Str))) :: blk bk3 (.cells #[.int .i64 n.kind.v, .string n.var.v, .string n.typ.v, .slice n.tp n.tests.length n.tc, .slice n.kp n.kids.length n.kc] 25 (0, 0)) :: Im 5 (.slice n.kp n.kids.length n.kc) n.kids.length (n.kids.flatMap nodeCell) :: NodesA n.kids :: F) := H92.drop 2 rfl
        refine r_nil ?_
        refine g_block ?_
        have hL94 : (cntN (n.kids.take j)) = cntN n.kids := by rw [List.take_of_length_le (by omega)]
        have H95 : St W w91 (MapIt it90 mp25 (ents kS vI (cntN n.kids)) (ents kS vI (cntN n.kids)) none :: imi (0 < n.kids.length) gA31 (.cells kA33 eA34 zA35) :: MapA mp6 (ents kS vB (setOf ([] : List Str))) :: blk bk3 (.cells #[.int .i64 n.kind.v, .string n.var.v, .string n.typ.v, .slice n.tp n.tests.length n.tc, .slice n.kp n.kids.length n.kc] 25 (0, 0)) :: Im 5 (.slice n.kp n.kids.length n.kc) n.kids.length (n.kids.flatMap nodeCell) :: NodesA n.kids :: F) := by rw [← hL94]; exact H93
        have H96 : St W w91 (MapIt it90 mp25 (ents kS vI (cntN n.kids)) (ents kS vI (cntN n.kids)) none :: imi (0 < n.kids.length) gA31 (.cells kA33 eA34 zA35) :: MapA mp6 (ents kS vB (setOf (pickF n []))) :: blk bk3 (.cells #[.int .i64 n.kind.v, .string n.var.v, .string n.typ.v, .slice n.tp n.tests.length n.tc, .slice n.kp n.kids.length n.kc] 25 (0, 0)) :: Im 5 (.slice n.kp n.kids.length n.kc) n.kids.length (n.kids.flatMap nodeCell) :: NodesA n.kids :: F) := H95
        have H97 : St W w91 (MapIt it90 mp25 (ents kS vI (cntN n.kids)) (ents kS vI (cntN n.kids)) none :: imi (0 < n.kids.length) gA31 (.cells kA33 eA34 zA35) :: MapA mp6 (ents kS vB (setOf (pickF n []))) :: blk bk3 (.cells #[.int .i64 n.kind.v, .string n.var.v, .string n.typ.v, .slice n.tp n.tests.length n.tc, .slice n.kp n.kids.length n.kc] 25 (0, 0)) :: Im 5 (.slice n.kp n.kids.length n.kc) n.kids.length (n.kids.flatMap nodeCell) :: NodesA n.kids :: F) := ((((((H96.move 5 rfl).move 5 rfl).move 5 rfl).move 5 rfl).move 5 rfl).move 5 rfl)
        refine g_loop_inv (fun (x_ : (List (Str × Int)) × (List (Str × Int)) × (Option (Value × Value))) => match x_ with | (pre, rest, last) => [(1, .pointer (some ⟨bk3, 0, none⟩)), (2, .slice none 0 0), (3, .map (some mp6)), (46, .pointer (some ⟨it90, 0, none⟩))]) (fun (x_ : (List (Str × Int)) × (List (Str × Int)) × (Option (Value × Value))) w => match x_ with | (pre, rest, last) => ((pre ++ rest).Perm (cntN n.kids)) ∧ St W w (MapIt it90 mp25 (ents kS vI (cntN n.kids)) (ents kS vI rest) last :: imi (0 < n.kids.length) gA31 (.cells kA33 eA34 zA35) :: MapA mp6 (ents kS vB (setOf (pickF n pre))) :: blk bk3 (.cells #[.int .i64 n.kind.v, .string n.var.v, .string n.typ.v, .slice n.tp n.tests.length n.tc, .slice n.kp n.kids.length n.kc] 25 (0, 0)) :: Im 5 (.slice n.kp n.kids.length n.kc) n.kids.length (n.kids.flatMap nodeCell) :: NodesA n.kids :: F)) (fun (x_ : (List (Str × Int)) × (List (Str × Int)) × (Option (Value × Value))) => match x_ with | (pre, rest, last) => rest.length) ([], cntN n.kids, none) ?_ ?_ ?_
        · exact ⟨by first | rfl | exact vint (by omega), by first | rfl | exact vint (by omega), by first | rfl | exact vint (by omega), by first | rfl | exact vint (by omega), trivial⟩
        · exact ⟨(List.Perm.refl _), H97⟩
        · rintro ⟨pre, rest, last⟩ ρ98 w99 ⟨hperm, H100⟩ nx101
          change Ends _ _ (upds ρ98 [(1, .pointer (some ⟨bk3, 0, none⟩)), (2, .slice none 0 0), (3, .map (some mp6)), (46, .pointer (some ⟨it90, 0, none⟩))]) w99
          refine g_seq ?_
          refine g_region ?_
          refine r_cons (s_nextT (ek := kS) (ev := vI) (rest := rest) H100 0 rfl rfl rfl ?_ ?_)
          · intro h0102
            refine r_cons (s_extract (.bool false) #[.bool false] rfl rfl rfl ?_)
            refine r_nil ?_
            refine g_seq ?_
            refine g_false rfl ?_
            refine g_exit (by rfl) ?_
            refine g_seq ?_
            refine g_region ?_
            refine r_cons (s_move (.map (some mp6)) rfl rfl ?_)
            have H108 : St W w99 (MapA mp6 (ents kS vB (setOf (pickF n pre))) :: MapIt it90 mp25 (ents kS vI (cntN n.kids)) (ents kS vI rest) last :: imi (0 < n.kids.length) gA31 (.cells kA33 eA34 zA35) :: blk bk3 (.cells #[.int .i64 n.kind.v, .string n.var.v, .string n.typ.v, .slice n.tp n.tests.length n.tc, .slice n.kp n.kids.length n.kc] 25 (0, 0)) :: Im 5 (.slice n.kp n.kids.length n.kc) n.kids.length (n.kids.flatMap nodeCell) :: NodesA n.kids :: F) := (H100.move 2 rfl)
            refine r_cons (s_call [.map (some mp6)] pl_44 rfl rfl (set_list mp6 (pickF n pre) (by have h9 := pickF_len n pre; have h8 := hperm.length_eq; have h7 := cntN_len n; simp only [List.length_append] at h8; omega) H108) ?_)
            rintro _ w111 ⟨pp109, cc110, rfl, H112⟩
            refine r_cons (s_assign (.slice pp109 ((sortS (pickF n pre)).length) cc110) rfl rfl ?_)
            refine r_nil ?_
            refine g_ret' [.slice pp109 ((sortS (pickF n pre)).length) cc110] Try.func26 Try.results26 ⟨rfl, trivial⟩ ?_
            have H113 : St W w111 (Im 1 (.slice pp109 ((sortS (pickF n pre)).length) cc110) ((sortS (pickF n pre)).length) ((sortS (pickF n pre)).flatMap strCell) :: F) := (((((H112.drop 1 rfl).drop 1 rfl).drop 1 rfl).drop 1 rfl).drop 1 rfl)
            have hq9 : (sortS (pickF n pre)) = sureN n := sureN_map (by rw [Bool.eq_false_iff, ne_eq, List.isEmpty_iff]; intro h9; have h8 := congrArg List.length h9; simp only [List.length_nil] at h8; omega) (by have h9 := kids_len n; omega) (perm_endE h0102 hperm)
            exact ⟨pp109, cc110, by rw [← hq9]; rfl, by rw [← hq9]; exact H113⟩
          · intro jn103 en104 w105 hj106 H107
            have H114 : St W w105 (MapIt it90 mp25 (ents kS vI (cntN n.kids)) (ents kS vI (rest.eraseIdx jn103)) (some (kS en104.1, vI en104.2)) :: imi (0 < n.kids.length) gA31 (.cells kA33 eA34 zA35) :: MapA mp6 (ents kS vB (setOf (pickF n pre))) :: blk bk3 (.cells #[.int .i64 n.kind.v, .string n.var.v, .string n.typ.v, .slice n.tp n.tests.length n.tc, .slice n.kp n.kids.length n.kc] 25 (0, 0)) :: Im 5 (.slice n.kp n.kids.length n.kc) n.kids.length (n.kids.flatMap nodeCell) :: NodesA n.kids :: F) := H107
            refine r_cons (s_extract (.bool true) #[.bool true, .string en104.1.v, .int .i64 en104.2] rfl rfl rfl ?_)
            refine r_nil ?_
            refine g_seq ?_
            refine g_true rfl ?_
            refine g_skip ?_
            refine g_block ?_
            refine g_seq ?_
            refine g_region ?_
            refine r_cons (s_entry (.tuple #[.string en104.1.v, .int .i64 en104.2]) H114 0 rfl rfl rfl rfl ?_)
            refine r_cons (s_extract (.string en104.1.v) #[.string en104.1.v, .int .i64 en104.2] rfl rfl rfl ?_)
            refine r_cons (s_extract (.int .i64 en104.2) #[.string en104.1.v, .int .i64 en104.2] rfl rfl rfl ?_)
            refine r_cons (s_assign (.string en104.1.v) rfl rfl ?_)
            refine r_cons (s_assign (.int .i64 en104.2) rfl rfl ?_)
            refine r_nil ?_
            refine g_seq ?_
            refine g_region ?_
            refine r_cons (s_fieldAddr 25 0 0 0 3 rfl fi_25_0 rfl rfl ?_)
            refine r_cons (s_load (.int .i64 n.kind.v) ag_3 rfl (H114.blk_at (i := 3) rfl) rfl rfl ?_)
            by_cases hc115 : n.kind.v = 4
            · skip
              refine r_cons (s_neq false rfl rfl (ntrue hc115) rfl ?_)
              refine r_cons (s_move (.bool false) rfl rfl ?_)
              refine r_cons (r_take rfl rfl ?_)
              refine s_move (.int .i64 en104.2) rfl rfl ?_
              refine r_cons (r_take rfl rfl ?_)
              refine s_fieldAddr 25 4 4 4 23 rfl fi_25_4 rfl rfl ?_
              refine r_cons (r_take rfl rfl ?_)
              refine s_load (.slice n.kp n.kids.length n.kc) ag_23 rfl (H114.blk_at (i := 3) rfl) rfl rfl ?_
              refine r_cons (r_take rfl rfl ?_)
              refine s_len n.kids.length rfl ⟨_, un_23⟩ rfl ?_
              refine r_cons (r_take rfl rfl ?_)
              by_cases hc116 : en104.2 = (n.kids.length : Int)
              · skip
                refine s_eql true rfl rfl (dtrue hc116) rfl ?_
                refine r_cons (s_pick_f (.bool true) rfl rfl rfl ?_)
                refine r_nil ?_
                refine g_true rfl ?_
                refine g_region ?_
                refine r_cons (s_move (.map (some mp6)) rfl rfl ?_)
                refine r_cons (s_move (.string en104.1.v) rfl rfl ?_)
                refine r_cons (s_mapUpdate (ek := kS) (ev := vB) (L := setOf (pickF n pre)) en104.1 true H114 (i := 2) rfl (KeyLaw.S un_9) un_57 rfl rfl rfl ?_); intro w117 H118
                have H119 : St W w117 (MapIt it90 mp25 (ents kS vI (cntN n.kids)) (ents kS vI (rest.eraseIdx jn103)) (some (kS en104.1, vI en104.2)) :: imi (0 < n.kids.length) gA31 (.cells kA33 eA34 zA35) :: MapA mp6 (ents kS vB (setOf (addS (pickF n pre) en104.1))) :: blk bk3 (.cells #[.int .i64 n.kind.v, .string n.var.v, .string n.typ.v, .slice n.tp n.tests.length n.tc, .slice n.kp n.kids.length n.kc] 25 (0, 0)) :: Im 5 (.slice n.kp n.kids.length n.kc) n.kids.length (n.kids.flatMap nodeCell) :: NodesA n.kids :: F) := by have h9 := H118; rw [setOf_set] at h9; exact h9
                refine r_nil ?_
                refine g_inBlock ?_
                have hM120 : (addS (pickF n pre) en104.1) = (pickF n (pre ++ [en104])) := by rw [pickF_snoc, if_pos (by omega)]
                have H121 : St W w117 (MapIt it90 mp25 (ents kS vI (cntN n.kids)) (ents kS vI (rest.eraseIdx jn103)) (some (kS en104.1, vI en104.2)) :: imi (0 < n.kids.length) gA31 (.cells kA33 eA34 zA35) :: MapA mp6 (ents kS vB (setOf (pickF n (pre ++ [en104])))) :: blk bk3 (.cells #[.int .i64 n.kind.v, .string n.var.v, .string n.typ.v, .slice n.tp n.tests.length n.tc, .slice n.kp n.kids.length n.kc] 25 (0, 0)) :: Im 5 (.slice n.kp n.kids.length n.kc) n.kids.length (n.kids.flatMap nodeCell) :: NodesA n.kids :: F) := by rw [← hM120]; exact H119
                have H122 : St W w117 (MapIt it90 mp25 (ents kS vI (cntN n.kids)) (ents kS vI (rest.eraseIdx jn103)) (some (kS en104.1, vI en104.2)) :: imi (0 < n.kids.length) gA31 (.cells kA33 eA34 zA35) :: MapA mp6 (ents kS vB (setOf (pickF n (pre ++ [en104])))) :: blk bk3 (.cells #[.int .i64 n.kind.v, .string n.var.v, .string n.typ.v, .slice n.tp n.tests.length n.tc, .slice n.kp n.kids.length n.kc] 25 (0, 0)) :: Im 5 (.slice n.kp n.kids.length n.kc) n.kids.length (n.kids.flatMap nodeCell) :: NodesA n.kids :: F) := ((((((H121.move 5 rfl).move 5 rfl).move 5 rfl).move 5 rfl).move 5 rfl).move 5 rfl)
                exact nx101 (pre ++ [en104], (rest.eraseIdx jn103), (some (kS en104.1, vI en104.2))) _ _ ⟨(perm_stepE hj106 hperm), H122⟩ (by first | (dsimp only; exact rest_len (by assumption)) | exact rest_len (by assumption)) ⟨by first | rfl | exact vint (by omega), by first | rfl | exact vint (by omega), by first | rfl | exact vint (by omega), by first | rfl | exact vint (by omega), trivial⟩
              · skip
                refine s_eql false rfl rfl (dfalse hc116) rfl ?_
                refine r_cons (s_pick_f (.bool false) rfl rfl rfl ?_)
                refine r_nil ?_
                refine g_false rfl ?_
                refine g_skip ?_
                refine g_inBlock ?_
                have hM123 : (pickF n pre) = (pickF n (pre ++ [en104])) := by rw [pickF_snoc, if_neg (by omega)]
                have H124 : St W w105 (MapIt it90 mp25 (ents kS vI (cntN n.kids)) (ents kS vI (rest.eraseIdx jn103)) (some (kS en104.1, vI en104.2)) :: imi (0 < n.kids.length) gA31 (.cells kA33 eA34 zA35) :: MapA mp6 (ents kS vB (setOf (pickF n (pre ++ [en104])))) :: blk bk3 (.cells #[.int .i64 n.kind.v, .string n.var.v, .string n.typ.v, .slice n.tp n.tests.length n.tc, .slice n.kp n.kids.length n.kc] 25 (0, 0)) :: Im 5 (.slice n.kp n.kids.length n.kc) n.kids.length (n.kids.flatMap nodeCell) :: NodesA n.kids :: F) := by rw [← hM123]; exact H114
                have H125 : St W w105 (MapIt it90 mp25 (ents kS vI (cntN n.kids)) (ents kS vI (rest.eraseIdx jn103)) (some (kS en104.1, vI en104.2)) :: imi (0 < n.kids.length) gA31 (.cells kA33 eA34 zA35) :: MapA mp6 (ents kS vB (setOf (pickF n (pre ++ [en104])))) :: blk bk3 (.cells #[.int .i64 n.kind.v, .string n.var.v, .string n.typ.v, .slice n.tp n.tests.length n.tc, .slice n.kp n.kids.length n.kc] 25 (0, 0)) :: Im 5 (.slice n.kp n.kids.length n.kc) n.kids.length (n.kids.flatMap nodeCell) :: NodesA n.kids :: F) := ((((((H124.move 5 rfl).move 5 rfl).move 5 rfl).move 5 rfl).move 5 rfl).move 5 rfl)
                exact nx101 (pre ++ [en104], (rest.eraseIdx jn103), (some (kS en104.1, vI en104.2))) _ _ ⟨(perm_stepE hj106 hperm), H125⟩ (by first | (dsimp only; exact rest_len (by assumption)) | exact rest_len (by assumption)) ⟨by first | rfl | exact vint (by omega), by first | rfl | exact vint (by omega), by first | rfl | exact vint (by omega), by first | rfl | exact vint (by omega), trivial⟩
            · skip
              refine r_cons (s_neq true rfl rfl (nfalse hc115) rfl ?_)
              refine r_cons (s_move (.bool true) rfl rfl ?_)
              refine r_cons (r_pass rfl rfl rfl rfl rfl ?_)
              refine r_cons (r_pass rfl rfl rfl rfl rfl ?_)
              refine r_cons (r_pass rfl rfl rfl rfl rfl ?_)
              refine r_cons (r_pass rfl rfl rfl rfl rfl ?_)
              refine r_cons (r_pass rfl rfl rfl rfl rfl ?_)
              refine r_cons (s_pick_t (.bool true) rfl rfl rfl ?_)
              refine r_nil ?_
              refine g_true rfl ?_
              refine g_region ?_
              refine r_cons (s_move (.map (some mp6)) rfl rfl ?_)
              refine r_cons (s_move (.string en104.1.v) rfl rfl ?_)
              refine r_cons (s_mapUpdate (ek := kS) (ev := vB) (L := setOf (pickF n pre)) en104.1 true H114 (i := 2) rfl (KeyLaw.S un_9) un_57 rfl rfl rfl ?_); intro w126 H127
              have H128 : St W w126 (MapIt it90 mp25 (ents kS vI (cntN n.kids)) (ents kS vI (rest.eraseIdx jn103)) (some (kS en104.1, vI en104.2)) :: imi (0 < n.kids.length) gA31 (.cells kA33 eA34 zA35) :: MapA mp6 (ents kS vB (setOf (addS (pickF n pre) en104.1))) :: blk bk3 (.cells #[.int .i64 n.kind.v, .string n.var.v, .string n.typ.v, .slice n.tp n.tests.length n.tc, .slice n.kp n.kids.length n.kc] 25 (0, 0)) :: Im 5 (.slice n.kp n.kids.length n.kc) n.kids.length (n.kids.flatMap nodeCell) :: NodesA n.kids :: F) := by have h9 := H127; rw [setOf_set] at h9; exact h9
              refine r_nil ?_
              refine g_inBlock ?_
              have hM129 : (addS (pickF n pre) en104.1) = (pickF n (pre ++ [en104])) := by rw [pickF_snoc, if_pos (by omega)]
              have H130 : St W w126 (MapIt it90 mp25 (ents kS vI (cntN n.kids)) (ents kS vI (rest.eraseIdx jn103)) (some (kS en104.1, vI en104.2)) :: imi (0 < n.kids.length) gA31 (.cells kA33 eA34 zA35) :: MapA mp6 (ents kS vB (setOf (pickF n (pre ++ [en104])))) :: blk bk3 (.cells #[.int .i64 n.kind.v, .string n.var.v, .string n.typ.v, .slice n.tp n.tests.length n.tc, .slice n.kp n.kids.length n.kc] 25 (0, 0)) :: Im 5 (.slice n.kp n.kids.length n.kc) n.kids.length (n.kids.flatMap nodeCell) :: NodesA n.kids :: F) := by rw [← hM129]; exact H128
              have H131 : St W w126 (MapIt it90 mp25 (ents kS vI (cntN n.kids)) (ents kS vI (rest.eraseIdx jn103)) (some (kS en104.1, vI en104.2)) :: imi (0 < n.kids.length) gA31 (.cells kA33 eA34 zA35) :: MapA mp6 (ents kS vB (setOf (pickF n (pre ++ [en104])))) :: blk bk3 (.cells #[.int .i64 n.kind.v, .string n.var.v, .string n.typ.v, .slice n.tp n.tests.length n.tc, .slice n.kp n.kids.length n.kc] 25 (0, 0)) :: Im 5 (.slice n.kp n.kids.length n.kc) n.kids.length (n.kids.flatMap nodeCell) :: NodesA n.kids :: F) := ((((((H130.move 5 rfl).move 5 rfl).move 5 rfl).move 5 rfl).move 5 rfl).move 5 rfl)
              exact nx101 (pre ++ [en104], (rest.eraseIdx jn103), (some (kS en104.1, vI en104.2))) _ _ ⟨(perm_stepE hj106 hperm), H131⟩ (by first | (dsimp only; exact rest_len (by assumption)) | exact rest_len (by assumption)) ⟨by first | rfl | exact vint (by omega), by first | rfl | exact vint (by omega), by first | rfl | exact vint (by omega), by first | rfl | exact vint (by omega), trivial⟩
theorem check_Sure {W w : World} {F : List Atom} (n : NodeD)  {i : Nat} (hi : F[i]? = some (NodeA n)) (hz : sizeN n ≤ 1048576) (H : St W w F) : Calls Try.prog 26 #[.agg #[.int .i64 n.kind.v, .string n.var.v, .string n.typ.v, .slice n.tp n.tests.length n.tc, .slice n.kp n.kids.length n.kc]] w (Ret fun v w' => ∃ p c, v = .slice p (sureN n).length c ∧ St W w' (Im 1 (.slice p (sureN n).length c) (sureN n).length ((sureN n).flatMap strCell) :: F)) := check_Sure_r (sizeOf n + 1) n (Nat.lt_succ_self _) hi hz H
set_option maxHeartbeats 4000000 in
set_option maxRecDepth 100000 in
theorem check_Binds_r (N : Nat) : ∀ (n : NodeD), sizeOf n < N → ∀ {W w : World} {F : List Atom}  {i : Nat} (hi : F[i]? = some (NodeA n)) (hz : sizeN n ≤ 1048576) (H : St W w F), Calls Try.prog 21 #[.agg #[.int .i64 n.kind.v, .string n.var.v, .string n.typ.v, .slice n.tp n.tests.length n.tc, .slice n.kp n.kids.length n.kc]] w (Ret fun v w' => v = .int .i64 (bindsE n) ∧ St W w' F) := by
  induction N with | zero => exact fun n hN => absurd hN (Nat.not_lt_zero _) | succ N ih => ?_
  intro n hN W w F i hi hz H
  have H1 := NodeA.kids H (i := i + 0) (by exact hi)
  have H2 : St W w (Im 5 (.slice n.kp n.kids.length n.kc) n.kids.length (n.kids.flatMap nodeCell) :: NodesA n.kids :: F) := H1
  refine calls_of_go (n := 44) Try.func21 rfl Try.ntmps21 rfl ?_
  refine g_seq ?_
  refine g_region ?_
  refine r_cons (s_box H2 25 (.agg #[.int .i64 n.kind.v, .string n.var.v, .string n.typ.v, .slice n.tp n.tests.length n.tc, .slice n.kp n.kids.length n.kc]) rfl (cs := #[.int .i64 n.kind.v, .string n.var.v, .string n.typ.v, .slice n.tp n.tests.length n.tc, .slice n.kp n.kids.length n.kc]) rfl rfl ?_); intro bk3 w4 H5
  refine r_cons (s_assign (.int .i64 0) rfl rfl ?_)
  refine r_nil ?_
  refine g_seq ?_
  refine g_region ?_
  refine r_cons (s_makeMap H5 rfl ?_); intro mp6 w7 H8
  have H9 : St W w7 (MapA mp6 (ents kS vB (setOf ([] : List Str))) :: blk bk3 (.cells #[.int .i64 n.kind.v, .string n.var.v, .string n.typ.v, .slice n.tp n.tests.length n.tc, .slice n.kp n.kids.length n.kc] 25 (0, 0)) :: Im 5 (.slice n.kp n.kids.length n.kc) n.kids.length (n.kids.flatMap nodeCell) :: NodesA n.kids :: F) := H8
  refine r_cons (s_assign (.map (some mp6)) rfl rfl ?_)
  refine r_nil ?_
  refine g_seq ?_
  refine g_seq ?_
  refine g_region ?_
  refine r_cons (s_fieldAddr 25 4 4 4 23 rfl fi_25_4 rfl rfl ?_)
  refine r_cons (s_load (.slice n.kp n.kids.length n.kc) ag_23 rfl (H9.blk_at (i := 1) rfl) rfl rfl ?_)
  refine r_cons (s_len n.kids.length rfl ⟨_, un_23⟩ rfl ?_)
  refine r_cons (s_move (.int .i64 0) rfl rfl ?_)
  refine r_nil ?_
  refine g_block ?_
  obtain ⟨pA10, cA11, gA12, oA13, kA14, eA15, zA16, he22, hn17, hp18, hx19, hs20, hml, H21⟩ := Im.open_ H9 (i := 2) rfl
  obtain ⟨rfl, rfl⟩ : n.kp = pA10 ∧ n.kc = cA11 := by injection he22 with a_ b_ c_; exact ⟨a_, c_⟩
  have hM23 : ([] : List Str) = (hadF n 0) := hadF_zero n
  have H24 : St W w7 (imi (0 < n.kids.length) gA12 (.cells kA14 eA15 zA16) :: MapA mp6 (ents kS vB (setOf (hadF n 0))) :: blk bk3 (.cells #[.int .i64 n.kind.v, .string n.var.v, .string n.typ.v, .slice n.tp n.tests.length n.tc, .slice n.kp n.kids.length n.kc] 25 (0, 0)) :: Im 5 (.slice n.kp n.kids.length n.kc) n.kids.length (n.kids.flatMap nodeCell) :: NodesA n.kids :: F) := by rw [← hM23]; exact H21
  have H25 : St W w7 (imi (0 < n.kids.length) gA12 (.cells kA14 eA15 zA16) :: MapA mp6 (ents kS vB (setOf (hadF n 0))) :: blk bk3 (.cells #[.int .i64 n.kind.v, .string n.var.v, .string n.typ.v, .slice n.tp n.tests.length n.tc, .slice n.kp n.kids.length n.kc] 25 (0, 0)) :: Im 5 (.slice n.kp n.kids.length n.kc) n.kids.length (n.kids.flatMap nodeCell) :: NodesA n.kids :: F) := (((((H24.move 4 rfl).move 4 rfl).move 4 rfl).move 4 rfl).move 4 rfl)
  refine g_loop_inv (fun (x_ : Nat) => match x_ with | j => [(1, .pointer (some ⟨bk3, 0, none⟩)), (2, .int .i64 0), (3, .map (some mp6)), (11, .slice n.kp n.kids.length n.kc), (12, .int .i64 (n.kids.length : Int)), (13, .int .i64 (j : Int))]) (fun (x_ : Nat) w => match x_ with | j => (j ≤ n.kids.length) ∧ (Hres n j) ∧ St W w (imi (0 < n.kids.length) gA12 (.cells kA14 eA15 zA16) :: MapA mp6 (ents kS vB (setOf (hadF n j))) :: blk bk3 (.cells #[.int .i64 n.kind.v, .string n.var.v, .string n.typ.v, .slice n.tp n.tests.length n.tc, .slice n.kp n.kids.length n.kc] 25 (0, 0)) :: Im 5 (.slice n.kp n.kids.length n.kc) n.kids.length (n.kids.flatMap nodeCell) :: NodesA n.kids :: F)) (fun (x_ : Nat) => match x_ with | j => n.kids.length - j) (0) ?_ ?_ ?_
  · exact ⟨by first | rfl | exact vint (by omega), by first | rfl | exact vint (by omega), by first | rfl | exact vint (by omega), by first | rfl | exact vint (by omega), by first | rfl | exact vint (by omega), by first | rfl | exact vint (by omega), trivial⟩
  · exact ⟨(by omega), (Hres_zero n), H25⟩
  · rintro j ρ26 w27 ⟨hjl, hres, H28⟩ nx29
    change Ends _ _ (upds ρ26 [(1, .pointer (some ⟨bk3, 0, none⟩)), (2, .int .i64 0), (3, .map (some mp6)), (11, .slice n.kp n.kids.length n.kc), (12, .int .i64 (n.kids.length : Int)), (13, .int .i64 (j : Int))]) w27
    refine g_seq ?_
    refine g_region ?_
    by_cases hc30 : (j : Int) < (n.kids.length : Int)
    · skip
      refine r_cons (s_lss true rfl rfl (dtrue hc30) rfl ?_)
      refine r_nil ?_
      refine g_seq ?_
      refine g_true rfl ?_
      refine g_skip ?_
      refine g_seq ?_
      refine g_block ?_
      refine g_seq ?_
      refine g_region ?_
      refine r_cons (s_indexAddr gA12 (off := oA13) (j : Int) 5 (oA13 + j * 5) (by exact congrArg (fun z_ => Value.slice z_ n.kids.length n.kc) (hp18 (by omega))) rfl el_23 (by omega) rfl rfl ?_)
      refine r_cons (s_loadAgg [.int .i64 ((n.kids.getD j default).kind.v), .string ((n.kids.getD j default).var.v), .string ((n.kids.getD j default).typ.v), .slice ((n.kids.getD j default).tp) ((n.kids.getD j default).tests.length) ((n.kids.getD j default).tc), .slice ((n.kids.getD j default).kp) ((n.kids.getD j default).kids.length) ((n.kids.getD j default).kc)] 5 ag_25 rfl (H28.imi_at (i := 0) rfl (by omega)) (by have := elem_size (i := j) (s := 5) (hs20 (by omega)) (by omega); omega) (elem_take nodeCell_len (hx19 (by omega)) (by omega) default) rfl ?_)
      refine r_cons (s_alloc H28 25 ze_25 rfl ?_); intro bk31 w32 H33
      refine r_cons (s_storeAgg H33 0 #[.int .i64 ((n.kids.getD j default).kind.v), .string ((n.kids.getD j default).var.v), .string ((n.kids.getD j default).typ.v), .slice ((n.kids.getD j default).tp) ((n.kids.getD j default).tests.length) ((n.kids.getD j default).tc), .slice ((n.kids.getD j default).kp) ((n.kids.getD j default).kids.length) ((n.kids.getD j default).kc)] 5 rfl rfl rfl sz_25 rfl (by simp [Value.oneCell']) (Nat.le_of_ble_eq_true rfl) (fun o h1 h2 => by first | (simp; done) | (simp; omega)) (cs' := #[.int .i64 ((n.kids.getD j default).kind.v), .string ((n.kids.getD j default).var.v), .string ((n.kids.getD j default).typ.v), .slice ((n.kids.getD j default).tp) ((n.kids.getD j default).tests.length) ((n.kids.getD j default).tc), .slice ((n.kids.getD j default).kp) ((n.kids.getD j default).kids.length) ((n.kids.getD j default).kc)]) rfl ?_); intro w34 H35
      refine r_nil ?_
      refine g_seq ?_
      refine g_seq ?_
      refine g_region ?_
      refine r_cons (s_loadAgg [.int .i64 ((n.kids.getD j default).kind.v), .string ((n.kids.getD j default).var.v), .string ((n.kids.getD j default).typ.v), .slice ((n.kids.getD j default).tp) ((n.kids.getD j default).tests.length) ((n.kids.getD j default).tc), .slice ((n.kids.getD j default).kp) ((n.kids.getD j default).kids.length) ((n.kids.getD j default).kc)] 5 ag_25 rfl (H35.blk_at (i := 0) rfl) (Nat.le_of_ble_eq_true rfl) rfl rfl ?_)
      have H36 := NodesA.at H35 (i := 5) rfl (j := j) (by omega)
      refine r_cons (s_call [.agg #[.int .i64 ((n.kids.getD j default).kind.v), .string ((n.kids.getD j default).var.v), .string ((n.kids.getD j default).typ.v), .slice ((n.kids.getD j default).tp) ((n.kids.getD j default).tests.length) ((n.kids.getD j default).tc), .slice ((n.kids.getD j default).kp) ((n.kids.getD j default).kids.length) ((n.kids.getD j default).kc)]] pl_21 rfl rfl (ih (n.kids.getD j default) (by have h9 := kid_lt (n := n) (j := j) (by omega); omega) (i := 0) rfl (by have h9 := sizeN_kid (n := n) (j := j) (by omega); omega) H36) ?_)
      rintro _ w37 ⟨rfl, H38⟩
      refine r_cons (s_assign (.int .i64 (bindsE (n.kids.getD j default))) rfl rfl ?_)
      refine r_nil ?_
      refine g_seq ?_
      refine g_region ?_
      refine r_cons (s_move (.int .i64 (bindsE (n.kids.getD j default))) rfl rfl ?_)
      by_cases hc39 : bindsE (n.kids.getD j default) = 0
      · skip
        refine r_cons (s_neq false rfl rfl (ntrue hc39) rfl ?_)
        refine r_nil ?_
        refine g_false rfl ?_
        refine g_skip ?_
        refine g_seq ?_
        refine g_seq ?_
        refine g_region ?_
        refine r_cons (s_fieldAddr 25 0 0 0 3 rfl fi_25_0 rfl rfl ?_)
        refine r_cons (s_load (.int .i64 n.kind.v) ag_3 rfl (H38.blk_at (i := 4) rfl) rfl rfl ?_)
        by_cases hc40 : n.kind.v = 2
        · skip
          refine r_cons (s_neq false rfl rfl (ntrue hc40) rfl ?_)
          refine r_cons (s_move (.bool false) rfl rfl ?_)
          refine r_cons (r_pass rfl rfl rfl rfl rfl ?_)
          refine r_cons (r_pass rfl rfl rfl rfl rfl ?_)
          refine r_cons (r_pass rfl rfl rfl rfl rfl ?_)
          refine r_cons (s_pick_f (.bool false) rfl rfl rfl ?_)
          refine r_nil ?_
          refine g_false rfl ?_
          refine g_skip ?_
          refine g_seq ?_
          refine g_region ?_
          refine r_cons (s_loadAgg [.int .i64 ((n.kids.getD j default).kind.v), .string ((n.kids.getD j default).var.v), .string ((n.kids.getD j default).typ.v), .slice ((n.kids.getD j default).tp) ((n.kids.getD j default).tests.length) ((n.kids.getD j default).tc), .slice ((n.kids.getD j default).kp) ((n.kids.getD j default).kids.length) ((n.kids.getD j default).kc)] 5 ag_25 rfl (H38.blk_at (i := 1) rfl) (Nat.le_of_ble_eq_true rfl) rfl rfl ?_)
          refine r_cons (s_call [.agg #[.int .i64 ((n.kids.getD j default).kind.v), .string ((n.kids.getD j default).var.v), .string ((n.kids.getD j default).typ.v), .slice ((n.kids.getD j default).tp) ((n.kids.getD j default).tests.length) ((n.kids.getD j default).tc), .slice ((n.kids.getD j default).kp) ((n.kids.getD j default).kids.length) ((n.kids.getD j default).kc)]] pl_24 rfl rfl (check_Vars (n.kids.getD j default) (i := 0) rfl (by have h9 := sizeN_kid (n := n) (j := j) (by omega); omega) H38) ?_)
          rintro _ w43 ⟨pp41, cc42, rfl, H44⟩
          refine r_cons (s_len ((varsS (n.kids.getD j default)).length) rfl ⟨_, un_36⟩ rfl ?_)
          refine r_cons (s_move (.int .i64 0) rfl rfl ?_)
          refine r_nil ?_
          refine g_block ?_
          obtain ⟨pA45, cA46, gA47, oA48, kA49, eA50, zA51, he57, hn52, hp53, hx54, hs55, hml, H56⟩ := Im.open_ H44 (i := 0) rfl
          obtain ⟨rfl, rfl⟩ : pp41 = pA45 ∧ cc42 = cA46 := by injection he57 with a_ b_ c_; exact ⟨a_, c_⟩
          have hM58 : (hadF n j) = (((varsS (n.kids.getD j default)).take 0).foldl addS (hadF n j)) := rfl
          have H59 : St W w43 (imi (0 < (varsS (n.kids.getD j default)).length) gA47 (.cells kA49 eA50 zA51) :: Im 1 (.slice pp41 ((varsS (n.kids.getD j default)).length) cc42) ((varsS (n.kids.getD j default)).length) ((varsS (n.kids.getD j default)).flatMap strCell) :: NodeA (n.kids.getD j default) :: blk bk31 (.cells #[.int .i64 ((n.kids.getD j default).kind.v), .string ((n.kids.getD j default).var.v), .string ((n.kids.getD j default).typ.v), .slice ((n.kids.getD j default).tp) ((n.kids.getD j default).tests.length) ((n.kids.getD j default).tc), .slice ((n.kids.getD j default).kp) ((n.kids.getD j default).kids.length) ((n.kids.getD j default).kc)] 25 (0, 0)) :: imi (0 < n.kids.length) gA12 (.cells kA14 eA15 zA16) :: MapA mp6 (ents kS vB (setOf (((varsS (n.kids.getD j default)).take 0).foldl addS (hadF n j)))) :: blk bk3 (.cells #[.int .i64 n.kind.v, .string n.var.v, .string n.typ.v, .slice n.tp n.tests.length n.tc, .slice n.kp n.kids.length n.kc] 25 (0, 0)) :: Im 5 (.slice n.kp n.kids.length n.kc) n.kids.length (n.kids.flatMap nodeCell) :: NodesA n.kids :: F) := by rw [← hM58]; exact H56
          have H60 : St W w43 (imi (0 < (varsS (n.kids.getD j default)).length) gA47 (.cells kA49 eA50 zA51) :: Im 1 (.slice pp41 ((varsS (n.kids.getD j default)).length) cc42) ((varsS (n.kids.getD j default)).length) ((varsS (n.kids.getD j default)).flatMap strCell) :: NodeA (n.kids.getD j default) :: imi (0 < n.kids.length) gA12 (.cells kA14 eA15 zA16) :: MapA mp6 (ents kS vB (setOf (((varsS (n.kids.getD j default)).take 0).foldl addS (hadF n j)))) :: blk bk3 (.cells #[.int .i64 n.kind.v, .string n.var.v, .string n.typ.v, .slice n.tp n.tests.length n.tc, .slice n.kp n.kids.length n.kc] 25 (0, 0)) :: Im 5 (.slice n.kp n.kids.length n.kc) n.kids.length (n.kids.flatMap nodeCell) :: NodesA n.kids :: F) := (((((((((H59.move 8 rfl).move 8 rfl).move 8 rfl).move 8 rfl).move 8 rfl).move 7 rfl).move 7 rfl).move 7 rfl).drop 8 rfl)
          refine g_loop_inv (fun (x_ : Nat) => match x_ with | q => [(1, .pointer (some ⟨bk3, 0, none⟩)), (2, .int .i64 0), (3, .map (some mp6)), (11, .slice n.kp n.kids.length n.kc), (12, .int .i64 (n.kids.length : Int)), (13, .int .i64 (j : Int)), (31, .slice pp41 ((varsS (n.kids.getD j default)).length) cc42), (32, .int .i64 ((varsS (n.kids.getD j default)).length : Int)), (33, .int .i64 (q : Int))]) (fun (x_ : Nat) w => match x_ with | q => (q ≤ (varsS (n.kids.getD j default)).length) ∧ (∀ i, i < q → decide ((varsS (n.kids.getD j default)).getD i default ∈ hadF n j) = false) ∧ St W w (imi (0 < (varsS (n.kids.getD j default)).length) gA47 (.cells kA49 eA50 zA51) :: Im 1 (.slice pp41 ((varsS (n.kids.getD j default)).length) cc42) ((varsS (n.kids.getD j default)).length) ((varsS (n.kids.getD j default)).flatMap strCell) :: NodeA (n.kids.getD j default) :: imi (0 < n.kids.length) gA12 (.cells kA14 eA15 zA16) :: MapA mp6 (ents kS vB (setOf (((varsS (n.kids.getD j default)).take q).foldl addS (hadF n j)))) :: blk bk3 (.cells #[.int .i64 n.kind.v, .string n.var.v, .string n.typ.v, .slice n.tp n.tests.length n.tc, .slice n.kp n.kids.length n.kc] 25 (0, 0)) :: Im 5 (.slice n.kp n.kids.length n.kc) n.kids.length (n.kids.flatMap nodeCell) :: NodesA n.kids :: F)) (fun (x_ : Nat) => match x_ with | q => (varsS (n.kids.getD j default)).length - q) (0) ?_ ?_ ?_
          · exact ⟨by first | rfl | exact vint (by omega), by first | rfl | exact vint (by omega), by first | rfl | exact vint (by omega), by first | rfl | exact vint (by omega), by first | rfl | exact vint (by omega), by first | rfl | exact vint (by omega), by first | rfl | exact vint (by omega), by first | rfl | exact vint (by omega), by first | rfl | exact vint (by omega), trivial⟩
          · exact ⟨(by omega), (fun i hi => by omega), H60⟩
          · rintro q ρ61 w62 ⟨hql, hz2, H63⟩ nx64
            change Ends _ _ (upds ρ61 [(1, .pointer (some ⟨bk3, 0, none⟩)), (2, .int .i64 0), (3, .map (some mp6)), (11, .slice n.kp n.kids.length n.kc), (12, .int .i64 (n.kids.length : Int)), (13, .int .i64 (j : Int)), (31, .slice pp41 ((varsS (n.kids.getD j default)).length) cc42), (32, .int .i64 ((varsS (n.kids.getD j default)).length : Int)), (33, .int .i64 (q : Int))]) w62
            refine g_seq ?_
            refine g_region ?_
            by_cases hc65 : (q : Int) < ((varsS (n.kids.getD j default)).length : Int)
            · skip
              refine r_cons (s_lss true rfl rfl (dtrue hc65) rfl ?_)
              refine r_nil ?_
              refine g_seq ?_
              refine g_true rfl ?_
              refine g_skip ?_
              refine g_seq ?_
              refine g_block ?_
              refine g_seq ?_
              refine g_region ?_
              refine r_cons (s_indexAddr gA47 (off := oA48) (q : Int) 1 (oA48 + q * 1) (by exact congrArg (fun z_ => Value.slice z_ ((varsS (n.kids.getD j default)).length) cc42) (hp53 (by omega))) rfl el_36 (by omega) rfl rfl ?_)
              refine r_cons (s_load (.string (((varsS (n.kids.getD j default)).getD q default).v)) ag_9 rfl (H63.imi_at (i := 0) rfl (by omega)) (elem_cell (L := (varsS (n.kids.getD j default))) (i := q) strCell_len (hx54 (by omega)) (by omega) default 0 (by decide) _ rfl) rfl ?_)
              refine r_cons (s_assign (.string (((varsS (n.kids.getD j default)).getD q default).v)) rfl rfl ?_)
              refine r_nil ?_
              refine g_seq ?_
              refine g_seq ?_
              refine g_region ?_
              refine r_cons (s_move (.map (some mp6)) rfl rfl ?_)
              refine r_cons (s_move (.string (((varsS (n.kids.getD j default)).getD q default).v)) rfl rfl ?_)
              refine r_cons (s_lookup (ek := kS) (ev := vB) (L := setOf (((varsS (n.kids.getD j default)).take q).foldl addS (hadF n j))) ((varsS (n.kids.getD j default)).getD q default) (.bool (decide (((varsS (n.kids.getD j default)).getD q default) ∈ (((varsS (n.kids.getD j default)).take q).foldl addS (hadF n j))))) (MapA.at H63 (i := 4) rfl) (KeyLaw.S un_9) un_57 zv_4 rfl rfl (setOf_look _ _) rfl ?_)
              refine r_nil ?_
              by_cases hb66 : (decide (((varsS (n.kids.getD j default)).getD q default) ∈ (((varsS (n.kids.getD j default)).take q).foldl addS (hadF n j)))) = true
              · skip
                refine g_true (congrArg Value.bool hb66) ?_
                refine g_seq ?_
                refine g_region ?_
                refine r_cons (s_assign (.int .i64 73) rfl rfl ?_)
                refine r_nil ?_
                refine g_ret' [.int .i64 73] Try.func21 Try.results21 ⟨rfl, trivial⟩ ?_
                have H67 : St W w62 F := ((((((((H63.drop 0 rfl).drop 0 rfl).drop 0 rfl).drop 0 rfl).drop 0 rfl).drop 0 rfl).drop 0 rfl).drop 0 rfl)
                exact ⟨vint (Hres_twice hres (by omega) (by omega) (decide_eq_true (by omega)) (by omega) hb66), H67⟩
              · have hb66 := eq_false_of_ne_true hb66
                refine g_false (congrArg Value.bool hb66) ?_
                refine g_skip ?_
                refine g_region ?_
                refine r_cons (s_move (.map (some mp6)) rfl rfl ?_)
                refine r_cons (s_move (.string (((varsS (n.kids.getD j default)).getD q default).v)) rfl rfl ?_)
                refine r_cons (s_mapUpdate (ek := kS) (ev := vB) (L := setOf (((varsS (n.kids.getD j default)).take q).foldl addS (hadF n j))) ((varsS (n.kids.getD j default)).getD q default) true H63 (i := 4) rfl (KeyLaw.S un_9) un_57 rfl rfl rfl ?_); intro w68 H69
                have H70 : St W w68 (imi (0 < (varsS (n.kids.getD j default)).length) gA47 (.cells kA49 eA50 zA51) :: Im 1 (.slice pp41 ((varsS (n.kids.getD j default)).length) cc42) ((varsS (n.kids.getD j default)).length) ((varsS (n.kids.getD j default)).flatMap strCell) :: NodeA (n.kids.getD j default) :: imi (0 < n.kids.length) gA12 (.cells kA14 eA15 zA16) :: MapA mp6 (ents kS vB (setOf (addS (((varsS (n.kids.getD j default)).take q).foldl addS (hadF n j)) ((varsS (n.kids.getD j default)).getD q default)))) :: blk bk3 (.cells #[.int .i64 n.kind.v, .string n.var.v, .string n.typ.v, .slice n.tp n.tests.length n.tc, .slice n.kp n.kids.length n.kc] 25 (0, 0)) :: Im 5 (.slice n.kp n.kids.length n.kc) n.kids.length (n.kids.flatMap nodeCell) :: NodesA n.kids :: F) := by have h9 := H69; rw [setOf_set] at h9; exact h9
                refine r_nil ?_
                refine g_inBlock ?_
                refine g_region ?_
                refine r_cons (s_add ((q : Int) + 1) rfl rfl (wi64 (by omega)) rfl ?_)
                refine r_cons (s_move (.int .i64 ((q : Int) + 1)) rfl rfl ?_)
                refine r_nil ?_
                have hM71 : (addS (((varsS (n.kids.getD j default)).take q).foldl addS (hadF n j)) ((varsS (n.kids.getD j default)).getD q default)) = (((varsS (n.kids.getD j default)).take (q + 1)).foldl addS (hadF n j)) := (fold_stepS addS _ (by omega)).symm
                have H72 : St W w68 (imi (0 < (varsS (n.kids.getD j default)).length) gA47 (.cells kA49 eA50 zA51) :: Im 1 (.slice pp41 ((varsS (n.kids.getD j default)).length) cc42) ((varsS (n.kids.getD j default)).length) ((varsS (n.kids.getD j default)).flatMap strCell) :: NodeA (n.kids.getD j default) :: imi (0 < n.kids.length) gA12 (.cells kA14 eA15 zA16) :: MapA mp6 (ents kS vB (setOf (((varsS (n.kids.getD j default)).take (q + 1)).foldl addS (hadF n j)))) :: blk bk3 (.cells #[.int .i64 n.kind.v, .string n.var.v, .string n.typ.v, .slice n.tp n.tests.length n.tc, .slice n.kp n.kids.length n.kc] 25 (0, 0)) :: Im 5 (.slice n.kp n.kids.length n.kc) n.kids.length (n.kids.flatMap nodeCell) :: NodesA n.kids :: F) := by rw [← hM71]; exact H70
                have H73 : St W w68 (imi (0 < (varsS (n.kids.getD j default)).length) gA47 (.cells kA49 eA50 zA51) :: Im 1 (.slice pp41 ((varsS (n.kids.getD j default)).length) cc42) ((varsS (n.kids.getD j default)).length) ((varsS (n.kids.getD j default)).flatMap strCell) :: NodeA (n.kids.getD j default) :: imi (0 < n.kids.length) gA12 (.cells kA14 eA15 zA16) :: MapA mp6 (ents kS vB (setOf (((varsS (n.kids.getD j default)).take (q + 1)).foldl addS (hadF n j)))) :: blk bk3 (.cells #[.int .i64 n.kind.v, .string n.var.v, .string n.typ.v, .slice n.tp n.tests.length n.tc, .slice n.kp n.kids.length n.kc] 25 (0, 0)) :: Im 5 (.slice n.kp n.kids.length n.kc) n.kids.length (n.kids.flatMap nodeCell) :: NodesA n.kids :: F) := ((((((((H72.move 7 rfl).move 7 rfl).move 7 rfl).move 7 rfl).move 7 rfl).move 7 rfl).move 7 rfl).move 7 rfl)
                exact nx64 (q + 1) _ _ ⟨(by omega), (fun i hi => (Nat.lt_or_ge i q).elim (hz2 i) (fun h => by rw [show i = q from by omega]; exact Hres_new (by omega) hb66)), H73⟩ (by first | (dsimp only; omega) | omega) ⟨by first | rfl | exact vint (by omega), by first | rfl | exact vint (by omega), by first | rfl | exact vint (by omega), by first | rfl | exact vint (by omega), by first | rfl | exact vint (by omega), by first | rfl | exact vint (by omega), by first | rfl | exact vint (by omega), by first | rfl | exact vint (by omega), by first | rfl | exact vint (by omega), trivial⟩
            · skip
              refine r_cons (s_lss false rfl rfl (dfalse hc65) rfl ?_)
              refine r_nil ?_
              refine g_seq ?_
              refine g_false rfl ?_
              refine g_exit (by rfl) ?_
              refine g_inBlock ?_
              refine g_region ?_
              refine r_cons (s_add ((j : Int) + 1) rfl rfl (wi64 (by omega)) rfl ?_)
              refine r_cons (s_move (.int .i64 ((j : Int) + 1)) rfl rfl ?_)
              refine r_nil ?_
              have hM74 : (((varsS (n.kids.getD j default)).take q).foldl addS (hadF n j)) = (hadF n (j + 1)) := hadF_next (decide_eq_true (by omega)) (by omega) (by omega)
              have H75 : St W w62 (imi (0 < (varsS (n.kids.getD j default)).length) gA47 (.cells kA49 eA50 zA51) :: Im 1 (.slice pp41 ((varsS (n.kids.getD j default)).length) cc42) ((varsS (n.kids.getD j default)).length) ((varsS (n.kids.getD j default)).flatMap strCell) :: NodeA (n.kids.getD j default) :: imi (0 < n.kids.length) gA12 (.cells kA14 eA15 zA16) :: MapA mp6 (ents kS vB (setOf (hadF n (j + 1)))) :: blk bk3 (.cells #[.int .i64 n.kind.v, .string n.var.v, .string n.typ.v, .slice n.tp n.tests.length n.tc, .slice n.kp n.kids.length n.kc] 25 (0, 0)) :: Im 5 (.slice n.kp n.kids.length n.kc) n.kids.length (n.kids.flatMap nodeCell) :: NodesA n.kids :: F) := by rw [← hM74]; exact H63
              have H76 : St W w62 (imi (0 < n.kids.length) gA12 (.cells kA14 eA15 zA16) :: MapA mp6 (ents kS vB (setOf (hadF n (j + 1)))) :: blk bk3 (.cells #[.int .i64 n.kind.v, .string n.var.v, .string n.typ.v, .slice n.tp n.tests.length n.tc, .slice n.kp n.kids.length n.kc] 25 (0, 0)) :: Im 5 (.slice n.kp n.kids.length n.kc) n.kids.length (n.kids.flatMap nodeCell) :: NodesA n.kids :: F) := ((((((((H75.move 7 rfl).move 7 rfl).move 7 rfl).move 7 rfl).move 7 rfl).drop 5 rfl).drop 5 rfl).drop 5 rfl)
              exact nx29 (j + 1) _ _ ⟨(by omega), (Hres_next hres (by omega) (by omega) (decide_eq_true (by omega)) (fun i hi => hz2 i (by omega))), H76⟩ (by first | (dsimp only; omega) | omega) ⟨by first | rfl | exact vint (by omega), by first | rfl | exact vint (by omega), by first | rfl | exact vint (by omega), by first | rfl | exact vint (by omega), by first | rfl | exact vint (by omega), by first | rfl | exact vint (by omega), trivial⟩
        · skip
          refine r_cons (s_neq true rfl rfl (nfalse hc40) rfl ?_)
          refine r_cons (s_move (.bool true) rfl rfl ?_)
          refine r_cons (r_take rfl rfl ?_)
          refine s_fieldAddr 25 0 0 0 3 rfl fi_25_0 rfl rfl ?_
          refine r_cons (r_take rfl rfl ?_)
          refine s_load (.int .i64 n.kind.v) ag_3 rfl (H38.blk_at (i := 4) rfl) rfl rfl ?_
          refine r_cons (r_take rfl rfl ?_)
          by_cases hc77 : n.kind.v = 3
          · skip
            refine s_neq false rfl rfl (ntrue hc77) rfl ?_
            refine r_cons (s_pick_t (.bool false) rfl rfl rfl ?_)
            refine r_nil ?_
            refine g_false rfl ?_
            refine g_skip ?_
            refine g_seq ?_
            refine g_region ?_
            refine r_cons (s_loadAgg [.int .i64 ((n.kids.getD j default).kind.v), .string ((n.kids.getD j default).var.v), .string ((n.kids.getD j default).typ.v), .slice ((n.kids.getD j default).tp) ((n.kids.getD j default).tests.length) ((n.kids.getD j default).tc), .slice ((n.kids.getD j default).kp) ((n.kids.getD j default).kids.length) ((n.kids.getD j default).kc)] 5 ag_25 rfl (H38.blk_at (i := 1) rfl) (Nat.le_of_ble_eq_true rfl) rfl rfl ?_)
            refine r_cons (s_call [.agg #[.int .i64 ((n.kids.getD j default).kind.v), .string ((n.kids.getD j default).var.v), .string ((n.kids.getD j default).typ.v), .slice ((n.kids.getD j default).tp) ((n.kids.getD j default).tests.length) ((n.kids.getD j default).tc), .slice ((n.kids.getD j default).kp) ((n.kids.getD j default).kids.length) ((n.kids.getD j default).kc)]] pl_24 rfl rfl (check_Vars (n.kids.getD j default) (i := 0) rfl (by have h9 := sizeN_kid (n := n) (j := j) (by omega); omega) H38) ?_)
            rintro _ w80 ⟨pp78, cc79, rfl, H81⟩
            refine r_cons (s_len ((varsS (n.kids.getD j default)).length) rfl ⟨_, un_36⟩ rfl ?_)
            refine r_cons (s_move (.int .i64 0) rfl rfl ?_)
            refine r_nil ?_
            refine g_block ?_
            obtain ⟨pA82, cA83, gA84, oA85, kA86, eA87, zA88, he94, hn89, hp90, hx91, hs92, hml, H93⟩ := Im.open_ H81 (i := 0) rfl
            obtain ⟨rfl, rfl⟩ : pp78 = pA82 ∧ cc79 = cA83 := by injection he94 with a_ b_ c_; exact ⟨a_, c_⟩
            have hM95 : (hadF n j) = (((varsS (n.kids.getD j default)).take 0).foldl addS (hadF n j)) := rfl
            have H96 : St W w80 (imi (0 < (varsS (n.kids.getD j default)).length) gA84 (.cells kA86 eA87 zA88) :: Im 1 (.slice pp78 ((varsS (n.kids.getD j default)).length) cc79) ((varsS (n.kids.getD j default)).length) ((varsS (n.kids.getD j default)).flatMap strCell) :: NodeA (n.kids.getD j default) :: blk bk31 (.cells #[.int .i64 ((n.kids.getD j default).kind.v), .string ((n.kids.getD j default).var.v), .string ((n.kids.getD j default).typ.v), .slice ((n.kids.getD j default).tp) ((n.kids.getD j default).tests.length) ((n.kids.getD j default).tc), .slice ((n.kids.getD j default).kp) ((n.kids.getD j default).kids.length) ((n.kids.getD j default).kc)] 25 (0, 0)) :: imi (0 < n.kids.length) gA12 (.cells kA14 eA15 zA16) :: MapA mp6 (ents kS vB (setOf (((varsS (n.kids.getD j default)).take 0).foldl addS (hadF n j)))) :: blk bk3 (.cells #[.int .i64 n.kind.v, .string n.var.v, .string n.typ.v, .slice n.tp n.tests.length n.tc, .slice n.kp n.kids.length n.kc] 25 (0, 0)) :: Im 5 (.slice n.kp n.kids.length n.kc) n.kids.length (n.kids.flatMap nodeCell) :: NodesA n.kids :: F) := by rw [← hM95]; exact H93
            have H97 : St W w80 (imi (0 < (varsS (n.kids.getD j default)).length) gA84 (.cells kA86 eA87 zA88) :: Im 1 (.slice pp78 ((varsS (n.kids.getD j default)).length) cc79) ((varsS (n.kids.getD j default)).length) ((varsS (n.kids.getD j default)).flatMap strCell) :: NodeA (n.kids.getD j default) :: imi (0 < n.kids.length) gA12 (.cells kA14 eA15 zA16) :: MapA mp6 (ents kS vB (setOf (((varsS (n.kids.getD j default)).take 0).foldl addS (hadF n j)))) :: blk bk3 (.cells #[.int .i64 n.kind.v, .string n.var.v, .string n.typ.v, .slice n.tp n.tests.length n.tc, .slice n.kp n.kids.length n.kc] 25 (0, 0)) :: Im 5 (.slice n.kp n.kids.length n.kc) n.kids.length (n.kids.flatMap nodeCell) :: NodesA n.kids :: F) := (((((((((H96.move 8 rfl).move 8 rfl).move 8 rfl).move 8 rfl).move 8 rfl).move 7 rfl).move 7 rfl).move 7 rfl).drop 8 rfl)
            refine g_loop_inv (fun (x_ : Nat) => match x_ with | q => [(1, .pointer (some ⟨bk3, 0, none⟩)), (2, .int .i64 0), (3, .map (some mp6)), (11, .slice n.kp n.kids.length n.kc), (12, .int .i64 (n.kids.length : Int)), (13, .int .i64 (j : Int)), (31, .slice pp78 ((varsS (n.kids.getD j default)).length) cc79), (32, .int .i64 ((varsS (n.kids.getD j default)).length : Int)), (33, .int .i64 (q : Int))]) (fun (x_ : Nat) w => match x_ with | q => (q ≤ (varsS (n.kids.getD j default)).length) ∧ (∀ i, i < q → decide ((varsS (n.kids.getD j default)).getD i default ∈ hadF n j) = false) ∧ St W w (imi (0 < (varsS (n.kids.getD j default)).length) gA84 (.cells kA86 eA87 zA88) :: Im 1 (.slice pp78 ((varsS (n.kids.getD j default)).length) cc79) ((varsS (n.kids.getD j default)).length) ((varsS (n.kids.getD j default)).flatMap strCell) :: NodeA (n.kids.getD j default) :: imi (0 < n.kids.length) gA12 (.cells kA14 eA15 zA16) :: MapA mp6 (ents kS vB (setOf (((varsS (n.kids.getD j default)).take q).foldl addS (hadF n j)))) :: blk bk3 (.cells #[.int .i64 n.kind.v, .string n.var.v, .string n.typ.v, .slice n.tp n.tests.length n.tc, .slice n.kp n.kids.length n.kc] 25 (0, 0)) :: Im 5 (.slice n.kp n.kids.length n.kc) n.kids.length (n.kids.flatMap nodeCell) :: NodesA n.kids :: F)) (fun (x_ : Nat) => match x_ with | q => (varsS (n.kids.getD j default)).length - q) (0) ?_ ?_ ?_
            · exact ⟨by first | rfl | exact vint (by omega), by first | rfl | exact vint (by omega), by first | rfl | exact vint (by omega), by first | rfl | exact vint (by omega), by first | rfl | exact vint (by omega), by first | rfl | exact vint (by omega), by first | rfl | exact vint (by omega), by first | rfl | exact vint (by omega), by first | rfl | exact vint (by omega), trivial⟩
            · exact ⟨(by omega), (fun i hi => by omega), H97⟩
            · rintro q ρ98 w99 ⟨hql, hz2, H100⟩ nx101
              change Ends _ _ (upds ρ98 [(1, .pointer (some ⟨bk3, 0, none⟩)), (2, .int .i64 0), (3, .map (some mp6)), (11, .slice n.kp n.kids.length n.kc), (12, .int .i64 (n.kids.length : Int)), (13, .int .i64 (j : Int)), (31, .slice pp78 ((varsS (n.kids.getD j default)).length) cc79), (32, .int .i64 ((varsS (n.kids.getD j default)).length : Int)), (33, .int .i64 (q : Int))]) w99
              refine g_seq ?_
              refine g_region ?_
              by_cases hc102 : (q : Int) < ((varsS (n.kids.getD j default)).length : Int)
              · skip
                refine r_cons (s_lss true rfl rfl (dtrue hc102) rfl ?_)
                refine r_nil ?_
                refine g_seq ?_
                refine g_true rfl ?_
                refine g_skip ?_
                refine g_seq ?_
                refine g_block ?_
                refine g_seq ?_
                refine g_region ?_
                refine r_cons (s_indexAddr gA84 (off := oA85) (q : Int) 1 (oA85 + q * 1) (by exact congrArg (fun z_ => Value.slice z_ ((varsS (n.kids.getD j default)).length) cc79) (hp90 (by omega))) rfl el_36 (by omega) rfl rfl ?_)
                refine r_cons (s_load (.string (((varsS (n.kids.getD j default)).getD q default).v)) ag_9 rfl (H100.imi_at (i := 0) rfl (by omega)) (elem_cell (L := (varsS (n.kids.getD j default))) (i := q) strCell_len (hx91 (by omega)) (by omega) default 0 (by decide) _ rfl) rfl ?_)
                refine r_cons (s_assign (.string (((varsS (n.kids.getD j default)).getD q default).v)) rfl rfl ?_)
                refine r_nil ?_
                refine g_seq ?_
                refine g_seq ?_
                refine g_region ?_
                refine r_cons (s_move (.map (some mp6)) rfl rfl ?_)
                refine r_cons (s_move (.string (((varsS (n.kids.getD j default)).getD q default).v)) rfl rfl ?_)
                refine r_cons (s_lookup (ek := kS) (ev := vB) (L := setOf (((varsS (n.kids.getD j default)).take q).foldl addS (hadF n j))) ((varsS (n.kids.getD j default)).getD q default) (.bool (decide (((varsS (n.kids.getD j default)).getD q default) ∈ (((varsS (n.kids.getD j default)).take q).foldl addS (hadF n j))))) (MapA.at H100 (i := 4) rfl) (KeyLaw.S un_9) un_57 zv_4 rfl rfl (setOf_look _ _) rfl ?_)
                refine r_nil ?_
                by_cases hb103 : (decide (((varsS (n.kids.getD j default)).getD q default) ∈ (((varsS (n.kids.getD j default)).take q).foldl addS (hadF n j)))) = true
                · skip
                  refine g_true (congrArg Value.bool hb103) ?_
                  refine g_seq ?_
                  refine g_region ?_
                  refine r_cons (s_assign (.int .i64 73) rfl rfl ?_)
                  refine r_nil ?_
                  refine g_ret' [.int .i64 73] Try.func21 Try.results21 ⟨rfl, trivial⟩ ?_
                  have H104 : St W w99 F := ((((((((H100.drop 0 rfl).drop 0 rfl).drop 0 rfl).drop 0 rfl).drop 0 rfl).drop 0 rfl).drop 0 rfl).drop 0 rfl)
                  exact ⟨vint (Hres_twice hres (by omega) (by omega) (decide_eq_true (by omega)) (by omega) hb103), H104⟩
                · have hb103 := eq_false_of_ne_true hb103
                  refine g_false (congrArg Value.bool hb103) ?_
                  refine g_skip ?_
                  refine g_region ?_
                  refine r_cons (s_move (.map (some mp6)) rfl rfl ?_)
                  refine r_cons (s_move (.string (((varsS (n.kids.getD j default)).getD q default).v)) rfl rfl ?_)
                  refine r_cons (s_mapUpdate (ek := kS) (ev := vB) (L := setOf (((varsS (n.kids.getD j default)).take q).foldl addS (hadF n j))) ((varsS (n.kids.getD j default)).getD q default) true H100 (i := 4) rfl (KeyLaw.S un_9) un_57 rfl rfl rfl ?_); intro w105 H106
                  have H107 : St W w105 (imi (0 < (varsS (n.kids.getD j default)).length) gA84 (.cells kA86 eA87 zA88) :: Im 1 (.slice pp78 ((varsS (n.kids.getD j default)).length) cc79) ((varsS (n.kids.getD j default)).length) ((varsS (n.kids.getD j default)).flatMap strCell) :: NodeA (n.kids.getD j default) :: imi (0 < n.kids.length) gA12 (.cells kA14 eA15 zA16) :: MapA mp6 (ents kS vB (setOf (addS (((varsS (n.kids.getD j default)).take q).foldl addS (hadF n j)) ((varsS (n.kids.getD j default)).getD q default)))) :: blk bk3 (.cells #[.int .i64 n.kind.v, .string n.var.v, .string n.typ.v, .slice n.tp n.tests.length n.tc, .slice n.kp n.kids.length n.kc] 25 (0, 0)) :: Im 5 (.slice n.kp n.kids.length n.kc) n.kids.length (n.kids.flatMap nodeCell) :: NodesA n.kids :: F) := by have h9 := H106; rw [setOf_set] at h9; exact h9
                  refine r_nil ?_
                  refine g_inBlock ?_
                  refine g_region ?_
                  refine r_cons (s_add ((q : Int) + 1) rfl rfl (wi64 (by omega)) rfl ?_)
                  refine r_cons (s_move (.int .i64 ((q : Int) + 1)) rfl rfl ?_)
                  refine r_nil ?_
                  have hM108 : (addS (((varsS (n.kids.getD j default)).take q).foldl addS (hadF n j)) ((varsS (n.kids.getD j default)).getD q default)) = (((varsS (n.kids.getD j default)).take (q + 1)).foldl addS (hadF n j)) := (fold_stepS addS _ (by omega)).symm
                  have H109 : St W w105 (imi (0 < (varsS (n.kids.getD j default)).length) gA84 (.cells kA86 eA87 zA88) :: Im 1 (.slice pp78 ((varsS (n.kids.getD j default)).length) cc79) ((varsS (n.kids.getD j default)).length) ((varsS (n.kids.getD j default)).flatMap strCell) :: NodeA (n.kids.getD j default) :: imi (0 < n.kids.length) gA12 (.cells kA14 eA15 zA16) :: MapA mp6 (ents kS vB (setOf (((varsS (n.kids.getD j default)).take (q + 1)).foldl addS (hadF n j)))) :: blk bk3 (.cells #[.int .i64 n.kind.v, .string n.var.v, .string n.typ.v, .slice n.tp n.tests.length n.tc, .slice n.kp n.kids.length n.kc] 25 (0, 0)) :: Im 5 (.slice n.kp n.kids.length n.kc) n.kids.length (n.kids.flatMap nodeCell) :: NodesA n.kids :: F) := by rw [← hM108]; exact H107
                  have H110 : St W w105 (imi (0 < (varsS (n.kids.getD j default)).length) gA84 (.cells kA86 eA87 zA88) :: Im 1 (.slice pp78 ((varsS (n.kids.getD j default)).length) cc79) ((varsS (n.kids.getD j default)).length) ((varsS (n.kids.getD j default)).flatMap strCell) :: NodeA (n.kids.getD j default) :: imi (0 < n.kids.length) gA12 (.cells kA14 eA15 zA16) :: MapA mp6 (ents kS vB (setOf (((varsS (n.kids.getD j default)).take (q + 1)).foldl addS (hadF n j)))) :: blk bk3 (.cells #[.int .i64 n.kind.v, .string n.var.v, .string n.typ.v, .slice n.tp n.tests.length n.tc, .slice n.kp n.kids.length n.kc] 25 (0, 0)) :: Im 5 (.slice n.kp n.kids.length n.kc) n.kids.length (n.kids.flatMap nodeCell) :: NodesA n.kids :: F) := ((((((((H109.move 7 rfl).move 7 rfl).move 7 rfl).move 7 rfl).move 7 rfl).move 7 rfl).move 7 rfl).move 7 rfl)
                  exact nx101 (q + 1) _ _ ⟨(by omega), (fun i hi => (Nat.lt_or_ge i q).elim (hz2 i) (fun h => by rw [show i = q from by omega]; exact Hres_new (by omega) hb103)), H110⟩ (by first | (dsimp only; omega) | omega) ⟨by first | rfl | exact vint (by omega), by first | rfl | exact vint (by omega), by first | rfl | exact vint (by omega), by first | rfl | exact vint (by omega), by first | rfl | exact vint (by omega), by first | rfl | exact vint (by omega), by first | rfl | exact vint (by omega), by first | rfl | exact vint (by omega), by first | rfl | exact vint (by omega), trivial⟩
              · skip
                refine r_cons (s_lss false rfl rfl (dfalse hc102) rfl ?_)
                refine r_nil ?_
                refine g_seq ?_
                refine g_false rfl ?_
                refine g_exit (by rfl) ?_
                refine g_inBlock ?_
                refine g_region ?_
                refine r_cons (s_add ((j : Int) + 1) rfl rfl (wi64 (by omega)) rfl ?_)
                refine r_cons (s_move (.int .i64 ((j : Int) + 1)) rfl rfl ?_)
                refine r_nil ?_
                have hM111 : (((varsS (n.kids.getD j default)).take q).foldl addS (hadF n j)) = (hadF n (j + 1)) := hadF_next (decide_eq_true (by omega)) (by omega) (by omega)
                have H112 : St W w99 (imi (0 < (varsS (n.kids.getD j default)).length) gA84 (.cells kA86 eA87 zA88) :: Im 1 (.slice pp78 ((varsS (n.kids.getD j default)).length) cc79) ((varsS (n.kids.getD j default)).length) ((varsS (n.kids.getD j default)).flatMap strCell) :: NodeA (n.kids.getD j default) :: imi (0 < n.kids.length) gA12 (.cells kA14 eA15 zA16) :: MapA mp6 (ents kS vB (setOf (hadF n (j + 1)))) :: blk bk3 (.cells #[.int .i64 n.kind.v, .string n.var.v, .string n.typ.v, .slice n.tp n.tests.length n.tc, .slice n.kp n.kids.length n.kc] 25 (0, 0)) :: Im 5 (.slice n.kp n.kids.length n.kc) n.kids.length (n.kids.flatMap nodeCell) :: NodesA n.kids :: F) := by rw [← hM111]; exact H100
                have H113 : St W w99 (imi (0 < n.kids.length) gA12 (.cells kA14 eA15 zA16) :: MapA mp6 (ents kS vB (setOf (hadF n (j + 1)))) :: blk bk3 (.cells #[.int .i64 n.kind.v, .string n.var.v, .string n.typ.v, .slice n.tp n.tests.length n.tc, .slice n.kp n.kids.length n.kc] 25 (0, 0)) :: Im 5 (.slice n.kp n.kids.length n.kc) n.kids.length (n.kids.flatMap nodeCell) :: NodesA n.kids :: F) := ((((((((H112.move 7 rfl).move 7 rfl).move 7 rfl).move 7 rfl).move 7 rfl).drop 5 rfl).drop 5 rfl).drop 5 rfl)
                exact nx29 (j + 1) _ _ ⟨(by omega), (Hres_next hres (by omega) (by omega) (decide_eq_true (by omega)) (fun i hi => hz2 i (by omega))), H113⟩ (by first | (dsimp only; omega) | omega) ⟨by first | rfl | exact vint (by omega), by first | rfl | exact vint (by omega), by first | rfl | exact vint (by omega), by first | rfl | exact vint (by omega), by first | rfl | exact vint (by omega), by first | rfl | exact vint (by omega), trivial⟩
          · skip
            refine s_neq true rfl rfl (nfalse hc77) rfl ?_
            refine r_cons (s_pick_t (.bool true) rfl rfl rfl ?_)
            refine r_nil ?_
            refine g_true rfl ?_
            refine g_exit (by rfl) ?_
            refine g_region ?_
            refine r_cons (s_add ((j : Int) + 1) rfl rfl (wi64 (by omega)) rfl ?_)
            refine r_cons (s_move (.int .i64 ((j : Int) + 1)) rfl rfl ?_)
            refine r_nil ?_
            have hM114 : (hadF n j) = (hadF n (j + 1)) := hadF_off (decide_eq_false (by omega))
            have H115 : St W w37 (NodeA (n.kids.getD j default) :: blk bk31 (.cells #[.int .i64 ((n.kids.getD j default).kind.v), .string ((n.kids.getD j default).var.v), .string ((n.kids.getD j default).typ.v), .slice ((n.kids.getD j default).tp) ((n.kids.getD j default).tests.length) ((n.kids.getD j default).tc), .slice ((n.kids.getD j default).kp) ((n.kids.getD j default).kids.length) ((n.kids.getD j default).kc)] 25 (0, 0)) :: imi (0 < n.kids.length) gA12 (.cells kA14 eA15 zA16) :: MapA mp6 (ents kS vB (setOf (hadF n (j + 1)))) :: blk bk3 (.cells #[.int .i64 n.kind.v, .string n.var.v, .string n.typ.v, .slice n.tp n.tests.length n.tc, .slice n.kp n.kids.length n.kc] 25 (0, 0)) :: Im 5 (.slice n.kp n.kids.length n.kc) n.kids.length (n.kids.flatMap nodeCell) :: NodesA n.kids :: F) := by rw [← hM114]; exact H38
            have H116 : St W w37 (imi (0 < n.kids.length) gA12 (.cells kA14 eA15 zA16) :: MapA mp6 (ents kS vB (setOf (hadF n (j + 1)))) :: blk bk3 (.cells #[.int .i64 n.kind.v, .string n.var.v, .string n.typ.v, .slice n.tp n.tests.length n.tc, .slice n.kp n.kids.length n.kc] 25 (0, 0)) :: Im 5 (.slice n.kp n.kids.length n.kc) n.kids.length (n.kids.flatMap nodeCell) :: NodesA n.kids :: F) := (((((((H115.move 6 rfl).move 6 rfl).move 6 rfl).move 6 rfl).move 6 rfl).drop 5 rfl).drop 5 rfl)
            exact nx29 (j + 1) _ _ ⟨(by omega), (Hres_off hres (by omega) (by omega) (decide_eq_false (by omega))), H116⟩ (by first | (dsimp only; omega) | omega) ⟨by first | rfl | exact vint (by omega), by first | rfl | exact vint (by omega), by first | rfl | exact vint (by omega), by first | rfl | exact vint (by omega), by first | rfl | exact vint (by omega), by first | rfl | exact vint (by omega), trivial⟩
      · skip
        refine r_cons (s_neq true rfl rfl (nfalse hc39) rfl ?_)
        refine r_nil ?_
        refine g_true rfl ?_
        refine g_seq ?_
        refine g_region ?_
        refine r_cons (s_move (.int .i64 (bindsE (n.kids.getD j default))) rfl rfl ?_)
        refine r_cons (s_assign (.int .i64 (bindsE (n.kids.getD j default))) rfl rfl ?_)
        refine r_nil ?_
        refine g_ret' [.int .i64 (bindsE (n.kids.getD j default))] Try.func21 Try.results21 ⟨rfl, trivial⟩ ?_
        have H117 : St W w37 F := (((((((H38.drop 0 rfl).drop 0 rfl).drop 0 rfl).drop 0 rfl).drop 0 rfl).drop 0 rfl).drop 0 rfl)
        exact ⟨vint (Hres_bad hres (by omega) (by omega)), H117⟩
    · skip
      refine r_cons (s_lss false rfl rfl (dfalse hc30) rfl ?_)
      refine r_nil ?_
      refine g_seq ?_
      refine g_false rfl ?_
      refine g_exit (by rfl) ?_
      refine g_seq ?_
      refine g_region ?_
      refine r_cons (s_assign (.int .i64 0) rfl rfl ?_)
      refine r_nil ?_
      refine g_ret' [.int .i64 0] Try.func21 Try.results21 ⟨rfl, trivial⟩ ?_
      have H118 : St W w27 F := (((((H28.drop 0 rfl).drop 0 rfl).drop 0 rfl).drop 0 rfl).drop 0 rfl)
      exact ⟨vint (Hres_end hres (by omega)), H118⟩
theorem check_Binds {W w : World} {F : List Atom} (n : NodeD)  {i : Nat} (hi : F[i]? = some (NodeA n)) (hz : sizeN n ≤ 1048576) (H : St W w F) : Calls Try.prog 21 #[.agg #[.int .i64 n.kind.v, .string n.var.v, .string n.typ.v, .slice n.tp n.tests.length n.tc, .slice n.kp n.kids.length n.kc]] w (Ret fun v w' => v = .int .i64 (bindsE n) ∧ St W w' F) := check_Binds_r (sizeOf n + 1) n (Nat.lt_succ_self _) hi hz H
set_option maxHeartbeats 4000000 in
set_option maxRecDepth 100000 in
theorem ref07_Binds_r (N : Nat) : ∀ (n : NodeD), sizeOf n < N → ∀ {W w : World} {F : List Atom}  {i : Nat} (hi : F[i]? = some (NodeA n)) (hz : sizeN n ≤ 1048576) (H : St W w F), Calls Try.prog 22 #[.agg #[.int .i64 n.kind.v, .string n.var.v, .string n.typ.v, .slice n.tp n.tests.length n.tc, .slice n.kp n.kids.length n.kc]] w (Ret fun v w' => v = .int .i64 (bindsE n) ∧ St W w' F) := by
  induction N with | zero => exact fun n hN => absurd hN (Nat.not_lt_zero _) | succ N ih => ?_
  intro n hN W w F i hi hz H
  have H1 := NodeA.kids H (i := i + 0) (by exact hi)
  have H2 : St W w (Im 5 (.slice n.kp n.kids.length n.kc) n.kids.length (n.kids.flatMap nodeCell) :: NodesA n.kids :: F) := H1
  refine calls_of_go (n := 64) Try.func22 rfl Try.ntmps22 rfl ?_
  refine g_seq ?_
  refine g_region ?_
  refine r_cons (s_box H2 25 (.agg #[.int .i64 n.kind.v, .string n.var.v, .string n.typ.v, .slice n.tp n.tests.length n.tc, .slice n.kp n.kids.length n.kc]) rfl (cs := #[.int .i64 n.kind.v, .string n.var.v, .string n.typ.v, .slice n.tp n.tests.length n.tc, .slice n.kp n.kids.length n.kc]) rfl rfl ?_); intro bk3 w4 H5
  refine r_cons (s_assign (.int .i64 0) rfl rfl ?_)
  refine r_nil ?_
  refine g_seq ?_
  refine g_seq ?_
  refine g_region ?_
  refine r_cons (s_assign (.int .i64 0) rfl rfl ?_)
  refine r_nil ?_
  refine g_block ?_
  obtain ⟨pA6, cA7, gA8, oA9, kA10, eA11, zA12, he18, hn13, hp14, hx15, hs16, hml, H17⟩ := Im.open_ H5 (i := 1) rfl
  obtain ⟨rfl, rfl⟩ : n.kp = pA6 ∧ n.kc = cA7 := by injection he18 with a_ b_ c_; exact ⟨a_, c_⟩
  have H19 : St W w4 (imi (0 < n.kids.length) gA8 (.cells kA10 eA11 zA12) :: blk bk3 (.cells #[.int .i64 n.kind.v, .string n.var.v, .string n.typ.v, .slice n.tp n.tests.length n.tc, .slice n.kp n.kids.length n.kc] 25 (0, 0)) :: Im 5 (.slice n.kp n.kids.length n.kc) n.kids.length (n.kids.flatMap nodeCell) :: NodesA n.kids :: F) := ((((H17.move 3 rfl).move 3 rfl).move 3 rfl).move 3 rfl)
  refine g_loop_inv (fun (x_ : Nat) => match x_ with | j => [(1, .pointer (some ⟨bk3, 0, none⟩)), (2, .int .i64 0), (3, .int .i64 (j : Int))]) (fun (x_ : Nat) w => match x_ with | j => (j ≤ n.kids.length) ∧ (Hres n j) ∧ St W w (imi (0 < n.kids.length) gA8 (.cells kA10 eA11 zA12) :: blk bk3 (.cells #[.int .i64 n.kind.v, .string n.var.v, .string n.typ.v, .slice n.tp n.tests.length n.tc, .slice n.kp n.kids.length n.kc] 25 (0, 0)) :: Im 5 (.slice n.kp n.kids.length n.kc) n.kids.length (n.kids.flatMap nodeCell) :: NodesA n.kids :: F)) (fun (x_ : Nat) => match x_ with | j => n.kids.length - j) (0) ?_ ?_ ?_
  · exact ⟨by first | rfl | exact vint (by omega), by first | rfl | exact vint (by omega), by first | rfl | exact vint (by omega), trivial⟩
  · exact ⟨(by omega), (Hres_zero n), H19⟩
  · rintro j ρ20 w21 ⟨hjl, hres, H22⟩ nx23
    change Ends _ _ (upds ρ20 [(1, .pointer (some ⟨bk3, 0, none⟩)), (2, .int .i64 0), (3, .int .i64 (j : Int))]) w21
    refine g_seq ?_
    refine g_seq ?_
    refine g_region ?_
    refine r_cons (s_move (.int .i64 (j : Int)) rfl rfl ?_)
    refine r_cons (s_fieldAddr 25 4 4 4 23 rfl fi_25_4 rfl rfl ?_)
    refine r_cons (s_load (.slice n.kp n.kids.length n.kc) ag_23 rfl (H22.blk_at (i := 1) rfl) rfl rfl ?_)
    refine r_cons (s_len n.kids.length rfl ⟨_, un_23⟩ rfl ?_)
    by_cases hc24 : (j : Int) < (n.kids.length : Int)
    · skip
      refine r_cons (s_lss true rfl rfl (dtrue hc24) rfl ?_)
      refine r_nil ?_
      refine g_true rfl ?_
      refine g_skip ?_
      refine g_seq ?_
      refine g_block ?_
      refine g_seq ?_
      refine g_seq ?_
      refine g_region ?_
      refine r_cons (s_fieldAddr 25 4 4 4 23 rfl fi_25_4 rfl rfl ?_)
      refine r_cons (s_load (.slice n.kp n.kids.length n.kc) ag_23 rfl (H22.blk_at (i := 1) rfl) rfl rfl ?_)
      refine r_cons (s_move (.int .i64 (j : Int)) rfl rfl ?_)
      refine r_cons (s_indexAddr gA8 (off := oA9) (j : Int) 5 (oA9 + j * 5) (by exact congrArg (fun z_ => Value.slice z_ n.kids.length n.kc) (hp14 (by omega))) rfl el_23 (by omega) rfl rfl ?_)
      refine r_cons (s_loadAgg [.int .i64 ((n.kids.getD j default).kind.v), .string ((n.kids.getD j default).var.v), .string ((n.kids.getD j default).typ.v), .slice ((n.kids.getD j default).tp) ((n.kids.getD j default).tests.length) ((n.kids.getD j default).tc), .slice ((n.kids.getD j default).kp) ((n.kids.getD j default).kids.length) ((n.kids.getD j default).kc)] 5 ag_25 rfl (H22.imi_at (i := 0) rfl (by omega)) (by have := elem_size (i := j) (s := 5) (hs16 (by omega)) (by omega); omega) (elem_take nodeCell_len (hx15 (by omega)) (by omega) default) rfl ?_)
      have H25 := NodesA.at H22 (i := 3) rfl (j := j) (by omega)
      refine r_cons (s_call [.agg #[.int .i64 ((n.kids.getD j default).kind.v), .string ((n.kids.getD j default).var.v), .string ((n.kids.getD j default).typ.v), .slice ((n.kids.getD j default).tp) ((n.kids.getD j default).tests.length) ((n.kids.getD j default).tc), .slice ((n.kids.getD j default).kp) ((n.kids.getD j default).kids.length) ((n.kids.getD j default).kc)]] pl_22 rfl rfl (ih (n.kids.getD j default) (by have h9 := kid_lt (n := n) (j := j) (by omega); omega) (i := 0) rfl (by have h9 := sizeN_kid (n := n) (j := j) (by omega); omega) H25) ?_)
      rintro _ w26 ⟨rfl, H27⟩
      refine r_cons (s_assign (.int .i64 (bindsE (n.kids.getD j default))) rfl rfl ?_)
      refine r_nil ?_
      refine g_seq ?_
      refine g_region ?_
      refine r_cons (s_move (.int .i64 (bindsE (n.kids.getD j default))) rfl rfl ?_)
      by_cases hc28 : bindsE (n.kids.getD j default) = 0
      · skip
        refine r_cons (s_neq false rfl rfl (ntrue hc28) rfl ?_)
        refine r_nil ?_
        refine g_false rfl ?_
        refine g_skip ?_
        refine g_seq ?_
        refine g_region ?_
        refine r_cons (s_fieldAddr 25 4 4 4 23 rfl fi_25_4 rfl rfl ?_)
        refine r_cons (s_load (.slice n.kp n.kids.length n.kc) ag_23 rfl (H27.blk_at (i := 2) rfl) rfl rfl ?_)
        refine r_cons (s_move (.int .i64 (j : Int)) rfl rfl ?_)
        refine r_cons (s_indexAddr gA8 (off := oA9) (j : Int) 5 (oA9 + j * 5) (by exact congrArg (fun z_ => Value.slice z_ n.kids.length n.kc) (hp14 (by omega))) rfl el_23 (by omega) rfl rfl ?_)
        refine r_cons (s_loadAgg [.int .i64 ((n.kids.getD j default).kind.v), .string ((n.kids.getD j default).var.v), .string ((n.kids.getD j default).typ.v), .slice ((n.kids.getD j default).tp) ((n.kids.getD j default).tests.length) ((n.kids.getD j default).tc), .slice ((n.kids.getD j default).kp) ((n.kids.getD j default).kids.length) ((n.kids.getD j default).kc)] 5 ag_25 rfl (H27.imi_at (i := 1) rfl (by omega)) (by have := elem_size (i := j) (s := 5) (hs16 (by omega)) (by omega); omega) (elem_take nodeCell_len (hx15 (by omega)) (by omega) default) rfl ?_)
        refine r_cons (s_call [.agg #[.int .i64 ((n.kids.getD j default).kind.v), .string ((n.kids.getD j default).var.v), .string ((n.kids.getD j default).typ.v), .slice ((n.kids.getD j default).tp) ((n.kids.getD j default).tests.length) ((n.kids.getD j default).tc), .slice ((n.kids.getD j default).kp) ((n.kids.getD j default).kids.length) ((n.kids.getD j default).kc)]] pl_25 rfl rfl (ref07_Vars (n.kids.getD j default) (i := 0) rfl (by have h9 := sizeN_kid (n := n) (j := j) (by omega); omega) H27) ?_)
        rintro _ w31 ⟨pp29, cc30, rfl, H32⟩
        refine r_cons (s_assign (.slice pp29 ((varsS (n.kids.getD j default)).length) cc30) rfl rfl ?_)
        refine r_nil ?_
        refine g_seq ?_
        refine g_region ?_
        refine r_cons (s_assign (.int .i64 0) rfl rfl ?_)
        refine r_nil ?_
        refine g_block ?_
        have H33 : St W w31 (Im 1 (.slice pp29 ((varsS (n.kids.getD j default)).length) cc30) ((varsS (n.kids.getD j default)).length) ((varsS (n.kids.getD j default)).flatMap strCell) :: NodeA (n.kids.getD j default) :: imi (0 < n.kids.length) gA8 (.cells kA10 eA11 zA12) :: blk bk3 (.cells #[.int .i64 n.kind.v, .string n.var.v, .string n.typ.v, .slice n.tp n.tests.length n.tc, .slice n.kp n.kids.length n.kc] 25 (0, 0)) :: Im 5 (.slice n.kp n.kids.length n.kc) n.kids.length (n.kids.flatMap nodeCell) :: NodesA n.kids :: F) := ((((((H32.move 5 rfl).move 5 rfl).move 5 rfl).move 5 rfl).move 5 rfl).move 5 rfl)
        refine g_loop_inv (fun (x_ : Nat) => match x_ with | q => [(1, .pointer (some ⟨bk3, 0, none⟩)), (2, .int .i64 0), (3, .int .i64 (j : Int)), (5, .slice pp29 ((varsS (n.kids.getD j default)).length) cc30), (6, .int .i64 (q : Int))]) (fun (x_ : Nat) w => match x_ with | q => (q ≤ j) ∧ (∀ i, i < q → ∀ x ∈ varsS (n.kids.getD i default), ¬ x ∈ (varsS (n.kids.getD j default))) ∧ St W w (Im 1 (.slice pp29 ((varsS (n.kids.getD j default)).length) cc30) ((varsS (n.kids.getD j default)).length) ((varsS (n.kids.getD j default)).flatMap strCell) :: NodeA (n.kids.getD j default) :: imi (0 < n.kids.length) gA8 (.cells kA10 eA11 zA12) :: blk bk3 (.cells #[.int .i64 n.kind.v, .string n.var.v, .string n.typ.v, .slice n.tp n.tests.length n.tc, .slice n.kp n.kids.length n.kc] 25 (0, 0)) :: Im 5 (.slice n.kp n.kids.length n.kc) n.kids.length (n.kids.flatMap nodeCell) :: NodesA n.kids :: F)) (fun (x_ : Nat) => match x_ with | q => j - q) (0) ?_ ?_ ?_
        · exact ⟨by first | rfl | exact vint (by omega), by first | rfl | exact vint (by omega), by first | rfl | exact vint (by omega), by first | rfl | exact vint (by omega), by first | rfl | exact vint (by omega), trivial⟩
        · exact ⟨(by omega), (fun i hi => by omega), H33⟩
        · rintro q ρ34 w35 ⟨hql, hz2, H36⟩ nx37
          change Ends _ _ (upds ρ34 [(1, .pointer (some ⟨bk3, 0, none⟩)), (2, .int .i64 0), (3, .int .i64 (j : Int)), (5, .slice pp29 ((varsS (n.kids.getD j default)).length) cc30), (6, .int .i64 (q : Int))]) w35
          refine g_seq ?_
          refine g_seq ?_
          refine g_region ?_
          refine r_cons (s_move (.int .i64 (q : Int)) rfl rfl ?_)
          refine r_cons (s_move (.int .i64 (j : Int)) rfl rfl ?_)
          by_cases hc38 : (q : Int) < (j : Int)
          · skip
            refine r_cons (s_lss true rfl rfl (dtrue hc38) rfl ?_)
            refine r_cons (s_move (.bool true) rfl rfl ?_)
            refine r_cons (r_take rfl rfl ?_)
            refine s_fieldAddr 25 0 0 0 3 rfl fi_25_0 rfl rfl ?_
            refine r_cons (r_take rfl rfl ?_)
            refine s_load (.int .i64 n.kind.v) ag_3 rfl (H36.blk_at (i := 3) rfl) rfl rfl ?_
            refine r_cons (r_take rfl rfl ?_)
            by_cases hc39 : n.kind.v = 2
            · skip
              refine s_eql true rfl rfl (dtrue hc39) rfl ?_
              refine r_cons (r_take rfl rfl ?_)
              refine s_move (.bool true) rfl rfl ?_
              refine r_cons (r_pass rfl rfl rfl rfl rfl ?_)
              refine r_cons (r_pass rfl rfl rfl rfl rfl ?_)
              refine r_cons (r_pass rfl rfl rfl rfl rfl ?_)
              refine r_cons (r_take rfl rfl ?_)
              refine s_pick_t (.bool true) rfl rfl rfl ?_
              refine r_cons (s_pick_t (.bool true) rfl rfl rfl ?_)
              refine r_nil ?_
              refine g_true rfl ?_
              refine g_skip ?_
              refine g_seq ?_
              refine g_block ?_
              refine g_seq ?_
              refine g_region ?_
              refine r_cons (s_fieldAddr 25 4 4 4 23 rfl fi_25_4 rfl rfl ?_)
              refine r_cons (s_load (.slice n.kp n.kids.length n.kc) ag_23 rfl (H36.blk_at (i := 3) rfl) rfl rfl ?_)
              refine r_cons (s_move (.int .i64 (q : Int)) rfl rfl ?_)
              refine r_cons (s_indexAddr gA8 (off := oA9) (q : Int) 5 (oA9 + q * 5) (by exact congrArg (fun z_ => Value.slice z_ n.kids.length n.kc) (hp14 (by omega))) rfl el_23 (by omega) rfl rfl ?_)
              refine r_cons (s_loadAgg [.int .i64 ((n.kids.getD q default).kind.v), .string ((n.kids.getD q default).var.v), .string ((n.kids.getD q default).typ.v), .slice ((n.kids.getD q default).tp) ((n.kids.getD q default).tests.length) ((n.kids.getD q default).tc), .slice ((n.kids.getD q default).kp) ((n.kids.getD q default).kids.length) ((n.kids.getD q default).kc)] 5 ag_25 rfl (H36.imi_at (i := 2) rfl (by omega)) (by have := elem_size (i := q) (s := 5) (hs16 (by omega)) (by omega); omega) (elem_take nodeCell_len (hx15 (by omega)) (by omega) default) rfl ?_)
              have H40 := NodesA.at H36 (i := 5) rfl (j := q) (by omega)
              refine r_cons (s_call [.agg #[.int .i64 ((n.kids.getD q default).kind.v), .string ((n.kids.getD q default).var.v), .string ((n.kids.getD q default).typ.v), .slice ((n.kids.getD q default).tp) ((n.kids.getD q default).tests.length) ((n.kids.getD q default).tc), .slice ((n.kids.getD q default).kp) ((n.kids.getD q default).kids.length) ((n.kids.getD q default).kc)]] pl_25 rfl rfl (ref07_Vars (n.kids.getD q default) (i := 0) rfl (by have h9 := sizeN_kid (n := n) (j := q) (by omega); omega) H40) ?_)
              rintro _ w43 ⟨pp41, cc42, rfl, H44⟩
              refine r_cons (s_assign (.slice pp41 ((varsS (n.kids.getD q default)).length) cc42) rfl rfl ?_)
              refine r_nil ?_
              refine g_seq ?_
              refine g_region ?_
              refine r_cons (s_assign (.int .i64 0) rfl rfl ?_)
              refine r_nil ?_
              refine g_block ?_
              obtain ⟨pA45, cA46, gA47, oA48, kA49, eA50, zA51, he57, hn52, hp53, hx54, hs55, hml, H56⟩ := Im.open_ H44 (i := 0) rfl
              obtain ⟨rfl, rfl⟩ : pp41 = pA45 ∧ cc42 = cA46 := by injection he57 with a_ b_ c_; exact ⟨a_, c_⟩
              have H58 : St W w43 (imi (0 < (varsS (n.kids.getD q default)).length) gA47 (.cells kA49 eA50 zA51) :: Im 1 (.slice pp41 ((varsS (n.kids.getD q default)).length) cc42) ((varsS (n.kids.getD q default)).length) ((varsS (n.kids.getD q default)).flatMap strCell) :: NodeA (n.kids.getD q default) :: Im 1 (.slice pp29 ((varsS (n.kids.getD j default)).length) cc30) ((varsS (n.kids.getD j default)).length) ((varsS (n.kids.getD j default)).flatMap strCell) :: NodeA (n.kids.getD j default) :: imi (0 < n.kids.length) gA8 (.cells kA10 eA11 zA12) :: blk bk3 (.cells #[.int .i64 n.kind.v, .string n.var.v, .string n.typ.v, .slice n.tp n.tests.length n.tc, .slice n.kp n.kids.length n.kc] 25 (0, 0)) :: Im 5 (.slice n.kp n.kids.length n.kc) n.kids.length (n.kids.flatMap nodeCell) :: NodesA n.kids :: F) := (((((((((H56.move 8 rfl).move 8 rfl).move 8 rfl).move 8 rfl).move 8 rfl).move 8 rfl).move 8 rfl).move 8 rfl).move 8 rfl)
              refine g_loop_inv (fun (x_ : Nat) => match x_ with | u => [(1, .pointer (some ⟨bk3, 0, none⟩)), (2, .int .i64 0), (3, .int .i64 (j : Int)), (5, .slice pp29 ((varsS (n.kids.getD j default)).length) cc30), (6, .int .i64 (q : Int)), (7, .slice pp41 ((varsS (n.kids.getD q default)).length) cc42), (8, .int .i64 (u : Int))]) (fun (x_ : Nat) w => match x_ with | u => (u ≤ (varsS (n.kids.getD q default)).length) ∧ (∀ t, t < u → hasS (varsS (n.kids.getD j default)) ((varsS (n.kids.getD q default)).getD t default).v = false) ∧ St W w (imi (0 < (varsS (n.kids.getD q default)).length) gA47 (.cells kA49 eA50 zA51) :: Im 1 (.slice pp41 ((varsS (n.kids.getD q default)).length) cc42) ((varsS (n.kids.getD q default)).length) ((varsS (n.kids.getD q default)).flatMap strCell) :: NodeA (n.kids.getD q default) :: Im 1 (.slice pp29 ((varsS (n.kids.getD j default)).length) cc30) ((varsS (n.kids.getD j default)).length) ((varsS (n.kids.getD j default)).flatMap strCell) :: NodeA (n.kids.getD j default) :: imi (0 < n.kids.length) gA8 (.cells kA10 eA11 zA12) :: blk bk3 (.cells #[.int .i64 n.kind.v, .string n.var.v, .string n.typ.v, .slice n.tp n.tests.length n.tc, .slice n.kp n.kids.length n.kc] 25 (0, 0)) :: Im 5 (.slice n.kp n.kids.length n.kc) n.kids.length (n.kids.flatMap nodeCell) :: NodesA n.kids :: F)) (fun (x_ : Nat) => match x_ with | u => (varsS (n.kids.getD q default)).length - u) (0) ?_ ?_ ?_
              · exact ⟨by first | rfl | exact vint (by omega), by first | rfl | exact vint (by omega), by first | rfl | exact vint (by omega), by first | rfl | exact vint (by omega), by first | rfl | exact vint (by omega), by first | rfl | exact vint (by omega), by first | rfl | exact vint (by omega), trivial⟩
              · exact ⟨(by omega), (fun t ht => by omega), H58⟩
              · rintro u ρ59 w60 ⟨hul, hz3, H61⟩ nx62
                change Ends _ _ (upds ρ59 [(1, .pointer (some ⟨bk3, 0, none⟩)), (2, .int .i64 0), (3, .int .i64 (j : Int)), (5, .slice pp29 ((varsS (n.kids.getD j default)).length) cc30), (6, .int .i64 (q : Int)), (7, .slice pp41 ((varsS (n.kids.getD q default)).length) cc42), (8, .int .i64 (u : Int))]) w60
                refine g_seq ?_
                refine g_seq ?_
                refine g_region ?_
                refine r_cons (s_move (.int .i64 (u : Int)) rfl rfl ?_)
                refine r_cons (s_move (.slice pp41 ((varsS (n.kids.getD q default)).length) cc42) rfl rfl ?_)
                refine r_cons (s_len ((varsS (n.kids.getD q default)).length) rfl ⟨_, un_36⟩ rfl ?_)
                by_cases hc63 : (u : Int) < ((varsS (n.kids.getD q default)).length : Int)
                · skip
                  refine r_cons (s_lss true rfl rfl (dtrue hc63) rfl ?_)
                  refine r_nil ?_
                  refine g_true rfl ?_
                  refine g_skip ?_
                  refine g_seq ?_
                  refine g_block ?_
                  refine g_seq ?_
                  refine g_region ?_
                  refine r_cons (s_move (.slice pp29 ((varsS (n.kids.getD j default)).length) cc30) rfl rfl ?_)
                  refine r_cons (s_move (.slice pp41 ((varsS (n.kids.getD q default)).length) cc42) rfl rfl ?_)
                  refine r_cons (s_move (.int .i64 (u : Int)) rfl rfl ?_)
                  refine r_cons (s_indexAddr gA47 (off := oA48) (u : Int) 1 (oA48 + u * 1) (by exact congrArg (fun z_ => Value.slice z_ ((varsS (n.kids.getD q default)).length) cc42) (hp53 (by omega))) rfl el_36 (by omega) rfl rfl ?_)
                  refine r_cons (s_load (.string (((varsS (n.kids.getD q default)).getD u default).v)) ag_9 rfl (H61.imi_at (i := 0) rfl (by omega)) (elem_cell (L := (varsS (n.kids.getD q default))) (i := u) strCell_len (hx54 (by omega)) (by omega) default 0 (by decide) _ rfl) rfl ?_)
                  refine r_cons (s_call [.slice pp29 ((varsS (n.kids.getD j default)).length) cc30, .string (((varsS (n.kids.getD q default)).getD u default).v)] pl_42 rfl rfl (ref07_Has (varsS (n.kids.getD j default)) (.slice pp29 ((varsS (n.kids.getD j default)).length) cc30) (((varsS (n.kids.getD q default)).getD u default).v) (m := 3) rfl H61) ?_)
                  rintro _ w64 ⟨rfl, H65⟩
                  refine r_nil ?_
                  by_cases hb66 : (hasS (varsS (n.kids.getD j default)) (((varsS (n.kids.getD q default)).getD u default).v)) = true
                  · skip
                    refine g_true (congrArg Value.bool hb66) ?_
                    refine g_seq ?_
                    refine g_region ?_
                    refine r_cons (s_assign (.int .i64 73) rfl rfl ?_)
                    refine r_nil ?_
                    refine g_ret' [.int .i64 73] Try.func22 Try.results22 ⟨rfl, trivial⟩ ?_
                    have H67 : St W w64 F := (((((((((H65.drop 0 rfl).drop 0 rfl).drop 0 rfl).drop 0 rfl).drop 0 rfl).drop 0 rfl).drop 0 rfl).drop 0 rfl).drop 0 rfl)
                    exact ⟨vint (Hres_rbad hres (by omega) (by omega) (decide_eq_true (by omega)) (by omega) (by omega) hb66), H67⟩
                  · have hb66 := eq_false_of_ne_true hb66
                    refine g_false (congrArg Value.bool hb66) ?_
                    refine g_skip ?_
                    refine g_inBlock ?_
                    refine g_region ?_
                    refine r_cons (s_move (.int .i64 (u : Int)) rfl rfl ?_)
                    refine r_cons (s_add ((u : Int) + 1) rfl rfl (wi64 (by omega)) rfl ?_)
                    refine r_cons (s_assign (.int .i64 ((u : Int) + 1)) rfl rfl ?_)
                    refine r_nil ?_
                    have H68 : St W w64 (imi (0 < (varsS (n.kids.getD q default)).length) gA47 (.cells kA49 eA50 zA51) :: Im 1 (.slice pp41 ((varsS (n.kids.getD q default)).length) cc42) ((varsS (n.kids.getD q default)).length) ((varsS (n.kids.getD q default)).flatMap strCell) :: NodeA (n.kids.getD q default) :: Im 1 (.slice pp29 ((varsS (n.kids.getD j default)).length) cc30) ((varsS (n.kids.getD j default)).length) ((varsS (n.kids.getD j default)).flatMap strCell) :: NodeA (n.kids.getD j default) :: imi (0 < n.kids.length) gA8 (.cells kA10 eA11 zA12) :: blk bk3 (.cells #[.int .i64 n.kind.v, .string n.var.v, .string n.typ.v, .slice n.tp n.tests.length n.tc, .slice n.kp n.kids.length n.kc] 25 (0, 0)) :: Im 5 (.slice n.kp n.kids.length n.kc) n.kids.length (n.kids.flatMap nodeCell) :: NodesA n.kids :: F) := (((((((((H65.move 8 rfl).move 8 rfl).move 8 rfl).move 8 rfl).move 8 rfl).move 8 rfl).move 8 rfl).move 8 rfl).move 8 rfl)
                    exact nx62 (u + 1) _ _ ⟨(by omega), (fun t ht => (Nat.lt_or_ge t u).elim (hz3 t) (fun h => by rw [show t = u from by omega]; exact hb66)), H68⟩ (by first | (dsimp only; omega) | omega) ⟨by first | rfl | exact vint (by omega), by first | rfl | exact vint (by omega), by first | rfl | exact vint (by omega), by first | rfl | exact vint (by omega), by first | rfl | exact vint (by omega), by first | rfl | exact vint (by omega), by first | rfl | exact vint (by omega), trivial⟩
                · skip
                  refine r_cons (s_lss false rfl rfl (dfalse hc63) rfl ?_)
                  refine r_nil ?_
                  refine g_false rfl ?_
                  refine g_exit (by rfl) ?_
                  refine g_inBlock ?_
                  refine g_region ?_
                  refine r_cons (s_move (.int .i64 (q : Int)) rfl rfl ?_)
                  refine r_cons (s_add ((q : Int) + 1) rfl rfl (wi64 (by omega)) rfl ?_)
                  refine r_cons (s_assign (.int .i64 ((q : Int) + 1)) rfl rfl ?_)
                  refine r_nil ?_
                  have H69 : St W w60 (Im 1 (.slice pp29 ((varsS (n.kids.getD j default)).length) cc30) ((varsS (n.kids.getD j default)).length) ((varsS (n.kids.getD j default)).flatMap strCell) :: NodeA (n.kids.getD j default) :: imi (0 < n.kids.length) gA8 (.cells kA10 eA11 zA12) :: blk bk3 (.cells #[.int .i64 n.kind.v, .string n.var.v, .string n.typ.v, .slice n.tp n.tests.length n.tc, .slice n.kp n.kids.length n.kc] 25 (0, 0)) :: Im 5 (.slice n.kp n.kids.length n.kc) n.kids.length (n.kids.flatMap nodeCell) :: NodesA n.kids :: F) := (((((((((H61.move 8 rfl).move 8 rfl).move 8 rfl).move 8 rfl).move 8 rfl).move 8 rfl).drop 6 rfl).drop 6 rfl).drop 6 rfl)
                  exact nx37 (q + 1) _ _ ⟨(by omega), (fun i hi => (Nat.lt_or_ge i q).elim (hz2 i) (fun h => by rw [show i = q from by omega]; exact not_mem_of_has (fun u hu => hz3 u (by omega)))), H69⟩ (by first | (dsimp only; omega) | omega) ⟨by first | rfl | exact vint (by omega), by first | rfl | exact vint (by omega), by first | rfl | exact vint (by omega), by first | rfl | exact vint (by omega), by first | rfl | exact vint (by omega), trivial⟩
            · skip
              refine s_eql false rfl rfl (dfalse hc39) rfl ?_
              refine r_cons (r_take rfl rfl ?_)
              refine s_move (.bool false) rfl rfl ?_
              refine r_cons (r_take rfl rfl ?_)
              refine s_fieldAddr 25 0 0 0 3 rfl fi_25_0 rfl rfl ?_
              refine r_cons (r_take rfl rfl ?_)
              refine s_load (.int .i64 n.kind.v) ag_3 rfl (H36.blk_at (i := 3) rfl) rfl rfl ?_
              refine r_cons (r_take rfl rfl ?_)
              by_cases hc70 : n.kind.v = 3
              · skip
                refine s_eql true rfl rfl (dtrue hc70) rfl ?_
                refine r_cons (r_take rfl rfl ?_)
                refine s_pick_f (.bool true) rfl rfl rfl ?_
                refine r_cons (s_pick_t (.bool true) rfl rfl rfl ?_)
                refine r_nil ?_
                refine g_true rfl ?_
                refine g_skip ?_
                refine g_seq ?_
                refine g_block ?_
                refine g_seq ?_
                refine g_region ?_
                refine r_cons (s_fieldAddr 25 4 4 4 23 rfl fi_25_4 rfl rfl ?_)
                refine r_cons (s_load (.slice n.kp n.kids.length n.kc) ag_23 rfl (H36.blk_at (i := 3) rfl) rfl rfl ?_)
                refine r_cons (s_move (.int .i64 (q : Int)) rfl rfl ?_)
                refine r_cons (s_indexAddr gA8 (off := oA9) (q : Int) 5 (oA9 + q * 5) (by exact congrArg (fun z_ => Value.slice z_ n.kids.length n.kc) (hp14 (by omega))) rfl el_23 (by omega) rfl rfl ?_)
                refine r_cons (s_loadAgg [.int .i64 ((n.kids.getD q default).kind.v), .string ((n.kids.getD q default).var.v), .string ((n.kids.getD q default).typ.v), .slice ((n.kids.getD q default).tp) ((n.kids.getD q default).tests.length) ((n.kids.getD q default).tc), .slice ((n.kids.getD q default).kp) ((n.kids.getD q default).kids.length) ((n.kids.getD q default).kc)] 5 ag_25 rfl (H36.imi_at (i := 2) rfl (by omega)) (by have := elem_size (i := q) (s := 5) (hs16 (by omega)) (by omega); omega) (elem_take nodeCell_len (hx15 (by omega)) (by omega) default) rfl ?_)
                have H71 := NodesA.at H36 (i := 5) rfl (j := q) (by omega)
                refine r_cons (s_call [.agg #[.int .i64 ((n.kids.getD q default).kind.v), .string ((n.kids.getD q default).var.v), .string ((n.kids.getD q default).typ.v), .slice ((n.kids.getD q default).tp) ((n.kids.getD q default).tests.length) ((n.kids.getD q default).tc), .slice ((n.kids.getD q default).kp) ((n.kids.getD q default).kids.length) ((n.kids.getD q default).kc)]] pl_25 rfl rfl (ref07_Vars (n.kids.getD q default) (i := 0) rfl (by have h9 := sizeN_kid (n := n) (j := q) (by omega); omega) H71) ?_)
                rintro _ w74 ⟨pp72, cc73, rfl, H75⟩
                refine r_cons (s_assign (.slice pp72 ((varsS (n.kids.getD q default)).length) cc73) rfl rfl ?_)
                refine r_nil ?_
                refine g_seq ?_
                refine g_region ?_
                refine r_cons (s_assign (.int .i64 0) rfl rfl ?_)
                refine r_nil ?_
                refine g_block ?_
                obtain ⟨pA76, cA77, gA78, oA79, kA80, eA81, zA82, he88, hn83, hp84, hx85, hs86, hml, H87⟩ := Im.open_ H75 (i := 0) rfl
                obtain ⟨rfl, rfl⟩ : pp72 = pA76 ∧ cc73 = cA77 := by injection he88 with a_ b_ c_; exact ⟨a_, c_⟩
                have H89 : St W w74 (imi (0 < (varsS (n.kids.getD q default)).length) gA78 (.cells kA80 eA81 zA82) :: Im 1 (.slice pp72 ((varsS (n.kids.getD q default)).length) cc73) ((varsS (n.kids.getD q default)).length) ((varsS (n.kids.getD q default)).flatMap strCell) :: NodeA (n.kids.getD q default) :: Im 1 (.slice pp29 ((varsS (n.kids.getD j default)).length) cc30) ((varsS (n.kids.getD j default)).length) ((varsS (n.kids.getD j default)).flatMap strCell) :: NodeA (n.kids.getD j default) :: imi (0 < n.kids.length) gA8 (.cells kA10 eA11 zA12) :: blk bk3 (.cells #[.int .i64 n.kind.v, .string n.var.v, .string n.typ.v, .slice n.tp n.tests.length n.tc, .slice n.kp n.kids.length n.kc] 25 (0, 0)) :: Im 5 (.slice n.kp n.kids.length n.kc) n.kids.length (n.kids.flatMap nodeCell) :: NodesA n.kids :: F) := (((((((((H87.move 8 rfl).move 8 rfl).move 8 rfl).move 8 rfl).move 8 rfl).move 8 rfl).move 8 rfl).move 8 rfl).move 8 rfl)
                refine g_loop_inv (fun (x_ : Nat) => match x_ with | u => [(1, .pointer (some ⟨bk3, 0, none⟩)), (2, .int .i64 0), (3, .int .i64 (j : Int)), (5, .slice pp29 ((varsS (n.kids.getD j default)).length) cc30), (6, .int .i64 (q : Int)), (7, .slice pp72 ((varsS (n.kids.getD q default)).length) cc73), (8, .int .i64 (u : Int))]) (fun (x_ : Nat) w => match x_ with | u => (u ≤ (varsS (n.kids.getD q default)).length) ∧ (∀ t, t < u → hasS (varsS (n.kids.getD j default)) ((varsS (n.kids.getD q default)).getD t default).v = false) ∧ St W w (imi (0 < (varsS (n.kids.getD q default)).length) gA78 (.cells kA80 eA81 zA82) :: Im 1 (.slice pp72 ((varsS (n.kids.getD q default)).length) cc73) ((varsS (n.kids.getD q default)).length) ((varsS (n.kids.getD q default)).flatMap strCell) :: NodeA (n.kids.getD q default) :: Im 1 (.slice pp29 ((varsS (n.kids.getD j default)).length) cc30) ((varsS (n.kids.getD j default)).length) ((varsS (n.kids.getD j default)).flatMap strCell) :: NodeA (n.kids.getD j default) :: imi (0 < n.kids.length) gA8 (.cells kA10 eA11 zA12) :: blk bk3 (.cells #[.int .i64 n.kind.v, .string n.var.v, .string n.typ.v, .slice n.tp n.tests.length n.tc, .slice n.kp n.kids.length n.kc] 25 (0, 0)) :: Im 5 (.slice n.kp n.kids.length n.kc) n.kids.length (n.kids.flatMap nodeCell) :: NodesA n.kids :: F)) (fun (x_ : Nat) => match x_ with | u => (varsS (n.kids.getD q default)).length - u) (0) ?_ ?_ ?_
                · exact ⟨by first | rfl | exact vint (by omega), by first | rfl | exact vint (by omega), by first | rfl | exact vint (by omega), by first | rfl | exact vint (by omega), by first | rfl | exact vint (by omega), by first | rfl | exact vint (by omega), by first | rfl | exact vint (by omega), trivial⟩
                · exact ⟨(by omega), (fun t ht => by omega), H89⟩
                · rintro u ρ90 w91 ⟨hul, hz3, H92⟩ nx93
                  change Ends _ _ (upds ρ90 [(1, .pointer (some ⟨bk3, 0, none⟩)), (2, .int .i64 0), (3, .int .i64 (j : Int)), (5, .slice pp29 ((varsS (n.kids.getD j default)).length) cc30), (6, .int .i64 (q : Int)), (7, .slice pp72 ((varsS (n.kids.getD q default)).length) cc73), (8, .int .i64 (u : Int))]) w91
                  refine g_seq ?_
                  refine g_seq ?_
                  refine g_region ?_
                  refine r_cons (s_move (.int .i64 (u : Int)) rfl rfl ?_)
                  refine r_cons (s_move (.slice pp72 ((varsS (n.kids.getD q default)).length) cc73) rfl rfl ?_)
                  refine r_cons (s_len ((varsS (n.kids.getD q default)).length) rfl ⟨_, un_36⟩ rfl ?_)
                  by_cases hc94 : (u : Int) < ((varsS (n.kids.getD q default)).length : Int)
                  · skip
                    refine r_cons (s_lss true rfl rfl (dtrue hc94) rfl ?_)
                    refine r_nil ?_
                    refine g_true rfl ?_
                    refine g_skip ?_
                    refine g_seq ?_
                    refine g_block ?_
                    refine g_seq ?_
                    refine g_region ?_
                    refine r_cons (s_move (.slice pp29 ((varsS (n.kids.getD j default)).length) cc30) rfl rfl ?_)
                    refine r_cons (s_move (.slice pp72 ((varsS (n.kids.getD q default)).length) cc73) rfl rfl ?_)
                    refine r_cons (s_move (.int .i64 (u : Int)) rfl rfl ?_)
                    refine r_cons (s_indexAddr gA78 (off := oA79) (u : Int) 1 (oA79 + u * 1) (by exact congrArg (fun z_ => Value.slice z_ ((varsS (n.kids.getD q default)).length) cc73) (hp84 (by omega))) rfl el_36 (by omega) rfl rfl ?_)
                    refine r_cons (s_load (.string (((varsS (n.kids.getD q default)).getD u default).v)) ag_9 rfl (H92.imi_at (i := 0) rfl (by omega)) (elem_cell (L := (varsS (n.kids.getD q default))) (i := u) strCell_len (hx85 (by omega)) (by omega) default 0 (by decide) _ rfl) rfl ?_)
                    refine r_cons (s_call [.slice pp29 ((varsS (n.kids.getD j default)).length) cc30, .string (((varsS (n.kids.getD q default)).getD u default).v)] pl_42 rfl rfl (ref07_Has (varsS (n.kids.getD j default)) (.slice pp29 ((varsS (n.kids.getD j default)).length) cc30) (((varsS (n.kids.getD q default)).getD u default).v) (m := 3) rfl H92) ?_)
                    rintro _ w95 ⟨rfl, H96⟩
                    refine r_nil ?_
                    by_cases hb97 : (hasS (varsS (n.kids.getD j default)) (((varsS (n.kids.getD q default)).getD u default).v)) = true
                    · skip
                      refine g_true (congrArg Value.bool hb97) ?_
                      refine g_seq ?_
                      refine g_region ?_
                      refine r_cons (s_assign (.int .i64 73) rfl rfl ?_)
                      refine r_nil ?_
                      refine g_ret' [.int .i64 73] Try.func22 Try.results22 ⟨rfl, trivial⟩ ?_
                      have H98 : St W w95 F := (((((((((H96.drop 0 rfl).drop 0 rfl).drop 0 rfl).drop 0 rfl).drop 0 rfl).drop 0 rfl).drop 0 rfl).drop 0 rfl).drop 0 rfl)
                      exact ⟨vint (Hres_rbad hres (by omega) (by omega) (decide_eq_true (by omega)) (by omega) (by omega) hb97), H98⟩
                    · have hb97 := eq_false_of_ne_true hb97
                      refine g_false (congrArg Value.bool hb97) ?_
                      refine g_skip ?_
                      refine g_inBlock ?_
                      refine g_region ?_
                      refine r_cons (s_move (.int .i64 (u : Int)) rfl rfl ?_)
                      refine r_cons (s_add ((u : Int) + 1) rfl rfl (wi64 (by omega)) rfl ?_)
                      refine r_cons (s_assign (.int .i64 ((u : Int) + 1)) rfl rfl ?_)
                      refine r_nil ?_
                      have H99 : St W w95 (imi (0 < (varsS (n.kids.getD q default)).length) gA78 (.cells kA80 eA81 zA82) :: Im 1 (.slice pp72 ((varsS (n.kids.getD q default)).length) cc73) ((varsS (n.kids.getD q default)).length) ((varsS (n.kids.getD q default)).flatMap strCell) :: NodeA (n.kids.getD q default) :: Im 1 (.slice pp29 ((varsS (n.kids.getD j default)).length) cc30) ((varsS (n.kids.getD j default)).length) ((varsS (n.kids.getD j default)).flatMap strCell) :: NodeA (n.kids.getD j default) :: imi (0 < n.kids.length) gA8 (.cells kA10 eA11 zA12) :: blk bk3 (.cells #[.int .i64 n.kind.v, .string n.var.v, .string n.typ.v, .slice n.tp n.tests.length n.tc, .slice n.kp n.kids.length n.kc] 25 (0, 0)) :: Im 5 (.slice n.kp n.kids.length n.kc) n.kids.length (n.kids.flatMap nodeCell) :: NodesA n.kids :: F) := (((((((((H96.move 8 rfl).move 8 rfl).move 8 rfl).move 8 rfl).move 8 rfl).move 8 rfl).move 8 rfl).move 8 rfl).move 8 rfl)
                      exact nx93 (u + 1) _ _ ⟨(by omega), (fun t ht => (Nat.lt_or_ge t u).elim (hz3 t) (fun h => by rw [show t = u from by omega]; exact hb97)), H99⟩ (by first | (dsimp only; omega) | omega) ⟨by first | rfl | exact vint (by omega), by first | rfl | exact vint (by omega), by first | rfl | exact vint (by omega), by first | rfl | exact vint (by omega), by first | rfl | exact vint (by omega), by first | rfl | exact vint (by omega), by first | rfl | exact vint (by omega), trivial⟩
                  · skip
                    refine r_cons (s_lss false rfl rfl (dfalse hc94) rfl ?_)
                    refine r_nil ?_
                    refine g_false rfl ?_
                    refine g_exit (by rfl) ?_
                    refine g_inBlock ?_
                    refine g_region ?_
                    refine r_cons (s_move (.int .i64 (q : Int)) rfl rfl ?_)
                    refine r_cons (s_add ((q : Int) + 1) rfl rfl (wi64 (by omega)) rfl ?_)
                    refine r_cons (s_assign (.int .i64 ((q : Int) + 1)) rfl rfl ?_)
                    refine r_nil ?_
                    have H100 : St W w91 (Im 1 (.slice pp29 ((varsS (n.kids.getD j default)).length) cc30) ((varsS (n.kids.getD j default)).length) ((varsS (n.kids.getD j default)).flatMap strCell) :: NodeA (n.kids.getD j default) :: imi (0 < n.kids.length) gA8 (.cells kA10 eA11 zA12) :: blk bk3 (.cells #[.int .i64 n.kind.v, .string n.var.v, .string n.typ.v, .slice n.tp n.tests.length n.tc, .slice n.kp n.kids.length n.kc] 25 (0, 0)) :: Im 5 (.slice n.kp n.kids.length n.kc) n.kids.length (n.kids.flatMap nodeCell) :: NodesA n.kids :: F) := (((((((((H92.move 8 rfl).move 8 rfl).move 8 rfl).move 8 rfl).move 8 rfl).move 8 rfl).drop 6 rfl).drop 6 rfl).drop 6 rfl)
                    exact nx37 (q + 1) _ _ ⟨(by omega), (fun i hi => (Nat.lt_or_ge i q).elim (hz2 i) (fun h => by rw [show i = q from by omega]; exact not_mem_of_has (fun u hu => hz3 u (by omega)))), H100⟩ (by first | (dsimp only; omega) | omega) ⟨by first | rfl | exact vint (by omega), by first | rfl | exact vint (by omega), by first | rfl | exact vint (by omega), by first | rfl | exact vint (by omega), by first | rfl | exact vint (by omega), trivial⟩
              · skip
                refine s_eql false rfl rfl (dfalse hc70) rfl ?_
                refine r_cons (r_take rfl rfl ?_)
                refine s_pick_f (.bool false) rfl rfl rfl ?_
                refine r_cons (s_pick_t (.bool false) rfl rfl rfl ?_)
                refine r_nil ?_
                refine g_false rfl ?_
                refine g_exit (by rfl) ?_
                refine g_inBlock ?_
                refine g_region ?_
                refine r_cons (s_move (.int .i64 (j : Int)) rfl rfl ?_)
                refine r_cons (s_add ((j : Int) + 1) rfl rfl (wi64 (by omega)) rfl ?_)
                refine r_cons (s_assign (.int .i64 ((j : Int) + 1)) rfl rfl ?_)
                refine r_nil ?_
                have H101 : St W w35 (imi (0 < n.kids.length) gA8 (.cells kA10 eA11 zA12) :: blk bk3 (.cells #[.int .i64 n.kind.v, .string n.var.v, .string n.typ.v, .slice n.tp n.tests.length n.tc, .slice n.kp n.kids.length n.kc] 25 (0, 0)) :: Im 5 (.slice n.kp n.kids.length n.kc) n.kids.length (n.kids.flatMap nodeCell) :: NodesA n.kids :: F) := ((((((H36.move 5 rfl).move 5 rfl).move 5 rfl).move 5 rfl).drop 4 rfl).drop 4 rfl)
                exact nx23 (j + 1) _ _ ⟨(by omega), (Hres_rnext hres (by omega) (by omega) (fun hb9 => by have hb8 := of_decide_eq_true hb9; exact (by first | exact (fun i hi => hz2 i (by omega)) | (exfalso; omega)))), H101⟩ (by first | (dsimp only; omega) | omega) ⟨by first | rfl | exact vint (by omega), by first | rfl | exact vint (by omega), by first | rfl | exact vint (by omega), trivial⟩
          · skip
            refine r_cons (s_lss false rfl rfl (dfalse hc38) rfl ?_)
            refine r_cons (s_move (.bool false) rfl rfl ?_)
            refine r_cons (r_pass rfl rfl rfl rfl rfl ?_)
            refine r_cons (r_pass rfl rfl rfl rfl rfl ?_)
            refine r_cons (r_pass rfl rfl rfl rfl rfl ?_)
            refine r_cons (r_pass rfl rfl rfl rfl rfl ?_)
            refine r_cons (r_passN rfl rfl rfl rfl ?_)
            refine r_cons (r_passN rfl rfl rfl rfl ?_)
            refine r_cons (r_passN rfl rfl rfl rfl ?_)
            refine r_cons (r_pass rfl rfl rfl rfl rfl ?_)
            refine r_cons (s_pick_f (.bool false) rfl rfl rfl ?_)
            refine r_nil ?_
            refine g_false rfl ?_
            refine g_exit (by rfl) ?_
            refine g_inBlock ?_
            refine g_region ?_
            refine r_cons (s_move (.int .i64 (j : Int)) rfl rfl ?_)
            refine r_cons (s_add ((j : Int) + 1) rfl rfl (wi64 (by omega)) rfl ?_)
            refine r_cons (s_assign (.int .i64 ((j : Int) + 1)) rfl rfl ?_)
            refine r_nil ?_
            have H102 : St W w35 (imi (0 < n.kids.length) gA8 (.cells kA10 eA11 zA12) :: blk bk3 (.cells #[.int .i64 n.kind.v, .string n.var.v, .string n.typ.v, .slice n.tp n.tests.length n.tc, .slice n.kp n.kids.length n.kc] 25 (0, 0)) :: Im 5 (.slice n.kp n.kids.length n.kc) n.kids.length (n.kids.flatMap nodeCell) :: NodesA n.kids :: F) := ((((((H36.move 5 rfl).move 5 rfl).move 5 rfl).move 5 rfl).drop 4 rfl).drop 4 rfl)
            exact nx23 (j + 1) _ _ ⟨(by omega), (Hres_rnext hres (by omega) (by omega) (fun hb9 => by have hb8 := of_decide_eq_true hb9; exact (by first | exact (fun i hi => hz2 i (by omega)) | (exfalso; omega)))), H102⟩ (by first | (dsimp only; omega) | omega) ⟨by first | rfl | exact vint (by omega), by first | rfl | exact vint (by omega), by first | rfl | exact vint (by omega), trivial⟩
      · skip
        refine r_cons (s_neq true rfl rfl (nfalse hc28) rfl ?_)
        refine r_nil ?_
        refine g_true rfl ?_
        refine g_seq ?_
        refine g_region ?_
        refine r_cons (s_move (.int .i64 (bindsE (n.kids.getD j default))) rfl rfl ?_)
        refine r_cons (s_assign (.int .i64 (bindsE (n.kids.getD j default))) rfl rfl ?_)
        refine r_nil ?_
        refine g_ret' [.int .i64 (bindsE (n.kids.getD j default))] Try.func22 Try.results22 ⟨rfl, trivial⟩ ?_
        have H103 : St W w26 F := (((((H27.drop 0 rfl).drop 0 rfl).drop 0 rfl).drop 0 rfl).drop 0 rfl)
        exact ⟨vint (Hres_bad hres (by omega) (by omega)), H103⟩
    · skip
      refine r_cons (s_lss false rfl rfl (dfalse hc24) rfl ?_)
      refine r_nil ?_
      refine g_false rfl ?_
      refine g_exit (by rfl) ?_
      refine g_seq ?_
      refine g_region ?_
      refine r_cons (s_assign (.int .i64 0) rfl rfl ?_)
      refine r_nil ?_
      refine g_ret' [.int .i64 0] Try.func22 Try.results22 ⟨rfl, trivial⟩ ?_
      have H104 : St W w21 F := ((((H22.drop 0 rfl).drop 0 rfl).drop 0 rfl).drop 0 rfl)
      exact ⟨vint (Hres_end hres (by omega)), H104⟩
theorem ref07_Binds {W w : World} {F : List Atom} (n : NodeD)  {i : Nat} (hi : F[i]? = some (NodeA n)) (hz : sizeN n ≤ 1048576) (H : St W w F) : Calls Try.prog 22 #[.agg #[.int .i64 n.kind.v, .string n.var.v, .string n.typ.v, .slice n.tp n.tests.length n.tc, .slice n.kp n.kids.length n.kc]] w (Ret fun v w' => v = .int .i64 (bindsE n) ∧ St W w' F) := ref07_Binds_r (sizeOf n + 1) n (Nat.lt_succ_self _) hi hz H
set_option maxHeartbeats 4000000 in
set_option maxRecDepth 100000 in
theorem check_operand {W w : World} {F : List Atom} (o : OpdV) (vars : List Str) (vv : Value) {jv : Nat} (hv : F[jv]? = some (Im 1 vv vars.length (vars.flatMap strCell))) (H : St W w F) : Calls Try.prog 46 #[.agg #[.string o.var.v, .string o.attr.v, .int .i64 o.val.kind.v, .int .i64 o.val.n.v, .string o.val.s.v], vv] w (Ret fun v w' => v = .bool (opE o vars) ∧ St W w' F) := by
  obtain ⟨pp1, cc2, rfl, hn3⟩ := Rd.shape (Im.rd H (i := jv) hv)
  have H4 := H.dup (i := jv + 0) (by exact hv) (Im_pers _ _ _ _)
  have H5 : St W w (Im 1 (.slice pp1 vars.length cc2) vars.length (vars.flatMap strCell) :: F) := H4
  refine calls_of_go (n := 37) Try.func46 rfl Try.ntmps46 rfl ?_
  refine g_seq ?_
  refine g_region ?_
  refine r_cons (s_box H5 41 (.agg #[.string o.var.v, .string o.attr.v, .int .i64 o.val.kind.v, .int .i64 o.val.n.v, .string o.val.s.v]) rfl (cs := #[.string o.var.v, .string o.attr.v, .int .i64 o.val.kind.v, .int .i64 o.val.n.v, .string o.val.s.v]) rfl rfl ?_); intro bk6 w7 H8
  refine r_cons (s_assign (.bool false) rfl rfl ?_)
  refine r_nil ?_
  refine g_seq ?_
  refine g_seq ?_
  refine g_region ?_
  refine r_cons (s_fieldAddr 41 1 1 1 9 rfl fi_41_1 rfl rfl ?_)
  refine r_cons (s_load (.string o.attr.v) ag_9 rfl (H8.blk_at (i := 0) rfl) rfl rfl ?_)
  by_cases hc9 : o.attr.v = ByteArray.empty
  · skip
    refine r_cons (s_seql true rfl rfl (dtrue hc9) rfl ?_)
    refine r_nil ?_
    refine g_true rfl ?_
    refine g_seq ?_
    refine g_region ?_
    refine r_cons (s_fieldAddr 41 0 0 0 9 rfl fi_41_0 rfl rfl ?_)
    refine r_cons (s_load (.string o.var.v) ag_9 rfl (H8.blk_at (i := 0) rfl) rfl rfl ?_)
    by_cases hc10 : o.var.v = ByteArray.empty
    · skip
      refine r_cons (s_seql true rfl rfl (dtrue hc10) rfl ?_)
      refine r_cons (s_move (.bool true) rfl rfl ?_)
      refine r_cons (r_take rfl rfl ?_)
      refine s_fieldAddr 41 2 2 2 39 rfl fi_41_2 rfl rfl ?_
      refine r_cons (r_take rfl rfl ?_)
      refine s_loadAgg [.int .i64 o.val.kind.v, .int .i64 o.val.n.v, .string o.val.s.v] 3 ag_39 rfl (H8.blk_at (i := 0) rfl) (Nat.le_of_ble_eq_true rfl) rfl rfl ?_
      refine r_cons (r_take rfl rfl ?_)
      refine s_call [.agg #[.int .i64 o.val.kind.v, .int .i64 o.val.n.v, .string o.val.s.v]] pl_60 rfl rfl (value_Check o.val.kind.v o.val.n.v o.val.s.v H8) ?_
      rintro _ w11 ⟨rfl, H12⟩
      refine r_cons (r_take rfl rfl ?_)
      by_cases hc13 : valE o.val.kind.v o.val.n.v o.val.s.v = 0
      · skip
        refine s_eql true rfl rfl (dtrue hc13) rfl ?_
        refine r_cons (s_pick_t (.bool true) rfl rfl rfl ?_)
        refine r_cons (s_assign (.bool true) rfl rfl ?_)
        refine r_nil ?_
        refine g_ret' [.bool true] Try.func46 Try.results46 ⟨rfl, trivial⟩ ?_
        have H14 : St W w11 F := ((H12.drop 0 rfl).drop 0 rfl)
        exact ⟨congrArg Value.bool (show (true) = opE o vars from by unfold opE; rw [if_pos hc9]; rw [decide_eq_true hc10]; rw [decide_eq_true hc13]; rfl), H14⟩
      · skip
        refine s_eql false rfl rfl (dfalse hc13) rfl ?_
        refine r_cons (s_pick_t (.bool false) rfl rfl rfl ?_)
        refine r_cons (s_assign (.bool false) rfl rfl ?_)
        refine r_nil ?_
        refine g_ret' [.bool false] Try.func46 Try.results46 ⟨rfl, trivial⟩ ?_
        have H15 : St W w11 F := ((H12.drop 0 rfl).drop 0 rfl)
        exact ⟨congrArg Value.bool (show (false) = opE o vars from by unfold opE; rw [if_pos hc9]; rw [decide_eq_true hc10]; rw [decide_eq_false hc13]; rfl), H15⟩
    · skip
      refine r_cons (s_seql false rfl rfl (dfalse hc10) rfl ?_)
      refine r_cons (s_move (.bool false) rfl rfl ?_)
      refine r_cons (r_pass rfl rfl rfl rfl rfl ?_)
      refine r_cons (r_pass rfl rfl rfl rfl rfl ?_)
      refine r_cons (r_pass rfl rfl rfl rfl rfl ?_)
      refine r_cons (r_pass rfl rfl rfl rfl rfl ?_)
      refine r_cons (s_pick_f (.bool false) rfl rfl rfl ?_)
      refine r_cons (s_assign (.bool false) rfl rfl ?_)
      refine r_nil ?_
      refine g_ret' [.bool false] Try.func46 Try.results46 ⟨rfl, trivial⟩ ?_
      have H16 : St W w7 F := ((H8.drop 0 rfl).drop 0 rfl)
      exact ⟨congrArg Value.bool (show (false) = opE o vars from by unfold opE; rw [if_pos hc9]; rw [decide_eq_false hc10]; rfl), H16⟩
  · skip
    refine r_cons (s_seql false rfl rfl (dfalse hc9) rfl ?_)
    refine r_nil ?_
    refine g_false rfl ?_
    refine g_skip ?_
    refine g_seq ?_
    refine g_seq ?_
    refine g_region ?_
    refine r_cons (s_fieldAddr 41 2 2 2 39 rfl fi_41_2 rfl rfl ?_)
    refine r_cons (s_loadAgg [.int .i64 o.val.kind.v, .int .i64 o.val.n.v, .string o.val.s.v] 3 ag_39 rfl (H8.blk_at (i := 0) rfl) (Nat.le_of_ble_eq_true rfl) rfl rfl ?_)
    refine r_cons (s_build (cs := #[.int .i64 0, .int .i64 0, .string ByteArray.empty]) (by kernel_rfl) rfl ?_)
    refine r_cons (s_aneq (!(sameVal o.val default)) gd_39 ev_39 rfl rfl rfl rfl ?_)
    refine r_cons (s_move (.bool (!(sameVal o.val default))) rfl rfl ?_)
    by_cases hb17 : (!(sameVal o.val default)) = true
    · skip
      refine r_cons (r_pass rfl (congrArg some hb17) rfl rfl rfl ?_)
      refine r_cons (r_pass rfl (congrArg some hb17) rfl rfl rfl ?_)
      refine r_cons (r_pass rfl (congrArg some hb17) rfl rfl rfl ?_)
      refine r_cons (r_pass rfl (congrArg some hb17) rfl rfl rfl ?_)
      refine r_cons (s_pick_t (.bool true) (by exact congrArg Value.bool hb17) rfl rfl ?_)
      refine r_nil ?_
      refine g_true rfl ?_
      refine g_seq ?_
      refine g_region ?_
      refine r_cons (s_assign (.bool false) rfl rfl ?_)
      refine r_nil ?_
      refine g_ret' [.bool false] Try.func46 Try.results46 ⟨rfl, trivial⟩ ?_
      have H18 : St W w7 F := ((H8.drop 0 rfl).drop 0 rfl)
      exact ⟨congrArg Value.bool (show (false) = opE o vars from by unfold opE; rw [if_neg hc9]; first | (simp only [hb17]; rfl) | (simp [hb17]; done) | (simp_all; done)), H18⟩
    · have hb17 := eq_false_of_ne_true hb17
      refine r_cons (r_take rfl (congrArg some hb17) ?_)
      refine s_fieldAddr 41 1 1 1 9 rfl fi_41_1 rfl rfl ?_
      refine r_cons (r_take rfl (congrArg some hb17) ?_)
      refine s_load (.string o.attr.v) ag_9 rfl (H8.blk_at (i := 0) rfl) rfl rfl ?_
      refine r_cons (r_take rfl (congrArg some hb17) ?_)
      refine s_call [.string o.attr.v] pl_37 rfl rfl (value_Name o.attr.v o.attr.ok H8) ?_
      rintro _ w19 ⟨rfl, H20⟩
      refine r_cons (r_take rfl (congrArg some hb17) ?_)
      refine s_not (nameB o.attr.v) rfl (!(nameB o.attr.v)) rfl rfl ?_
      refine r_cons (s_pick_f (.bool (!(nameB o.attr.v))) (by exact congrArg Value.bool hb17) rfl rfl ?_)
      refine r_nil ?_
      by_cases hb21 : (!(nameB o.attr.v)) = true
      · skip
        refine g_true (congrArg Value.bool hb21) ?_
        refine g_seq ?_
        refine g_region ?_
        refine r_cons (s_assign (.bool false) rfl rfl ?_)
        refine r_nil ?_
        refine g_ret' [.bool false] Try.func46 Try.results46 ⟨rfl, trivial⟩ ?_
        have H22 : St W w19 F := ((H20.drop 0 rfl).drop 0 rfl)
        exact ⟨congrArg Value.bool (show (false) = opE o vars from by unfold opE; rw [if_neg hc9]; first | (simp only [hb17, hb21]; rfl) | (simp [hb17, hb21]; done) | (simp_all; done)), H22⟩
      · have hb21 := eq_false_of_ne_true hb21
        refine g_false (congrArg Value.bool hb21) ?_
        refine g_skip ?_
        refine g_seq ?_
        refine g_seq ?_
        refine g_region ?_
        refine r_cons (s_move (.slice pp1 vars.length cc2) rfl rfl ?_)
        refine r_cons (s_len vars.length rfl ⟨_, un_36⟩ rfl ?_)
        by_cases hc23 : (vars.length : Int) = 0
        · skip
          refine r_cons (s_eql true rfl rfl (dtrue hc23) rfl ?_)
          refine r_nil ?_
          refine g_true rfl ?_
          refine g_seq ?_
          refine g_region ?_
          refine r_cons (s_fieldAddr 41 0 0 0 9 rfl fi_41_0 rfl rfl ?_)
          refine r_cons (s_load (.string o.var.v) ag_9 rfl (H20.blk_at (i := 0) rfl) rfl rfl ?_)
          by_cases hc24 : o.var.v = ByteArray.empty
          · skip
            refine r_cons (s_seql true rfl rfl (dtrue hc24) rfl ?_)
            refine r_cons (s_assign (.bool true) rfl rfl ?_)
            refine r_nil ?_
            refine g_ret' [.bool true] Try.func46 Try.results46 ⟨rfl, trivial⟩ ?_
            have H25 : St W w19 F := ((H20.drop 0 rfl).drop 0 rfl)
            exact ⟨congrArg Value.bool (show (true) = opE o vars from by unfold opE; rw [if_neg hc9]; rw [if_pos (show vars.length = 0 from by omega)]; first | (simp only [hb17, hb21]; rfl) | (simp [hb17, hb21, hc24, hc23]; done) | (simp_all; done)), H25⟩
          · skip
            refine r_cons (s_seql false rfl rfl (dfalse hc24) rfl ?_)
            refine r_cons (s_assign (.bool false) rfl rfl ?_)
            refine r_nil ?_
            refine g_ret' [.bool false] Try.func46 Try.results46 ⟨rfl, trivial⟩ ?_
            have H26 : St W w19 F := ((H20.drop 0 rfl).drop 0 rfl)
            exact ⟨congrArg Value.bool (show (false) = opE o vars from by unfold opE; rw [if_neg hc9]; rw [if_pos (show vars.length = 0 from by omega)]; first | (simp only [hb17, hb21]; rfl) | (simp [hb17, hb21, hc24, hc23]; done) | (simp_all; done)), H26⟩
        · skip
          refine r_cons (s_eql false rfl rfl (dfalse hc23) rfl ?_)
          refine r_nil ?_
          refine g_false rfl ?_
          refine g_skip ?_
          refine g_seq ?_
          refine g_region ?_
          refine r_cons (s_move (.slice pp1 vars.length cc2) rfl rfl ?_)
          refine r_cons (s_fieldAddr 41 0 0 0 9 rfl fi_41_0 rfl rfl ?_)
          refine r_cons (s_load (.string o.var.v) ag_9 rfl (H20.blk_at (i := 0) rfl) rfl rfl ?_)
          refine r_cons (s_call [.slice pp1 vars.length cc2, .string o.var.v] pl_48 rfl rfl (Contains_str vars (.slice pp1 vars.length cc2) o.var.v (m := 1) rfl H20) ?_)
          rintro _ w27 ⟨rfl, H28⟩
          refine r_cons (s_assign (.bool (hasS vars o.var.v)) rfl rfl ?_)
          refine r_nil ?_
          refine g_ret' [.bool (hasS vars o.var.v)] Try.func46 Try.results46 ⟨rfl, trivial⟩ ?_
          have H29 : St W w27 F := ((H28.drop 0 rfl).drop 0 rfl)
          exact ⟨congrArg Value.bool (show (hasS vars o.var.v) = opE o vars from by unfold opE; rw [if_neg hc9]; rw [if_neg (show ¬ vars.length = 0 from by omega)]; first | (simp only [hb17, hb21]; rfl) | (simp [hb17, hb21, hc23]; done) | (simp_all; done)), H29⟩
set_option maxHeartbeats 4000000 in
set_option maxRecDepth 100000 in
theorem ref07_operand {W w : World} {F : List Atom} (o : OpdV) (vars : List Str) (vv : Value) {jv : Nat} (hv : F[jv]? = some (Im 1 vv vars.length (vars.flatMap strCell))) (H : St W w F) : Calls Try.prog 47 #[.agg #[.string o.var.v, .string o.attr.v, .int .i64 o.val.kind.v, .int .i64 o.val.n.v, .string o.val.s.v], vv] w (Ret fun v w' => v = .bool (opE o vars) ∧ St W w' F) := by
  obtain ⟨pp1, cc2, rfl, hn3⟩ := Rd.shape (Im.rd H (i := jv) hv)
  have H4 := H.dup (i := jv + 0) (by exact hv) (Im_pers _ _ _ _)
  have H5 : St W w (Im 1 (.slice pp1 vars.length cc2) vars.length (vars.flatMap strCell) :: F) := H4
  refine calls_of_go (n := 40) Try.func47 rfl Try.ntmps47 rfl ?_
  refine g_seq ?_
  refine g_region ?_
  refine r_cons (s_box H5 41 (.agg #[.string o.var.v, .string o.attr.v, .int .i64 o.val.kind.v, .int .i64 o.val.n.v, .string o.val.s.v]) rfl (cs := #[.string o.var.v, .string o.attr.v, .int .i64 o.val.kind.v, .int .i64 o.val.n.v, .string o.val.s.v]) rfl rfl ?_); intro bk6 w7 H8
  refine r_cons (s_assign (.bool false) rfl rfl ?_)
  refine r_nil ?_
  refine g_seq ?_
  refine g_seq ?_
  refine g_region ?_
  refine r_cons (s_fieldAddr 41 1 1 1 9 rfl fi_41_1 rfl rfl ?_)
  refine r_cons (s_load (.string o.attr.v) ag_9 rfl (H8.blk_at (i := 0) rfl) rfl rfl ?_)
  by_cases hc9 : o.attr.v = ByteArray.empty
  · skip
    refine r_cons (s_seql true rfl rfl (dtrue hc9) rfl ?_)
    refine r_nil ?_
    refine g_true rfl ?_
    refine g_seq ?_
    refine g_region ?_
    refine r_cons (s_fieldAddr 41 0 0 0 9 rfl fi_41_0 rfl rfl ?_)
    refine r_cons (s_load (.string o.var.v) ag_9 rfl (H8.blk_at (i := 0) rfl) rfl rfl ?_)
    by_cases hc10 : o.var.v = ByteArray.empty
    · skip
      refine r_cons (s_seql true rfl rfl (dtrue hc10) rfl ?_)
      refine r_cons (s_move (.bool true) rfl rfl ?_)
      refine r_cons (r_take rfl rfl ?_)
      refine s_fieldAddr 41 2 2 2 39 rfl fi_41_2 rfl rfl ?_
      refine r_cons (r_take rfl rfl ?_)
      refine s_loadAgg [.int .i64 o.val.kind.v, .int .i64 o.val.n.v, .string o.val.s.v] 3 ag_39 rfl (H8.blk_at (i := 0) rfl) (Nat.le_of_ble_eq_true rfl) rfl rfl ?_
      refine r_cons (r_take rfl rfl ?_)
      refine s_call [.agg #[.int .i64 o.val.kind.v, .int .i64 o.val.n.v, .string o.val.s.v]] pl_61 rfl rfl (ref03_Check o.val.kind.v o.val.n.v o.val.s.v H8) ?_
      rintro _ w11 ⟨rfl, H12⟩
      refine r_cons (r_take rfl rfl ?_)
      by_cases hc13 : valE o.val.kind.v o.val.n.v o.val.s.v = 0
      · skip
        refine s_eql true rfl rfl (dtrue hc13) rfl ?_
        refine r_cons (s_pick_t (.bool true) rfl rfl rfl ?_)
        refine r_cons (s_assign (.bool true) rfl rfl ?_)
        refine r_nil ?_
        refine g_ret' [.bool true] Try.func47 Try.results47 ⟨rfl, trivial⟩ ?_
        have H14 : St W w11 F := ((H12.drop 0 rfl).drop 0 rfl)
        exact ⟨congrArg Value.bool (show (true) = opE o vars from by unfold opE; rw [if_pos hc9]; rw [decide_eq_true hc10]; rw [decide_eq_true hc13]; rfl), H14⟩
      · skip
        refine s_eql false rfl rfl (dfalse hc13) rfl ?_
        refine r_cons (s_pick_t (.bool false) rfl rfl rfl ?_)
        refine r_cons (s_assign (.bool false) rfl rfl ?_)
        refine r_nil ?_
        refine g_ret' [.bool false] Try.func47 Try.results47 ⟨rfl, trivial⟩ ?_
        have H15 : St W w11 F := ((H12.drop 0 rfl).drop 0 rfl)
        exact ⟨congrArg Value.bool (show (false) = opE o vars from by unfold opE; rw [if_pos hc9]; rw [decide_eq_true hc10]; rw [decide_eq_false hc13]; rfl), H15⟩
    · skip
      refine r_cons (s_seql false rfl rfl (dfalse hc10) rfl ?_)
      refine r_cons (s_move (.bool false) rfl rfl ?_)
      refine r_cons (r_pass rfl rfl rfl rfl rfl ?_)
      refine r_cons (r_pass rfl rfl rfl rfl rfl ?_)
      refine r_cons (r_pass rfl rfl rfl rfl rfl ?_)
      refine r_cons (r_pass rfl rfl rfl rfl rfl ?_)
      refine r_cons (s_pick_f (.bool false) rfl rfl rfl ?_)
      refine r_cons (s_assign (.bool false) rfl rfl ?_)
      refine r_nil ?_
      refine g_ret' [.bool false] Try.func47 Try.results47 ⟨rfl, trivial⟩ ?_
      have H16 : St W w7 F := ((H8.drop 0 rfl).drop 0 rfl)
      exact ⟨congrArg Value.bool (show (false) = opE o vars from by unfold opE; rw [if_pos hc9]; rw [decide_eq_false hc10]; rfl), H16⟩
  · skip
    refine r_cons (s_seql false rfl rfl (dfalse hc9) rfl ?_)
    refine r_nil ?_
    refine g_false rfl ?_
    refine g_skip ?_
    refine g_seq ?_
    refine g_region ?_
    refine r_cons (s_fieldAddr 41 0 0 0 9 rfl fi_41_0 rfl rfl ?_)
    refine r_cons (s_load (.string o.var.v) ag_9 rfl (H8.blk_at (i := 0) rfl) rfl rfl ?_)
    by_cases hc17 : o.var.v = ByteArray.empty
    · skip
      refine r_cons (s_seql true rfl rfl (dtrue hc17) rfl ?_)
      refine r_cons (s_assign (.bool true) rfl rfl ?_)
      refine r_nil ?_
      refine g_seq ?_
      refine g_seq ?_
      refine g_region ?_
      refine r_cons (s_move (.slice pp1 vars.length cc2) rfl rfl ?_)
      refine r_cons (s_len vars.length rfl ⟨_, un_36⟩ rfl ?_)
      by_cases hc18 : (0 : Int) < (vars.length : Int)
      · skip
        refine r_cons (s_gtr true rfl rfl (dtrue hc18) rfl ?_)
        refine r_nil ?_
        refine g_true rfl ?_
        refine g_region ?_
        refine r_cons (s_move (.slice pp1 vars.length cc2) rfl rfl ?_)
        refine r_cons (s_fieldAddr 41 0 0 0 9 rfl fi_41_0 rfl rfl ?_)
        refine r_cons (s_load (.string o.var.v) ag_9 rfl (H8.blk_at (i := 0) rfl) rfl rfl ?_)
        refine r_cons (s_call [.slice pp1 vars.length cc2, .string o.var.v] pl_42 rfl rfl (ref07_Has vars (.slice pp1 vars.length cc2) o.var.v (m := 1) rfl H8) ?_)
        rintro _ w19 ⟨rfl, H20⟩
        refine r_cons (s_assign (.bool (hasS vars o.var.v)) rfl rfl ?_)
        refine r_nil ?_
        refine g_seq ?_
        refine g_region ?_
        refine r_cons (s_move (.bool (hasS vars o.var.v)) rfl rfl ?_)
        refine r_cons (s_move (.bool (hasS vars o.var.v)) rfl rfl ?_)
        by_cases hb21 : (hasS vars o.var.v) = true
        · skip
          refine r_cons (r_take rfl (congrArg some hb21) ?_)
          refine s_fieldAddr 41 2 2 2 39 rfl fi_41_2 rfl rfl ?_
          refine r_cons (r_take rfl (congrArg some hb21) ?_)
          refine s_loadAgg [.int .i64 o.val.kind.v, .int .i64 o.val.n.v, .string o.val.s.v] 3 ag_39 rfl (H20.blk_at (i := 0) rfl) (Nat.le_of_ble_eq_true rfl) rfl rfl ?_
          refine r_cons (r_take rfl (congrArg some hb21) ?_)
          refine s_build (cs := #[.int .i64 0, .int .i64 0, .string ByteArray.empty]) (by kernel_rfl) rfl ?_
          refine r_cons (r_take rfl (congrArg some hb21) ?_)
          refine s_aeql (sameVal o.val default) gd_39 ev_39 rfl rfl rfl rfl ?_
          refine r_cons (s_pick_t (.bool (sameVal o.val default)) (by exact congrArg Value.bool hb21) rfl rfl ?_)
          refine r_cons (s_move (.bool (sameVal o.val default)) rfl rfl ?_)
          by_cases hb22 : (sameVal o.val default) = true
          · skip
            refine r_cons (r_take rfl (congrArg some hb22) ?_)
            refine s_fieldAddr 41 1 1 1 9 rfl fi_41_1 rfl rfl ?_
            refine r_cons (r_take rfl (congrArg some hb22) ?_)
            refine s_load (.string o.attr.v) ag_9 rfl (H20.blk_at (i := 0) rfl) rfl rfl ?_
            refine r_cons (r_take rfl (congrArg some hb22) ?_)
            refine s_call [.string o.attr.v] pl_39 rfl rfl (ref03_Name o.attr.v o.attr.ok H20) ?_
            rintro _ w23 ⟨rfl, H24⟩
            refine r_cons (s_pick_t (.bool (nameB o.attr.v)) (by exact congrArg Value.bool hb22) rfl rfl ?_)
            refine r_cons (s_assign (.bool (nameB o.attr.v)) rfl rfl ?_)
            refine r_nil ?_
            refine g_ret' [.bool (nameB o.attr.v)] Try.func47 Try.results47 ⟨rfl, trivial⟩ ?_
            have H25 : St W w23 F := ((H24.drop 0 rfl).drop 0 rfl)
            exact ⟨congrArg Value.bool (show (nameB o.attr.v) = opE o vars from by unfold opE; rw [if_neg hc9]; rw [if_neg (show ¬ vars.length = 0 from by omega)]; first | (simp only [hb22]; rfl) | (simp [hb22, hb21, hc17, hc18]; done) | (simp_all; done)), H25⟩
          · have hb22 := eq_false_of_ne_true hb22
            refine r_cons (r_pass rfl (congrArg some hb22) rfl rfl rfl ?_)
            refine r_cons (r_pass rfl (congrArg some hb22) rfl rfl rfl ?_)
            refine r_cons (r_pass rfl (congrArg some hb22) rfl rfl rfl ?_)
            refine r_cons (s_pick_f (.bool false) (by exact congrArg Value.bool hb22) rfl rfl ?_)
            refine r_cons (s_assign (.bool false) rfl rfl ?_)
            refine r_nil ?_
            refine g_ret' [.bool false] Try.func47 Try.results47 ⟨rfl, trivial⟩ ?_
            have H26 : St W w19 F := ((H20.drop 0 rfl).drop 0 rfl)
            exact ⟨congrArg Value.bool (show (false) = opE o vars from by unfold opE; rw [if_neg hc9]; rw [if_neg (show ¬ vars.length = 0 from by omega)]; first | (simp only [hb22]; rfl) | (simp [hb22, hb21, hc17, hc18]; done) | (simp_all; done)), H26⟩
        · have hb21 := eq_false_of_ne_true hb21
          refine r_cons (r_pass rfl (congrArg some hb21) rfl rfl rfl ?_)
          refine r_cons (r_pass rfl (congrArg some hb21) rfl rfl rfl ?_)
          refine r_cons (r_pass rfl (congrArg some hb21) rfl rfl rfl ?_)
          refine r_cons (r_pass rfl (congrArg some hb21) rfl rfl rfl ?_)
          refine r_cons (s_pick_f (.bool false) (by exact congrArg Value.bool hb21) rfl rfl ?_)
          refine r_cons (s_move (.bool false) rfl rfl ?_)
          refine r_cons (r_pass rfl rfl rfl rfl rfl ?_)
          refine r_cons (r_pass rfl rfl rfl rfl rfl ?_)
          refine r_cons (r_pass rfl rfl rfl rfl rfl ?_)
          refine r_cons (s_pick_f (.bool false) rfl rfl rfl ?_)
          refine r_cons (s_assign (.bool false) rfl rfl ?_)
          refine r_nil ?_
          refine g_ret' [.bool false] Try.func47 Try.results47 ⟨rfl, trivial⟩ ?_
          have H27 : St W w19 F := ((H20.drop 0 rfl).drop 0 rfl)
          exact ⟨congrArg Value.bool (show (false) = opE o vars from by unfold opE; rw [if_neg hc9]; rw [if_neg (show ¬ vars.length = 0 from by omega)]; first | (simp only []; rfl) | (simp [hb21, hc17, hc18]; done) | (simp_all; done)), H27⟩
      · skip
        refine r_cons (s_gtr false rfl rfl (dfalse hc18) rfl ?_)
        refine r_nil ?_
        refine g_false rfl ?_
        refine g_skip ?_
        refine g_seq ?_
        refine g_region ?_
        refine r_cons (s_move (.bool true) rfl rfl ?_)
        refine r_cons (s_move (.bool true) rfl rfl ?_)
        refine r_cons (r_take rfl rfl ?_)
        refine s_fieldAddr 41 2 2 2 39 rfl fi_41_2 rfl rfl ?_
        refine r_cons (r_take rfl rfl ?_)
        refine s_loadAgg [.int .i64 o.val.kind.v, .int .i64 o.val.n.v, .string o.val.s.v] 3 ag_39 rfl (H8.blk_at (i := 0) rfl) (Nat.le_of_ble_eq_true rfl) rfl rfl ?_
        refine r_cons (r_take rfl rfl ?_)
        refine s_build (cs := #[.int .i64 0, .int .i64 0, .string ByteArray.empty]) (by kernel_rfl) rfl ?_
        refine r_cons (r_take rfl rfl ?_)
        refine s_aeql (sameVal o.val default) gd_39 ev_39 rfl rfl rfl rfl ?_
        refine r_cons (s_pick_t (.bool (sameVal o.val default)) rfl rfl rfl ?_)
        refine r_cons (s_move (.bool (sameVal o.val default)) rfl rfl ?_)
        by_cases hb28 : (sameVal o.val default) = true
        · skip
          refine r_cons (r_take rfl (congrArg some hb28) ?_)
          refine s_fieldAddr 41 1 1 1 9 rfl fi_41_1 rfl rfl ?_
          refine r_cons (r_take rfl (congrArg some hb28) ?_)
          refine s_load (.string o.attr.v) ag_9 rfl (H8.blk_at (i := 0) rfl) rfl rfl ?_
          refine r_cons (r_take rfl (congrArg some hb28) ?_)
          refine s_call [.string o.attr.v] pl_39 rfl rfl (ref03_Name o.attr.v o.attr.ok H8) ?_
          rintro _ w29 ⟨rfl, H30⟩
          refine r_cons (s_pick_t (.bool (nameB o.attr.v)) (by exact congrArg Value.bool hb28) rfl rfl ?_)
          refine r_cons (s_assign (.bool (nameB o.attr.v)) rfl rfl ?_)
          refine r_nil ?_
          refine g_ret' [.bool (nameB o.attr.v)] Try.func47 Try.results47 ⟨rfl, trivial⟩ ?_
          have H31 : St W w29 F := ((H30.drop 0 rfl).drop 0 rfl)
          exact ⟨congrArg Value.bool (show (nameB o.attr.v) = opE o vars from by unfold opE; rw [if_neg hc9]; rw [if_pos (show vars.length = 0 from by omega)]; first | (simp only [hb28]; rfl) | (simp [hb28, hc17, hc18]; done) | (simp_all; done)), H31⟩
        · have hb28 := eq_false_of_ne_true hb28
          refine r_cons (r_pass rfl (congrArg some hb28) rfl rfl rfl ?_)
          refine r_cons (r_pass rfl (congrArg some hb28) rfl rfl rfl ?_)
          refine r_cons (r_pass rfl (congrArg some hb28) rfl rfl rfl ?_)
          refine r_cons (s_pick_f (.bool false) (by exact congrArg Value.bool hb28) rfl rfl ?_)
          refine r_cons (s_assign (.bool false) rfl rfl ?_)
          refine r_nil ?_
          refine g_ret' [.bool false] Try.func47 Try.results47 ⟨rfl, trivial⟩ ?_
          have H32 : St W w7 F := ((H8.drop 0 rfl).drop 0 rfl)
          exact ⟨congrArg Value.bool (show (false) = opE o vars from by unfold opE; rw [if_neg hc9]; rw [if_pos (show vars.length = 0 from by omega)]; first | (simp only [hb28]; rfl) | (simp [hb28, hc17, hc18]; done) | (simp_all; done)), H32⟩
    · skip
      refine r_cons (s_seql false rfl rfl (dfalse hc17) rfl ?_)
      refine r_cons (s_assign (.bool false) rfl rfl ?_)
      refine r_nil ?_
      refine g_seq ?_
      refine g_seq ?_
      refine g_region ?_
      refine r_cons (s_move (.slice pp1 vars.length cc2) rfl rfl ?_)
      refine r_cons (s_len vars.length rfl ⟨_, un_36⟩ rfl ?_)
      by_cases hc33 : (0 : Int) < (vars.length : Int)
      · skip
        refine r_cons (s_gtr true rfl rfl (dtrue hc33) rfl ?_)
        refine r_nil ?_
        refine g_true rfl ?_
        refine g_region ?_
        refine r_cons (s_move (.slice pp1 vars.length cc2) rfl rfl ?_)
        refine r_cons (s_fieldAddr 41 0 0 0 9 rfl fi_41_0 rfl rfl ?_)
        refine r_cons (s_load (.string o.var.v) ag_9 rfl (H8.blk_at (i := 0) rfl) rfl rfl ?_)
        refine r_cons (s_call [.slice pp1 vars.length cc2, .string o.var.v] pl_42 rfl rfl (ref07_Has vars (.slice pp1 vars.length cc2) o.var.v (m := 1) rfl H8) ?_)
        rintro _ w34 ⟨rfl, H35⟩
        refine r_cons (s_assign (.bool (hasS vars o.var.v)) rfl rfl ?_)
        refine r_nil ?_
        refine g_seq ?_
        refine g_region ?_
        refine r_cons (s_move (.bool (hasS vars o.var.v)) rfl rfl ?_)
        refine r_cons (s_move (.bool (hasS vars o.var.v)) rfl rfl ?_)
        by_cases hb36 : (hasS vars o.var.v) = true
        · skip
          refine r_cons (r_take rfl (congrArg some hb36) ?_)
          refine s_fieldAddr 41 2 2 2 39 rfl fi_41_2 rfl rfl ?_
          refine r_cons (r_take rfl (congrArg some hb36) ?_)
          refine s_loadAgg [.int .i64 o.val.kind.v, .int .i64 o.val.n.v, .string o.val.s.v] 3 ag_39 rfl (H35.blk_at (i := 0) rfl) (Nat.le_of_ble_eq_true rfl) rfl rfl ?_
          refine r_cons (r_take rfl (congrArg some hb36) ?_)
          refine s_build (cs := #[.int .i64 0, .int .i64 0, .string ByteArray.empty]) (by kernel_rfl) rfl ?_
          refine r_cons (r_take rfl (congrArg some hb36) ?_)
          refine s_aeql (sameVal o.val default) gd_39 ev_39 rfl rfl rfl rfl ?_
          refine r_cons (s_pick_t (.bool (sameVal o.val default)) (by exact congrArg Value.bool hb36) rfl rfl ?_)
          refine r_cons (s_move (.bool (sameVal o.val default)) rfl rfl ?_)
          by_cases hb37 : (sameVal o.val default) = true
          · skip
            refine r_cons (r_take rfl (congrArg some hb37) ?_)
            refine s_fieldAddr 41 1 1 1 9 rfl fi_41_1 rfl rfl ?_
            refine r_cons (r_take rfl (congrArg some hb37) ?_)
            refine s_load (.string o.attr.v) ag_9 rfl (H35.blk_at (i := 0) rfl) rfl rfl ?_
            refine r_cons (r_take rfl (congrArg some hb37) ?_)
            refine s_call [.string o.attr.v] pl_39 rfl rfl (ref03_Name o.attr.v o.attr.ok H35) ?_
            rintro _ w38 ⟨rfl, H39⟩
            refine r_cons (s_pick_t (.bool (nameB o.attr.v)) (by exact congrArg Value.bool hb37) rfl rfl ?_)
            refine r_cons (s_assign (.bool (nameB o.attr.v)) rfl rfl ?_)
            refine r_nil ?_
            refine g_ret' [.bool (nameB o.attr.v)] Try.func47 Try.results47 ⟨rfl, trivial⟩ ?_
            have H40 : St W w38 F := ((H39.drop 0 rfl).drop 0 rfl)
            exact ⟨congrArg Value.bool (show (nameB o.attr.v) = opE o vars from by unfold opE; rw [if_neg hc9]; rw [if_neg (show ¬ vars.length = 0 from by omega)]; first | (simp only [hb37]; rfl) | (simp [hb37, hb36, hc17, hc33]; done) | (simp_all; done)), H40⟩
          · have hb37 := eq_false_of_ne_true hb37
            refine r_cons (r_pass rfl (congrArg some hb37) rfl rfl rfl ?_)
            refine r_cons (r_pass rfl (congrArg some hb37) rfl rfl rfl ?_)
            refine r_cons (r_pass rfl (congrArg some hb37) rfl rfl rfl ?_)
            refine r_cons (s_pick_f (.bool false) (by exact congrArg Value.bool hb37) rfl rfl ?_)
            refine r_cons (s_assign (.bool false) rfl rfl ?_)
            refine r_nil ?_
            refine g_ret' [.bool false] Try.func47 Try.results47 ⟨rfl, trivial⟩ ?_
            have H41 : St W w34 F := ((H35.drop 0 rfl).drop 0 rfl)
            exact ⟨congrArg Value.bool (show (false) = opE o vars from by unfold opE; rw [if_neg hc9]; rw [if_neg (show ¬ vars.length = 0 from by omega)]; first | (simp only [hb37]; rfl) | (simp [hb37, hb36, hc17, hc33]; done) | (simp_all; done)), H41⟩
        · have hb36 := eq_false_of_ne_true hb36
          refine r_cons (r_pass rfl (congrArg some hb36) rfl rfl rfl ?_)
          refine r_cons (r_pass rfl (congrArg some hb36) rfl rfl rfl ?_)
          refine r_cons (r_pass rfl (congrArg some hb36) rfl rfl rfl ?_)
          refine r_cons (r_pass rfl (congrArg some hb36) rfl rfl rfl ?_)
          refine r_cons (s_pick_f (.bool false) (by exact congrArg Value.bool hb36) rfl rfl ?_)
          refine r_cons (s_move (.bool false) rfl rfl ?_)
          refine r_cons (r_pass rfl rfl rfl rfl rfl ?_)
          refine r_cons (r_pass rfl rfl rfl rfl rfl ?_)
          refine r_cons (r_pass rfl rfl rfl rfl rfl ?_)
          refine r_cons (s_pick_f (.bool false) rfl rfl rfl ?_)
          refine r_cons (s_assign (.bool false) rfl rfl ?_)
          refine r_nil ?_
          refine g_ret' [.bool false] Try.func47 Try.results47 ⟨rfl, trivial⟩ ?_
          have H42 : St W w34 F := ((H35.drop 0 rfl).drop 0 rfl)
          exact ⟨congrArg Value.bool (show (false) = opE o vars from by unfold opE; rw [if_neg hc9]; rw [if_neg (show ¬ vars.length = 0 from by omega)]; first | (simp only []; rfl) | (simp [hb36, hc17, hc33]; done) | (simp_all; done)), H42⟩
      · skip
        refine r_cons (s_gtr false rfl rfl (dfalse hc33) rfl ?_)
        refine r_nil ?_
        refine g_false rfl ?_
        refine g_skip ?_
        refine g_seq ?_
        refine g_region ?_
        refine r_cons (s_move (.bool false) rfl rfl ?_)
        refine r_cons (s_move (.bool false) rfl rfl ?_)
        refine r_cons (r_pass rfl rfl rfl rfl rfl ?_)
        refine r_cons (r_pass rfl rfl rfl rfl rfl ?_)
        refine r_cons (r_pass rfl rfl rfl rfl rfl ?_)
        refine r_cons (r_pass rfl rfl rfl rfl rfl ?_)
        refine r_cons (s_pick_f (.bool false) rfl rfl rfl ?_)
        refine r_cons (s_move (.bool false) rfl rfl ?_)
        refine r_cons (r_pass rfl rfl rfl rfl rfl ?_)
        refine r_cons (r_pass rfl rfl rfl rfl rfl ?_)
        refine r_cons (r_pass rfl rfl rfl rfl rfl ?_)
        refine r_cons (s_pick_f (.bool false) rfl rfl rfl ?_)
        refine r_cons (s_assign (.bool false) rfl rfl ?_)
        refine r_nil ?_
        refine g_ret' [.bool false] Try.func47 Try.results47 ⟨rfl, trivial⟩ ?_
        have H43 : St W w7 F := ((H8.drop 0 rfl).drop 0 rfl)
        exact ⟨congrArg Value.bool (show (false) = opE o vars from by unfold opE; rw [if_neg hc9]; rw [if_pos (show vars.length = 0 from by omega)]; first | (simp only []; rfl) | (simp [hc17, hc33]; done) | (simp_all; done)), H43⟩
end Sl
