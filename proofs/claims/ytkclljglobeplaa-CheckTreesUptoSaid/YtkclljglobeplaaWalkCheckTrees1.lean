/- Walks of the program's functions. Printed by a program of this claim's author. No condition. -/
import Derived.Test.YtkclljglobeplaaSlCG
import Derived.Test.YtkclljglobeplaaSlQ
import Derived.Test.YtkclljglobeplaaProg
import Derived.Test.YtkclljglobeplaaWalkCheckTrees0
namespace Sl
open _root_.Go _root_.Go.RowKit _root_.Go.Proofs
set_option linter.all false
set_option maxHeartbeats 4000000 in
set_option maxRecDepth 100000 in
theorem ref07_Vars_r (N : Nat) : ∀ (n : NodeD), sizeOf n < N → ∀ {W w : World} {F : List Atom}  {i : Nat} (hi : F[i]? = some (NodeA n)) (hz : sizeN n ≤ 1048576) (H : St W w F), Calls Try.prog 25 #[.agg #[.int .i64 n.kind.v, .string n.var.v, .string n.typ.v, .slice n.tp n.tests.length n.tc, .slice n.kp n.kids.length n.kc]] w (Ret fun v w' => ∃ p c, v = .slice p (varsS n).length c ∧ St W w' (Im 1 (.slice p (varsS n).length c) (varsS n).length ((varsS n).flatMap strCell) :: F)) := by
  induction N with | zero => exact fun n hN => absurd hN (Nat.not_lt_zero _) | succ N ih => ?_
  intro n hN W w F i hi hz H
  have H1 := NodeA.kids H (i := i + 0) (by exact hi)
  have H2 : St W w (Im 5 (.slice n.kp n.kids.length n.kc) n.kids.length (n.kids.flatMap nodeCell) :: NodesA n.kids :: F) := H1
  refine calls_of_go (n := 40) Try.func25 rfl Try.ntmps25 rfl ?_
  refine g_seq ?_
  refine g_region ?_
  refine r_cons (s_box H2 25 (.agg #[.int .i64 n.kind.v, .string n.var.v, .string n.typ.v, .slice n.tp n.tests.length n.tc, .slice n.kp n.kids.length n.kc]) rfl (cs := #[.int .i64 n.kind.v, .string n.var.v, .string n.typ.v, .slice n.tp n.tests.length n.tc, .slice n.kp n.kids.length n.kc]) rfl rfl ?_); intro bk3 w4 H5
  refine r_cons (s_assign (.slice none 0 0) rfl rfl ?_)
  refine r_nil ?_
  refine g_seq ?_
  refine g_region ?_
  refine r_cons (s_assign (.slice none 0 0) rfl rfl ?_)
  refine r_nil ?_
  refine g_seq ?_
  refine g_seq ?_
  refine g_region ?_
  refine r_cons (s_fieldAddr 25 1 1 1 9 rfl fi_25_1 rfl rfl ?_)
  refine r_cons (s_load (.string n.var.v) ag_9 rfl (H5.blk_at (i := 0) rfl) rfl rfl ?_)
  by_cases hc6 : n.var.v = ByteArray.empty
  · skip
    refine r_cons (s_sneq false rfl rfl (ntrue hc6) rfl ?_)
    refine r_nil ?_
    refine g_false rfl ?_
    refine g_skip ?_
    refine g_seq ?_
    refine g_seq ?_
    refine g_region ?_
    refine r_cons (s_assign (.int .i64 0) rfl rfl ?_)
    refine r_nil ?_
    refine g_block ?_
    obtain ⟨pA7, cA8, gA9, oA10, kA11, eA12, zA13, he19, hn14, hp15, hx16, hs17, hml, H18⟩ := Im.open_ H5 (i := 1) rfl
    obtain ⟨rfl, rfl⟩ : n.kp = pA7 ∧ n.kc = cA8 := by injection he19 with a_ b_ c_; exact ⟨a_, c_⟩
    have H20 : St W w4 (Im 1 (.slice none 0 0) (([] : List Str).length) (([] : List Str).flatMap strCell) :: imi (0 < n.kids.length) gA9 (.cells kA11 eA12 zA13) :: blk bk3 (.cells #[.int .i64 n.kind.v, .string n.var.v, .string n.typ.v, .slice n.tp n.tests.length n.tc, .slice n.kp n.kids.length n.kc] 25 (0, 0)) :: Im 5 (.slice n.kp n.kids.length n.kc) n.kids.length (n.kids.flatMap nodeCell) :: NodesA n.kids :: F) := Row.im (Row.nil_intro H18 9 1) (i := 0) rfl
    have hA21 : ([] : List Str) = (sortS (varF (n.kids.take 0) (varA n))) := by rw [show varA n = [] from if_pos hc6]; exact sortS_nil.symm
    have H22 : St W w4 (Im 1 (.slice none ((sortS (varF (n.kids.take 0) (varA n))).length) 0) ((sortS (varF (n.kids.take 0) (varA n))).length) ((sortS (varF (n.kids.take 0) (varA n))).flatMap strCell) :: imi (0 < n.kids.length) gA9 (.cells kA11 eA12 zA13) :: blk bk3 (.cells #[.int .i64 n.kind.v, .string n.var.v, .string n.typ.v, .slice n.tp n.tests.length n.tc, .slice n.kp n.kids.length n.kc] 25 (0, 0)) :: Im 5 (.slice n.kp n.kids.length n.kc) n.kids.length (n.kids.flatMap nodeCell) :: NodesA n.kids :: F) := by rw [← hA21]; exact H20
    have H23 : St W w4 (Im 1 (.slice none ((sortS (varF (n.kids.take 0) (varA n))).length) 0) ((sortS (varF (n.kids.take 0) (varA n))).length) ((sortS (varF (n.kids.take 0) (varA n))).flatMap strCell) :: imi (0 < n.kids.length) gA9 (.cells kA11 eA12 zA13) :: blk bk3 (.cells #[.int .i64 n.kind.v, .string n.var.v, .string n.typ.v, .slice n.tp n.tests.length n.tc, .slice n.kp n.kids.length n.kc] 25 (0, 0)) :: Im 5 (.slice n.kp n.kids.length n.kc) n.kids.length (n.kids.flatMap nodeCell) :: NodesA n.kids :: F) := (((((H22.move 4 rfl).move 4 rfl).move 4 rfl).move 4 rfl).move 4 rfl)
    refine g_loop_inv (fun (x_ : (Option Addr) × Nat × Nat) => match x_ with | (p_j3, c_j3, j) => [(1, .pointer (some ⟨bk3, 0, none⟩)), (2, .slice none 0 0), (3, .slice p_j3 ((sortS (varF (n.kids.take j) (varA n))).length) c_j3), (4, .int .i64 (j : Int))]) (fun (x_ : (Option Addr) × Nat × Nat) w => match x_ with | (p_j3, c_j3, j) => (j ≤ n.kids.length) ∧ St W w (Im 1 (.slice p_j3 ((sortS (varF (n.kids.take j) (varA n))).length) c_j3) ((sortS (varF (n.kids.take j) (varA n))).length) ((sortS (varF (n.kids.take j) (varA n))).flatMap strCell) :: imi (0 < n.kids.length) gA9 (.cells kA11 eA12 zA13) :: blk bk3 (.cells #[.int .i64 n.kind.v, .string n.var.v, .string n.typ.v, .slice n.tp n.tests.length n.tc, .slice n.kp n.kids.length n.kc] 25 (0, 0)) :: Im 5 (.slice n.kp n.kids.length n.kc) n.kids.length (n.kids.flatMap nodeCell) :: NodesA n.kids :: F)) (fun (x_ : (Option Addr) × Nat × Nat) => match x_ with | (p_j3, c_j3, j) => n.kids.length - j) (none, 0, 0) ?_ ?_ ?_
    · exact ⟨by first | rfl | exact vint (by omega), by first | rfl | exact vint (by omega), (show (.slice none 0 0 : Value) = .slice none ((sortS (varF (n.kids.take 0) (varA n))).length) 0 from by first | (rw [← hA21]; done) | (rw [← hA21]; rfl)), by first | rfl | exact vint (by omega), trivial⟩
    · exact ⟨(by omega), H23⟩
    · rintro ⟨p_j3, c_j3, j⟩ ρ24 w25 ⟨hjl, H26⟩ nx27
      change Ends _ _ (upds ρ24 [(1, .pointer (some ⟨bk3, 0, none⟩)), (2, .slice none 0 0), (3, .slice p_j3 ((sortS (varF (n.kids.take j) (varA n))).length) c_j3), (4, .int .i64 (j : Int))]) w25
      refine g_seq ?_
      refine g_seq ?_
      refine g_region ?_
      refine r_cons (s_move (.int .i64 (j : Int)) rfl rfl ?_)
      refine r_cons (s_fieldAddr 25 4 4 4 23 rfl fi_25_4 rfl rfl ?_)
      refine r_cons (s_load (.slice n.kp n.kids.length n.kc) ag_23 rfl (H26.blk_at (i := 2) rfl) rfl rfl ?_)
      refine r_cons (s_len n.kids.length rfl ⟨_, un_23⟩ rfl ?_)
      by_cases hc28 : (j : Int) < (n.kids.length : Int)
      · skip
        refine r_cons (s_lss true rfl rfl (dtrue hc28) rfl ?_)
        refine r_nil ?_
        refine g_true rfl ?_
        refine g_skip ?_
        refine g_seq ?_
        refine g_block ?_
        refine g_seq ?_
        refine g_region ?_
        refine r_cons (s_fieldAddr 25 4 4 4 23 rfl fi_25_4 rfl rfl ?_)
        refine r_cons (s_load (.slice n.kp n.kids.length n.kc) ag_23 rfl (H26.blk_at (i := 2) rfl) rfl rfl ?_)
        refine r_cons (s_move (.int .i64 (j : Int)) rfl rfl ?_)
        refine r_cons (s_indexAddr gA9 (off := oA10) (j : Int) 5 (oA10 + j * 5) (by exact congrArg (fun z_ => Value.slice z_ n.kids.length n.kc) (hp15 (by omega))) rfl el_23 (by omega) rfl rfl ?_)
        refine r_cons (s_loadAgg [.int .i64 ((n.kids.getD j default).kind.v), .string ((n.kids.getD j default).var.v), .string ((n.kids.getD j default).typ.v), .slice ((n.kids.getD j default).tp) ((n.kids.getD j default).tests.length) ((n.kids.getD j default).tc), .slice ((n.kids.getD j default).kp) ((n.kids.getD j default).kids.length) ((n.kids.getD j default).kc)] 5 ag_25 rfl (H26.imi_at (i := 1) rfl (by omega)) (by have := elem_size (i := j) (s := 5) (hs17 (by omega)) (by omega); omega) (elem_take nodeCell_len (hx16 (by omega)) (by omega) default) rfl ?_)
        have H29 := NodesA.at H26 (i := 4) rfl (j := j) (by omega)
        refine r_cons (s_call [.agg #[.int .i64 ((n.kids.getD j default).kind.v), .string ((n.kids.getD j default).var.v), .string ((n.kids.getD j default).typ.v), .slice ((n.kids.getD j default).tp) ((n.kids.getD j default).tests.length) ((n.kids.getD j default).tc), .slice ((n.kids.getD j default).kp) ((n.kids.getD j default).kids.length) ((n.kids.getD j default).kc)]] pl_25 rfl rfl (ih (n.kids.getD j default) (by have h9 := kid_lt (n := n) (j := j) (by omega); omega) (i := 0) rfl (by have h9 := sizeN_kid (n := n) (j := j) (by omega); omega) H29) ?_)
        rintro _ w32 ⟨pp30, cc31, rfl, H33⟩
        refine r_cons (s_assign (.slice pp30 ((varsS (n.kids.getD j default)).length) cc31) rfl rfl ?_)
        refine r_nil ?_
        refine g_seq ?_
        refine g_region ?_
        refine r_cons (s_assign (.int .i64 0) rfl rfl ?_)
        refine r_nil ?_
        refine g_block ?_
        obtain ⟨pA34, cA35, gA36, oA37, kA38, eA39, zA40, he46, hn41, hp42, hx43, hs44, hml, H45⟩ := Im.open_ H33 (i := 0) rfl
        obtain ⟨rfl, rfl⟩ : pp30 = pA34 ∧ cc31 = cA35 := by injection he46 with a_ b_ c_; exact ⟨a_, c_⟩
        have hA47 : (sortS (varF (n.kids.take j) (varA n))) = (sortS (((varsS (n.kids.getD j default)).take 0).foldl addS (varF (n.kids.take j) (varA n)))) := rfl
        have H48 : St W w32 (imi (0 < (varsS (n.kids.getD j default)).length) gA36 (.cells kA38 eA39 zA40) :: Im 1 (.slice pp30 ((varsS (n.kids.getD j default)).length) cc31) ((varsS (n.kids.getD j default)).length) ((varsS (n.kids.getD j default)).flatMap strCell) :: NodeA (n.kids.getD j default) :: Im 1 (.slice p_j3 ((sortS (((varsS (n.kids.getD j default)).take 0).foldl addS (varF (n.kids.take j) (varA n)))).length) c_j3) ((sortS (((varsS (n.kids.getD j default)).take 0).foldl addS (varF (n.kids.take j) (varA n)))).length) ((sortS (((varsS (n.kids.getD j default)).take 0).foldl addS (varF (n.kids.take j) (varA n)))).flatMap strCell) :: imi (0 < n.kids.length) gA9 (.cells kA11 eA12 zA13) :: blk bk3 (.cells #[.int .i64 n.kind.v, .string n.var.v, .string n.typ.v, .slice n.tp n.tests.length n.tc, .slice n.kp n.kids.length n.kc] 25 (0, 0)) :: Im 5 (.slice n.kp n.kids.length n.kc) n.kids.length (n.kids.flatMap nodeCell) :: NodesA n.kids :: F) := by rw [← hA47]; exact H45
        have H49 : St W w32 (imi (0 < (varsS (n.kids.getD j default)).length) gA36 (.cells kA38 eA39 zA40) :: Im 1 (.slice pp30 ((varsS (n.kids.getD j default)).length) cc31) ((varsS (n.kids.getD j default)).length) ((varsS (n.kids.getD j default)).flatMap strCell) :: NodeA (n.kids.getD j default) :: Im 1 (.slice p_j3 ((sortS (((varsS (n.kids.getD j default)).take 0).foldl addS (varF (n.kids.take j) (varA n)))).length) c_j3) ((sortS (((varsS (n.kids.getD j default)).take 0).foldl addS (varF (n.kids.take j) (varA n)))).length) ((sortS (((varsS (n.kids.getD j default)).take 0).foldl addS (varF (n.kids.take j) (varA n)))).flatMap strCell) :: imi (0 < n.kids.length) gA9 (.cells kA11 eA12 zA13) :: blk bk3 (.cells #[.int .i64 n.kind.v, .string n.var.v, .string n.typ.v, .slice n.tp n.tests.length n.tc, .slice n.kp n.kids.length n.kc] 25 (0, 0)) :: Im 5 (.slice n.kp n.kids.length n.kc) n.kids.length (n.kids.flatMap nodeCell) :: NodesA n.kids :: F) := ((((((((H48.move 7 rfl).move 7 rfl).move 7 rfl).move 7 rfl).move 7 rfl).move 7 rfl).move 7 rfl).move 7 rfl)
        refine g_loop_inv (fun (x_ : (Option Addr) × Nat × Nat) => match x_ with | (p_q3, c_q3, q) => [(1, .pointer (some ⟨bk3, 0, none⟩)), (2, .slice none 0 0), (3, .slice p_q3 ((sortS (((varsS (n.kids.getD j default)).take q).foldl addS (varF (n.kids.take j) (varA n)))).length) c_q3), (4, .int .i64 (j : Int)), (5, .slice pp30 ((varsS (n.kids.getD j default)).length) cc31), (6, .int .i64 (q : Int))]) (fun (x_ : (Option Addr) × Nat × Nat) w => match x_ with | (p_q3, c_q3, q) => (q ≤ (varsS (n.kids.getD j default)).length) ∧ St W w (imi (0 < (varsS (n.kids.getD j default)).length) gA36 (.cells kA38 eA39 zA40) :: Im 1 (.slice pp30 ((varsS (n.kids.getD j default)).length) cc31) ((varsS (n.kids.getD j default)).length) ((varsS (n.kids.getD j default)).flatMap strCell) :: NodeA (n.kids.getD j default) :: Im 1 (.slice p_q3 ((sortS (((varsS (n.kids.getD j default)).take q).foldl addS (varF (n.kids.take j) (varA n)))).length) c_q3) ((sortS (((varsS (n.kids.getD j default)).take q).foldl addS (varF (n.kids.take j) (varA n)))).length) ((sortS (((varsS (n.kids.getD j default)).take q).foldl addS (varF (n.kids.take j) (varA n)))).flatMap strCell) :: imi (0 < n.kids.length) gA9 (.cells kA11 eA12 zA13) :: blk bk3 (.cells #[.int .i64 n.kind.v, .string n.var.v, .string n.typ.v, .slice n.tp n.tests.length n.tc, .slice n.kp n.kids.length n.kc] 25 (0, 0)) :: Im 5 (.slice n.kp n.kids.length n.kc) n.kids.length (n.kids.flatMap nodeCell) :: NodesA n.kids :: F)) (fun (x_ : (Option Addr) × Nat × Nat) => match x_ with | (p_q3, c_q3, q) => (varsS (n.kids.getD j default)).length - q) (p_j3, c_j3, 0) ?_ ?_ ?_
        · exact ⟨by first | rfl | exact vint (by omega), by first | rfl | exact vint (by omega), (show (.slice p_j3 ((sortS (varF (n.kids.take j) (varA n))).length) c_j3 : Value) = .slice p_j3 ((sortS (((varsS (n.kids.getD j default)).take 0).foldl addS (varF (n.kids.take j) (varA n)))).length) c_j3 from by first | (rw [← hA47]; done) | (rw [← hA47]; rfl)), by first | rfl | exact vint (by omega), by first | rfl | exact vint (by omega), by first | rfl | exact vint (by omega), trivial⟩
        · exact ⟨(by omega), H49⟩
        · rintro ⟨p_q3, c_q3, q⟩ ρ50 w51 ⟨hql, H52⟩ nx53
          change Ends _ _ (upds ρ50 [(1, .pointer (some ⟨bk3, 0, none⟩)), (2, .slice none 0 0), (3, .slice p_q3 ((sortS (((varsS (n.kids.getD j default)).take q).foldl addS (varF (n.kids.take j) (varA n)))).length) c_q3), (4, .int .i64 (j : Int)), (5, .slice pp30 ((varsS (n.kids.getD j default)).length) cc31), (6, .int .i64 (q : Int))]) w51
          refine g_seq ?_
          refine g_seq ?_
          refine g_region ?_
          refine r_cons (s_move (.int .i64 (q : Int)) rfl rfl ?_)
          refine r_cons (s_move (.slice pp30 ((varsS (n.kids.getD j default)).length) cc31) rfl rfl ?_)
          refine r_cons (s_len ((varsS (n.kids.getD j default)).length) rfl ⟨_, un_36⟩ rfl ?_)
          by_cases hc54 : (q : Int) < ((varsS (n.kids.getD j default)).length : Int)
          · skip
            refine r_cons (s_lss true rfl rfl (dtrue hc54) rfl ?_)
            refine r_nil ?_
            refine g_true rfl ?_
            refine g_skip ?_
            refine g_seq ?_
            refine g_block ?_
            refine g_region ?_
            refine r_cons (s_move (.slice p_q3 ((sortS (((varsS (n.kids.getD j default)).take q).foldl addS (varF (n.kids.take j) (varA n)))).length) c_q3) rfl rfl ?_)
            refine r_cons (s_move (.slice pp30 ((varsS (n.kids.getD j default)).length) cc31) rfl rfl ?_)
            refine r_cons (s_move (.int .i64 (q : Int)) rfl rfl ?_)
            refine r_cons (s_indexAddr gA36 (off := oA37) (q : Int) 1 (oA37 + q * 1) (by exact congrArg (fun z_ => Value.slice z_ ((varsS (n.kids.getD j default)).length) cc31) (hp42 (by omega))) rfl el_36 (by omega) rfl rfl ?_)
            refine r_cons (s_load (.string (((varsS (n.kids.getD j default)).getD q default).v)) ag_9 rfl (H52.imi_at (i := 0) rfl (by omega)) (elem_cell (L := (varsS (n.kids.getD j default))) (i := q) strCell_len (hx43 (by omega)) (by omega) default 0 (by decide) _ rfl) rfl ?_)
            refine r_cons (s_call [.slice p_q3 ((sortS (((varsS (n.kids.getD j default)).take q).foldl addS (varF (n.kids.take j) (varA n)))).length) c_q3, .string (((varsS (n.kids.getD j default)).getD q default).v)] pl_45 rfl rfl (ref07_put (sortS (((varsS (n.kids.getD j default)).take q).foldl addS (varF (n.kids.take j) (varA n)))) (.slice p_q3 ((sortS (((varsS (n.kids.getD j default)).take q).foldl addS (varF (n.kids.take j) (varA n)))).length) c_q3) ((varsS (n.kids.getD j default)).getD q default) (m := 3) rfl (by first | (have h9 := varF_bound (n := n) (j := j) (q := q) (by omega); rw [sortS_len]; omega) | exact Nat.zero_le _) H52) ?_)
            rintro _ w57 ⟨pp55, cc56, rfl, H58⟩
            refine r_cons (s_assign (.slice pp55 ((putS (sortS (((varsS (n.kids.getD j default)).take q).foldl addS (varF (n.kids.take j) (varA n)))) ((varsS (n.kids.getD j default)).getD q default)).length) cc56) rfl rfl ?_)
            refine r_nil ?_
            refine g_inBlock ?_
            refine g_region ?_
            refine r_cons (s_move (.int .i64 (q : Int)) rfl rfl ?_)
            refine r_cons (s_add ((q : Int) + 1) rfl rfl (wi64 (by omega)) rfl ?_)
            refine r_cons (s_assign (.int .i64 ((q : Int) + 1)) rfl rfl ?_)
            refine r_nil ?_
            have hA59 : (putS (sortS (((varsS (n.kids.getD j default)).take q).foldl addS (varF (n.kids.take j) (varA n)))) ((varsS (n.kids.getD j default)).getD q default)) = (sortS (((varsS (n.kids.getD j default)).take (q + 1)).foldl addS (varF (n.kids.take j) (varA n)))) := (putS_sort _ _).trans (congrArg sortS (fold_stepS addS _ (by omega)).symm)
            have H60 : St W w57 (Im 1 (.slice pp55 ((sortS (((varsS (n.kids.getD j default)).take (q + 1)).foldl addS (varF (n.kids.take j) (varA n)))).length) cc56) ((sortS (((varsS (n.kids.getD j default)).take (q + 1)).foldl addS (varF (n.kids.take j) (varA n)))).length) ((sortS (((varsS (n.kids.getD j default)).take (q + 1)).foldl addS (varF (n.kids.take j) (varA n)))).flatMap strCell) :: imi (0 < (varsS (n.kids.getD j default)).length) gA36 (.cells kA38 eA39 zA40) :: Im 1 (.slice pp30 ((varsS (n.kids.getD j default)).length) cc31) ((varsS (n.kids.getD j default)).length) ((varsS (n.kids.getD j default)).flatMap strCell) :: NodeA (n.kids.getD j default) :: Im 1 (.slice p_q3 ((sortS (((varsS (n.kids.getD j default)).take q).foldl addS (varF (n.kids.take j) (varA n)))).length) c_q3) ((sortS (((varsS (n.kids.getD j default)).take q).foldl addS (varF (n.kids.take j) (varA n)))).length) ((sortS (((varsS (n.kids.getD j default)).take q).foldl addS (varF (n.kids.take j) (varA n)))).flatMap strCell) :: imi (0 < n.kids.length) gA9 (.cells kA11 eA12 zA13) :: blk bk3 (.cells #[.int .i64 n.kind.v, .string n.var.v, .string n.typ.v, .slice n.tp n.tests.length n.tc, .slice n.kp n.kids.length n.kc] 25 (0, 0)) :: Im 5 (.slice n.kp n.kids.length n.kc) n.kids.length (n.kids.flatMap nodeCell) :: NodesA n.kids :: F) := by rw [← hA59]; exact H58
            have H61 : St W w57 (imi (0 < (varsS (n.kids.getD j default)).length) gA36 (.cells kA38 eA39 zA40) :: Im 1 (.slice pp30 ((varsS (n.kids.getD j default)).length) cc31) ((varsS (n.kids.getD j default)).length) ((varsS (n.kids.getD j default)).flatMap strCell) :: NodeA (n.kids.getD j default) :: Im 1 (.slice pp55 ((sortS (((varsS (n.kids.getD j default)).take (q + 1)).foldl addS (varF (n.kids.take j) (varA n)))).length) cc56) ((sortS (((varsS (n.kids.getD j default)).take (q + 1)).foldl addS (varF (n.kids.take j) (varA n)))).length) ((sortS (((varsS (n.kids.getD j default)).take (q + 1)).foldl addS (varF (n.kids.take j) (varA n)))).flatMap strCell) :: imi (0 < n.kids.length) gA9 (.cells kA11 eA12 zA13) :: blk bk3 (.cells #[.int .i64 n.kind.v, .string n.var.v, .string n.typ.v, .slice n.tp n.tests.length n.tc, .slice n.kp n.kids.length n.kc] 25 (0, 0)) :: Im 5 (.slice n.kp n.kids.length n.kc) n.kids.length (n.kids.flatMap nodeCell) :: NodesA n.kids :: F) := (((((((((H60.move 8 rfl).move 8 rfl).move 8 rfl).move 8 rfl).move 4 rfl).move 7 rfl).move 7 rfl).move 7 rfl).drop 8 rfl)
            exact nx53 (pp55, cc56, q + 1) _ _ ⟨(by omega), H61⟩ (by first | (dsimp only; omega) | omega) ⟨by first | rfl | exact vint (by omega), by first | rfl | exact vint (by omega), (show (.slice pp55 ((putS (sortS (((varsS (n.kids.getD j default)).take q).foldl addS (varF (n.kids.take j) (varA n)))) ((varsS (n.kids.getD j default)).getD q default)).length) cc56 : Value) = .slice pp55 ((sortS (((varsS (n.kids.getD j default)).take (q + 1)).foldl addS (varF (n.kids.take j) (varA n)))).length) cc56 from by first | (rw [← hA59]; done) | (rw [← hA59]; rfl)), by first | rfl | exact vint (by omega), by first | rfl | exact vint (by omega), by first | rfl | exact vint (by omega), trivial⟩
          · skip
            refine r_cons (s_lss false rfl rfl (dfalse hc54) rfl ?_)
            refine r_nil ?_
            refine g_false rfl ?_
            refine g_exit (by rfl) ?_
            refine g_inBlock ?_
            refine g_region ?_
            refine r_cons (s_move (.int .i64 (j : Int)) rfl rfl ?_)
            refine r_cons (s_add ((j : Int) + 1) rfl rfl (wi64 (by omega)) rfl ?_)
            refine r_cons (s_assign (.int .i64 ((j : Int) + 1)) rfl rfl ?_)
            refine r_nil ?_
            have hA62 : (sortS (((varsS (n.kids.getD j default)).take q).foldl addS (varF (n.kids.take j) (varA n)))) = (sortS (varF (n.kids.take (j + 1)) (varA n))) := by rw [varF_step (by omega), fold_allS _ _ (by omega)]
            have H63 : St W w51 (imi (0 < (varsS (n.kids.getD j default)).length) gA36 (.cells kA38 eA39 zA40) :: Im 1 (.slice pp30 ((varsS (n.kids.getD j default)).length) cc31) ((varsS (n.kids.getD j default)).length) ((varsS (n.kids.getD j default)).flatMap strCell) :: NodeA (n.kids.getD j default) :: Im 1 (.slice p_q3 ((sortS (varF (n.kids.take (j + 1)) (varA n))).length) c_q3) ((sortS (varF (n.kids.take (j + 1)) (varA n))).length) ((sortS (varF (n.kids.take (j + 1)) (varA n))).flatMap strCell) :: imi (0 < n.kids.length) gA9 (.cells kA11 eA12 zA13) :: blk bk3 (.cells #[.int .i64 n.kind.v, .string n.var.v, .string n.typ.v, .slice n.tp n.tests.length n.tc, .slice n.kp n.kids.length n.kc] 25 (0, 0)) :: Im 5 (.slice n.kp n.kids.length n.kc) n.kids.length (n.kids.flatMap nodeCell) :: NodesA n.kids :: F) := by rw [← hA62]; exact H52
            have H64 : St W w51 (Im 1 (.slice p_q3 ((sortS (varF (n.kids.take (j + 1)) (varA n))).length) c_q3) ((sortS (varF (n.kids.take (j + 1)) (varA n))).length) ((sortS (varF (n.kids.take (j + 1)) (varA n))).flatMap strCell) :: imi (0 < n.kids.length) gA9 (.cells kA11 eA12 zA13) :: blk bk3 (.cells #[.int .i64 n.kind.v, .string n.var.v, .string n.typ.v, .slice n.tp n.tests.length n.tc, .slice n.kp n.kids.length n.kc] 25 (0, 0)) :: Im 5 (.slice n.kp n.kids.length n.kc) n.kids.length (n.kids.flatMap nodeCell) :: NodesA n.kids :: F) := ((((((((H63.move 7 rfl).move 7 rfl).move 7 rfl).move 7 rfl).move 7 rfl).drop 5 rfl).drop 5 rfl).drop 5 rfl)
            exact nx27 (p_q3, c_q3, j + 1) _ _ ⟨(by omega), H64⟩ (by first | (dsimp only; omega) | omega) ⟨by first | rfl | exact vint (by omega), by first | rfl | exact vint (by omega), (show (.slice p_q3 ((sortS (((varsS (n.kids.getD j default)).take q).foldl addS (varF (n.kids.take j) (varA n)))).length) c_q3 : Value) = .slice p_q3 ((sortS (varF (n.kids.take (j + 1)) (varA n))).length) c_q3 from by first | (rw [← hA62]; done) | (rw [← hA62]; rfl)), by first | rfl | exact vint (by omega), trivial⟩
      · skip
        refine r_cons (s_lss false rfl rfl (dfalse hc28) rfl ?_)
        refine r_nil ?_
        refine g_false rfl ?_
        refine g_exit (by rfl) ?_
        refine g_seq ?_
        refine g_region ?_
        refine r_cons (s_move (.slice p_j3 ((sortS (varF (n.kids.take j) (varA n))).length) c_j3) rfl rfl ?_)
        refine r_cons (s_assign (.slice p_j3 ((sortS (varF (n.kids.take j) (varA n))).length) c_j3) rfl rfl ?_)
        refine r_nil ?_
        refine g_ret' [.slice p_j3 ((sortS (varF (n.kids.take j) (varA n))).length) c_j3] Try.func25 Try.results25 ⟨rfl, trivial⟩ ?_
        have H65 : St W w25 (Im 1 (.slice p_j3 ((sortS (varF (n.kids.take j) (varA n))).length) c_j3) ((sortS (varF (n.kids.take j) (varA n))).length) ((sortS (varF (n.kids.take j) (varA n))).flatMap strCell) :: F) := ((((H26.drop 1 rfl).drop 1 rfl).drop 1 rfl).drop 1 rfl)
        have hq9 : (sortS (varF (n.kids.take j) (varA n))) = varsS n := by rw [List.take_of_length_le (by omega)]; exact varsS_fold n
        exact ⟨p_j3, c_j3, by rw [← hq9]; rfl, by rw [← hq9]; exact H65⟩
  · skip
    refine r_cons (s_sneq true rfl rfl (nfalse hc6) rfl ?_)
    refine r_nil ?_
    refine g_true rfl ?_
    refine g_region ?_
    refine r_cons (s_move (.slice none 0 0) rfl rfl ?_)
    refine r_cons (s_fieldAddr 25 1 1 1 9 rfl fi_25_1 rfl rfl ?_)
    refine r_cons (s_load (.string n.var.v) ag_9 rfl (H5.blk_at (i := 0) rfl) rfl rfl ?_)
    have H66 : St W w4 (Im 1 (.slice none 0 0) (([] : List Str).length) (([] : List Str).flatMap strCell) :: blk bk3 (.cells #[.int .i64 n.kind.v, .string n.var.v, .string n.typ.v, .slice n.tp n.tests.length n.tc, .slice n.kp n.kids.length n.kc] 25 (0, 0)) :: Im 5 (.slice n.kp n.kids.length n.kc) n.kids.length (n.kids.flatMap nodeCell) :: NodesA n.kids :: F) := Row.im (Row.nil_intro H5 9 1) (i := 0) rfl
    refine r_cons (s_call [.slice none 0 0, .string n.var.v] pl_45 rfl rfl (ref07_put ([] : List Str) (.slice none 0 0) n.var (m := 0) rfl (by first | (have h9 := varF_bound (n := n) (j := j) (q := q) (by omega); rw [sortS_len]; omega) | exact Nat.zero_le _) H66) ?_)
    rintro _ w69 ⟨pp67, cc68, rfl, H70⟩
    refine r_cons (s_assign (.slice pp67 ((putS ([] : List Str) n.var).length) cc68) rfl rfl ?_)
    refine r_nil ?_
    refine g_seq ?_
    refine g_seq ?_
    refine g_region ?_
    refine r_cons (s_assign (.int .i64 0) rfl rfl ?_)
    refine r_nil ?_
    refine g_block ?_
    obtain ⟨pA71, cA72, gA73, oA74, kA75, eA76, zA77, he83, hn78, hp79, hx80, hs81, hml, H82⟩ := Im.open_ H70 (i := 3) rfl
    obtain ⟨rfl, rfl⟩ : n.kp = pA71 ∧ n.kc = cA72 := by injection he83 with a_ b_ c_; exact ⟨a_, c_⟩
    have hA84 : (putS ([] : List Str) n.var) = (sortS (varF (n.kids.take 0) (varA n))) := by rw [show varA n = addS [] n.var from if_neg hc6]; exact (congrArg (fun l_ => putS l_ n.var) sortS_nil.symm).trans (putS_sort [] n.var)
    have H85 : St W w69 (imi (0 < n.kids.length) gA73 (.cells kA75 eA76 zA77) :: Im 1 (.slice pp67 ((sortS (varF (n.kids.take 0) (varA n))).length) cc68) ((sortS (varF (n.kids.take 0) (varA n))).length) ((sortS (varF (n.kids.take 0) (varA n))).flatMap strCell) :: Im 1 (.slice none 0 0) (([] : List Str).length) (([] : List Str).flatMap strCell) :: blk bk3 (.cells #[.int .i64 n.kind.v, .string n.var.v, .string n.typ.v, .slice n.tp n.tests.length n.tc, .slice n.kp n.kids.length n.kc] 25 (0, 0)) :: Im 5 (.slice n.kp n.kids.length n.kc) n.kids.length (n.kids.flatMap nodeCell) :: NodesA n.kids :: F) := by rw [← hA84]; exact H82
    have H86 : St W w69 (imi (0 < n.kids.length) gA73 (.cells kA75 eA76 zA77) :: Im 1 (.slice pp67 ((sortS (varF (n.kids.take 0) (varA n))).length) cc68) ((sortS (varF (n.kids.take 0) (varA n))).length) ((sortS (varF (n.kids.take 0) (varA n))).flatMap strCell) :: Im 1 (.slice none 0 0) (([] : List Str).length) (([] : List Str).flatMap strCell) :: blk bk3 (.cells #[.int .i64 n.kind.v, .string n.var.v, .string n.typ.v, .slice n.tp n.tests.length n.tc, .slice n.kp n.kids.length n.kc] 25 (0, 0)) :: Im 5 (.slice n.kp n.kids.length n.kc) n.kids.length (n.kids.flatMap nodeCell) :: NodesA n.kids :: F) := ((((((H85.move 5 rfl).move 5 rfl).move 5 rfl).move 5 rfl).move 5 rfl).move 5 rfl)
    refine g_loop_inv (fun (x_ : (Option Addr) × Nat × Nat) => match x_ with | (p_j3, c_j3, j) => [(1, .pointer (some ⟨bk3, 0, none⟩)), (2, .slice none 0 0), (3, .slice p_j3 ((sortS (varF (n.kids.take j) (varA n))).length) c_j3), (4, .int .i64 (j : Int))]) (fun (x_ : (Option Addr) × Nat × Nat) w => match x_ with | (p_j3, c_j3, j) => (j ≤ n.kids.length) ∧ St W w (imi (0 < n.kids.length) gA73 (.cells kA75 eA76 zA77) :: Im 1 (.slice p_j3 ((sortS (varF (n.kids.take j) (varA n))).length) c_j3) ((sortS (varF (n.kids.take j) (varA n))).length) ((sortS (varF (n.kids.take j) (varA n))).flatMap strCell) :: Im 1 (.slice none 0 0) (([] : List Str).length) (([] : List Str).flatMap strCell) :: blk bk3 (.cells #[.int .i64 n.kind.v, .string n.var.v, .string n.typ.v, .slice n.tp n.tests.length n.tc, .slice n.kp n.kids.length n.kc] 25 (0, 0)) :: Im 5 (.slice n.kp n.kids.length n.kc) n.kids.length (n.kids.flatMap nodeCell) :: NodesA n.kids :: F)) (fun (x_ : (Option Addr) × Nat × Nat) => match x_ with | (p_j3, c_j3, j) => n.kids.length - j) (pp67, cc68, 0) ?_ ?_ ?_
    · exact ⟨by first | rfl | exact vint (by omega), by first | rfl | exact vint (by omega), (show (.slice pp67 ((putS ([] : List Str) n.var).length) cc68 : Value) = .slice pp67 ((sortS (varF (n.kids.take 0) (varA n))).length) cc68 from by first | (rw [← hA84]; done) | (rw [← hA84]; rfl)), by first | rfl | exact vint (by omega), trivial⟩
    · exact ⟨(by omega), H86⟩
    · rintro ⟨p_j3, c_j3, j⟩ ρ87 w88 ⟨hjl, H89⟩ nx90
      change Ends _ _ (upds ρ87 [(1, .pointer (some ⟨bk3, 0, none⟩)), (2, .slice none 0 0), (3, .slice p_j3 ((sortS (varF (n.kids.take j) (varA n))).length) c_j3), (4, .int .i64 (j : Int))]) w88
      refine g_seq ?_
      refine g_seq ?_
      refine g_region ?_
      refine r_cons (s_move (.int .i64 (j : Int)) rfl rfl ?_)
      refine r_cons (s_fieldAddr 25 4 4 4 23 rfl fi_25_4 rfl rfl ?_)
      refine r_cons (s_load (.slice n.kp n.kids.length n.kc) ag_23 rfl (H89.blk_at (i := 3) rfl) rfl rfl ?_)
      refine r_cons (s_len n.kids.length rfl ⟨_, un_23⟩ rfl ?_)
      by_cases hc91 : (j : Int) < (n.kids.length : Int)
      · skip
        refine r_cons (s_lss true rfl rfl (dtrue hc91) rfl ?_)
        refine r_nil ?_
        refine g_true rfl ?_
        refine g_skip ?_
        refine g_seq ?_
        refine g_block ?_
        refine g_seq ?_
        refine g_region ?_
        refine r_cons (s_fieldAddr 25 4 4 4 23 rfl fi_25_4 rfl rfl ?_)
        refine r_cons (s_load (.slice n.kp n.kids.length n.kc) ag_23 rfl (H89.blk_at (i := 3) rfl) rfl rfl ?_)
        refine r_cons (s_move (.int .i64 (j : Int)) rfl rfl ?_)
        refine r_cons (s_indexAddr gA73 (off := oA74) (j : Int) 5 (oA74 + j * 5) (by exact congrArg (fun z_ => Value.slice z_ n.kids.length n.kc) (hp79 (by omega))) rfl el_23 (by omega) rfl rfl ?_)
        refine r_cons (s_loadAgg [.int .i64 ((n.kids.getD j default).kind.v), .string ((n.kids.getD j default).var.v), .string ((n.kids.getD j default).typ.v), .slice ((n.kids.getD j default).tp) ((n.kids.getD j default).tests.length) ((n.kids.getD j default).tc), .slice ((n.kids.getD j default).kp) ((n.kids.getD j default).kids.length) ((n.kids.getD j default).kc)] 5 ag_25 rfl (H89.imi_at (i := 0) rfl (by omega)) (by have := elem_size (i := j) (s := 5) (hs81 (by omega)) (by omega); omega) (elem_take nodeCell_len (hx80 (by omega)) (by omega) default) rfl ?_)
        have H92 := NodesA.at H89 (i := 5) rfl (j := j) (by omega)
        refine r_cons (s_call [.agg #[.int .i64 ((n.kids.getD j default).kind.v), .string ((n.kids.getD j default).var.v), .string ((n.kids.getD j default).typ.v), .slice ((n.kids.getD j default).tp) ((n.kids.getD j default).tests.length) ((n.kids.getD j default).tc), .slice ((n.kids.getD j default).kp) ((n.kids.getD j default).kids.length) ((n.kids.getD j default).kc)]] pl_25 rfl rfl (ih (n.kids.getD j default) (by have h9 := kid_lt (n := n) (j := j) (by omega); omega) (i := 0) rfl (by have h9 := sizeN_kid (n := n) (j := j) (by omega); omega) H92) ?_)
        rintro _ w95 ⟨pp93, cc94, rfl, H96⟩
        refine r_cons (s_assign (.slice pp93 ((varsS (n.kids.getD j default)).length) cc94) rfl rfl ?_)
        refine r_nil ?_
        refine g_seq ?_
        refine g_region ?_
        refine r_cons (s_assign (.int .i64 0) rfl rfl ?_)
        refine r_nil ?_
        refine g_block ?_
        obtain ⟨pA97, cA98, gA99, oA100, kA101, eA102, zA103, he109, hn104, hp105, hx106, hs107, hml, H108⟩ := Im.open_ H96 (i := 0) rfl
        obtain ⟨rfl, rfl⟩ : pp93 = pA97 ∧ cc94 = cA98 := by injection he109 with a_ b_ c_; exact ⟨a_, c_⟩
        have hA110 : (sortS (varF (n.kids.take j) (varA n))) = (sortS (((varsS (n.kids.getD j default)).take 0).foldl addS (varF (n.kids.take j) (varA n)))) := rfl
        have H111 : St W w95 (imi (0 < (varsS (n.kids.getD j default)).length) gA99 (.cells kA101 eA102 zA103) :: Im 1 (.slice pp93 ((varsS (n.kids.getD j default)).length) cc94) ((varsS (n.kids.getD j default)).length) ((varsS (n.kids.getD j default)).flatMap strCell) :: NodeA (n.kids.getD j default) :: imi (0 < n.kids.length) gA73 (.cells kA75 eA76 zA77) :: Im 1 (.slice p_j3 ((sortS (((varsS (n.kids.getD j default)).take 0).foldl addS (varF (n.kids.take j) (varA n)))).length) c_j3) ((sortS (((varsS (n.kids.getD j default)).take 0).foldl addS (varF (n.kids.take j) (varA n)))).length) ((sortS (((varsS (n.kids.getD j default)).take 0).foldl addS (varF (n.kids.take j) (varA n)))).flatMap strCell) :: Im 1 (.slice none 0 0) (([] : List Str).length) (([] : List Str).flatMap strCell) :: blk bk3 (.cells #[.int .i64 n.kind.v, .string n.var.v, .string n.typ.v, .slice n.tp n.tests.length n.tc, .slice n.kp n.kids.length n.kc] 25 (0, 0)) :: Im 5 (.slice n.kp n.kids.length n.kc) n.kids.length (n.kids.flatMap nodeCell) :: NodesA n.kids :: F) := by rw [← hA110]; exact H108
        have H112 : St W w95 (imi (0 < (varsS (n.kids.getD j default)).length) gA99 (.cells kA101 eA102 zA103) :: Im 1 (.slice pp93 ((varsS (n.kids.getD j default)).length) cc94) ((varsS (n.kids.getD j default)).length) ((varsS (n.kids.getD j default)).flatMap strCell) :: NodeA (n.kids.getD j default) :: imi (0 < n.kids.length) gA73 (.cells kA75 eA76 zA77) :: Im 1 (.slice p_j3 ((sortS (((varsS (n.kids.getD j default)).take 0).foldl addS (varF (n.kids.take j) (varA n)))).length) c_j3) ((sortS (((varsS (n.kids.getD j default)).take 0).foldl addS (varF (n.kids.take j) (varA n)))).length) ((sortS (((varsS (n.kids.getD j default)).take 0).foldl addS (varF (n.kids.take j) (varA n)))).flatMap strCell) :: Im 1 (.slice none 0 0) (([] : List Str).length) (([] : List Str).flatMap strCell) :: blk bk3 (.cells #[.int .i64 n.kind.v, .string n.var.v, .string n.typ.v, .slice n.tp n.tests.length n.tc, .slice n.kp n.kids.length n.kc] 25 (0, 0)) :: Im 5 (.slice n.kp n.kids.length n.kc) n.kids.length (n.kids.flatMap nodeCell) :: NodesA n.kids :: F) := (((((((((H111.move 8 rfl).move 8 rfl).move 8 rfl).move 8 rfl).move 8 rfl).move 8 rfl).move 8 rfl).move 8 rfl).move 8 rfl)
        refine g_loop_inv (fun (x_ : (Option Addr) × Nat × Nat) => match x_ with | (p_q3, c_q3, q) => [(1, .pointer (some ⟨bk3, 0, none⟩)), (2, .slice none 0 0), (3, .slice p_q3 ((sortS (((varsS (n.kids.getD j default)).take q).foldl addS (varF (n.kids.take j) (varA n)))).length) c_q3), (4, .int .i64 (j : Int)), (5, .slice pp93 ((varsS (n.kids.getD j default)).length) cc94), (6, .int .i64 (q : Int))]) (fun (x_ : (Option Addr) × Nat × Nat) w => match x_ with | (p_q3, c_q3, q) => (q ≤ (varsS (n.kids.getD j default)).length) ∧ St W w (imi (0 < (varsS (n.kids.getD j default)).length) gA99 (.cells kA101 eA102 zA103) :: Im 1 (.slice pp93 ((varsS (n.kids.getD j default)).length) cc94) ((varsS (n.kids.getD j default)).length) ((varsS (n.kids.getD j default)).flatMap strCell) :: NodeA (n.kids.getD j default) :: imi (0 < n.kids.length) gA73 (.cells kA75 eA76 zA77) :: Im 1 (.slice p_q3 ((sortS (((varsS (n.kids.getD j default)).take q).foldl addS (varF (n.kids.take j) (varA n)))).length) c_q3) ((sortS (((varsS (n.kids.getD j default)).take q).foldl addS (varF (n.kids.take j) (varA n)))).length) ((sortS (((varsS (n.kids.getD j default)).take q).foldl addS (varF (n.kids.take j) (varA n)))).flatMap strCell) :: Im 1 (.slice none 0 0) (([] : List Str).length) (([] : List Str).flatMap strCell) :: blk bk3 (.cells #[.int .i64 n.kind.v, .string n.var.v, .string n.typ.v, .slice n.tp n.tests.length n.tc, .slice n.kp n.kids.length n.kc] 25 (0, 0)) :: Im 5 (.slice n.kp n.kids.length n.kc) n.kids.length (n.kids.flatMap nodeCell) :: NodesA n.kids :: F)) (fun (x_ : (Option Addr) × Nat × Nat) => match x_ with | (p_q3, c_q3, q) => (varsS (n.kids.getD j default)).length - q) (p_j3, c_j3, 0) ?_ ?_ ?_
        · exact ⟨by first | rfl | exact vint (by omega), by first | rfl | exact vint (by omega), (show (.slice p_j3 ((sortS (varF (n.kids.take j) (varA n))).length) c_j3 : Value) = .slice p_j3 ((sortS (((varsS (n.kids.getD j default)).take 0).foldl addS (varF (n.kids.take j) (varA n)))).length) c_j3 from by first | (rw [← hA110]; done) | (rw [← hA110]; rfl)), by first | rfl | exact vint (by omega), by first | rfl | exact vint (by omega), by first | rfl | exact vint (by omega), trivial⟩
        · exact ⟨(by omega), H112⟩
        · rintro ⟨p_q3, c_q3, q⟩ ρ113 w114 ⟨hql, H115⟩ nx116
          change Ends _ _ (upds ρ113 [(1, .pointer (some ⟨bk3, 0, none⟩)), (2, .slice none 0 0), (3, .slice p_q3 ((sortS (((varsS (n.kids.getD j default)).take q).foldl addS (varF (n.kids.take j) (varA n)))).length) c_q3), (4, .int .i64 (j : Int)), (5, .slice pp93 ((varsS (n.kids.getD j default)).length) cc94), (6, .int .i64 (q : Int))]) w114
          refine g_seq ?_
          refine g_seq ?_
          refine g_region ?_
          refine r_cons (s_move (.int .i64 (q : Int)) rfl rfl ?_)
          refine r_cons (s_move (.slice pp93 ((varsS (n.kids.getD j default)).length) cc94) rfl rfl ?_)
          refine r_cons (s_len ((varsS (n.kids.getD j default)).length) rfl ⟨_, un_36⟩ rfl ?_)
          by_cases hc117 : (q : Int) < ((varsS (n.kids.getD j default)).length : Int)
          · skip
            refine r_cons (s_lss true rfl rfl (dtrue hc117) rfl ?_)
            refine r_nil ?_
            refine g_true rfl ?_
            refine g_skip ?_
            refine g_seq ?_
            refine g_block ?_
            refine g_region ?_
            refine r_cons (s_move (.slice p_q3 ((sortS (((varsS (n.kids.getD j default)).take q).foldl addS (varF (n.kids.take j) (varA n)))).length) c_q3) rfl rfl ?_)
            refine r_cons (s_move (.slice pp93 ((varsS (n.kids.getD j default)).length) cc94) rfl rfl ?_)
            refine r_cons (s_move (.int .i64 (q : Int)) rfl rfl ?_)
            refine r_cons (s_indexAddr gA99 (off := oA100) (q : Int) 1 (oA100 + q * 1) (by exact congrArg (fun z_ => Value.slice z_ ((varsS (n.kids.getD j default)).length) cc94) (hp105 (by omega))) rfl el_36 (by omega) rfl rfl ?_)
            refine r_cons (s_load (.string (((varsS (n.kids.getD j default)).getD q default).v)) ag_9 rfl (H115.imi_at (i := 0) rfl (by omega)) (elem_cell (L := (varsS (n.kids.getD j default))) (i := q) strCell_len (hx106 (by omega)) (by omega) default 0 (by decide) _ rfl) rfl ?_)
            refine r_cons (s_call [.slice p_q3 ((sortS (((varsS (n.kids.getD j default)).take q).foldl addS (varF (n.kids.take j) (varA n)))).length) c_q3, .string (((varsS (n.kids.getD j default)).getD q default).v)] pl_45 rfl rfl (ref07_put (sortS (((varsS (n.kids.getD j default)).take q).foldl addS (varF (n.kids.take j) (varA n)))) (.slice p_q3 ((sortS (((varsS (n.kids.getD j default)).take q).foldl addS (varF (n.kids.take j) (varA n)))).length) c_q3) ((varsS (n.kids.getD j default)).getD q default) (m := 4) rfl (by first | (have h9 := varF_bound (n := n) (j := j) (q := q) (by omega); rw [sortS_len]; omega) | exact Nat.zero_le _) H115) ?_)
            rintro _ w120 ⟨pp118, cc119, rfl, H121⟩
            refine r_cons (s_assign (.slice pp118 ((putS (sortS (((varsS (n.kids.getD j default)).take q).foldl addS (varF (n.kids.take j) (varA n)))) ((varsS (n.kids.getD j default)).getD q default)).length) cc119) rfl rfl ?_)
            refine r_nil ?_
            refine g_inBlock ?_
            refine g_region ?_
            refine r_cons (s_move (.int .i64 (q : Int)) rfl rfl ?_)
            refine r_cons (s_add ((q : Int) + 1) rfl rfl (wi64 (by omega)) rfl ?_)
            refine r_cons (s_assign (.int .i64 ((q : Int) + 1)) rfl rfl ?_)
            refine r_nil ?_
            have hA122 : (putS (sortS (((varsS (n.kids.getD j default)).take q).foldl addS (varF (n.kids.take j) (varA n)))) ((varsS (n.kids.getD j default)).getD q default)) = (sortS (((varsS (n.kids.getD j default)).take (q + 1)).foldl addS (varF (n.kids.take j) (varA n)))) := (putS_sort _ _).trans (congrArg sortS (fold_stepS addS _ (by omega)).symm)
            have H123 : St W w120 (Im 1 (.slice pp118 ((sortS (((varsS (n.kids.getD j default)).take (q + 1)).foldl addS (varF (n.kids.take j) (varA n)))).length) cc119) ((sortS (((varsS (n.kids.getD j default)).take (q + 1)).foldl addS (varF (n.kids.take j) (varA n)))).length) ((sortS (((varsS (n.kids.getD j default)).take (q + 1)).foldl addS (varF (n.kids.take j) (varA n)))).flatMap strCell) :: imi (0 < (varsS (n.kids.getD j default)).length) gA99 (.cells kA101 eA102 zA103) :: Im 1 (.slice pp93 ((varsS (n.kids.getD j default)).length) cc94) ((varsS (n.kids.getD j default)).length) ((varsS (n.kids.getD j default)).flatMap strCell) :: NodeA (n.kids.getD j default) :: imi (0 < n.kids.length) gA73 (.cells kA75 eA76 zA77) :: Im 1 (.slice p_q3 ((sortS (((varsS (n.kids.getD j default)).take q).foldl addS (varF (n.kids.take j) (varA n)))).length) c_q3) ((sortS (((varsS (n.kids.getD j default)).take q).foldl addS (varF (n.kids.take j) (varA n)))).length) ((sortS (((varsS (n.kids.getD j default)).take q).foldl addS (varF (n.kids.take j) (varA n)))).flatMap strCell) :: Im 1 (.slice none 0 0) (([] : List Str).length) (([] : List Str).flatMap strCell) :: blk bk3 (.cells #[.int .i64 n.kind.v, .string n.var.v, .string n.typ.v, .slice n.tp n.tests.length n.tc, .slice n.kp n.kids.length n.kc] 25 (0, 0)) :: Im 5 (.slice n.kp n.kids.length n.kc) n.kids.length (n.kids.flatMap nodeCell) :: NodesA n.kids :: F) := by rw [← hA122]; exact H121
            have H124 : St W w120 (imi (0 < (varsS (n.kids.getD j default)).length) gA99 (.cells kA101 eA102 zA103) :: Im 1 (.slice pp93 ((varsS (n.kids.getD j default)).length) cc94) ((varsS (n.kids.getD j default)).length) ((varsS (n.kids.getD j default)).flatMap strCell) :: NodeA (n.kids.getD j default) :: imi (0 < n.kids.length) gA73 (.cells kA75 eA76 zA77) :: Im 1 (.slice pp118 ((sortS (((varsS (n.kids.getD j default)).take (q + 1)).foldl addS (varF (n.kids.take j) (varA n)))).length) cc119) ((sortS (((varsS (n.kids.getD j default)).take (q + 1)).foldl addS (varF (n.kids.take j) (varA n)))).length) ((sortS (((varsS (n.kids.getD j default)).take (q + 1)).foldl addS (varF (n.kids.take j) (varA n)))).flatMap strCell) :: Im 1 (.slice none 0 0) (([] : List Str).length) (([] : List Str).flatMap strCell) :: blk bk3 (.cells #[.int .i64 n.kind.v, .string n.var.v, .string n.typ.v, .slice n.tp n.tests.length n.tc, .slice n.kp n.kids.length n.kc] 25 (0, 0)) :: Im 5 (.slice n.kp n.kids.length n.kc) n.kids.length (n.kids.flatMap nodeCell) :: NodesA n.kids :: F) := ((((((((((H123.move 9 rfl).move 9 rfl).move 9 rfl).move 9 rfl).move 4 rfl).move 8 rfl).move 8 rfl).move 8 rfl).move 8 rfl).drop 9 rfl)
            exact nx116 (pp118, cc119, q + 1) _ _ ⟨(by omega), H124⟩ (by first | (dsimp only; omega) | omega) ⟨by first | rfl | exact vint (by omega), by first | rfl | exact vint (by omega), (show (.slice pp118 ((putS (sortS (((varsS (n.kids.getD j default)).take q).foldl addS (varF (n.kids.take j) (varA n)))) ((varsS (n.kids.getD j default)).getD q default)).length) cc119 : Value) = .slice pp118 ((sortS (((varsS (n.kids.getD j default)).take (q + 1)).foldl addS (varF (n.kids.take j) (varA n)))).length) cc119 from by first | (rw [← hA122]; done) | (rw [← hA122]; rfl)), by first | rfl | exact vint (by omega), by first | rfl | exact vint (by omega), by first | rfl | exact vint (by omega), trivial⟩
          · skip
            refine r_cons (s_lss false rfl rfl (dfalse hc117) rfl ?_)
            refine r_nil ?_
            refine g_false rfl ?_
            refine g_exit (by rfl) ?_
            refine g_inBlock ?_
            refine g_region ?_
            refine r_cons (s_move (.int .i64 (j : Int)) rfl rfl ?_)
            refine r_cons (s_add ((j : Int) + 1) rfl rfl (wi64 (by omega)) rfl ?_)
            refine r_cons (s_assign (.int .i64 ((j : Int) + 1)) rfl rfl ?_)
            refine r_nil ?_
            have hA125 : (sortS (((varsS (n.kids.getD j default)).take q).foldl addS (varF (n.kids.take j) (varA n)))) = (sortS (varF (n.kids.take (j + 1)) (varA n))) := by rw [varF_step (by omega), fold_allS _ _ (by omega)]
            have H126 : St W w114 (imi (0 < (varsS (n.kids.getD j default)).length) gA99 (.cells kA101 eA102 zA103) :: Im 1 (.slice pp93 ((varsS (n.kids.getD j default)).length) cc94) ((varsS (n.kids.getD j default)).length) ((varsS (n.kids.getD j default)).flatMap strCell) :: NodeA (n.kids.getD j default) :: imi (0 < n.kids.length) gA73 (.cells kA75 eA76 zA77) :: Im 1 (.slice p_q3 ((sortS (varF (n.kids.take (j + 1)) (varA n))).length) c_q3) ((sortS (varF (n.kids.take (j + 1)) (varA n))).length) ((sortS (varF (n.kids.take (j + 1)) (varA n))).flatMap strCell) :: Im 1 (.slice none 0 0) (([] : List Str).length) (([] : List Str).flatMap strCell) :: blk bk3 (.cells #[.int .i64 n.kind.v, .string n.var.v, .string n.typ.v, .slice n.tp n.tests.length n.tc, .slice n.kp n.kids.length n.kc] 25 (0, 0)) :: Im 5 (.slice n.kp n.kids.length n.kc) n.kids.length (n.kids.flatMap nodeCell) :: NodesA n.kids :: F) := by rw [← hA125]; exact H115
            have H127 : St W w114 (imi (0 < n.kids.length) gA73 (.cells kA75 eA76 zA77) :: Im 1 (.slice p_q3 ((sortS (varF (n.kids.take (j + 1)) (varA n))).length) c_q3) ((sortS (varF (n.kids.take (j + 1)) (varA n))).length) ((sortS (varF (n.kids.take (j + 1)) (varA n))).flatMap strCell) :: Im 1 (.slice none 0 0) (([] : List Str).length) (([] : List Str).flatMap strCell) :: blk bk3 (.cells #[.int .i64 n.kind.v, .string n.var.v, .string n.typ.v, .slice n.tp n.tests.length n.tc, .slice n.kp n.kids.length n.kc] 25 (0, 0)) :: Im 5 (.slice n.kp n.kids.length n.kc) n.kids.length (n.kids.flatMap nodeCell) :: NodesA n.kids :: F) := (((((((((H126.move 8 rfl).move 8 rfl).move 8 rfl).move 8 rfl).move 8 rfl).move 8 rfl).drop 6 rfl).drop 6 rfl).drop 6 rfl)
            exact nx90 (p_q3, c_q3, j + 1) _ _ ⟨(by omega), H127⟩ (by first | (dsimp only; omega) | omega) ⟨by first | rfl | exact vint (by omega), by first | rfl | exact vint (by omega), (show (.slice p_q3 ((sortS (((varsS (n.kids.getD j default)).take q).foldl addS (varF (n.kids.take j) (varA n)))).length) c_q3 : Value) = .slice p_q3 ((sortS (varF (n.kids.take (j + 1)) (varA n))).length) c_q3 from by first | (rw [← hA125]; done) | (rw [← hA125]; rfl)), by first | rfl | exact vint (by omega), trivial⟩
      · skip
        refine r_cons (s_lss false rfl rfl (dfalse hc91) rfl ?_)
        refine r_nil ?_
        refine g_false rfl ?_
        refine g_exit (by rfl) ?_
        refine g_seq ?_
        refine g_region ?_
        refine r_cons (s_move (.slice p_j3 ((sortS (varF (n.kids.take j) (varA n))).length) c_j3) rfl rfl ?_)
        refine r_cons (s_assign (.slice p_j3 ((sortS (varF (n.kids.take j) (varA n))).length) c_j3) rfl rfl ?_)
        refine r_nil ?_
        refine g_ret' [.slice p_j3 ((sortS (varF (n.kids.take j) (varA n))).length) c_j3] Try.func25 Try.results25 ⟨rfl, trivial⟩ ?_
        have H128 : St W w88 (Im 1 (.slice p_j3 ((sortS (varF (n.kids.take j) (varA n))).length) c_j3) ((sortS (varF (n.kids.take j) (varA n))).length) ((sortS (varF (n.kids.take j) (varA n))).flatMap strCell) :: F) := ((((((H89.move 1 rfl).drop 1 rfl).drop 1 rfl).drop 1 rfl).drop 1 rfl).drop 1 rfl)
        have hq9 : (sortS (varF (n.kids.take j) (varA n))) = varsS n := by rw [List.take_of_length_le (by omega)]; exact varsS_fold n
        exact ⟨p_j3, c_j3, by rw [← hq9]; rfl, by rw [← hq9]; exact H128⟩
theorem ref07_Vars {W w : World} {F : List Atom} (n : NodeD)  {i : Nat} (hi : F[i]? = some (NodeA n)) (hz : sizeN n ≤ 1048576) (H : St W w F) : Calls Try.prog 25 #[.agg #[.int .i64 n.kind.v, .string n.var.v, .string n.typ.v, .slice n.tp n.tests.length n.tc, .slice n.kp n.kids.length n.kc]] w (Ret fun v w' => ∃ p c, v = .slice p (varsS n).length c ∧ St W w' (Im 1 (.slice p (varsS n).length c) (varsS n).length ((varsS n).flatMap strCell) :: F)) := ref07_Vars_r (sizeOf n + 1) n (Nat.lt_succ_self _) hi hz H
set_option maxHeartbeats 4000000 in
set_option maxRecDepth 100000 in
theorem set_list {W w : World} {F : List Atom} (r : Nat) (L : List Str) (hN : L.length ≤ 1048577) (H : St W w (MapA r (ents kS vB (setOf L)) :: F)) : Calls Try.prog 44 #[.map (some r)] w (Ret fun v w' => ∃ p c, v = .slice p (sortS L).length c ∧ St W w' (Im 1 (.slice p (sortS L).length c) (sortS L).length ((sortS L).flatMap strCell) :: F)) := by
  refine calls_of_go (n := 6) Try.func44 rfl Try.ntmps44 rfl ?_
  refine g_seq ?_
  refine g_region ?_
  refine r_cons (s_assign (.slice none 0 0) rfl rfl ?_)
  refine r_nil ?_
  refine g_seq ?_
  refine g_region ?_
  refine r_cons (s_move (.map (some r)) rfl rfl ?_)
  refine r_cons (s_call [.map (some r)] pl_59 rfl rfl (Keys_S r H) ?_)
  rintro _ w2 ⟨bk1, rfl, H3⟩
  refine r_cons (s_call [.func (.func 68) #[] #[.pointer (some ⟨bk1, 0, none⟩)]] pl_58 rfl rfl (Sorted_S bk1 r L (i := 0) rfl (j := 1) rfl (by omega) H3) ?_)
  rintro _ w6 ⟨pp4, cc5, rfl, H7⟩
  refine r_cons (s_assign (.slice pp4 L.length cc5) rfl rfl ?_)
  refine r_nil ?_
  refine g_ret' [.slice pp4 L.length cc5] Try.func44 Try.results44 ⟨rfl, trivial⟩ ?_
  have H8 : St W w6 (Im 1 (.slice pp4 L.length cc5) L.length ((sortS L).flatMap strCell) :: F) := ((H7.drop 1 rfl).drop 1 rfl)
  exact ⟨_, _, by rw [sortS_len]; rfl, by rw [sortS_len]; exact H8⟩
set_option maxHeartbeats 4000000 in
set_option maxRecDepth 100000 in
theorem check_walk_r (N : Nat) : ∀ (n : NodeD), sizeOf n < N → ∀ {W w : World} {F : List Atom} (r g1 g2 : Nat) (L : List Str) {i : Nat} (hi : F[i]? = some (NodeA n)) {i1 : Nat} (h1 : F[i1]? = some (imm g1 (.cells #[.map (some r)] 57 (0, 0)))) {i2 : Nat} (h2 : F[i2]? = some (imm g2 (.cells #[.func (.func 43) #[] #[.pointer (some ⟨g1, 0, none⟩), .pointer (some ⟨g2, 0, none⟩)]] 59 (0, 0)))) (H : St W w (MapA r (ents kS vB (setOf L)) :: F)), Calls Try.prog 43 #[.agg #[.int .i64 n.kind.v, .string n.var.v, .string n.typ.v, .slice n.tp n.tests.length n.tc, .slice n.kp n.kids.length n.kc], .pointer (some ⟨g1, 0, none⟩), .pointer (some ⟨g2, 0, none⟩)] w (Ret fun v w' => v = .tuple #[] ∧ St W w' (MapA r (ents kS vB (setOf (walkN n L))) :: F)) := by
  induction N with | zero => exact fun n hN => absurd hN (Nat.not_lt_zero _) | succ N ih => ?_
  intro n hN W w F r g1 g2 L i hi i1 h1 i2 h2 H
  have H1 := H.dup (i := i1 + 1) (by exact h1) (imm_pers _ _)
  have H2 := H1.dup (i := i2 + 2) (by exact h2) (imm_pers _ _)
  have H3 : St W w (imm g2 (.cells #[.func (.func 43) #[] #[.pointer (some ⟨g1, 0, none⟩), .pointer (some ⟨g2, 0, none⟩)]] 59 (0, 0)) :: imm g1 (.cells #[.map (some r)] 57 (0, 0)) :: MapA r (ents kS vB (setOf L)) :: F) := H2
  have H4 := NodeA.kids H3 (i := i + 3) (by exact hi)
  have H5 : St W w (Im 5 (.slice n.kp n.kids.length n.kc) n.kids.length (n.kids.flatMap nodeCell) :: NodesA n.kids :: imm g2 (.cells #[.func (.func 43) #[] #[.pointer (some ⟨g1, 0, none⟩), .pointer (some ⟨g2, 0, none⟩)]] 59 (0, 0)) :: imm g1 (.cells #[.map (some r)] 57 (0, 0)) :: MapA r (ents kS vB (setOf L)) :: F) := H4
  refine calls_of_go (n := 23) Try.func43 rfl Try.ntmps43 rfl ?_
  refine g_seq ?_
  refine g_region ?_
  refine r_cons (s_box H5 25 (.agg #[.int .i64 n.kind.v, .string n.var.v, .string n.typ.v, .slice n.tp n.tests.length n.tc, .slice n.kp n.kids.length n.kc]) rfl (cs := #[.int .i64 n.kind.v, .string n.var.v, .string n.typ.v, .slice n.tp n.tests.length n.tc, .slice n.kp n.kids.length n.kc]) rfl rfl ?_); intro bk6 w7 H8
  refine r_nil ?_
  refine g_seq ?_
  refine g_seq ?_
  refine g_region ?_
  refine r_cons (s_fieldAddr 25 1 1 1 9 rfl fi_25_1 rfl rfl ?_)
  refine r_cons (s_load (.string n.var.v) ag_9 rfl (H8.blk_at (i := 0) rfl) rfl rfl ?_)
  by_cases hc9 : n.var.v = ByteArray.empty
  · skip
    refine r_cons (s_sneq false rfl rfl (ntrue hc9) rfl ?_)
    refine r_nil ?_
    refine g_false rfl ?_
    refine g_skip ?_
    refine g_seq ?_
    refine g_region ?_
    refine r_cons (s_fieldAddr 25 4 4 4 23 rfl fi_25_4 rfl rfl ?_)
    refine r_cons (s_load (.slice n.kp n.kids.length n.kc) ag_23 rfl (H8.blk_at (i := 0) rfl) rfl rfl ?_)
    refine r_cons (s_len n.kids.length rfl ⟨_, un_23⟩ rfl ?_)
    refine r_cons (s_move (.int .i64 0) rfl rfl ?_)
    refine r_nil ?_
    refine g_block ?_
    obtain ⟨pA10, cA11, gA12, oA13, kA14, eA15, zA16, he22, hn17, hp18, hx19, hs20, hml, H21⟩ := Im.open_ H8 (i := 1) rfl
    obtain ⟨rfl, rfl⟩ : n.kp = pA10 ∧ n.kc = cA11 := by injection he22 with a_ b_ c_; exact ⟨a_, c_⟩
    have hM23 : L = ((n.kids.take 0).foldl (fun L k => walkN k L) L) := rfl
    have H24 : St W w7 (imi (0 < n.kids.length) gA12 (.cells kA14 eA15 zA16) :: blk bk6 (.cells #[.int .i64 n.kind.v, .string n.var.v, .string n.typ.v, .slice n.tp n.tests.length n.tc, .slice n.kp n.kids.length n.kc] 25 (0, 0)) :: Im 5 (.slice n.kp n.kids.length n.kc) n.kids.length (n.kids.flatMap nodeCell) :: NodesA n.kids :: imm g2 (.cells #[.func (.func 43) #[] #[.pointer (some ⟨g1, 0, none⟩), .pointer (some ⟨g2, 0, none⟩)]] 59 (0, 0)) :: imm g1 (.cells #[.map (some r)] 57 (0, 0)) :: MapA r (ents kS vB (setOf ((n.kids.take 0).foldl (fun L k => walkN k L) L))) :: F) := by rw [← hM23]; exact H21
    have H25 : St W w7 (imi (0 < n.kids.length) gA12 (.cells kA14 eA15 zA16) :: Im 5 (.slice n.kp n.kids.length n.kc) n.kids.length (n.kids.flatMap nodeCell) :: NodesA n.kids :: imm g2 (.cells #[.func (.func 43) #[] #[.pointer (some ⟨g1, 0, none⟩), .pointer (some ⟨g2, 0, none⟩)]] 59 (0, 0)) :: imm g1 (.cells #[.map (some r)] 57 (0, 0)) :: MapA r (ents kS vB (setOf ((n.kids.take 0).foldl (fun L k => walkN k L) L))) :: F) := (((((((H24.move 6 rfl).move 6 rfl).move 6 rfl).move 6 rfl).move 6 rfl).move 5 rfl).drop 6 rfl)
    refine g_loop_inv (fun (x_ : Nat) => match x_ with | j => [(2, .pointer (some ⟨g2, 0, none⟩)), (13, .slice n.kp n.kids.length n.kc), (14, .int .i64 (n.kids.length : Int)), (15, .int .i64 (j : Int))]) (fun (x_ : Nat) w => match x_ with | j => (j ≤ n.kids.length) ∧ St W w (imi (0 < n.kids.length) gA12 (.cells kA14 eA15 zA16) :: Im 5 (.slice n.kp n.kids.length n.kc) n.kids.length (n.kids.flatMap nodeCell) :: NodesA n.kids :: imm g2 (.cells #[.func (.func 43) #[] #[.pointer (some ⟨g1, 0, none⟩), .pointer (some ⟨g2, 0, none⟩)]] 59 (0, 0)) :: imm g1 (.cells #[.map (some r)] 57 (0, 0)) :: MapA r (ents kS vB (setOf ((n.kids.take j).foldl (fun L k => walkN k L) L))) :: F)) (fun (x_ : Nat) => match x_ with | j => n.kids.length - j) (0) ?_ ?_ ?_
    · exact ⟨by first | rfl | exact vint (by omega), by first | rfl | exact vint (by omega), by first | rfl | exact vint (by omega), by first | rfl | exact vint (by omega), trivial⟩
    · exact ⟨(by omega), H25⟩
    · rintro j ρ26 w27 ⟨hjl, H28⟩ nx29
      change Ends _ _ (upds ρ26 [(2, .pointer (some ⟨g2, 0, none⟩)), (13, .slice n.kp n.kids.length n.kc), (14, .int .i64 (n.kids.length : Int)), (15, .int .i64 (j : Int))]) w27
      refine g_seq ?_
      refine g_region ?_
      by_cases hc30 : (j : Int) < (n.kids.length : Int)
      · skip
        refine r_cons (s_lss true rfl rfl (dtrue hc30) rfl ?_)
        refine r_nil ?_
        refine g_seq ?_
        refine g_true rfl ?_
        refine g_skip ?_
        refine g_seq ?_
        refine g_block ?_
        refine g_seq ?_
        refine g_region ?_
        refine r_cons (s_indexAddr gA12 (off := oA13) (j : Int) 5 (oA13 + j * 5) (by exact congrArg (fun z_ => Value.slice z_ n.kids.length n.kc) (hp18 (by omega))) rfl el_23 (by omega) rfl rfl ?_)
        refine r_cons (s_loadAgg [.int .i64 ((n.kids.getD j default).kind.v), .string ((n.kids.getD j default).var.v), .string ((n.kids.getD j default).typ.v), .slice ((n.kids.getD j default).tp) ((n.kids.getD j default).tests.length) ((n.kids.getD j default).tc), .slice ((n.kids.getD j default).kp) ((n.kids.getD j default).kids.length) ((n.kids.getD j default).kc)] 5 ag_25 rfl (H28.imi_at (i := 0) rfl (by omega)) (by have := elem_size (i := j) (s := 5) (hs20 (by omega)) (by omega); omega) (elem_take nodeCell_len (hx19 (by omega)) (by omega) default) rfl ?_)
        refine r_cons (s_alloc H28 25 ze_25 rfl ?_); intro bk31 w32 H33
        refine r_cons (s_storeAgg H33 0 #[.int .i64 ((n.kids.getD j default).kind.v), .string ((n.kids.getD j default).var.v), .string ((n.kids.getD j default).typ.v), .slice ((n.kids.getD j default).tp) ((n.kids.getD j default).tests.length) ((n.kids.getD j default).tc), .slice ((n.kids.getD j default).kp) ((n.kids.getD j default).kids.length) ((n.kids.getD j default).kc)] 5 rfl rfl rfl sz_25 rfl (by simp [Value.oneCell']) (Nat.le_of_ble_eq_true rfl) (fun o h1 h2 => by first | (simp; done) | (simp; omega)) (cs' := #[.int .i64 ((n.kids.getD j default).kind.v), .string ((n.kids.getD j default).var.v), .string ((n.kids.getD j default).typ.v), .slice ((n.kids.getD j default).tp) ((n.kids.getD j default).tests.length) ((n.kids.getD j default).tc), .slice ((n.kids.getD j default).kp) ((n.kids.getD j default).kids.length) ((n.kids.getD j default).kc)]) rfl ?_); intro w34 H35
        refine r_nil ?_
        refine g_region ?_
        refine r_cons (s_load (.func (.func 43) #[] #[.pointer (some ⟨g1, 0, none⟩), .pointer (some ⟨g2, 0, none⟩)]) ag_59 rfl (H35.imm_at (i := 4) rfl) rfl rfl ?_)
        refine r_cons (s_loadAgg [.int .i64 ((n.kids.getD j default).kind.v), .string ((n.kids.getD j default).var.v), .string ((n.kids.getD j default).typ.v), .slice ((n.kids.getD j default).tp) ((n.kids.getD j default).tests.length) ((n.kids.getD j default).tc), .slice ((n.kids.getD j default).kp) ((n.kids.getD j default).kids.length) ((n.kids.getD j default).kc)] 5 ag_25 rfl (H35.blk_at (i := 0) rfl) (Nat.le_of_ble_eq_true rfl) rfl rfl ?_)
        have H36 := NodesA.at H35 (i := 3) rfl (j := j) (by omega)
        have H37 : St W w34 (MapA r (ents kS vB (setOf ((n.kids.take j).foldl (fun L k => walkN k L) L))) :: NodeA (n.kids.getD j default) :: blk bk31 (.cells #[.int .i64 ((n.kids.getD j default).kind.v), .string ((n.kids.getD j default).var.v), .string ((n.kids.getD j default).typ.v), .slice ((n.kids.getD j default).tp) ((n.kids.getD j default).tests.length) ((n.kids.getD j default).tc), .slice ((n.kids.getD j default).kp) ((n.kids.getD j default).kids.length) ((n.kids.getD j default).kc)] 25 (0, 0)) :: imi (0 < n.kids.length) gA12 (.cells kA14 eA15 zA16) :: Im 5 (.slice n.kp n.kids.length n.kc) n.kids.length (n.kids.flatMap nodeCell) :: NodesA n.kids :: imm g2 (.cells #[.func (.func 43) #[] #[.pointer (some ⟨g1, 0, none⟩), .pointer (some ⟨g2, 0, none⟩)]] 59 (0, 0)) :: imm g1 (.cells #[.map (some r)] 57 (0, 0)) :: F) := (H36.move 7 rfl)
        refine r_cons (s_callv [.pointer (some ⟨g1, 0, none⟩), .pointer (some ⟨g2, 0, none⟩)] [.agg #[.int .i64 ((n.kids.getD j default).kind.v), .string ((n.kids.getD j default).var.v), .string ((n.kids.getD j default).typ.v), .slice ((n.kids.getD j default).tp) ((n.kids.getD j default).tests.length) ((n.kids.getD j default).tc), .slice ((n.kids.getD j default).kp) ((n.kids.getD j default).kids.length) ((n.kids.getD j default).kc)], .pointer (some ⟨g1, 0, none⟩), .pointer (some ⟨g2, 0, none⟩)] rfl pl_43 rfl rfl (ih (n.kids.getD j default) (by have h9 := kid_lt (n := n) (j := j) (by omega); omega) r g1 g2 ((n.kids.take j).foldl (fun L k => walkN k L) L) (i := 0) rfl (i1 := 6) rfl (i2 := 5) rfl H37) ?_)
        rintro _ w38 ⟨rfl, H39⟩
        refine r_nil ?_
        refine g_inBlock ?_
        refine g_region ?_
        refine r_cons (s_add ((j : Int) + 1) rfl rfl (wi64 (by omega)) rfl ?_)
        refine r_cons (s_move (.int .i64 ((j : Int) + 1)) rfl rfl ?_)
        refine r_nil ?_
        have hM40 : (walkN (n.kids.getD j default) ((n.kids.take j).foldl (fun L k => walkN k L) L)) = ((n.kids.take (j + 1)).foldl (fun L k => walkN k L) L) := (fold_step (fun L k => walkN k L) _ (by omega)).symm
        have H41 : St W w38 (MapA r (ents kS vB (setOf ((n.kids.take (j + 1)).foldl (fun L k => walkN k L) L))) :: NodeA (n.kids.getD j default) :: blk bk31 (.cells #[.int .i64 ((n.kids.getD j default).kind.v), .string ((n.kids.getD j default).var.v), .string ((n.kids.getD j default).typ.v), .slice ((n.kids.getD j default).tp) ((n.kids.getD j default).tests.length) ((n.kids.getD j default).tc), .slice ((n.kids.getD j default).kp) ((n.kids.getD j default).kids.length) ((n.kids.getD j default).kc)] 25 (0, 0)) :: imi (0 < n.kids.length) gA12 (.cells kA14 eA15 zA16) :: Im 5 (.slice n.kp n.kids.length n.kc) n.kids.length (n.kids.flatMap nodeCell) :: NodesA n.kids :: imm g2 (.cells #[.func (.func 43) #[] #[.pointer (some ⟨g1, 0, none⟩), .pointer (some ⟨g2, 0, none⟩)]] 59 (0, 0)) :: imm g1 (.cells #[.map (some r)] 57 (0, 0)) :: F) := by rw [← hM40]; exact H39
        have H42 : St W w38 (imi (0 < n.kids.length) gA12 (.cells kA14 eA15 zA16) :: Im 5 (.slice n.kp n.kids.length n.kc) n.kids.length (n.kids.flatMap nodeCell) :: NodesA n.kids :: imm g2 (.cells #[.func (.func 43) #[] #[.pointer (some ⟨g1, 0, none⟩), .pointer (some ⟨g2, 0, none⟩)]] 59 (0, 0)) :: imm g1 (.cells #[.map (some r)] 57 (0, 0)) :: MapA r (ents kS vB (setOf ((n.kids.take (j + 1)).foldl (fun L k => walkN k L) L))) :: F) := (((((((H41.move 7 rfl).move 7 rfl).move 7 rfl).move 7 rfl).move 7 rfl).drop 6 rfl).drop 6 rfl)
        exact nx29 (j + 1) _ _ ⟨(by omega), H42⟩ (by first | (dsimp only; omega) | omega) ⟨by first | rfl | exact vint (by omega), by first | rfl | exact vint (by omega), by first | rfl | exact vint (by omega), by first | rfl | exact vint (by omega), trivial⟩
      · skip
        refine r_cons (s_lss false rfl rfl (dfalse hc30) rfl ?_)
        refine r_nil ?_
        refine g_seq ?_
        refine g_false rfl ?_
        refine g_exit (by rfl) ?_
        refine g_end' [] Try.func43 Try.results43 trivial ?_
        have hq9 : ((n.kids.take j).foldl (fun L k => walkN k L) L) = walkN n L := by rw [List.take_of_length_le (by omega), walkN_eq, if_pos hc9]
        have H43 : St W w27 (MapA r (ents kS vB (setOf ((n.kids.take j).foldl (fun L k => walkN k L) L))) :: F) := ((((((H28.move 5 rfl).drop 1 rfl).drop 1 rfl).drop 1 rfl).drop 1 rfl).drop 1 rfl)
        exact ⟨rfl, by rw [← hq9]; exact H43⟩
  · skip
    refine r_cons (s_sneq true rfl rfl (nfalse hc9) rfl ?_)
    refine r_nil ?_
    refine g_true rfl ?_
    refine g_region ?_
    refine r_cons (s_load (.map (some r)) ag_57 rfl (H8.imm_at (i := 4) rfl) rfl rfl ?_)
    refine r_cons (s_fieldAddr 25 1 1 1 9 rfl fi_25_1 rfl rfl ?_)
    refine r_cons (s_load (.string n.var.v) ag_9 rfl (H8.blk_at (i := 0) rfl) rfl rfl ?_)
    refine r_cons (s_mapUpdate (ek := kS) (ev := vB) (L := setOf L) n.var true H8 (i := 5) rfl (KeyLaw.S un_9) un_57 rfl rfl rfl ?_); intro w44 H45
    have H46 : St W w44 (blk bk6 (.cells #[.int .i64 n.kind.v, .string n.var.v, .string n.typ.v, .slice n.tp n.tests.length n.tc, .slice n.kp n.kids.length n.kc] 25 (0, 0)) :: Im 5 (.slice n.kp n.kids.length n.kc) n.kids.length (n.kids.flatMap nodeCell) :: NodesA n.kids :: imm g2 (.cells #[.func (.func 43) #[] #[.pointer (some ⟨g1, 0, none⟩), .pointer (some ⟨g2, 0, none⟩)]] 59 (0, 0)) :: imm g1 (.cells #[.map (some r)] 57 (0, 0)) :: MapA r (ents kS vB (setOf (addS L n.var))) :: F) := by have h9 := H45; rw [setOf_set] at h9; exact h9
    refine r_nil ?_
    refine g_seq ?_
    refine g_region ?_
    refine r_cons (s_fieldAddr 25 4 4 4 23 rfl fi_25_4 rfl rfl ?_)
    refine r_cons (s_load (.slice n.kp n.kids.length n.kc) ag_23 rfl (H46.blk_at (i := 0) rfl) rfl rfl ?_)
    refine r_cons (s_len n.kids.length rfl ⟨_, un_23⟩ rfl ?_)
    refine r_cons (s_move (.int .i64 0) rfl rfl ?_)
    refine r_nil ?_
    refine g_block ?_
    obtain ⟨pA47, cA48, gA49, oA50, kA51, eA52, zA53, he59, hn54, hp55, hx56, hs57, hml, H58⟩ := Im.open_ H46 (i := 1) rfl
    obtain ⟨rfl, rfl⟩ : n.kp = pA47 ∧ n.kc = cA48 := by injection he59 with a_ b_ c_; exact ⟨a_, c_⟩
    have hM60 : (addS L n.var) = ((n.kids.take 0).foldl (fun L k => walkN k L) (addS L n.var)) := rfl
    have H61 : St W w44 (imi (0 < n.kids.length) gA49 (.cells kA51 eA52 zA53) :: blk bk6 (.cells #[.int .i64 n.kind.v, .string n.var.v, .string n.typ.v, .slice n.tp n.tests.length n.tc, .slice n.kp n.kids.length n.kc] 25 (0, 0)) :: Im 5 (.slice n.kp n.kids.length n.kc) n.kids.length (n.kids.flatMap nodeCell) :: NodesA n.kids :: imm g2 (.cells #[.func (.func 43) #[] #[.pointer (some ⟨g1, 0, none⟩), .pointer (some ⟨g2, 0, none⟩)]] 59 (0, 0)) :: imm g1 (.cells #[.map (some r)] 57 (0, 0)) :: MapA r (ents kS vB (setOf ((n.kids.take 0).foldl (fun L k => walkN k L) (addS L n.var)))) :: F) := by rw [← hM60]; exact H58
    have H62 : St W w44 (imi (0 < n.kids.length) gA49 (.cells kA51 eA52 zA53) :: Im 5 (.slice n.kp n.kids.length n.kc) n.kids.length (n.kids.flatMap nodeCell) :: NodesA n.kids :: imm g2 (.cells #[.func (.func 43) #[] #[.pointer (some ⟨g1, 0, none⟩), .pointer (some ⟨g2, 0, none⟩)]] 59 (0, 0)) :: imm g1 (.cells #[.map (some r)] 57 (0, 0)) :: MapA r (ents kS vB (setOf ((n.kids.take 0).foldl (fun L k => walkN k L) (addS L n.var)))) :: F) := (((((((H61.move 6 rfl).move 6 rfl).move 6 rfl).move 6 rfl).move 6 rfl).move 5 rfl).drop 6 rfl)
    refine g_loop_inv (fun (x_ : Nat) => match x_ with | j => [(2, .pointer (some ⟨g2, 0, none⟩)), (13, .slice n.kp n.kids.length n.kc), (14, .int .i64 (n.kids.length : Int)), (15, .int .i64 (j : Int))]) (fun (x_ : Nat) w => match x_ with | j => (j ≤ n.kids.length) ∧ St W w (imi (0 < n.kids.length) gA49 (.cells kA51 eA52 zA53) :: Im 5 (.slice n.kp n.kids.length n.kc) n.kids.length (n.kids.flatMap nodeCell) :: NodesA n.kids :: imm g2 (.cells #[.func (.func 43) #[] #[.pointer (some ⟨g1, 0, none⟩), .pointer (some ⟨g2, 0, none⟩)]] 59 (0, 0)) :: imm g1 (.cells #[.map (some r)] 57 (0, 0)) :: MapA r (ents kS vB (setOf ((n.kids.take j).foldl (fun L k => walkN k L) (addS L n.var)))) :: F)) (fun (x_ : Nat) => match x_ with | j => n.kids.length - j) (0) ?_ ?_ ?_
    · exact ⟨by first | rfl | exact vint (by omega), by first | rfl | exact vint (by omega), by first | rfl | exact vint (by omega), by first | rfl | exact vint (by omega), trivial⟩
    · exact ⟨(by omega), H62⟩
    · rintro j ρ63 w64 ⟨hjl, H65⟩ nx66
      change Ends _ _ (upds ρ63 [(2, .pointer (some ⟨g2, 0, none⟩)), (13, .slice n.kp n.kids.length n.kc), (14, .int .i64 (n.kids.length : Int)), (15, .int .i64 (j : Int))]) w64
      refine g_seq ?_
      refine g_region ?_
      by_cases hc67 : (j : Int) < (n.kids.length : Int)
      · skip
        refine r_cons (s_lss true rfl rfl (dtrue hc67) rfl ?_)
        refine r_nil ?_
        refine g_seq ?_
        refine g_true rfl ?_
        refine g_skip ?_
        refine g_seq ?_
        refine g_block ?_
        refine g_seq ?_
        refine g_region ?_
        refine r_cons (s_indexAddr gA49 (off := oA50) (j : Int) 5 (oA50 + j * 5) (by exact congrArg (fun z_ => Value.slice z_ n.kids.length n.kc) (hp55 (by omega))) rfl el_23 (by omega) rfl rfl ?_)
        refine r_cons (s_loadAgg [.int .i64 ((n.kids.getD j default).kind.v), .string ((n.kids.getD j default).var.v), .string ((n.kids.getD j default).typ.v), .slice ((n.kids.getD j default).tp) ((n.kids.getD j default).tests.length) ((n.kids.getD j default).tc), .slice ((n.kids.getD j default).kp) ((n.kids.getD j default).kids.length) ((n.kids.getD j default).kc)] 5 ag_25 rfl (H65.imi_at (i := 0) rfl (by omega)) (by have := elem_size (i := j) (s := 5) (hs57 (by omega)) (by omega); omega) (elem_take nodeCell_len (hx56 (by omega)) (by omega) default) rfl ?_)
        refine r_cons (s_alloc H65 25 ze_25 rfl ?_); intro bk68 w69 H70
        refine r_cons (s_storeAgg H70 0 #[.int .i64 ((n.kids.getD j default).kind.v), .string ((n.kids.getD j default).var.v), .string ((n.kids.getD j default).typ.v), .slice ((n.kids.getD j default).tp) ((n.kids.getD j default).tests.length) ((n.kids.getD j default).tc), .slice ((n.kids.getD j default).kp) ((n.kids.getD j default).kids.length) ((n.kids.getD j default).kc)] 5 rfl rfl rfl sz_25 rfl (by simp [Value.oneCell']) (Nat.le_of_ble_eq_true rfl) (fun o h1 h2 => by first | (simp; done) | (simp; omega)) (cs' := #[.int .i64 ((n.kids.getD j default).kind.v), .string ((n.kids.getD j default).var.v), .string ((n.kids.getD j default).typ.v), .slice ((n.kids.getD j default).tp) ((n.kids.getD j default).tests.length) ((n.kids.getD j default).tc), .slice ((n.kids.getD j default).kp) ((n.kids.getD j default).kids.length) ((n.kids.getD j default).kc)]) rfl ?_); intro w71 H72
        refine r_nil ?_
        refine g_region ?_
        refine r_cons (s_load (.func (.func 43) #[] #[.pointer (some ⟨g1, 0, none⟩), .pointer (some ⟨g2, 0, none⟩)]) ag_59 rfl (H72.imm_at (i := 4) rfl) rfl rfl ?_)
        refine r_cons (s_loadAgg [.int .i64 ((n.kids.getD j default).kind.v), .string ((n.kids.getD j default).var.v), .string ((n.kids.getD j default).typ.v), .slice ((n.kids.getD j default).tp) ((n.kids.getD j default).tests.length) ((n.kids.getD j default).tc), .slice ((n.kids.getD j default).kp) ((n.kids.getD j default).kids.length) ((n.kids.getD j default).kc)] 5 ag_25 rfl (H72.blk_at (i := 0) rfl) (Nat.le_of_ble_eq_true rfl) rfl rfl ?_)
        have H73 := NodesA.at H72 (i := 3) rfl (j := j) (by omega)
        have H74 : St W w71 (MapA r (ents kS vB (setOf ((n.kids.take j).foldl (fun L k => walkN k L) (addS L n.var)))) :: NodeA (n.kids.getD j default) :: blk bk68 (.cells #[.int .i64 ((n.kids.getD j default).kind.v), .string ((n.kids.getD j default).var.v), .string ((n.kids.getD j default).typ.v), .slice ((n.kids.getD j default).tp) ((n.kids.getD j default).tests.length) ((n.kids.getD j default).tc), .slice ((n.kids.getD j default).kp) ((n.kids.getD j default).kids.length) ((n.kids.getD j default).kc)] 25 (0, 0)) :: imi (0 < n.kids.length) gA49 (.cells kA51 eA52 zA53) :: Im 5 (.slice n.kp n.kids.length n.kc) n.kids.length (n.kids.flatMap nodeCell) :: NodesA n.kids :: imm g2 (.cells #[.func (.func 43) #[] #[.pointer (some ⟨g1, 0, none⟩), .pointer (some ⟨g2, 0, none⟩)]] 59 (0, 0)) :: imm g1 (.cells #[.map (some r)] 57 (0, 0)) :: F) := (H73.move 7 rfl)
        refine r_cons (s_callv [.pointer (some ⟨g1, 0, none⟩), .pointer (some ⟨g2, 0, none⟩)] [.agg #[.int .i64 ((n.kids.getD j default).kind.v), .string ((n.kids.getD j default).var.v), .string ((n.kids.getD j default).typ.v), .slice ((n.kids.getD j default).tp) ((n.kids.getD j default).tests.length) ((n.kids.getD j default).tc), .slice ((n.kids.getD j default).kp) ((n.kids.getD j default).kids.length) ((n.kids.getD j default).kc)], .pointer (some ⟨g1, 0, none⟩), .pointer (some ⟨g2, 0, none⟩)] rfl pl_43 rfl rfl (ih (n.kids.getD j default) (by have h9 := kid_lt (n := n) (j := j) (by omega); omega) r g1 g2 ((n.kids.take j).foldl (fun L k => walkN k L) (addS L n.var)) (i := 0) rfl (i1 := 6) rfl (i2 := 5) rfl H74) ?_)
        rintro _ w75 ⟨rfl, H76⟩
        refine r_nil ?_
        refine g_inBlock ?_
        refine g_region ?_
        refine r_cons (s_add ((j : Int) + 1) rfl rfl (wi64 (by omega)) rfl ?_)
        refine r_cons (s_move (.int .i64 ((j : Int) + 1)) rfl rfl ?_)
        refine r_nil ?_
        have hM77 : (walkN (n.kids.getD j default) ((n.kids.take j).foldl (fun L k => walkN k L) (addS L n.var))) = ((n.kids.take (j + 1)).foldl (fun L k => walkN k L) (addS L n.var)) := (fold_step (fun L k => walkN k L) _ (by omega)).symm
        have H78 : St W w75 (MapA r (ents kS vB (setOf ((n.kids.take (j + 1)).foldl (fun L k => walkN k L) (addS L n.var)))) :: NodeA (n.kids.getD j default) :: blk bk68 (.cells #[.int .i64 ((n.kids.getD j default).kind.v), .string ((n.kids.getD j default).var.v), .string ((n.kids.getD j default).typ.v), .slice ((n.kids.getD j default).tp) ((n.kids.getD j default).tests.length) ((n.kids.getD j default).tc), .slice ((n.kids.getD j default).kp) ((n.kids.getD j default).kids.length) ((n.kids.getD j default).kc)] 25 (0, 0)) :: imi (0 < n.kids.length) gA49 (.cells kA51 eA52 zA53) :: Im 5 (.slice n.kp n.kids.length n.kc) n.kids.length (n.kids.flatMap nodeCell) :: NodesA n.kids :: imm g2 (.cells #[.func (.func 43) #[] #[.pointer (some ⟨g1, 0, none⟩), .pointer (some ⟨g2, 0, none⟩)]] 59 (0, 0)) :: imm g1 (.cells #[.map (some r)] 57 (0, 0)) :: F) := by rw [← hM77]; exact H76
        have H79 : St W w75 (imi (0 < n.kids.length) gA49 (.cells kA51 eA52 zA53) :: Im 5 (.slice n.kp n.kids.length n.kc) n.kids.length (n.kids.flatMap nodeCell) :: NodesA n.kids :: imm g2 (.cells #[.func (.func 43) #[] #[.pointer (some ⟨g1, 0, none⟩), .pointer (some ⟨g2, 0, none⟩)]] 59 (0, 0)) :: imm g1 (.cells #[.map (some r)] 57 (0, 0)) :: MapA r (ents kS vB (setOf ((n.kids.take (j + 1)).foldl (fun L k => walkN k L) (addS L n.var)))) :: F) := (((((((H78.move 7 rfl).move 7 rfl).move 7 rfl).move 7 rfl).move 7 rfl).drop 6 rfl).drop 6 rfl)
        exact nx66 (j + 1) _ _ ⟨(by omega), H79⟩ (by first | (dsimp only; omega) | omega) ⟨by first | rfl | exact vint (by omega), by first | rfl | exact vint (by omega), by first | rfl | exact vint (by omega), by first | rfl | exact vint (by omega), trivial⟩
      · skip
        refine r_cons (s_lss false rfl rfl (dfalse hc67) rfl ?_)
        refine r_nil ?_
        refine g_seq ?_
        refine g_false rfl ?_
        refine g_exit (by rfl) ?_
        refine g_end' [] Try.func43 Try.results43 trivial ?_
        have hq9 : ((n.kids.take j).foldl (fun L k => walkN k L) (addS L n.var)) = walkN n L := by rw [List.take_of_length_le (by omega), walkN_eq, if_neg hc9]
        have H80 : St W w64 (MapA r (ents kS vB (setOf ((n.kids.take j).foldl (fun L k => walkN k L) (addS L n.var)))) :: F) := ((((((H65.move 5 rfl).drop 1 rfl).drop 1 rfl).drop 1 rfl).drop 1 rfl).drop 1 rfl)
        exact ⟨rfl, by rw [← hq9]; exact H80⟩
theorem check_walk {W w : World} {F : List Atom} (n : NodeD) (r g1 g2 : Nat) (L : List Str) {i : Nat} (hi : F[i]? = some (NodeA n)) {i1 : Nat} (h1 : F[i1]? = some (imm g1 (.cells #[.map (some r)] 57 (0, 0)))) {i2 : Nat} (h2 : F[i2]? = some (imm g2 (.cells #[.func (.func 43) #[] #[.pointer (some ⟨g1, 0, none⟩), .pointer (some ⟨g2, 0, none⟩)]] 59 (0, 0)))) (H : St W w (MapA r (ents kS vB (setOf L)) :: F)) : Calls Try.prog 43 #[.agg #[.int .i64 n.kind.v, .string n.var.v, .string n.typ.v, .slice n.tp n.tests.length n.tc, .slice n.kp n.kids.length n.kc], .pointer (some ⟨g1, 0, none⟩), .pointer (some ⟨g2, 0, none⟩)] w (Ret fun v w' => v = .tuple #[] ∧ St W w' (MapA r (ents kS vB (setOf (walkN n L))) :: F)) := check_walk_r (sizeOf n + 1) n (Nat.lt_succ_self _) r g1 g2 L hi h1 h2 H
set_option maxHeartbeats 4000000 in
set_option maxRecDepth 100000 in
theorem check_Vars {W w : World} {F : List Atom} (n : NodeD) {i : Nat} (hi : F[i]? = some (NodeA n)) (hz : sizeN n ≤ 1048576) (H : St W w F) : Calls Try.prog 24 #[.agg #[.int .i64 n.kind.v, .string n.var.v, .string n.typ.v, .slice n.tp n.tests.length n.tc, .slice n.kp n.kids.length n.kc]] w (Ret fun v w' => ∃ p c, v = .slice p (varsS n).length c ∧ St W w' (Im 1 (.slice p (varsS n).length c) (varsS n).length ((varsS n).flatMap strCell) :: F)) := by
  have H1 := H.dup (i := i) (by exact hi) (NodeA_pers _)
  have H2 : St W w (NodeA n :: F) := H1
  refine calls_of_go (n := 12) Try.func24 rfl Try.ntmps24 rfl ?_
  refine g_seq ?_
  refine g_region ?_
  refine r_cons (s_box H2 25 (.agg #[.int .i64 n.kind.v, .string n.var.v, .string n.typ.v, .slice n.tp n.tests.length n.tc, .slice n.kp n.kids.length n.kc]) rfl (cs := #[.int .i64 n.kind.v, .string n.var.v, .string n.typ.v, .slice n.tp n.tests.length n.tc, .slice n.kp n.kids.length n.kc]) rfl rfl ?_); intro bk3 w4 H5
  refine r_cons (s_assign (.slice none 0 0) rfl rfl ?_)
  refine r_nil ?_
  refine g_seq ?_
  refine g_region ?_
  refine r_cons (s_makeMap H5 rfl ?_); intro mp6 w7 H8
  have H9 : St W w7 (MapA mp6 (ents kS vB (setOf ([] : List Str))) :: blk bk3 (.cells #[.int .i64 n.kind.v, .string n.var.v, .string n.typ.v, .slice n.tp n.tests.length n.tc, .slice n.kp n.kids.length n.kc] 25 (0, 0)) :: NodeA n :: F) := H8
  refine r_cons (s_alloc H9 57 ze_57 rfl ?_); intro bk10 w11 H12
  refine r_cons (s_store H12 0 (.map (some mp6)) rfl rfl rfl sz_57 rfl (Nat.le_of_ble_eq_true rfl) rfl (cs' := #[.map (some mp6)]) rfl ?_); intro w13 H14
  refine r_nil ?_
  refine g_seq ?_
  refine g_region ?_
  refine r_cons (s_alloc H14 59 ze_59 rfl ?_); intro bk15 w16 H17
  refine r_nil ?_
  refine g_seq ?_
  refine g_region ?_
  refine r_cons (s_makeFunc (.func (.func 43) #[] #[.pointer (some ⟨bk10, 0, none⟩), .pointer (some ⟨bk15, 0, none⟩)]) rfl rfl ?_)
  refine r_cons (s_store H17 0 (.func (.func 43) #[] #[.pointer (some ⟨bk10, 0, none⟩), .pointer (some ⟨bk15, 0, none⟩)]) rfl rfl rfl sz_59 rfl (Nat.le_of_ble_eq_true rfl) rfl (cs' := #[.func (.func 43) #[] #[.pointer (some ⟨bk10, 0, none⟩), .pointer (some ⟨bk15, 0, none⟩)]]) rfl ?_); intro w18 H19
  refine r_nil ?_
  refine g_seq ?_
  refine g_region ?_
  have H20 : St W w18 (blk bk15 (.cells #[.func (.func 43) #[] #[.pointer (some ⟨bk10, 0, none⟩), .pointer (some ⟨bk15, 0, none⟩)]] 59 (0, 0)) :: imm bk10 (.cells #[.map (some mp6)] 57 (0, 0)) :: MapA mp6 (ents kS vB (setOf ([] : List Str))) :: blk bk3 (.cells #[.int .i64 n.kind.v, .string n.var.v, .string n.typ.v, .slice n.tp n.tests.length n.tc, .slice n.kp n.kids.length n.kc] 25 (0, 0)) :: NodeA n :: F) := blk_imm H19 (i := 1) rfl
  have H21 : St W w18 (imm bk15 (.cells #[.func (.func 43) #[] #[.pointer (some ⟨bk10, 0, none⟩), .pointer (some ⟨bk15, 0, none⟩)]] 59 (0, 0)) :: imm bk10 (.cells #[.map (some mp6)] 57 (0, 0)) :: MapA mp6 (ents kS vB (setOf ([] : List Str))) :: blk bk3 (.cells #[.int .i64 n.kind.v, .string n.var.v, .string n.typ.v, .slice n.tp n.tests.length n.tc, .slice n.kp n.kids.length n.kc] 25 (0, 0)) :: NodeA n :: F) := blk_imm H20 (i := 0) rfl
  refine r_cons (s_load (.func (.func 43) #[] #[.pointer (some ⟨bk10, 0, none⟩), .pointer (some ⟨bk15, 0, none⟩)]) ag_59 rfl (H21.imm_at (i := 0) rfl) rfl rfl ?_)
  refine r_cons (s_loadAgg [.int .i64 n.kind.v, .string n.var.v, .string n.typ.v, .slice n.tp n.tests.length n.tc, .slice n.kp n.kids.length n.kc] 5 ag_25 rfl (H21.blk_at (i := 3) rfl) (Nat.le_of_ble_eq_true rfl) rfl rfl ?_)
  have H22 : St W w18 (MapA mp6 (ents kS vB (setOf ([] : List Str))) :: imm bk15 (.cells #[.func (.func 43) #[] #[.pointer (some ⟨bk10, 0, none⟩), .pointer (some ⟨bk15, 0, none⟩)]] 59 (0, 0)) :: imm bk10 (.cells #[.map (some mp6)] 57 (0, 0)) :: blk bk3 (.cells #[.int .i64 n.kind.v, .string n.var.v, .string n.typ.v, .slice n.tp n.tests.length n.tc, .slice n.kp n.kids.length n.kc] 25 (0, 0)) :: NodeA n :: F) := (H21.move 2 rfl)
  refine r_cons (s_callv [.pointer (some ⟨bk10, 0, none⟩), .pointer (some ⟨bk15, 0, none⟩)] [.agg #[.int .i64 n.kind.v, .string n.var.v, .string n.typ.v, .slice n.tp n.tests.length n.tc, .slice n.kp n.kids.length n.kc], .pointer (some ⟨bk10, 0, none⟩), .pointer (some ⟨bk15, 0, none⟩)] rfl pl_43 rfl rfl (check_walk n mp6 bk10 bk15 ([] : List Str) (i := 3) rfl (i1 := 1) rfl (i2 := 0) rfl H22) ?_)
  rintro _ w23 ⟨rfl, H24⟩
  refine r_nil ?_
  refine g_seq ?_
  refine g_region ?_
  refine r_cons (s_load (.map (some mp6)) ag_57 rfl (H24.imm_at (i := 2) rfl) rfl rfl ?_)
  refine r_cons (s_call [.map (some mp6)] pl_44 rfl rfl (set_list mp6 (walkN n ([] : List Str)) (by have h9 := walkN_len n []; simp only [List.length_nil] at h9; omega) H24) ?_)
  rintro _ w27 ⟨pp25, cc26, rfl, H28⟩
  refine r_cons (s_assign (.slice pp25 ((sortS (walkN n ([] : List Str))).length) cc26) rfl rfl ?_)
  refine r_nil ?_
  refine g_ret' [.slice pp25 ((sortS (walkN n ([] : List Str))).length) cc26] Try.func24 Try.results24 ⟨rfl, trivial⟩ ?_
  have H29 : St W w27 (Im 1 (.slice pp25 ((sortS (walkN n ([] : List Str))).length) cc26) ((sortS (walkN n ([] : List Str))).length) ((sortS (walkN n ([] : List Str))).flatMap strCell) :: F) := ((((H28.drop 1 rfl).drop 1 rfl).drop 1 rfl).drop 1 rfl)
  exact ⟨_, _, rfl, H29⟩
set_option maxHeartbeats 4000000 in
set_option maxRecDepth 100000 in
theorem check_Sure_r (N : Nat) : ∀ (n : NodeD), sizeOf n < N → ∀ {W w : World} {F : List Atom}  {i : Nat} (hi : F[i]? = some (NodeA n)) (hz : sizeN n ≤ 1048576) (H : St W w F), Calls Try.prog 26 #[.agg #[.int .i64 n.kind.v, .string n.var.v, .string n.typ.v, .slice n.tp n.tests.length n.tc, .slice n.kp n.kids.length n.kc]] w (Ret fun v w' => ∃ p c, v = .slice p (sureN n).length c ∧ St W w' (Im 1 (.slice p (sureN n).length c) (sureN n).length ((sureN n).flatMap strCell) :: F)) := by
  induction N with | zero => exact fun n hN => absurd hN (Nat.not_lt_zero _) | succ N ih => ?_
  intro n hN W w F i hi hz H
  have H1 := NodeA.kids H (i := i + 0) (by exact hi)
  have H2 : St W w (Im 5 (.slice n.kp n.kids.length n.kc) n.kids.length (n.kids.flatMap nodeCell) :: NodesA n.kids :: F) := H1
  refine calls_of_go (n := 66) Try.func26 rfl Try.ntmps26 rfl ?_
  refine g_seq ?_
  refine g_region ?_
  refine r_cons (s_box H2 25 (.agg #[.int .i64 n.kind.v, .string n.var.v, .string n.typ.v, .slice n.tp n.tests.length n.tc, .slice n.kp n.kids.length n.kc]) rfl (cs := #[.int .i64 n.kind.v, .string n.var.v, .string n.typ.v, .slice n.tp n.tests.length n.tc, .slice n.kp n.kids.length n.kc]) rfl rfl ?_); intro bk3 w4 H5
  refine r_cons (s_assign (.slice none 0 0) rfl rfl ?_)
  refine r_nil ?_
  refine g_seq ?_
  refine g_region ?_
  refine r_cons (s_makeMap H5 rfl ?_); intro mp6 w7 H8
  have H9 : St W w7 (MapA mp6 (ents kS vB (setOf ([] : List Str))) :: blk bk3 (.cells #[.int .i64 n.kind.v, .string n.var.v, .string n.typ.v, .slice n.tp n.tests.length n.tc, .slice n.kp n.kids.length n.kc] 25 (0, 0)) :: Im 5 (.slice n.kp n.kids.length n.kc) n.kids.length (n.kids.flatMap nodeCell) :: NodesA n.kids :: F) := H8
  refine r_cons (s_assign (.map (some mp6)) rfl rfl ?_)
  refine r_nil ?_
  refine g_seq ?_
  refine g_seq ?_
  refine g_region ?_
  refine r_cons (s_fieldAddr 25 4 4 4 23 rfl fi_25_4 rfl rfl ?_)
  refine r_cons (s_load (.slice n.kp n.kids.length n.kc) ag_23 rfl (H9.blk_at (i := 1) rfl) rfl rfl ?_)
  refine r_cons (s_len n.kids.length rfl ⟨_, un_23⟩ rfl ?_)
  by_cases hc10 : (n.kids.length : Int) = 0
  · skip
    refine r_cons (s_eql true rfl rfl (dtrue hc10) rfl ?_)
    refine r_nil ?_
    refine g_true rfl ?_
    refine g_seq ?_
    refine g_seq ?_
    refine g_region ?_
    refine r_cons (s_fieldAddr 25 1 1 1 9 rfl fi_25_1 rfl rfl ?_)
    refine r_cons (s_load (.string n.var.v) ag_9 rfl (H9.blk_at (i := 1) rfl) rfl rfl ?_)
    by_cases hc11 : n.var.v = ByteArray.empty
    · skip
      refine r_cons (s_sneq false rfl rfl (ntrue hc11) rfl ?_)
      refine r_nil ?_
      refine g_false rfl ?_
      refine g_skip ?_
      refine g_seq ?_
      refine g_region ?_
      refine r_cons (s_move (.map (some mp6)) rfl rfl ?_)
      refine r_cons (s_call [.map (some mp6)] pl_44 rfl rfl (set_list mp6 ([] : List Str) (by decide) H9) ?_)
      rintro _ w14 ⟨pp12, cc13, rfl, H15⟩
      refine r_cons (s_assign (.slice pp12 ((sortS ([] : List Str)).length) cc13) rfl rfl ?_)
      refine r_nil ?_
      refine g_ret' [.slice pp12 ((sortS ([] : List Str)).length) cc13] Try.func26 Try.results26 ⟨rfl, trivial⟩ ?_
      have H16 : St W w14 (Im 1 (.slice pp12 ((sortS ([] : List Str)).length) cc13) ((sortS ([] : List Str)).length) ((sortS ([] : List Str)).flatMap strCell) :: F) := (((H15.drop 1 rfl).drop 1 rfl).drop 1 rfl)
      have hq9 : (sortS ([] : List Str)) = sureN n := by rw [sureN_leaf (by rw [List.isEmpty_iff]; exact List.eq_nil_of_length_eq_zero (by omega)), if_pos hc11]; exact sortS_nil
      exact ⟨pp12, cc13, by rw [← hq9]; rfl, by rw [← hq9]; exact H16⟩
    · skip
      refine r_cons (s_sneq true rfl rfl (nfalse hc11) rfl ?_)
      refine r_nil ?_
      refine g_true rfl ?_
      refine g_region ?_
      refine r_cons (s_move (.map (some mp6)) rfl rfl ?_)
      refine r_cons (s_fieldAddr 25 1 1 1 9 rfl fi_25_1 rfl rfl ?_)
      refine r_cons (s_load (.string n.var.v) ag_9 rfl (H9.blk_at (i := 1) rfl) rfl rfl ?_)
      refine r_cons (s_mapUpdate (ek := kS) (ev := vB) (L := setOf ([] : List Str)) n.var true H9 (i := 0) rfl (KeyLaw.S un_9) un_57 rfl rfl rfl ?_); intro w17 H18
      have H19 : St W w17 (MapA mp6 (ents kS vB (setOf (addS ([] : List Str) n.var))) :: blk bk3 (.cells #[.int .i64 n.kind.v, .string n.var.v, .string n.typ.v, .slice n.tp n.tests.length n.tc, .slice n.kp n.kids.length n.kc] 25 (0, 0)) :: Im 5 (.slice n.kp n.kids.length n.kc) n.kids.length (n.kids.flatMap nodeCell) :: NodesA n.kids :: F) := by have h9 := H18; rw [setOf_set] at h9; exact h9
      refine r_nil ?_
      refine g_seq ?_
      refine g_region ?_
      refine r_cons (s_move (.map (some mp6)) rfl rfl ?_)
      refine r_cons (s_call [.map (some mp6)] pl_44 rfl rfl (set_list mp6 (addS ([] : List Str) n.var) (by simp [addS]) H19) ?_)
      rintro _ w22 ⟨pp20, cc21, rfl, H23⟩
      refine r_cons (s_assign (.slice pp20 ((sortS (addS ([] : List Str) n.var)).length) cc21) rfl rfl ?_)
      refine r_nil ?_
      refine g_ret' [.slice pp20 ((sortS (addS ([] : List Str) n.var)).length) cc21] Try.func26 Try.results26 ⟨rfl, trivial⟩ ?_
      have H24 : St W w22 (Im 1 (.slice pp20 ((sortS (addS ([] : List Str) n.var)).length) cc21) ((sortS (addS ([] : List Str) n.var)).length) ((sortS (addS ([] : List Str) n.var)).flatMap strCell) :: F) := (((H23.drop 1 rfl).drop 1 rfl).drop 1 rfl)
      have hq9 : (sortS (addS ([] : List Str) n.var)) = sureN n := by rw [sureN_leaf (by rw [List.isEmpty_iff]; exact List.eq_nil_of_length_eq_zero (by omega)), if_neg hc11]; exact sortS_one _
      exact ⟨pp20, cc21, by rw [← hq9]; rfl, by rw [← hq9]; exact H24⟩
  · skip
    refine r_cons (s_eql false rfl rfl (dfalse hc10) rfl ?_)
    refine r_nil ?_
    refine g_false rfl ?_
    refine g_skip ?_
    refine g_seq ?_
    refine g_region ?_
    refine r_cons (s_makeMap H9 rfl ?_); intro mp25 w26 H27
    have H28 : St W w26 (MapA mp25 (ents kS vI ([] : List (Str × Int))) :: MapA mp6 (ents kS vB (setOf ([] : List Str))) :: blk bk3 (.cells #[.int .i64 n.kind.v, .string n.var.v, .string n.typ.v, .slice n.tp n.tests.length n.tc, .slice n.kp n.kids.length n.kc] 25 (0, 0)) :: Im 5 (.slice n.kp n.kids.length n.kc) n.kids.length (n.kids.flatMap nodeCell) :: NodesA n.kids :: F) := H27
    refine r_cons (s_assign (.map (some mp25)) rfl rfl ?_)
    refine r_nil ?_
    refine g_seq ?_
    refine g_seq ?_
    refine g_region ?_
    refine r_cons (s_fieldAddr 25 4 4 4 23 rfl fi_25_4 rfl rfl ?_)
    refine r_cons (s_load (.slice n.kp n.kids.length n.kc) ag_23 rfl (H28.blk_at (i := 2) rfl) rfl rfl ?_)
    refine r_cons (s_len n.kids.length rfl ⟨_, un_23⟩ rfl ?_)
    refine r_cons (s_move (.int .i64 0) rfl rfl ?_)
    refine r_nil ?_
    refine g_block ?_
    obtain ⟨pA29, cA30, gA31, oA32, kA33, eA34, zA35, he41, hn36, hp37, hx38, hs39, hml, H40⟩ := Im.open_ H28 (i := 3) rfl
    obtain ⟨rfl, rfl⟩ : n.kp = pA29 ∧ n.kc = cA30 := by injection he41 with a_ b_ c_; exact ⟨a_, c_⟩
    have hM42 : ([] : List (Str × Int)) = (cntN (n.kids.take 0)) := rfl
    have H43 : St W w26 (imi (0 < n.kids.length) gA31 (.cells kA33 eA34 zA35) :: MapA mp25 (ents kS vI (cntN (n.kids.take 0))) :: MapA mp6 (ents kS vB (setOf ([] : List Str))) :: blk bk3 (.cells #[.int .i64 n.kind.v, .string n.var.v, .string n.typ.v, .slice n.tp n.tests.length n.tc, .slice n.kp n.kids.length n.kc] 25 (0, 0)) :: Im 5 (.slice n.kp n.kids.length n.kc) n.kids.length (n.kids.flatMap nodeCell) :: NodesA n.kids :: F) := by rw [← hM42]; exact H40
    have H44 : St W w26 (imi (0 < n.kids.length) gA31 (.cells kA33 eA34 zA35) :: MapA mp25 (ents kS vI (cntN (n.kids.take 0))) :: MapA mp6 (ents kS vB (setOf ([] : List Str))) :: blk bk3 (.cells #[.int .i64 n.kind.v, .string n.var.v, .string n.typ.v, .slice n.tp n.tests.length n.tc, .slice n.kp n.kids.length n.kc] 25 (0, 0)) :: Im 5 (.slice n.kp n.kids.length n.kc) n.kids.length (n.kids.flatMap nodeCell) :: NodesA n.kids :: F) := ((((((H43.move 5 rfl).move 5 rfl).move 5 rfl).move 5 rfl).move 5 rfl).move 5 rfl)
    refine g_loop_inv (fun (x_ : Nat) => match x_ with | j => [(1, .pointer (some ⟨bk3, 0, none⟩)), (2, .slice none 0 0), (3, .map (some mp6)), (4, .map (some mp25)), (26, .slice n.kp n.kids.length n.kc), (27, .int .i64 (n.kids.length : Int)), (28, .int .i64 (j : Int))]) (fun (x_ : Nat) w => match x_ with | j => (j ≤ n.kids.length) ∧ St W w (imi (0 < n.kids.length) gA31 (.cells kA33 eA34 zA35) :: MapA mp25 (ents kS vI (cntN (n.kids.take j))) :: MapA mp6 (ents kS vB (setOf ([] : List Str))) :: blk bk3 (.cells #[.int .i64 n.kind.v, .string n.var.v, .string n.typ.v, .slice n.tp n.tests.length n.tc, .slice n.kp n.kids.length n.kc] 25 (0, 0)) :: Im 5 (.slice n.kp n.kids.length n.kc) n.kids.length (n.kids.flatMap nodeCell) :: NodesA n.kids :: F)) (fun (x_ : Nat) => match x_ with | j => n.kids.length - j) (0) ?_ ?_ ?_
    · exact ⟨by first | rfl | exact vint (by omega), by first | rfl | exact vint (by omega), by first | rfl | exact vint (by omega), by first | rfl | exact vint (by omega), by first | rfl | exact vint (by omega), by first | rfl | exact vint (by omega), by first | rfl | exact vint (by omega), trivial⟩
    · exact ⟨(by omega), H44⟩
    · rintro j ρ45 w46 ⟨hjl, H47⟩ nx48
      change Ends _ _ (upds ρ45 [(1, .pointer (some ⟨bk3, 0, none⟩)), (2, .slice none 0 0), (3, .map (some mp6)), (4, .map (some mp25)), (26, .slice n.kp n.kids.length n.kc), (27, .int .i64 (n.kids.length : Int)), (28, .int .i64 (j : Int))]) w46
      refine g_seq ?_
      refine g_region ?_
      by_cases hc49 : (j : Int) < (n.kids.length : Int)
      · skip
        refine r_cons (s_lss true rfl rfl (dtrue hc49) rfl ?_)
        refine r_nil ?_
        refine g_seq ?_
        refine g_true rfl ?_
        refine g_skip ?_
        refine g_seq ?_
        refine g_block ?_
        refine g_seq ?_
        refine g_region ?_
        refine r_cons (s_indexAddr gA31 (off := oA32) (j : Int) 5 (oA32 + j * 5) (by exact congrArg (fun z_ => Value.slice z_ n.kids.length n.kc) (hp37 (by omega))) rfl el_23 (by omega) rfl rfl ?_)
        refine r_cons (s_loadAgg [.int .i64 ((n.kids.getD j default).kind.v), .string ((n.kids.getD j default).var.v), .string ((n.kids.getD j default).typ.v), .slice ((n.kids.getD j default).tp) ((n.kids.getD j default).tests.length) ((n.kids.getD j default).tc), .slice ((n.kids.getD j default).kp) ((n.kids.getD j default).kids.length) ((n.kids.getD j default).kc)] 5 ag_25 rfl (H47.imi_at (i := 0) rfl (by omega)) (by have := elem_size (i := j) (s := 5) (hs39 (by omega)) (by omega); omega) (elem_take nodeCell_len (hx38 (by omega)) (by omega) default) rfl ?_)
        refine r_cons (s_alloc H47 25 ze_25 rfl ?_); intro bk50 w51 H52
        refine r_cons (s_storeAgg H52 0 #[.int .i64 ((n.kids.getD j default).kind.v), .string ((n.kids.getD j default).var.v), .string ((n.kids.getD j default).typ.v), .slice ((n.kids.getD j default).tp) ((n.kids.getD j default).tests.length) ((n.kids.getD j default).tc), .slice ((n.kids.getD j default).kp) ((n.kids.getD j default).kids.length) ((n.kids.getD j default).kc)] 5 rfl rfl rfl sz_25 rfl (by simp [Value.oneCell']) (Nat.le_of_ble_eq_true rfl) (fun o h1 h2 => by first | (simp; done) | (simp; omega)) (cs' := #[.int .i64 ((n.kids.getD j default).kind.v), .string ((n.kids.getD j default).var.v), .string ((n.kids.getD j default).typ.v), .slice ((n.kids.getD j default).tp) ((n.kids.getD j default).tests.length) ((n.kids.getD j default).tc), .slice ((n.kids.getD j default).kp) ((n.kids.getD j default).kids.length) ((n.kids.getD j default).kc)]) rfl ?_); intro w53 H54
        refine r_nil ?_
        refine g_seq ?_
        refine g_region ?_
        refine r_cons (s_loadAgg [.int .i64 ((n.kids.getD j default).kind.v), .string ((n.kids.getD j default).var.v), .string ((n.kids.getD j default).typ.v), .slice ((n.kids.getD j default).tp) ((n.kids.getD j default).tests.length) ((n.kids.getD j default).tc), .slice ((n.kids.getD j default).kp) ((n.kids.getD j default).kids.length) ((n.kids.getD j default).kc)] 5 ag_25 rfl (H54.blk_at (i := 0) rfl) (Nat.le_of_ble_eq_true rfl) rfl rfl ?_)
        have H55 := NodesA.at H54 (i := 6) rfl (j := j) (by omega)
        refine r_cons (s_call [.agg #[.int .i64 ((n.kids.getD j default).kind.v), .string ((n.kids.getD j default).var.v), .string ((n.kids.getD j default).typ.v), .slice ((n.kids.getD j default).tp) ((n.kids.getD j default).tests.length) ((n.kids.getD j default).tc), .slice ((n.kids.getD j default).kp) ((n.kids.getD j default).kids.length) ((n.kids.getD j default).kc)]] pl_26 rfl rfl (ih (n.kids.getD j default) (by have h9 := kid_lt (n := n) (j := j) (by omega); omega) (i := 0) rfl (by have h9 := sizeN_kid (n := n) (j := j) (by omega); omega) H55) ?_)
        rintro _ w58 ⟨pp56, cc57, rfl, H59⟩
        refine r_cons (s_len ((sureN (n.kids.getD j default)).length) rfl ⟨_, un_36⟩ rfl ?_)
        refine r_cons (s_move (.int .i64 0) rfl rfl ?_)
        refine r_nil ?_
        refine g_block ?_
        obtain ⟨pA60, cA61, gA62, oA63, kA64, eA65, zA66, he72, hn67, hp68, hx69, hs70, hml, H71⟩ := Im.open_ H59 (i := 0) rfl
        obtain ⟨rfl, rfl⟩ : pp56 = pA60 ∧ cc57 = cA61 := by injection he72 with a_ b_ c_; exact ⟨a_, c_⟩
        have hM73 : (cntN (n.kids.take j)) = (((sureN (n.kids.getD j default)).take 0).foldl cnt1 (cntN (n.kids.take j))) := rfl
        have H74 : St W w58 (imi (0 < (sureN (n.kids.getD j default)).length) gA62 (.cells kA64 eA65 zA66) :: Im 1 (.slice pp56 ((sureN (n.kids.getD j default)).length) cc57) ((sureN (n.kids.getD j default)).length) ((sureN (n.kids.getD j default)).flatMap strCell) :: NodeA (n.kids.getD j default) :: blk bk50 (.cells #[.int .i64 ((n.kids.getD j default).kind.v), .string ((n.kids.getD j default).var.v), .string ((n.kids.getD j default).typ.v), .slice ((n.kids.getD j default).tp) ((n.kids.getD j default).tests.length) ((n.kids.getD j default).tc), .slice ((n.kids.getD j default).kp) ((n.kids.getD j default).kids.length) ((n.kids.getD j default).kc)] 25 (0, 0)) :: imi (0 < n.kids.length) gA31 (.cells kA33 eA34 zA35) :: MapA mp25 (ents kS vI (((sureN (n.kids.getD j default)).take 0).foldl cnt1 (cntN (n.kids.take j)))) :: MapA mp6 (ents kS vB (setOf ([] : List Str))) :: blk bk3 (.cells #[.int .i64 n.kind.v, .string n.var.v, .string n.typ.v, .slice n.tp n.tests.length n.tc, .slice n.kp n.kids.length n.kc] 25 (0, 0)) :: Im 5 (.slice n.kp n.kids.length n.kc) n.kids.length (n.kids.flatMap nodeCell) :: NodesA n.kids :: F) := by rw [← hM73]; exact H71
        have H75 : St W w58 (imi (0 < (sureN (n.kids.getD j default)).length) gA62 (.cells kA64 eA65 zA66) :: Im 1 (.slice pp56 ((sureN (n.kids.getD j default)).length) cc57) ((sureN (n.kids.getD j default)).length) ((sureN (n.kids.getD j default)).flatMap strCell) :: NodeA (n.kids.getD j default) :: imi (0 < n.kids.length) gA31 (.cells kA33 eA34 zA35) :: MapA mp25 (ents kS vI (((sureN (n.kids.getD j default)).take 0).foldl cnt1 (cntN (n.kids.take j)))) :: MapA mp6 (ents kS vB (setOf ([] : List Str))) :: blk bk3 (.cells #[.int .i64 n.kind.v, .string n.var.v, .string n.typ.v, .slice n.tp n.tests.length n.tc, .slice n.kp n.kids.length n.kc] 25 (0, 0)) :: Im 5 (.slice n.kp n.kids.length n.kc) n.kids.length (n.kids.flatMap nodeCell) :: NodesA n.kids :: F) := ((((((((((H74.move 9 rfl).move 9 rfl).move 9 rfl).move 9 rfl).move 9 rfl).move 9 rfl).move 8 rfl).move 8 rfl).move 8 rfl).drop 9 rfl)
        refine g_loop_inv (fun (x_ : Nat) => match x_ with | q => [(1, .pointer (some ⟨bk3, 0, none⟩)), (2, .slice none 0 0), (3, .map (some mp6)), (4, .map (some mp25)), (26, .slice n.kp n.kids.length n.kc), (27, .int .i64 (n.kids.length : Int)), (28, .int .i64 (j : Int)), (33, .slice pp56 ((sureN (n.kids.getD j default)).length) cc57), (34, .int .i64 ((sureN (n.kids.getD j default)).length : Int)), (35, .int .i64 (q : Int))]) (fun (x_ : Nat) w => match x_ with | q => (q ≤ (sureN (n.kids.getD j default)).length) ∧ St W w (imi (0 < (sureN (n.kids.getD j default)).length) gA62 (.cells kA64 eA65 zA66) :: Im 1 (.slice pp56 ((sureN (n.kids.getD j default)).length) cc57) ((sureN (n.kids.getD j default)).length) ((sureN (n.kids.getD j default)).flatMap strCell) :: NodeA (n.kids.getD j default) :: imi (0 < n.kids.length) gA31 (.cells kA33 eA34 zA35) :: MapA mp25 (ents kS vI (((sureN (n.kids.getD j default)).take q).foldl cnt1 (cntN (n.kids.take j)))) :: MapA mp6 (ents kS vB (setOf ([] : List Str))) :: blk bk3 (.cells #[.int .i64 n.kind.v, .string n.var.v, .string n.typ.v, .slice n.tp n.tests.length n.tc, .slice n.kp n.kids.length n.kc] 25 (0, 0)) :: Im 5 (.slice n.kp n.kids.length n.kc) n.kids.length (n.kids.flatMap nodeCell) :: NodesA n.kids :: F)) (fun (x_ : Nat) => match x_ with | q => (sureN (n.kids.getD j default)).length - q) (0) ?_ ?_ ?_
        · exact ⟨by first | rfl | exact vint (by omega), by first | rfl | exact vint (by omega), by first | rfl | exact vint (by omega), by first | rfl | exact vint (by omega), by first | rfl | exact vint (by omega), by first | rfl | exact vint (by omega), by first | rfl | exact vint (by omega), by first | rfl | exact vint (by omega), by first | rfl | exact vint (by omega), by first | rfl | exact vint (by omega), trivial⟩
        · exact ⟨(by omega), H75⟩
        · rintro q ρ76 w77 ⟨hql, H78⟩ nx79
          change Ends _ _ (upds ρ76 [(1, .pointer (some ⟨bk3, 0, none⟩)), (2, .slice none 0 0), (3, .map (some mp6)), (4, .map (some mp25)), (26, .slice n.kp n.kids.length n.kc), (27, .int .i64 (n.kids.length : Int)), (28, .int .i64 (j : Int)), (33, .slice pp56 ((sureN (n.kids.getD j default)).length) cc57), (34, .int .i64 ((sureN (n.kids.getD j default)).length : Int)), (35, .int .i64 (q : Int))]) w77
          refine g_seq ?_
          refine g_region ?_
          by_cases hc80 : (q : Int) < ((sureN (n.kids.getD j default)).length : Int)
          · skip
            refine r_cons (s_lss true rfl rfl (dtrue hc80) rfl ?_)
            refine r_nil ?_
            refine g_seq ?_
            refine g_true rfl ?_
            refine g_skip ?_
            refine g_seq ?_
            refine g_block ?_
            refine g_seq ?_
            refine g_region ?_
            refine r_cons (s_indexAddr gA62 (off := oA63) (q : Int) 1 (oA63 + q * 1) (by exact congrArg (fun z_ => Value.slice z_ ((sureN (n.kids.getD j default)).length) cc57) (hp68 (by omega))) rfl el_36 (by omega) rfl rfl ?_)
            refine r_cons (s_load (.string (((sureN (n.kids.getD j default)).getD q default).v)) ag_9 rfl (H78.imi_at (i := 0) rfl (by omega)) (elem_cell (L := (sureN (n.kids.getD j default))) (i := q) strCell_len (hx69 (by omega)) (by omega) default 0 (by decide) _ rfl) rfl ?_)
            refine r_cons (s_assign (.string (((sureN (n.kids.getD j default)).getD q default).v)) rfl rfl ?_)
            refine r_nil ?_
            refine g_region ?_
            refine r_cons (s_move (.map (some mp25)) rfl rfl ?_)
            refine r_cons (s_move (.string (((sureN (n.kids.getD j default)).getD q default).v)) rfl rfl ?_)
            refine r_cons (s_lookup (ek := kS) (ev := vI) (L := (((sureN (n.kids.getD j default)).take q).foldl cnt1 (cntN (n.kids.take j)))) ((sureN (n.kids.getD j default)).getD q default) (.int .i64 (agetI (((sureN (n.kids.getD j default)).take q).foldl cnt1 (cntN (n.kids.take j))) ((sureN (n.kids.getD j default)).getD q default))) (MapA.at H78 (i := 4) rfl) (KeyLaw.S un_9) un_62 zv_3 rfl rfl (lookI _ _) rfl ?_)
            refine r_cons (s_add (wI (agetI (((sureN (n.kids.getD j default)).take q).foldl cnt1 (cntN (n.kids.take j))) ((sureN (n.kids.getD j default)).getD q default) + 1)) rfl rfl rfl rfl ?_)
            refine r_cons (s_mapUpdate (ek := kS) (ev := vI) (L := (((sureN (n.kids.getD j default)).take q).foldl cnt1 (cntN (n.kids.take j)))) ((sureN (n.kids.getD j default)).getD q default) (wI (agetI (((sureN (n.kids.getD j default)).take q).foldl cnt1 (cntN (n.kids.take j))) ((sureN (n.kids.getD j default)).getD q default) + 1)) H78 (i := 4) rfl (KeyLaw.S un_9) un_62 rfl rfl rfl ?_); intro w81 H82
            have H83 : St W w81 (imi (0 < (sureN (n.kids.getD j default)).length) gA62 (.cells kA64 eA65 zA66) :: Im 1 (.slice pp56 ((sureN (n.kids.getD j default)).length) cc57) ((sureN (n.kids.getD j default)).length) ((sureN (n.kids.getD j default)).flatMap strCell) :: NodeA (n.kids.getD j default) :: imi (0 < n.kids.length) gA31 (.cells kA33 eA34 zA35) :: MapA mp25 (ents kS vI (aset (((sureN (n.kids.getD j default)).take q).foldl cnt1 (cntN (n.kids.take j))) ((sureN (n.kids.getD j default)).getD q default) (wI (agetI (((sureN (n.kids.getD j default)).take q).foldl cnt1 (cntN (n.kids.take j))) ((sureN (n.kids.getD j default)).getD q default) + 1)))) :: MapA mp6 (ents kS vB (setOf ([] : List Str))) :: blk bk3 (.cells #[.int .i64 n.kind.v, .string n.var.v, .string n.typ.v, .slice n.tp n.tests.length n.tc, .slice n.kp n.kids.length n.kc] 25 (0, 0)) :: Im 5 (.slice n.kp n.kids.length n.kc) n.kids.length (n.kids.flatMap nodeCell) :: NodesA n.kids :: F) := H82
            refine r_nil ?_
            refine g_inBlock ?_
            refine g_region ?_
            refine r_cons (s_add ((q : Int) + 1) rfl rfl (wi64 (by omega)) rfl ?_)
            refine r_cons (s_move (.int .i64 ((q : Int) + 1)) rfl rfl ?_)
            refine r_nil ?_
            have hM84 : (aset (((sureN (n.kids.getD j default)).take q).foldl cnt1 (cntN (n.kids.take j))) ((sureN (n.kids.getD j default)).getD q default) (wI (agetI (((sureN (n.kids.getD j default)).take q).foldl cnt1 (cntN (n.kids.take j))) ((sureN (n.kids.getD j default)).getD q default) + 1))) = (((sureN (n.kids.getD j default)).take (q + 1)).foldl cnt1 (cntN (n.kids.take j))) := (fold_stepS cnt1 _ (by omega)).symm
            have H85 : St W w81 (imi (0 < (sureN (n.kids.getD j default)).length) gA62 (.cells kA64 eA65 zA66) :: Im 1 (.slice pp56 ((sureN (n.kids.getD j default)).length) cc57) ((sureN (n.kids.getD j default)).length) ((sureN (n.kids.getD j default)).flatMap strCell) :: NodeA (n.kids.getD j default) :: imi (0 < n.kids.length) gA31 (.cells kA33 eA34 zA35) :: MapA mp25 (ents kS vI (((sureN (n.kids.getD j default)).take (q + 1)).foldl cnt1 (cntN (n.kids.take j)))) :: MapA mp6 (ents kS vB (setOf ([] : List Str))) :: blk bk3 (.cells #[.int .i64 n.kind.v, .string n.var.v, .string n.typ.v, .slice n.tp n.tests.length n.tc, .slice n.kp n.kids.length n.kc] 25 (0, 0)) :: Im 5 (.slice n.kp n.kids.length n.kc) n.kids.length (n.kids.flatMap nodeCell) :: NodesA n.kids :: F) := by rw [← hM84]; exact H83
            have H86 : St W w81 (imi (0 < (sureN (n.kids.getD j default)).length) gA62 (.cells kA64 eA65 zA66) :: Im 1 (.slice pp56 ((sureN (n.kids.getD j default)).length) cc57) ((sureN (n.kids.getD j default)).length) ((sureN (n.kids.getD j default)).flatMap strCell) :: NodeA (n.kids.getD j default) :: imi (0 < n.kids.length) gA31 (.cells kA33 eA34 zA35) :: MapA mp25 (ents kS vI (((sureN (n.kids.getD j default)).take (q + 1)).foldl cnt1 (cntN (n.kids.take j)))) :: MapA mp6 (ents kS vB (setOf ([] : List Str))) :: blk bk3 (.cells #[.int .i64 n.kind.v, .string n.var.v, .string n.typ.v, .slice n.tp n.tests.length n.tc, .slice n.kp n.kids.length n.kc] 25 (0, 0)) :: Im 5 (.slice n.kp n.kids.length n.kc) n.kids.length (n.kids.flatMap nodeCell) :: NodesA n.kids :: F) := (((((((((H85.move 8 rfl).move 8 rfl).move 8 rfl).move 8 rfl).move 8 rfl).move 8 rfl).move 8 rfl).move 8 rfl).move 8 rfl)
            exact nx79 (q + 1) _ _ ⟨(by omega), H86⟩ (by first | (dsimp only; omega) | omega) ⟨by first | rfl | exact vint (by omega), by first | rfl | exact vint (by omega), by first | rfl | exact vint (by omega), by first | rfl | exact vint (by omega), by first | rfl | exact vint (by omega), by first | rfl | exact vint (by omega), by first | rfl | exact vint (by omega), by first | rfl | exact vint (by omega), by first | rfl | exact vint (by omega), by first | rfl | exact vint (by omega), trivial⟩
          · skip
            refine r_cons (s_lss false rfl rfl (dfalse hc80) rfl ?_)
            refine r_nil ?_
            refine g_seq ?_
            refine g_false rfl ?_
            refine g_exit (by rfl) ?_
            refine g_inBlock ?_
            refine g_region ?_
            refine r_cons (s_add ((j : Int) + 1) rfl rfl (wi64 (by omega)) rfl ?_)
            refine r_cons (s_move (.int .i64 ((j : Int) + 1)) rfl rfl ?_)
            refine r_nil ?_
            have hM87 : (((sureN (n.kids.getD j default)).take q).foldl cnt1 (cntN (n.kids.take j))) = (cntN (n.kids.take (j + 1))) := by rw [cntN_step (by omega), fold_allS _ _ (by omega)]
            have H88 : St W w77 (imi (0 < (sureN (n.kids.getD j default)).length) gA62 (.cells kA64 eA65 zA66) :: Im 1 (.slice pp56 ((sureN (n.kids.getD j default)).length) cc57) ((sureN (n.kids.getD j default)).length) ((sureN (n.kids.getD j default)).flatMap strCell) :: NodeA (n.kids.getD j default) :: imi (0 < n.kids.length) gA31 (.cells kA33 eA34 zA35) :: MapA mp25 (ents kS vI (cntN (n.kids.take (j + 1)))) :: MapA mp6 (ents kS vB (setOf ([] : List Str))) :: blk bk3 (.cells #[.int .i64 n.kind.v, .string n.var.v, .string n.typ.v, .slice n.tp n.tests.length n.tc, .slice n.kp n.kids.length n.kc] 25 (0, 0)) :: Im 5 (.slice n.kp n.kids.length n.kc) n.kids.length (n.kids.flatMap nodeCell) :: NodesA n.kids :: F) := by rw [← hM87]; exact H78
            have H89 : St W w77 (imi (0 < n.kids.length) gA31 (.cells kA33 eA34 zA35) :: MapA mp25 (ents kS vI (cntN (n.kids.take (j + 1)))) :: MapA mp6 (ents kS vB (setOf ([] : List Str))) :: blk bk3 (.cells #[.int .i64 n.kind.v, .string n.var.v, .string n.typ.v, .slice n.tp n.tests.length n.tc, .slice n.kp n.kids.length n.kc] 25 (0, 0)) :: Im 5 (.slice n.kp n.kids.length n.kc) n.kids.length (n.kids.flatMap nodeCell) :: NodesA n.kids :: F) := (((((((((H88.move 8 rfl).move 8 rfl).move 8 rfl).move 8 rfl).move 8 rfl).move 8 rfl).drop 6 rfl).drop 6 rfl).drop 6 rfl)
            exact nx48 (j + 1) _ _ ⟨(by omega), H89⟩ (by first | (dsimp only; omega) | omega) ⟨by first | rfl | exact vint (by omega), by first | rfl | exact vint (by omega), by first | rfl | exact vint (by omega), by first | rfl | exact vint (by omega), by first | rfl | exact vint (by omega), by first | rfl | exact vint (by omega), by first | rfl | exact vint (by omega), trivial⟩
      · skip
        refine r_cons (s_lss false rfl rfl (dfalse hc49) rfl ?_)
        refine r_nil ?_
        refine g_seq ?_
        refine g_false rfl ?_
        refine g_exit (by rfl) ?_
        refine g_seq ?_
        refine g_seq ?_
        refine g_region ?_
        refine r_cons (s_move (.map (some mp25)) rfl rfl ?_)
        refine r_cons (s_range H47 1 rfl un_62 rfl rfl ?_); intro it90 w91 H92
        have H93 : St W w91 (MapIt it90 mp25 (ents kS vI (cntN (n.kids.take j))) (ents kS vI (cntN (n.kids.take j))) none :: imi (0 < n.kids.length) gA31 (.cells kA33 eA34 zA35) :: MapA mp6 (ents kS vB (setOf ([] : List Str))) :: blk bk3 (.cells #[.int .i64 n.kind.v, .string n.var.v, .string n.typ.v, .slice n.tp n.tests.length n.tc, .slice n.kp n.kids.length n.kc] 25 (0, 0)) :: Im 5 (.slice n.kp n.kids.length n.kc) n.kids.length (n.kids.flatMap nodeCell) :: NodesA n.kids :: F) := H92.drop 2 rfl
        refine r_nil ?_
        refine g_block ?_
        have hL94 : (cntN (n.kids.take j)) = cntN n.kids := by rw [List.take_of_length_le (by omega)]
        have H95 : St W w91 (MapIt it90 mp25 (ents kS vI (cntN n.kids)) (ents kS vI (cntN n.kids)) none :: imi (0 < n.kids.length) gA31 (.cells kA33 eA34 zA35) :: MapA mp6 (ents kS vB (setOf ([] : List Str))) :: blk bk3 (.cells #[.int .i64 n.kind.v, .string n.var.v, .string n.typ.v, .slice n.tp n.tests.length n.tc, .slice n.kp n.kids.length n.kc] 25 (0, 0)) :: Im 5 (.slice n.kp n.kids.length n.kc) n.kids.length (n.kids.flatMap nodeCell) :: NodesA n.kids :: F) := by rw [← hL94]; exact H93
        have H96 : St W w91 (MapIt it90 mp25 (ents kS vI (cntN n.kids)) (ents kS vI (cntN n.kids)) none :: imi (0 < n.kids.length) gA31 (.cells kA33 eA34 zA35) :: MapA mp6 (ents kS vB (setOf (pickF n []))) :: blk bk3 (.cells #[.int .i64 n.kind.v, .string n.var.v, .string n.typ.v, .slice n.tp n.tests.length n.tc, .slice n.kp n.kids.length n.kc] 25 (0, 0)) :: Im 5 (.slice n.kp n.kids.length n.kc) n.kids.length (n.kids.flatMap nodeCell) :: NodesA n.kids :: F) := H95
        have H97 : St W w91 (MapIt it90 mp25 (ents kS vI (cntN n.kids)) (ents kS vI (cntN n.kids)) none :: imi (0 < n.kids.length) gA31 (.cells kA33 eA34 zA35) :: MapA mp6 (ents kS vB (setOf (pickF n []))) :: blk bk3 (.cells #[.int .i64 n.kind.v, .string n.var.v, .string n.typ.v, .slice n.tp n.tests.length n.tc, .slice n.kp n.kids.length n.kc] 25 (0, 0)) :: Im 5 (.slice n.kp n.kids.length n.kc) n.kids.length (n.kids.flatMap nodeCell) :: NodesA n.kids :: F) := ((((((H96.move 5 rfl).move 5 rfl).move 5 rfl).move 5 rfl).move 5 rfl).move 5 rfl)
        refine g_loop_inv (fun (x_ : (List (Str × Int)) × (List (Str × Int)) × (Option (Value × Value))) => match x_ with | (pre, rest, last) => [(1, .pointer (some ⟨bk3, 0, none⟩)), (2, .slice none 0 0), (3, .map (some mp6)), (46, .pointer (some ⟨it90, 0, none⟩))]) (fun (x_ : (List (Str × Int)) × (List (Str × Int)) × (Option (Value × Value))) w => match x_ with | (pre, rest, last) => ((pre ++ rest).Perm (cntN n.kids)) ∧ St W w (MapIt it90 mp25 (ents kS vI (cntN n.kids)) (ents kS vI rest) last :: imi (0 < n.kids.length) gA31 (.cells kA33 eA34 zA35) :: MapA mp6 (ents kS vB (setOf (pickF n pre))) :: blk bk3 (.cells #[.int .i64 n.kind.v, .string n.var.v, .string n.typ.v, .slice n.tp n.tests.length n.tc, .slice n.kp n.kids.length n.kc] 25 (0, 0)) :: Im 5 (.slice n.kp n.kids.length n.kc) n.kids.length (n.kids.flatMap nodeCell) :: NodesA n.kids :: F)) (fun (x_ : (List (Str × Int)) × (List (Str × Int)) × (Option (Value × Value))) => match x_ with | (pre, rest, last) => rest.length) ([], cntN n.kids, none) ?_ ?_ ?_
        · exact ⟨by first | rfl | exact vint (by omega), by first | rfl | exact vint (by omega), by first | rfl | exact vint (by omega), by first | rfl | exact vint (by omega), trivial⟩
        · exact ⟨(List.Perm.refl _), H97⟩
        · rintro ⟨pre, rest, last⟩ ρ98 w99 ⟨hperm, H100⟩ nx101
          change Ends _ _ (upds ρ98 [(1, .pointer (some ⟨bk3, 0, none⟩)), (2, .slice none 0 0), (3, .map (some mp6)), (46, .pointer (some ⟨it90, 0, none⟩))]) w99
          refine g_seq ?_
          refine g_region ?_
          refine r_cons (s_nextT (ek := kS) (ev := vI) (rest := rest) H100 0 rfl rfl rfl ?_ ?_)
          · intro h0102
            refine r_cons (s_extract (.bool false) #[.bool false] rfl rfl rfl ?_)
            refine r_nil ?_
            refine g_seq ?_
            refine g_false rfl ?_
            refine g_exit (by rfl) ?_
            refine g_seq ?_
            refine g_region ?_
            refine r_cons (s_move (.map (some mp6)) rfl rfl ?_)
            have H108 : St W w99 (MapA mp6 (ents kS vB (setOf (pickF n pre))) :: MapIt it90 mp25 (ents kS vI (cntN n.kids)) (ents kS vI rest) last :: imi (0 < n.kids.length) gA31 (.cells kA33 eA34 zA35) :: blk bk3 (.cells #[.int .i64 n.kind.v, .string n.var.v, .string n.typ.v, .slice n.tp n.tests.length n.tc, .slice n.kp n.kids.length n.kc] 25 (0, 0)) :: Im 5 (.slice n.kp n.kids.length n.kc) n.kids.length (n.kids.flatMap nodeCell) :: NodesA n.kids :: F) := (H100.move 2 rfl)
            refine r_cons (s_call [.map (some mp6)] pl_44 rfl rfl (set_list mp6 (pickF n pre) (by have h9 := pickF_len n pre; have h8 := hperm.length_eq; have h7 := cntN_len n; simp only [List.length_append] at h8; omega) H108) ?_)
            rintro _ w111 ⟨pp109, cc110, rfl, H112⟩
            refine r_cons (s_assign (.slice pp109 ((sortS (pickF n pre)).length) cc110) rfl rfl ?_)
            refine r_nil ?_
            refine g_ret' [.slice pp109 ((sortS (pickF n pre)).length) cc110] Try.func26 Try.results26 ⟨rfl, trivial⟩ ?_
            have H113 : St W w111 (Im 1 (.slice pp109 ((sortS (pickF n pre)).length) cc110) ((sortS (pickF n pre)).length) ((sortS (pickF n pre)).flatMap strCell) :: F) := (((((H112.drop 1 rfl).drop 1 rfl).drop 1 rfl).drop 1 rfl).drop 1 rfl)
            have hq9 : (sortS (pickF n pre)) = sureN n := sureN_map (by rw [Bool.eq_false_iff, ne_eq, List.isEmpty_iff]; intro h9; have h8 := congrArg List.length h9; simp only [List.length_nil] at h8; omega) (by have h9 := kids_len n; omega) (perm_endE h0102 hperm)
            exact ⟨pp109, cc110, by rw [← hq9]; rfl, by rw [← hq9]; exact H113⟩
          · intro jn103 en104 w105 hj106 H107
            have H114 : St W w105 (MapIt it90 mp25 (ents kS vI (cntN n.kids)) (ents kS vI (rest.eraseIdx jn103)) (some (kS en104.1, vI en104.2)) :: imi (0 < n.kids.length) gA31 (.cells kA33 eA34 zA35) :: MapA mp6 (ents kS vB (setOf (pickF n pre))) :: blk bk3 (.cells #[.int .i64 n.kind.v, .string n.var.v, .string n.typ.v, .slice n.tp n.tests.length n.tc, .slice n.kp n.kids.length n.kc] 25 (0, 0)) :: Im 5 (.slice n.kp n.kids.length n.kc) n.kids.length (n.kids.flatMap nodeCell) :: NodesA n.kids :: F) := H107
            refine r_cons (s_extract (.bool true) #[.bool true, .string en104.1.v, .int .i64 en104.2] rfl rfl rfl ?_)
            refine r_nil ?_
            refine g_seq ?_
            refine g_true rfl ?_
            refine g_skip ?_
            refine g_block ?_
            refine g_seq ?_
            refine g_region ?_
            refine r_cons (s_entry (.tuple #[.string en104.1.v, .int .i64 en104.2]) H114 0 rfl rfl rfl rfl ?_)
            refine r_cons (s_extract (.string en104.1.v) #[.string en104.1.v, .int .i64 en104.2] rfl rfl rfl ?_)
            refine r_cons (s_extract (.int .i64 en104.2) #[.string en104.1.v, .int .i64 en104.2] rfl rfl rfl ?_)
            refine r_cons (s_assign (.string en104.1.v) rfl rfl ?_)
            refine r_cons (s_assign (.int .i64 en104.2) rfl rfl ?_)
            refine r_nil ?_
            refine g_seq ?_
            refine g_region ?_
            refine r_cons (s_fieldAddr 25 0 0 0 3 rfl fi_25_0 rfl rfl ?_)
            refine r_cons (s_load (.int .i64 n.kind.v) ag_3 rfl (H114.blk_at (i := 3) rfl) rfl rfl ?_)
            by_cases hc115 : n.kind.v = 4
            · skip
              refine r_cons (s_neq false rfl rfl (ntrue hc115) rfl ?_)
              refine r_cons (s_move (.bool false) rfl rfl ?_)
              refine r_cons (r_take rfl rfl ?_)
              refine s_move (.int .i64 en104.2) rfl rfl ?_
              refine r_cons (r_take rfl rfl ?_)
              refine s_fieldAddr 25 4 4 4 23 rfl fi_25_4 rfl rfl ?_
              refine r_cons (r_take rfl rfl ?_)
              refine s_load (.slice n.kp n.kids.length n.kc) ag_23 rfl (H114.blk_at (i := 3) rfl) rfl rfl ?_
              refine r_cons (r_take rfl rfl ?_)
              refine s_len n.kids.length rfl ⟨_, un_23⟩ rfl ?_
              refine r_cons (r_take rfl rfl ?_)
              by_cases hc116 : en104.2 = (n.kids.length : Int)
              · skip
                refine s_eql true rfl rfl (dtrue hc116) rfl ?_
                refine r_cons (s_pick_f (.bool true) rfl rfl rfl ?_)
                refine r_nil ?_
                refine g_true rfl ?_
                refine g_region ?_
                refine r_cons (s_move (.map (some mp6)) rfl rfl ?_)
                refine r_cons (s_move (.string en104.1.v) rfl rfl ?_)
                refine r_cons (s_mapUpdate (ek := kS) (ev := vB) (L := setOf (pickF n pre)) en104.1 true H114 (i := 2) rfl (KeyLaw.S un_9) un_57 rfl rfl rfl ?_); intro w117 H118
                have H119 : St W w117 (MapIt it90 mp25 (ents kS vI (cntN n.kids)) (ents kS vI (rest.eraseIdx jn103)) (some (kS en104.1, vI en104.2)) :: imi (0 < n.kids.length) gA31 (.cells kA33 eA34 zA35) :: MapA mp6 (ents kS vB (setOf (addS (pickF n pre) en104.1))) :: blk bk3 (.cells #[.int .i64 n.kind.v, .string n.var.v, .string n.typ.v, .slice n.tp n.tests.length n.tc, .slice n.kp n.kids.length n.kc] 25 (0, 0)) :: Im 5 (.slice n.kp n.kids.length n.kc) n.kids.length (n.kids.flatMap nodeCell) :: NodesA n.kids :: F) := by have h9 := H118; rw [setOf_set] at h9; exact h9
                refine r_nil ?_
                refine g_inBlock ?_
                have hM120 : (addS (pickF n pre) en104.1) = (pickF n (pre ++ [en104])) := by rw [pickF_snoc, if_pos (by omega)]
                have H121 : St W w117 (MapIt it90 mp25 (ents kS vI (cntN n.kids)) (ents kS vI (rest.eraseIdx jn103)) (some (kS en104.1, vI en104.2)) :: imi (0 < n.kids.length) gA31 (.cells kA33 eA34 zA35) :: MapA mp6 (ents kS vB (setOf (pickF n (pre ++ [en104])))) :: blk bk3 (.cells #[.int .i64 n.kind.v, .string n.var.v, .string n.typ.v, .slice n.tp n.tests.length n.tc, .slice n.kp n.kids.length n.kc] 25 (0, 0)) :: Im 5 (.slice n.kp n.kids.length n.kc) n.kids.length (n.kids.flatMap nodeCell) :: NodesA n.kids :: F) := by rw [← hM120]; exact H119
                have H122 : St W w117 (MapIt it90 mp25 (ents kS vI (cntN n.kids)) (ents kS vI (rest.eraseIdx jn103)) (some (kS en104.1, vI en104.2)) :: imi (0 < n.kids.length) gA31 (.cells kA33 eA34 zA35) :: MapA mp6 (ents kS vB (setOf (pickF n (pre ++ [en104])))) :: blk bk3 (.cells #[.int .i64 n.kind.v, .string n.var.v, .string n.typ.v, .slice n.tp n.tests.length n.tc, .slice n.kp n.kids.length n.kc] 25 (0, 0)) :: Im 5 (.slice n.kp n.kids.length n.kc) n.kids.length (n.kids.flatMap nodeCell) :: NodesA n.kids :: F) := ((((((H121.move 5 rfl).move 5 rfl).move 5 rfl).move 5 rfl).move 5 rfl).move 5 rfl)
                exact nx101 (pre ++ [en104], (rest.eraseIdx jn103), (some (kS en104.1, vI en104.2))) _ _ ⟨(perm_stepE hj106 hperm), H122⟩ (by first | (dsimp only; exact rest_len (by assumption)) | exact rest_len (by assumption)) ⟨by first | rfl | exact vint (by omega), by first | rfl | exact vint (by omega), by first | rfl | exact vint (by omega), by first | rfl | exact vint (by omega), trivial⟩
              · skip
                refine s_eql false rfl rfl (dfalse hc116) rfl ?_
                refine r_cons (s_pick_f (.bool false) rfl rfl rfl ?_)
                refine r_nil ?_
                refine g_false rfl ?_
                refine g_skip ?_
                refine g_inBlock ?_
                have hM123 : (pickF n pre) = (pickF n (pre ++ [en104])) := by rw [pickF_snoc, if_neg (by omega)]
                have H124 : St W w105 (MapIt it90 mp25 (ents kS vI (cntN n.kids)) (ents kS vI (rest.eraseIdx jn103)) (some (kS en104.1, vI en104.2)) :: imi (0 < n.kids.length) gA31 (.cells kA33 eA34 zA35) :: MapA mp6 (ents kS vB (setOf (pickF n (pre ++ [en104])))) :: blk bk3 (.cells #[.int .i64 n.kind.v, .string n.var.v, .string n.typ.v, .slice n.tp n.tests.length n.tc, .slice n.kp n.kids.length n.kc] 25 (0, 0)) :: Im 5 (.slice n.kp n.kids.length n.kc) n.kids.length (n.kids.flatMap nodeCell) :: NodesA n.kids :: F) := by rw [← hM123]; exact H114
                have H125 : St W w105 (MapIt it90 mp25 (ents kS vI (cntN n.kids)) (ents kS vI (rest.eraseIdx jn103)) (some (kS en104.1, vI en104.2)) :: imi (0 < n.kids.length) gA31 (.cells kA33 eA34 zA35) :: MapA mp6 (ents kS vB (setOf (pickF n (pre ++ [en104])))) :: blk bk3 (.cells #[.int .i64 n.kind.v, .string n.var.v, .string n.typ.v, .slice n.tp n.tests.length n.tc, .slice n.kp n.kids.length n.kc] 25 (0, 0)) :: Im 5 (.slice n.kp n.kids.length n.kc) n.kids.length (n.kids.flatMap nodeCell) :: NodesA n.kids :: F) := ((((((H124.move 5 rfl).move 5 rfl).move 5 rfl).move 5 rfl).move 5 rfl).move 5 rfl)
                exact nx101 (pre ++ [en104], (rest.eraseIdx jn103), (some (kS en104.1, vI en104.2))) _ _ ⟨(perm_stepE hj106 hperm), H125⟩ (by first | (dsimp only; exact rest_len (by assumption)) | exact rest_len (by assumption)) ⟨by first | rfl | exact vint (by omega), by first | rfl | exact vint (by omega), by first | rfl | exact vint (by omega), by first | rfl | exact vint (by omega), trivial⟩
            · skip
              refine r_cons (s_neq true rfl rfl (nfalse hc115) rfl ?_)
              refine r_cons (s_move (.bool true) rfl rfl ?_)
              refine r_cons (r_pass rfl rfl rfl rfl rfl ?_)
              refine r_cons (r_pass rfl rfl rfl rfl rfl ?_)
              refine r_cons (r_pass rfl rfl rfl rfl rfl ?_)
              refine r_cons (r_pass rfl rfl rfl rfl rfl ?_)
              refine r_cons (r_pass rfl rfl rfl rfl rfl ?_)
              refine r_cons (s_pick_t (.bool true) rfl rfl rfl ?_)
              refine r_nil ?_
              refine g_true rfl ?_
              refine g_region ?_
              refine r_cons (s_move (.map (some mp6)) rfl rfl ?_)
              refine r_cons (s_move (.string en104.1.v) rfl rfl ?_)
              refine r_cons (s_mapUpdate (ek := kS) (ev := vB) (L := setOf (pickF n pre)) en104.1 true H114 (i := 2) rfl (KeyLaw.S un_9) un_57 rfl rfl rfl ?_); intro w126 H127
              have H128 : St W w126 (MapIt it90 mp25 (ents kS vI (cntN n.kids)) (ents kS vI (rest.eraseIdx jn103)) (some (kS en104.1, vI en104.2)) :: imi (0 < n.kids.length) gA31 (.cells kA33 eA34 zA35) :: MapA mp6 (ents kS vB (setOf (addS (pickF n pre) en104.1))) :: blk bk3 (.cells #[.int .i64 n.kind.v, .string n.var.v, .string n.typ.v, .slice n.tp n.tests.length n.tc, .slice n.kp n.kids.length n.kc] 25 (0, 0)) :: Im 5 (.slice n.kp n.kids.length n.kc) n.kids.length (n.kids.flatMap nodeCell) :: NodesA n.kids :: F) := by have h9 := H127; rw [setOf_set] at h9; exact h9
              refine r_nil ?_
              refine g_inBlock ?_
              have hM129 : (addS (pickF n pre) en104.1) = (pickF n (pre ++ [en104])) := by rw [pickF_snoc, if_pos (by omega)]
              have H130 : St W w126 (MapIt it90 mp25 (ents kS vI (cntN n.kids)) (ents kS vI (rest.eraseIdx jn103)) (some (kS en104.1, vI en104.2)) :: imi (0 < n.kids.length) gA31 (.cells kA33 eA34 zA35) :: MapA mp6 (ents kS vB (setOf (pickF n (pre ++ [en104])))) :: blk bk3 (.cells #[.int .i64 n.kind.v, .string n.var.v, .string n.typ.v, .slice n.tp n.tests.length n.tc, .slice n.kp n.kids.length n.kc] 25 (0, 0)) :: Im 5 (.slice n.kp n.kids.length n.kc) n.kids.length (n.kids.flatMap nodeCell) :: NodesA n.kids :: F) := by rw [← hM129]; exact H128
              have H131 : St W w126 (MapIt it90 mp25 (ents kS vI (cntN n.kids)) (ents kS vI (rest.eraseIdx jn103)) (some (kS en104.1, vI en104.2)) :: imi (0 < n.kids.length) gA31 (.cells kA33 eA34 zA35) :: MapA mp6 (ents kS vB (setOf (pickF n (pre ++ [en104])))) :: blk bk3 (.cells #[.int .i64 n.kind.v, .string n.var.v, .string n.typ.v, .slice n.tp n.tests.length n.tc, .slice n.kp n.kids.length n.kc] 25 (0, 0)) :: Im 5 (.slice n.kp n.kids.length n.kc) n.kids.length (n.kids.flatMap nodeCell) :: NodesA n.kids :: F) := ((((((H130.move 5 rfl).move 5 rfl).move 5 rfl).move 5 rfl).move 5 rfl).move 5 rfl)
              exact nx101 (pre ++ [en104], (rest.eraseIdx jn103), (some (kS en104.1, vI en104.2))) _ _ ⟨(perm_stepE hj106 hperm), H131⟩ (by first | (dsimp only; exact rest_len (by assumption)) | exact rest_len (by assumption)) ⟨by first | rfl | exact vint (by omega), by first | rfl | exact vint (by omega), by first | rfl | exact vint (by omega), by first | rfl | exact vint (by omega), trivial⟩
theorem check_Sure {W w : World} {F : List Atom} (n : NodeD)  {i : Nat} (hi : F[i]? = some (NodeA n)) (hz : sizeN n ≤ 1048576) (H : St W w F) : Calls Try.prog 26 #[.agg #[.int .i64 n.kind.v, .string n.var.v, .string n.typ.v, .slice n.tp n.tests.length n.tc, .slice n.kp n.kids.length n.kc]] w (Ret fun v w' => ∃ p c, v = .slice p (sureN n).length c ∧ St W w' (Im 1 (.slice p (sureN n).length c) (sureN n).length ((sureN n).flatMap strCell) :: F)) := check_Sure_r (sizeOf n + 1) n (Nat.lt_succ_self _) hi hz H
set_option maxHeartbeats 4000000 in
set_option maxRecDepth 100000 in
theorem ref07_Sure_r (N : Nat) : ∀ (n : NodeD), sizeOf n < N → ∀ {W w : World} {F : List Atom}  {i : Nat} (hi : F[i]? = some (NodeA n)) (hz : sizeN n ≤ 1048576) (H : St W w F), Calls Try.prog 27 #[.agg #[.int .i64 n.kind.v, .string n.var.v, .string n.typ.v, .slice n.tp n.tests.length n.tc, .slice n.kp n.kids.length n.kc]] w (Ret fun v w' => ∃ p c, v = .slice p (sureN n).length c ∧ St W w' (Im 1 (.slice p (sureN n).length c) (sureN n).length ((sureN n).flatMap strCell) :: F)) := by
  induction N with | zero => exact fun n hN => absurd hN (Nat.not_lt_zero _) | succ N ih => ?_
  intro n hN W w F i hi hz H
  have H1 := NodeA.kids H (i := i + 0) (by exact hi)
  have H2 : St W w (Im 5 (.slice n.kp n.kids.length n.kc) n.kids.length (n.kids.flatMap nodeCell) :: NodesA n.kids :: F) := H1
  refine calls_of_go (n := 74) Try.func27 rfl Try.ntmps27 rfl ?_
  refine g_seq ?_
  refine g_region ?_
  refine r_cons (s_box H2 25 (.agg #[.int .i64 n.kind.v, .string n.var.v, .string n.typ.v, .slice n.tp n.tests.length n.tc, .slice n.kp n.kids.length n.kc]) rfl (cs := #[.int .i64 n.kind.v, .string n.var.v, .string n.typ.v, .slice n.tp n.tests.length n.tc, .slice n.kp n.kids.length n.kc]) rfl rfl ?_); intro bk3 w4 H5
  refine r_cons (s_assign (.slice none 0 0) rfl rfl ?_)
  refine r_nil ?_
  refine g_seq ?_
  refine g_region ?_
  refine r_cons (s_assign (.slice none 0 0) rfl rfl ?_)
  refine r_nil ?_
  refine g_seq ?_
  refine g_seq ?_
  refine g_region ?_
  refine r_cons (s_fieldAddr 25 4 4 4 23 rfl fi_25_4 rfl rfl ?_)
  refine r_cons (s_load (.slice n.kp n.kids.length n.kc) ag_23 rfl (H5.blk_at (i := 0) rfl) rfl rfl ?_)
  refine r_cons (s_len n.kids.length rfl ⟨_, un_23⟩ rfl ?_)
  by_cases hc6 : (n.kids.length : Int) = 0
  · skip
    refine r_cons (s_eql true rfl rfl (dtrue hc6) rfl ?_)
    refine r_nil ?_
    refine g_true rfl ?_
    refine g_seq ?_
    refine g_seq ?_
    refine g_region ?_
    refine r_cons (s_fieldAddr 25 1 1 1 9 rfl fi_25_1 rfl rfl ?_)
    refine r_cons (s_load (.string n.var.v) ag_9 rfl (H5.blk_at (i := 0) rfl) rfl rfl ?_)
    by_cases hc7 : n.var.v = ByteArray.empty
    · skip
      refine r_cons (s_sneq false rfl rfl (ntrue hc7) rfl ?_)
      refine r_nil ?_
      refine g_false rfl ?_
      refine g_skip ?_
      refine g_seq ?_
      refine g_region ?_
      refine r_cons (s_move (.slice none 0 0) rfl rfl ?_)
      refine r_cons (s_assign (.slice none 0 0) rfl rfl ?_)
      refine r_nil ?_
      refine g_ret' [.slice none 0 0] Try.func27 Try.results27 ⟨rfl, trivial⟩ ?_
      have H8 : St W w4 (Im 1 (.slice none 0 0) (([] : List Str).length) (([] : List Str).flatMap strCell) :: blk bk3 (.cells #[.int .i64 n.kind.v, .string n.var.v, .string n.typ.v, .slice n.tp n.tests.length n.tc, .slice n.kp n.kids.length n.kc] 25 (0, 0)) :: Im 5 (.slice n.kp n.kids.length n.kc) n.kids.length (n.kids.flatMap nodeCell) :: NodesA n.kids :: F) := Row.im (Row.nil_intro H5 9 1) (i := 0) rfl
      have H9 : St W w4 (Im 1 (.slice none 0 0) (([] : List Str).length) (([] : List Str).flatMap strCell) :: F) := (((H8.drop 1 rfl).drop 1 rfl).drop 1 rfl)
      have hq9 : ([] : List Str) = sureN n := by rw [sureN_leaf (by rw [List.isEmpty_iff]; exact List.eq_nil_of_length_eq_zero (by omega)), if_pos hc7]
      exact ⟨none, 0, by rw [← hq9]; rfl, by rw [← hq9]; exact H9⟩
    · skip
      refine r_cons (s_sneq true rfl rfl (nfalse hc7) rfl ?_)
      refine r_nil ?_
      refine g_true rfl ?_
      refine g_region ?_
      refine r_cons (s_move (.slice none 0 0) rfl rfl ?_)
      refine r_cons (s_fieldAddr 25 1 1 1 9 rfl fi_25_1 rfl rfl ?_)
      refine r_cons (s_load (.string n.var.v) ag_9 rfl (H5.blk_at (i := 0) rfl) rfl rfl ?_)
      have H10 : St W w4 (Im 1 (.slice none 0 0) (([] : List Str).length) (([] : List Str).flatMap strCell) :: blk bk3 (.cells #[.int .i64 n.kind.v, .string n.var.v, .string n.typ.v, .slice n.tp n.tests.length n.tc, .slice n.kp n.kids.length n.kc] 25 (0, 0)) :: Im 5 (.slice n.kp n.kids.length n.kc) n.kids.length (n.kids.flatMap nodeCell) :: NodesA n.kids :: F) := Row.im (Row.nil_intro H5 9 1) (i := 0) rfl
      refine r_cons (s_call [.slice none 0 0, .string n.var.v] pl_45 rfl rfl (ref07_put ([] : List Str) (.slice none 0 0) n.var (m := 0) rfl (by first | (have h9 := surF_bound (n := n) (c := sureC n) (j := j) (q := q) (by omega); rw [sortS_len]; omega) | exact Nat.zero_le _) H10) ?_)
      rintro _ w13 ⟨pp11, cc12, rfl, H14⟩
      refine r_cons (s_assign (.slice pp11 ((putS ([] : List Str) n.var).length) cc12) rfl rfl ?_)
      refine r_nil ?_
      refine g_seq ?_
      refine g_region ?_
      refine r_cons (s_move (.slice pp11 ((putS ([] : List Str) n.var).length) cc12) rfl rfl ?_)
      refine r_cons (s_assign (.slice pp11 ((putS ([] : List Str) n.var).length) cc12) rfl rfl ?_)
      refine r_nil ?_
      refine g_ret' [.slice pp11 ((putS ([] : List Str) n.var).length) cc12] Try.func27 Try.results27 ⟨rfl, trivial⟩ ?_
      have H15 : St W w13 (Im 1 (.slice pp11 ((putS ([] : List Str) n.var).length) cc12) ((putS ([] : List Str) n.var).length) ((putS ([] : List Str) n.var).flatMap strCell) :: F) := ((((H14.drop 1 rfl).drop 1 rfl).drop 1 rfl).drop 1 rfl)
      have hq9 : (putS ([] : List Str) n.var) = sureN n := by rw [sureN_leaf (by rw [List.isEmpty_iff]; exact List.eq_nil_of_length_eq_zero (by omega)), if_neg hc7]; exact ((congrArg (fun l_ => putS l_ n.var) sortS_nil.symm).trans (putS_sort [] n.var)).trans (sortS_one _)
      exact ⟨pp11, cc12, by rw [← hq9]; rfl, by rw [← hq9]; exact H15⟩
  · skip
    refine r_cons (s_eql false rfl rfl (dfalse hc6) rfl ?_)
    refine r_nil ?_
    refine g_false rfl ?_
    refine g_skip ?_
    refine g_seq ?_
    refine g_seq ?_
    refine g_region ?_
    refine r_cons (s_assign (.int .i64 0) rfl rfl ?_)
    refine r_nil ?_
    refine g_block ?_
    obtain ⟨pA16, cA17, gA18, oA19, kA20, eA21, zA22, he28, hn23, hp24, hx25, hs26, hml, H27⟩ := Im.open_ H5 (i := 1) rfl
    obtain ⟨rfl, rfl⟩ : n.kp = pA16 ∧ n.kc = cA17 := by injection he28 with a_ b_ c_; exact ⟨a_, c_⟩
    have H29 : St W w4 (Im 1 (.slice none 0 0) (([] : List Str).length) (([] : List Str).flatMap strCell) :: imi (0 < n.kids.length) gA18 (.cells kA20 eA21 zA22) :: blk bk3 (.cells #[.int .i64 n.kind.v, .string n.var.v, .string n.typ.v, .slice n.tp n.tests.length n.tc, .slice n.kp n.kids.length n.kc] 25 (0, 0)) :: Im 5 (.slice n.kp n.kids.length n.kc) n.kids.length (n.kids.flatMap nodeCell) :: NodesA n.kids :: F) := Row.im (Row.nil_intro H27 9 1) (i := 0) rfl
    have hA30 : ([] : List Str) = (sortS (surF (sureC n) (n.kids.take 0) [])) := sortS_nil.symm
    have H31 : St W w4 (Im 1 (.slice none ((sortS (surF (sureC n) (n.kids.take 0) [])).length) 0) ((sortS (surF (sureC n) (n.kids.take 0) [])).length) ((sortS (surF (sureC n) (n.kids.take 0) [])).flatMap strCell) :: imi (0 < n.kids.length) gA18 (.cells kA20 eA21 zA22) :: blk bk3 (.cells #[.int .i64 n.kind.v, .string n.var.v, .string n.typ.v, .slice n.tp n.tests.length n.tc, .slice n.kp n.kids.length n.kc] 25 (0, 0)) :: Im 5 (.slice n.kp n.kids.length n.kc) n.kids.length (n.kids.flatMap nodeCell) :: NodesA n.kids :: F) := by rw [← hA30]; exact H29
    have H32 : St W w4 (Im 1 (.slice none ((sortS (surF (sureC n) (n.kids.take 0) [])).length) 0) ((sortS (surF (sureC n) (n.kids.take 0) [])).length) ((sortS (surF (sureC n) (n.kids.take 0) [])).flatMap strCell) :: imi (0 < n.kids.length) gA18 (.cells kA20 eA21 zA22) :: blk bk3 (.cells #[.int .i64 n.kind.v, .string n.var.v, .string n.typ.v, .slice n.tp n.tests.length n.tc, .slice n.kp n.kids.length n.kc] 25 (0, 0)) :: Im 5 (.slice n.kp n.kids.length n.kc) n.kids.length (n.kids.flatMap nodeCell) :: NodesA n.kids :: F) := (((((H31.move 4 rfl).move 4 rfl).move 4 rfl).move 4 rfl).move 4 rfl)
    refine g_loop_inv (fun (x_ : (Option Addr) × Nat × Nat) => match x_ with | (p_j3, c_j3, j) => [(1, .pointer (some ⟨bk3, 0, none⟩)), (2, .slice none 0 0), (3, .slice p_j3 ((sortS (surF (sureC n) (n.kids.take j) [])).length) c_j3), (4, .int .i64 (j : Int))]) (fun (x_ : (Option Addr) × Nat × Nat) w => match x_ with | (p_j3, c_j3, j) => (j ≤ n.kids.length) ∧ St W w (Im 1 (.slice p_j3 ((sortS (surF (sureC n) (n.kids.take j) [])).length) c_j3) ((sortS (surF (sureC n) (n.kids.take j) [])).length) ((sortS (surF (sureC n) (n.kids.take j) [])).flatMap strCell) :: imi (0 < n.kids.length) gA18 (.cells kA20 eA21 zA22) :: blk bk3 (.cells #[.int .i64 n.kind.v, .string n.var.v, .string n.typ.v, .slice n.tp n.tests.length n.tc, .slice n.kp n.kids.length n.kc] 25 (0, 0)) :: Im 5 (.slice n.kp n.kids.length n.kc) n.kids.length (n.kids.flatMap nodeCell) :: NodesA n.kids :: F)) (fun (x_ : (Option Addr) × Nat × Nat) => match x_ with | (p_j3, c_j3, j) => n.kids.length - j) (none, 0, 0) ?_ ?_ ?_
    · exact ⟨by first | rfl | exact vint (by omega), by first | rfl | exact vint (by omega), (show (.slice none 0 0 : Value) = .slice none ((sortS (surF (sureC n) (n.kids.take 0) [])).length) 0 from by first | (rw [← hA30]; done) | (rw [← hA30]; rfl)), by first | rfl | exact vint (by omega), trivial⟩
    · exact ⟨(by omega), H32⟩
    · rintro ⟨p_j3, c_j3, j⟩ ρ33 w34 ⟨hjl, H35⟩ nx36
      change Ends _ _ (upds ρ33 [(1, .pointer (some ⟨bk3, 0, none⟩)), (2, .slice none 0 0), (3, .slice p_j3 ((sortS (surF (sureC n) (n.kids.take j) [])).length) c_j3), (4, .int .i64 (j : Int))]) w34
      refine g_seq ?_
      refine g_seq ?_
      refine g_region ?_
      refine r_cons (s_move (.int .i64 (j : Int)) rfl rfl ?_)
      refine r_cons (s_fieldAddr 25 4 4 4 23 rfl fi_25_4 rfl rfl ?_)
      refine r_cons (s_load (.slice n.kp n.kids.length n.kc) ag_23 rfl (H35.blk_at (i := 2) rfl) rfl rfl ?_)
      refine r_cons (s_len n.kids.length rfl ⟨_, un_23⟩ rfl ?_)
      by_cases hc37 : (j : Int) < (n.kids.length : Int)
      · skip
        refine r_cons (s_lss true rfl rfl (dtrue hc37) rfl ?_)
        refine r_nil ?_
        refine g_true rfl ?_
        refine g_skip ?_
        refine g_seq ?_
        refine g_block ?_
        refine g_seq ?_
        refine g_region ?_
        refine r_cons (s_fieldAddr 25 4 4 4 23 rfl fi_25_4 rfl rfl ?_)
        refine r_cons (s_load (.slice n.kp n.kids.length n.kc) ag_23 rfl (H35.blk_at (i := 2) rfl) rfl rfl ?_)
        refine r_cons (s_move (.int .i64 (j : Int)) rfl rfl ?_)
        refine r_cons (s_indexAddr gA18 (off := oA19) (j : Int) 5 (oA19 + j * 5) (by exact congrArg (fun z_ => Value.slice z_ n.kids.length n.kc) (hp24 (by omega))) rfl el_23 (by omega) rfl rfl ?_)
        refine r_cons (s_loadAgg [.int .i64 ((n.kids.getD j default).kind.v), .string ((n.kids.getD j default).var.v), .string ((n.kids.getD j default).typ.v), .slice ((n.kids.getD j default).tp) ((n.kids.getD j default).tests.length) ((n.kids.getD j default).tc), .slice ((n.kids.getD j default).kp) ((n.kids.getD j default).kids.length) ((n.kids.getD j default).kc)] 5 ag_25 rfl (H35.imi_at (i := 1) rfl (by omega)) (by have := elem_size (i := j) (s := 5) (hs26 (by omega)) (by omega); omega) (elem_take nodeCell_len (hx25 (by omega)) (by omega) default) rfl ?_)
        have H38 := NodesA.at H35 (i := 4) rfl (j := j) (by omega)
        refine r_cons (s_call [.agg #[.int .i64 ((n.kids.getD j default).kind.v), .string ((n.kids.getD j default).var.v), .string ((n.kids.getD j default).typ.v), .slice ((n.kids.getD j default).tp) ((n.kids.getD j default).tests.length) ((n.kids.getD j default).tc), .slice ((n.kids.getD j default).kp) ((n.kids.getD j default).kids.length) ((n.kids.getD j default).kc)]] pl_27 rfl rfl (ih (n.kids.getD j default) (by have h9 := kid_lt (n := n) (j := j) (by omega); omega) (i := 0) rfl (by have h9 := sizeN_kid (n := n) (j := j) (by omega); omega) H38) ?_)
        rintro _ w41 ⟨pp39, cc40, rfl, H42⟩
        refine r_cons (s_assign (.slice pp39 ((sureN (n.kids.getD j default)).length) cc40) rfl rfl ?_)
        refine r_nil ?_
        refine g_seq ?_
        refine g_region ?_
        refine r_cons (s_assign (.int .i64 0) rfl rfl ?_)
        refine r_nil ?_
        refine g_block ?_
        obtain ⟨pA43, cA44, gA45, oA46, kA47, eA48, zA49, he55, hn50, hp51, hx52, hs53, hml, H54⟩ := Im.open_ H42 (i := 0) rfl
        obtain ⟨rfl, rfl⟩ : pp39 = pA43 ∧ cc40 = cA44 := by injection he55 with a_ b_ c_; exact ⟨a_, c_⟩
        have hA56 : (sortS (surF (sureC n) (n.kids.take j) [])) = (sortS (filF (sureC n) ((sureN (n.kids.getD j default)).take 0) (surF (sureC n) (n.kids.take j) []))) := rfl
        have H57 : St W w41 (imi (0 < (sureN (n.kids.getD j default)).length) gA45 (.cells kA47 eA48 zA49) :: Im 1 (.slice pp39 ((sureN (n.kids.getD j default)).length) cc40) ((sureN (n.kids.getD j default)).length) ((sureN (n.kids.getD j default)).flatMap strCell) :: NodeA (n.kids.getD j default) :: Im 1 (.slice p_j3 ((sortS (filF (sureC n) ((sureN (n.kids.getD j default)).take 0) (surF (sureC n) (n.kids.take j) []))).length) c_j3) ((sortS (filF (sureC n) ((sureN (n.kids.getD j default)).take 0) (surF (sureC n) (n.kids.take j) []))).length) ((sortS (filF (sureC n) ((sureN (n.kids.getD j default)).take 0) (surF (sureC n) (n.kids.take j) []))).flatMap strCell) :: imi (0 < n.kids.length) gA18 (.cells kA20 eA21 zA22) :: blk bk3 (.cells #[.int .i64 n.kind.v, .string n.var.v, .string n.typ.v, .slice n.tp n.tests.length n.tc, .slice n.kp n.kids.length n.kc] 25 (0, 0)) :: Im 5 (.slice n.kp n.kids.length n.kc) n.kids.length (n.kids.flatMap nodeCell) :: NodesA n.kids :: F) := by rw [← hA56]; exact H54
        have H58 : St W w41 (imi (0 < (sureN (n.kids.getD j default)).length) gA45 (.cells kA47 eA48 zA49) :: Im 1 (.slice pp39 ((sureN (n.kids.getD j default)).length) cc40) ((sureN (n.kids.getD j default)).length) ((sureN (n.kids.getD j default)).flatMap strCell) :: NodeA (n.kids.getD j default) :: Im 1 (.slice p_j3 ((sortS (filF (sureC n) ((sureN (n.kids.getD j default)).take 0) (surF (sureC n) (n.kids.take j) []))).length) c_j3) ((sortS (filF (sureC n) ((sureN (n.kids.getD j default)).take 0) (surF (sureC n) (n.kids.take j) []))).length) ((sortS (filF (sureC n) ((sureN (n.kids.getD j default)).take 0) (surF (sureC n) (n.kids.take j) []))).flatMap strCell) :: imi (0 < n.kids.length) gA18 (.cells kA20 eA21 zA22) :: blk bk3 (.cells #[.int .i64 n.kind.v, .string n.var.v, .string n.typ.v, .slice n.tp n.tests.length n.tc, .slice n.kp n.kids.length n.kc] 25 (0, 0)) :: Im 5 (.slice n.kp n.kids.length n.kc) n.kids.length (n.kids.flatMap nodeCell) :: NodesA n.kids :: F) := ((((((((H57.move 7 rfl).move 7 rfl).move 7 rfl).move 7 rfl).move 7 rfl).move 7 rfl).move 7 rfl).move 7 rfl)
        refine g_loop_inv (fun (x_ : (Option Addr) × Nat × Nat) => match x_ with | (p_q3, c_q3, q) => [(1, .pointer (some ⟨bk3, 0, none⟩)), (2, .slice none 0 0), (3, .slice p_q3 ((sortS (filF (sureC n) ((sureN (n.kids.getD j default)).take q) (surF (sureC n) (n.kids.take j) []))).length) c_q3), (4, .int .i64 (j : Int)), (5, .slice pp39 ((sureN (n.kids.getD j default)).length) cc40), (6, .int .i64 (q : Int))]) (fun (x_ : (Option Addr) × Nat × Nat) w => match x_ with | (p_q3, c_q3, q) => (q ≤ (sureN (n.kids.getD j default)).length) ∧ St W w (imi (0 < (sureN (n.kids.getD j default)).length) gA45 (.cells kA47 eA48 zA49) :: Im 1 (.slice pp39 ((sureN (n.kids.getD j default)).length) cc40) ((sureN (n.kids.getD j default)).length) ((sureN (n.kids.getD j default)).flatMap strCell) :: NodeA (n.kids.getD j default) :: Im 1 (.slice p_q3 ((sortS (filF (sureC n) ((sureN (n.kids.getD j default)).take q) (surF (sureC n) (n.kids.take j) []))).length) c_q3) ((sortS (filF (sureC n) ((sureN (n.kids.getD j default)).take q) (surF (sureC n) (n.kids.take j) []))).length) ((sortS (filF (sureC n) ((sureN (n.kids.getD j default)).take q) (surF (sureC n) (n.kids.take j) []))).flatMap strCell) :: imi (0 < n.kids.length) gA18 (.cells kA20 eA21 zA22) :: blk bk3 (.cells #[.int .i64 n.kind.v, .string n.var.v, .string n.typ.v, .slice n.tp n.tests.length n.tc, .slice n.kp n.kids.length n.kc] 25 (0, 0)) :: Im 5 (.slice n.kp n.kids.length n.kc) n.kids.length (n.kids.flatMap nodeCell) :: NodesA n.kids :: F)) (fun (x_ : (Option Addr) × Nat × Nat) => match x_ with | (p_q3, c_q3, q) => (sureN (n.kids.getD j default)).length - q) (p_j3, c_j3, 0) ?_ ?_ ?_
        · exact ⟨by first | rfl | exact vint (by omega), by first | rfl | exact vint (by omega), (show (.slice p_j3 ((sortS (surF (sureC n) (n.kids.take j) [])).length) c_j3 : Value) = .slice p_j3 ((sortS (filF (sureC n) ((sureN (n.kids.getD j default)).take 0) (surF (sureC n) (n.kids.take j) []))).length) c_j3 from by first | (rw [← hA56]; done) | (rw [← hA56]; rfl)), by first | rfl | exact vint (by omega), by first | rfl | exact vint (by omega), by first | rfl | exact vint (by omega), trivial⟩
        · exact ⟨(by omega), H58⟩
        · rintro ⟨p_q3, c_q3, q⟩ ρ59 w60 ⟨hql, H61⟩ nx62
          change Ends _ _ (upds ρ59 [(1, .pointer (some ⟨bk3, 0, none⟩)), (2, .slice none 0 0), (3, .slice p_q3 ((sortS (filF (sureC n) ((sureN (n.kids.getD j default)).take q) (surF (sureC n) (n.kids.take j) []))).length) c_q3), (4, .int .i64 (j : Int)), (5, .slice pp39 ((sureN (n.kids.getD j default)).length) cc40), (6, .int .i64 (q : Int))]) w60
          refine g_seq ?_
          refine g_seq ?_
          refine g_region ?_
          refine r_cons (s_move (.int .i64 (q : Int)) rfl rfl ?_)
          refine r_cons (s_move (.slice pp39 ((sureN (n.kids.getD j default)).length) cc40) rfl rfl ?_)
          refine r_cons (s_len ((sureN (n.kids.getD j default)).length) rfl ⟨_, un_36⟩ rfl ?_)
          by_cases hc63 : (q : Int) < ((sureN (n.kids.getD j default)).length : Int)
          · skip
            refine r_cons (s_lss true rfl rfl (dtrue hc63) rfl ?_)
            refine r_nil ?_
            refine g_true rfl ?_
            refine g_skip ?_
            refine g_seq ?_
            refine g_block ?_
            refine g_seq ?_
            refine g_region ?_
            refine r_cons (s_assign (.bool true) rfl rfl ?_)
            refine r_nil ?_
            refine g_seq ?_
            refine g_seq ?_
            refine g_region ?_
            refine r_cons (s_assign (.int .i64 0) rfl rfl ?_)
            refine r_nil ?_
            refine g_block ?_
            have H64 : St W w60 (imi (0 < (sureN (n.kids.getD j default)).length) gA45 (.cells kA47 eA48 zA49) :: Im 1 (.slice pp39 ((sureN (n.kids.getD j default)).length) cc40) ((sureN (n.kids.getD j default)).length) ((sureN (n.kids.getD j default)).flatMap strCell) :: NodeA (n.kids.getD j default) :: Im 1 (.slice p_q3 ((sortS (filF (sureC n) ((sureN (n.kids.getD j default)).take q) (surF (sureC n) (n.kids.take j) []))).length) c_q3) ((sortS (filF (sureC n) ((sureN (n.kids.getD j default)).take q) (surF (sureC n) (n.kids.take j) []))).length) ((sortS (filF (sureC n) ((sureN (n.kids.getD j default)).take q) (surF (sureC n) (n.kids.take j) []))).flatMap strCell) :: imi (0 < n.kids.length) gA18 (.cells kA20 eA21 zA22) :: blk bk3 (.cells #[.int .i64 n.kind.v, .string n.var.v, .string n.typ.v, .slice n.tp n.tests.length n.tc, .slice n.kp n.kids.length n.kc] 25 (0, 0)) :: Im 5 (.slice n.kp n.kids.length n.kc) n.kids.length (n.kids.flatMap nodeCell) :: NodesA n.kids :: F) := ((((((((H61.move 7 rfl).move 7 rfl).move 7 rfl).move 7 rfl).move 7 rfl).move 7 rfl).move 7 rfl).move 7 rfl)
            refine g_loop_inv (fun (x_ : Nat) => match x_ with | i => [(1, .pointer (some ⟨bk3, 0, none⟩)), (2, .slice none 0 0), (3, .slice p_q3 ((sortS (filF (sureC n) ((sureN (n.kids.getD j default)).take q) (surF (sureC n) (n.kids.take j) []))).length) c_q3), (4, .int .i64 (j : Int)), (5, .slice pp39 ((sureN (n.kids.getD j default)).length) cc40), (6, .int .i64 (q : Int)), (7, .bool ((n.kids.take i).all fun k => decide (((sureN (n.kids.getD j default)).getD q default) ∈ sureN k))), (8, .int .i64 (i : Int))]) (fun (x_ : Nat) w => match x_ with | i => (i ≤ n.kids.length) ∧ (i = 0 ∨ n.kind.v = 4) ∧ St W w (imi (0 < (sureN (n.kids.getD j default)).length) gA45 (.cells kA47 eA48 zA49) :: Im 1 (.slice pp39 ((sureN (n.kids.getD j default)).length) cc40) ((sureN (n.kids.getD j default)).length) ((sureN (n.kids.getD j default)).flatMap strCell) :: NodeA (n.kids.getD j default) :: Im 1 (.slice p_q3 ((sortS (filF (sureC n) ((sureN (n.kids.getD j default)).take q) (surF (sureC n) (n.kids.take j) []))).length) c_q3) ((sortS (filF (sureC n) ((sureN (n.kids.getD j default)).take q) (surF (sureC n) (n.kids.take j) []))).length) ((sortS (filF (sureC n) ((sureN (n.kids.getD j default)).take q) (surF (sureC n) (n.kids.take j) []))).flatMap strCell) :: imi (0 < n.kids.length) gA18 (.cells kA20 eA21 zA22) :: blk bk3 (.cells #[.int .i64 n.kind.v, .string n.var.v, .string n.typ.v, .slice n.tp n.tests.length n.tc, .slice n.kp n.kids.length n.kc] 25 (0, 0)) :: Im 5 (.slice n.kp n.kids.length n.kc) n.kids.length (n.kids.flatMap nodeCell) :: NodesA n.kids :: F)) (fun (x_ : Nat) => match x_ with | i => n.kids.length - i) (0) ?_ ?_ ?_
            · exact ⟨by first | rfl | exact vint (by omega), by first | rfl | exact vint (by omega), by first | rfl | exact vint (by omega), by first | rfl | exact vint (by omega), by first | rfl | exact vint (by omega), by first | rfl | exact vint (by omega), congrArg Value.bool (by simp), by first | rfl | exact vint (by omega), trivial⟩
            · exact ⟨(by omega), (by omega), H64⟩
            · rintro i ρ65 w66 ⟨hil, hki, H67⟩ nx68
              change Ends _ _ (upds ρ65 [(1, .pointer (some ⟨bk3, 0, none⟩)), (2, .slice none 0 0), (3, .slice p_q3 ((sortS (filF (sureC n) ((sureN (n.kids.getD j default)).take q) (surF (sureC n) (n.kids.take j) []))).length) c_q3), (4, .int .i64 (j : Int)), (5, .slice pp39 ((sureN (n.kids.getD j default)).length) cc40), (6, .int .i64 (q : Int)), (7, .bool ((n.kids.take i).all fun k => decide (((sureN (n.kids.getD j default)).getD q default) ∈ sureN k))), (8, .int .i64 (i : Int))]) w66
              refine g_seq ?_
              refine g_seq ?_
              refine g_region ?_
              refine r_cons (s_move (.int .i64 (i : Int)) rfl rfl ?_)
              refine r_cons (s_fieldAddr 25 4 4 4 23 rfl fi_25_4 rfl rfl ?_)
              refine r_cons (s_load (.slice n.kp n.kids.length n.kc) ag_23 rfl (H67.blk_at (i := 5) rfl) rfl rfl ?_)
              refine r_cons (s_len n.kids.length rfl ⟨_, un_23⟩ rfl ?_)
              by_cases hc69 : (i : Int) < (n.kids.length : Int)
              · skip
                refine r_cons (s_lss true rfl rfl (dtrue hc69) rfl ?_)
                refine r_cons (s_move (.bool true) rfl rfl ?_)
                refine r_cons (r_take rfl rfl ?_)
                refine s_fieldAddr 25 0 0 0 3 rfl fi_25_0 rfl rfl ?_
                refine r_cons (r_take rfl rfl ?_)
                refine s_load (.int .i64 n.kind.v) ag_3 rfl (H67.blk_at (i := 5) rfl) rfl rfl ?_
                refine r_cons (r_take rfl rfl ?_)
                by_cases hc70 : n.kind.v = 4
                · skip
                  refine s_eql true rfl rfl (dtrue hc70) rfl ?_
                  refine r_cons (s_pick_t (.bool true) rfl rfl rfl ?_)
                  refine r_nil ?_
                  refine g_true rfl ?_
                  refine g_skip ?_
                  refine g_seq ?_
                  refine g_block ?_
                  refine g_mix (fun t_ w => St W w (imi (0 < (sureN (n.kids.getD j default)).length) gA45 (.cells kA47 eA48 zA49) :: Im 1 (.slice pp39 ((sureN (n.kids.getD j default)).length) cc40) ((sureN (n.kids.getD j default)).length) ((sureN (n.kids.getD j default)).flatMap strCell) :: NodeA (n.kids.getD j default) :: Im 1 (.slice p_q3 ((sortS (filF (sureC n) ((sureN (n.kids.getD j default)).take q) (surF (sureC n) (n.kids.take j) []))).length) c_q3) ((sortS (filF (sureC n) ((sureN (n.kids.getD j default)).take q) (surF (sureC n) (n.kids.take j) []))).length) ((sortS (filF (sureC n) ((sureN (n.kids.getD j default)).take q) (surF (sureC n) (n.kids.take j) []))).flatMap strCell) :: imi (0 < n.kids.length) gA18 (.cells kA20 eA21 zA22) :: blk bk3 (.cells #[.int .i64 n.kind.v, .string n.var.v, .string n.typ.v, .slice n.tp n.tests.length n.tc, .slice n.kp n.kids.length n.kc] 25 (0, 0)) :: Im 5 (.slice n.kp n.kids.length n.kc) n.kids.length (n.kids.flatMap nodeCell) :: NodesA n.kids :: t_)) F mixed 15 rfl H67.drew ?_
                  refine f_first 0 (listed' := #[true, false, false, false, false, false, false, false, false, false, false, false, false, false, false]) rfl (by kernel_rfl) (by kernel_rfl) (by kernel_rfl) rfl ?_
                  refine f_val rfl rfl rfl (by intro t_ w hw; exact x_move (.bool ((n.kids.take i).all fun k => decide (((sureN (n.kids.getD j default)).getD q default) ∈ sureN k))) rfl w) ?_
                  refine f_first 1 (listed' := #[true, true, false, false, false, false, false, false, false, false, false, false, false, false, false]) rfl (by kernel_rfl) (by kernel_rfl) (by kernel_rfl) rfl ?_
                  refine f_val rfl rfl rfl (by intro t_ w hw; exact x_move (.bool ((n.kids.take i).all fun k => decide (((sureN (n.kids.getD j default)).getD q default) ∈ sureN k))) rfl w) ?_
                  by_cases hb71 : (((n.kids.take i).all fun k => decide (((sureN (n.kids.getD j default)).getD q default) ∈ sureN k))) = true
                  · skip
                    refine f_first 2 (listed' := #[true, true, true, false, false, false, false, false, false, false, false, false, false, false, false]) rfl (by kernel_rfl) (by kernel_rfl) (by kernel_rfl) rfl ?_
                    refine f_take rfl (by exact congrArg some hb71) ?_
                    refine f_val rfl rfl rfl (by intro t_ w hw; exact x_fieldAddr 25 4 4 4 23 rfl fi_25_4 rfl w) ?_
                    refine f_first 3 (listed' := #[true, true, true, true, false, false, false, false, false, false, false, false, false, false, false]) rfl (by kernel_rfl) (by kernel_rfl) (by kernel_rfl) rfl ?_
                    refine f_take rfl (by exact congrArg some hb71) ?_
                    refine f_val rfl rfl rfl (by intro t_ w hw; exact x_load (.slice n.kp n.kids.length n.kc) ag_23 rfl (hw.blk_at (i := 5) rfl) rfl) ?_
                    refine f_first 4 (listed' := #[true, true, true, true, true, false, false, false, false, false, false, false, false, false, false]) rfl (by kernel_rfl) (by kernel_rfl) (by kernel_rfl) rfl ?_
                    refine f_take rfl (by exact congrArg some hb71) ?_
                    refine f_val rfl rfl rfl (by intro t_ w hw; exact x_move (.int .i64 (i : Int)) rfl w) ?_
                    refine f_first 5 (listed' := #[true, true, true, true, true, true, false, false, false, false, false, false, false, false, false]) rfl (by kernel_rfl) (by kernel_rfl) (by kernel_rfl) rfl ?_
                    refine f_take rfl (by exact congrArg some hb71) ?_
                    refine f_val rfl rfl rfl (by intro t_ w hw; exact x_indexAddr gA18 (off := oA19) (i : Int) 5 (oA19 + i * 5) (by exact congrArg (fun z_ => Value.slice z_ n.kids.length n.kc) (hp24 (by omega))) rfl el_23 (by omega) rfl w) ?_
                    refine f_first 6 (listed' := #[true, true, true, true, true, true, true, false, false, false, false, false, false, false, false]) rfl (by kernel_rfl) (by kernel_rfl) (by kernel_rfl) rfl ?_
                    refine f_take rfl (by exact congrArg some hb71) ?_
                    refine f_val rfl rfl rfl (by intro t_ w hw; exact x_loadAgg [.int .i64 ((n.kids.getD i default).kind.v), .string ((n.kids.getD i default).var.v), .string ((n.kids.getD i default).typ.v), .slice ((n.kids.getD i default).tp) ((n.kids.getD i default).tests.length) ((n.kids.getD i default).tc), .slice ((n.kids.getD i default).kp) ((n.kids.getD i default).kids.length) ((n.kids.getD i default).kc)] 5 ag_25 rfl (hw.imi_at (i := 4) rfl (by omega)) (by have := elem_size (i := i) (s := 5) (hs26 (by omega)) (by omega); omega) (elem_take nodeCell_len (hx25 (by omega)) (by omega) default)) ?_
                    refine f_first 8 (listed' := #[true, true, true, true, true, true, true, false, true, false, false, false, false, false, false]) rfl (by kernel_rfl) (by kernel_rfl) (by kernel_rfl) rfl ?_
                    refine f_take rfl (by exact congrArg some hb71) ?_
                    refine f_val rfl rfl rfl (by intro t_ w hw; exact x_move (.slice pp39 ((sureN (n.kids.getD j default)).length) cc40) rfl w) ?_
                    refine f_first 9 (listed' := #[true, true, true, true, true, true, true, false, true, true, false, false, false, false, false]) rfl (by kernel_rfl) (by kernel_rfl) (by kernel_rfl) rfl ?_
                    refine f_take rfl (by exact congrArg some hb71) ?_
                    refine f_val rfl rfl rfl (by intro t_ w hw; exact x_move (.int .i64 (q : Int)) rfl w) ?_
                    refine f_first 10 (listed' := #[true, true, true, true, true, true, true, false, true, true, true, false, false, false, false]) rfl (by kernel_rfl) (by kernel_rfl) (by kernel_rfl) rfl ?_
                    refine f_take rfl (by exact congrArg some hb71) ?_
                    refine f_val rfl rfl rfl (by intro t_ w hw; exact x_indexAddr gA45 (off := oA46) (q : Int) 1 (oA46 + q * 1) (by exact congrArg (fun z_ => Value.slice z_ ((sureN (n.kids.getD j default)).length) cc40) (hp51 (by omega))) rfl el_36 (by omega) rfl w) ?_
                    refine f_first 11 (listed' := #[true, true, true, true, true, true, true, false, true, true, true, true, false, false, false]) rfl (by kernel_rfl) (by kernel_rfl) (by kernel_rfl) rfl ?_
                    refine f_take rfl (by exact congrArg some hb71) ?_
                    refine f_val rfl rfl rfl (by intro t_ w hw; exact x_load (.string (((sureN (n.kids.getD j default)).getD q default).v)) ag_9 rfl (hw.imi_at (i := 0) rfl (by omega)) (elem_cell (L := (sureN (n.kids.getD j default))) (i := q) strCell_len (hx52 (by omega)) (by omega) default 0 (by decide) _ rfl)) ?_
                    refine f_all (rs := [7]) (by kernel_rfl) (by simp) ?_
                    refine a_cons ⟨_, rfl, ?_⟩ (fun x hx => absurd hx (by simp))
                    intro w72 H73
                    try dsimp only at H73
                    refine r_take rfl (by exact congrArg some hb71) ?_
                    have H74 := NodesA.at H73 (i := 7) rfl (j := i) (by omega)
                    refine s_call [.agg #[.int .i64 ((n.kids.getD i default).kind.v), .string ((n.kids.getD i default).var.v), .string ((n.kids.getD i default).typ.v), .slice ((n.kids.getD i default).tp) ((n.kids.getD i default).tests.length) ((n.kids.getD i default).tc), .slice ((n.kids.getD i default).kp) ((n.kids.getD i default).kids.length) ((n.kids.getD i default).kc)]] pl_27 rfl rfl (ih (n.kids.getD i default) (by have h9 := kid_lt (n := n) (j := i) (by omega); omega) (i := 0) rfl (by have h9 := sizeN_kid (n := n) (j := i) (by omega); omega) H74) ?_
                    rintro _ w77 ⟨pp75, cc76, rfl, H78⟩
                    have H79 : St W w77 (imi (0 < (sureN (n.kids.getD j default)).length) gA45 (.cells kA47 eA48 zA49) :: Im 1 (.slice pp39 ((sureN (n.kids.getD j default)).length) cc40) ((sureN (n.kids.getD j default)).length) ((sureN (n.kids.getD j default)).flatMap strCell) :: NodeA (n.kids.getD j default) :: Im 1 (.slice p_q3 ((sortS (filF (sureC n) ((sureN (n.kids.getD j default)).take q) (surF (sureC n) (n.kids.take j) []))).length) c_q3) ((sortS (filF (sureC n) ((sureN (n.kids.getD j default)).take q) (surF (sureC n) (n.kids.take j) []))).length) ((sortS (filF (sureC n) ((sureN (n.kids.getD j default)).take q) (surF (sureC n) (n.kids.take j) []))).flatMap strCell) :: imi (0 < n.kids.length) gA18 (.cells kA20 eA21 zA22) :: blk bk3 (.cells #[.int .i64 n.kind.v, .string n.var.v, .string n.typ.v, .slice n.tp n.tests.length n.tc, .slice n.kp n.kids.length n.kc] 25 (0, 0)) :: Im 5 (.slice n.kp n.kids.length n.kc) n.kids.length (n.kids.flatMap nodeCell) :: NodesA n.kids :: Im 1 (.slice pp75 ((sureN (n.kids.getD i default)).length) cc76) ((sureN (n.kids.getD i default)).length) ((sureN (n.kids.getD i default)).flatMap strCell) :: NodeA (n.kids.getD i default) :: F) := ((((((((((H78.move 1 rfl).move 1 rfl).move 9 rfl).move 9 rfl).move 9 rfl).move 9 rfl).move 9 rfl).move 9 rfl).move 9 rfl).move 9 rfl)
                    refine ⟨Im 1 (.slice pp75 ((sureN (n.kids.getD i default)).length) cc76) ((sureN (n.kids.getD i default)).length) ((sureN (n.kids.getD i default)).flatMap strCell) :: NodeA (n.kids.getD i default) :: F, ?_, H79⟩
                    change FReg _ _ _ _ _ #[true, true, true, true, true, true, true, true, true, true, true, true, false, false, false] _ _
                    refine f_all (rs := [12]) (by kernel_rfl) (by simp) ?_
                    refine a_cons ⟨_, rfl, ?_⟩ (fun x hx => absurd hx (by simp))
                    intro w80 H81
                    try dsimp only at H81
                    refine r_take rfl (by exact congrArg some hb71) ?_
                    refine s_call [.slice pp75 ((sureN (n.kids.getD i default)).length) cc76, .string (((sureN (n.kids.getD j default)).getD q default).v)] pl_42 rfl rfl (ref07_Has (sureN (n.kids.getD i default)) (.slice pp75 ((sureN (n.kids.getD i default)).length) cc76) (((sureN (n.kids.getD j default)).getD q default).v) (m := 8) rfl H81) ?_
                    rintro _ w82 ⟨rfl, H83⟩
                    refine ⟨Im 1 (.slice pp75 ((sureN (n.kids.getD i default)).length) cc76) ((sureN (n.kids.getD i default)).length) ((sureN (n.kids.getD i default)).flatMap strCell) :: NodeA (n.kids.getD i default) :: F, ?_, H83⟩
                    change FReg _ _ _ _ _ #[true, true, true, true, true, true, true, true, true, true, true, true, true, false, false] _ _
                    refine f_first 13 (listed' := #[true, true, true, true, true, true, true, true, true, true, true, true, true, true, false]) rfl (by kernel_rfl) (by kernel_rfl) (by kernel_rfl) rfl ?_
                    refine f_val rfl rfl rfl (by intro t_ w hw; exact x_pick_t (.bool (hasS (sureN (n.kids.getD i default)) (((sureN (n.kids.getD j default)).getD q default).v))) (by exact congrArg Value.bool hb71) rfl w) ?_
                    refine f_first 14 (listed' := #[true, true, true, true, true, true, true, true, true, true, true, true, true, true, true]) rfl (by kernel_rfl) (by kernel_rfl) (by kernel_rfl) rfl ?_
                    refine f_val rfl rfl rfl (by intro t_ w hw; exact x_assign (.bool (hasS (sureN (n.kids.getD i default)) (((sureN (n.kids.getD j default)).getD q default).v))) rfl w) ?_
                    refine f_done (by kernel_rfl) ?_
                    intro w84 H85
                    refine g_inBlock ?_
                    refine g_region ?_
                    refine r_cons (s_move (.int .i64 (i : Int)) rfl rfl ?_)
                    refine r_cons (s_add ((i : Int) + 1) rfl rfl (wi64 (by omega)) rfl ?_)
                    refine r_cons (s_assign (.int .i64 ((i : Int) + 1)) rfl rfl ?_)
                    refine r_nil ?_
                    have H86 : St W w84 (imi (0 < (sureN (n.kids.getD j default)).length) gA45 (.cells kA47 eA48 zA49) :: Im 1 (.slice pp39 ((sureN (n.kids.getD j default)).length) cc40) ((sureN (n.kids.getD j default)).length) ((sureN (n.kids.getD j default)).flatMap strCell) :: NodeA (n.kids.getD j default) :: Im 1 (.slice p_q3 ((sortS (filF (sureC n) ((sureN (n.kids.getD j default)).take q) (surF (sureC n) (n.kids.take j) []))).length) c_q3) ((sortS (filF (sureC n) ((sureN (n.kids.getD j default)).take q) (surF (sureC n) (n.kids.take j) []))).length) ((sortS (filF (sureC n) ((sureN (n.kids.getD j default)).take q) (surF (sureC n) (n.kids.take j) []))).flatMap strCell) :: imi (0 < n.kids.length) gA18 (.cells kA20 eA21 zA22) :: blk bk3 (.cells #[.int .i64 n.kind.v, .string n.var.v, .string n.typ.v, .slice n.tp n.tests.length n.tc, .slice n.kp n.kids.length n.kc] 25 (0, 0)) :: Im 5 (.slice n.kp n.kids.length n.kc) n.kids.length (n.kids.flatMap nodeCell) :: NodesA n.kids :: F) := ((((((((((H85.move 7 rfl).move 7 rfl).move 7 rfl).move 7 rfl).move 7 rfl).move 7 rfl).move 7 rfl).move 7 rfl).drop 8 rfl).drop 8 rfl)
                    exact nx68 (i + 1) _ _ ⟨(by omega), (by omega), H86⟩ (by first | (dsimp only; omega) | omega) ⟨by first | rfl | exact vint (by omega), by first | rfl | exact vint (by omega), by first | rfl | exact vint (by omega), by first | rfl | exact vint (by omega), by first | rfl | exact vint (by omega), by first | rfl | exact vint (by omega), congrArg Value.bool (by rw [all_take (by omega), hb71, hasS_mem]; rfl), by first | rfl | exact vint (by omega), trivial⟩
                  · have hb71 := eq_false_of_ne_true hb71
                    refine f_first 2 (listed' := #[true, true, true, false, false, false, false, false, false, false, false, false, false, false, false]) rfl (by kernel_rfl) (by kernel_rfl) (by kernel_rfl) rfl ?_
                    refine f_pass rfl (by exact congrArg some hb71) rfl rfl rfl ?_
                    refine f_first 3 (listed' := #[true, true, true, true, false, false, false, false, false, false, false, false, false, false, false]) rfl (by kernel_rfl) (by kernel_rfl) (by kernel_rfl) rfl ?_
                    refine f_pass rfl (by exact congrArg some hb71) rfl rfl rfl ?_
                    refine f_first 4 (listed' := #[true, true, true, true, true, false, false, false, false, false, false, false, false, false, false]) rfl (by kernel_rfl) (by kernel_rfl) (by kernel_rfl) rfl ?_
                    refine f_pass rfl (by exact congrArg some hb71) rfl rfl rfl ?_
                    refine f_first 5 (listed' := #[true, true, true, true, true, true, false, false, false, false, false, false, false, false, false]) rfl (by kernel_rfl) (by kernel_rfl) (by kernel_rfl) rfl ?_
                    refine f_pass rfl (by exact congrArg some hb71) rfl rfl rfl ?_
                    refine f_first 6 (listed' := #[true, true, true, true, true, true, true, false, false, false, false, false, false, false, false]) rfl (by kernel_rfl) (by kernel_rfl) (by kernel_rfl) rfl ?_
                    refine f_pass rfl (by exact congrArg some hb71) rfl rfl rfl ?_
                    refine f_first 7 (listed' := #[true, true, true, true, true, true, true, true, false, false, false, false, false, false, false]) rfl (by kernel_rfl) (by kernel_rfl) (by kernel_rfl) rfl ?_
                    refine f_pass rfl (by exact congrArg some hb71) rfl rfl rfl ?_
                    refine f_first 8 (listed' := #[true, true, true, true, true, true, true, true, true, false, false, false, false, false, false]) rfl (by kernel_rfl) (by kernel_rfl) (by kernel_rfl) rfl ?_
                    refine f_pass rfl (by exact congrArg some hb71) rfl rfl rfl ?_
                    refine f_first 9 (listed' := #[true, true, true, true, true, true, true, true, true, true, false, false, false, false, false]) rfl (by kernel_rfl) (by kernel_rfl) (by kernel_rfl) rfl ?_
                    refine f_pass rfl (by exact congrArg some hb71) rfl rfl rfl ?_
                    refine f_first 10 (listed' := #[true, true, true, true, true, true, true, true, true, true, true, false, false, false, false]) rfl (by kernel_rfl) (by kernel_rfl) (by kernel_rfl) rfl ?_
                    refine f_pass rfl (by exact congrArg some hb71) rfl rfl rfl ?_
                    refine f_first 11 (listed' := #[true, true, true, true, true, true, true, true, true, true, true, true, false, false, false]) rfl (by kernel_rfl) (by kernel_rfl) (by kernel_rfl) rfl ?_
                    refine f_pass rfl (by exact congrArg some hb71) rfl rfl rfl ?_
                    refine f_first 12 (listed' := #[true, true, true, true, true, true, true, true, true, true, true, true, true, false, false]) rfl (by kernel_rfl) (by kernel_rfl) (by kernel_rfl) rfl ?_
                    refine f_pass rfl (by exact congrArg some hb71) rfl rfl rfl ?_
                    refine f_first 13 (listed' := #[true, true, true, true, true, true, true, true, true, true, true, true, true, true, false]) rfl (by kernel_rfl) (by kernel_rfl) (by kernel_rfl) rfl ?_
                    refine f_val rfl rfl rfl (by intro t_ w hw; exact x_pick_f (.bool false) (by exact congrArg Value.bool hb71) rfl w) ?_
                    refine f_first 14 (listed' := #[true, true, true, true, true, true, true, true, true, true, true, true, true, true, true]) rfl (by kernel_rfl) (by kernel_rfl) (by kernel_rfl) rfl ?_
                    refine f_val rfl rfl rfl (by intro t_ w hw; exact x_assign (.bool false) rfl w) ?_
                    refine f_done (by kernel_rfl) ?_
                    intro w87 H88
                    refine g_inBlock ?_
                    refine g_region ?_
                    refine r_cons (s_move (.int .i64 (i : Int)) rfl rfl ?_)
                    refine r_cons (s_add ((i : Int) + 1) rfl rfl (wi64 (by omega)) rfl ?_)
                    refine r_cons (s_assign (.int .i64 ((i : Int) + 1)) rfl rfl ?_)
                    refine r_nil ?_
                    have H89 : St W w87 (imi (0 < (sureN (n.kids.getD j default)).length) gA45 (.cells kA47 eA48 zA49) :: Im 1 (.slice pp39 ((sureN (n.kids.getD j default)).length) cc40) ((sureN (n.kids.getD j default)).length) ((sureN (n.kids.getD j default)).flatMap strCell) :: NodeA (n.kids.getD j default) :: Im 1 (.slice p_q3 ((sortS (filF (sureC n) ((sureN (n.kids.getD j default)).take q) (surF (sureC n) (n.kids.take j) []))).length) c_q3) ((sortS (filF (sureC n) ((sureN (n.kids.getD j default)).take q) (surF (sureC n) (n.kids.take j) []))).length) ((sortS (filF (sureC n) ((sureN (n.kids.getD j default)).take q) (surF (sureC n) (n.kids.take j) []))).flatMap strCell) :: imi (0 < n.kids.length) gA18 (.cells kA20 eA21 zA22) :: blk bk3 (.cells #[.int .i64 n.kind.v, .string n.var.v, .string n.typ.v, .slice n.tp n.tests.length n.tc, .slice n.kp n.kids.length n.kc] 25 (0, 0)) :: Im 5 (.slice n.kp n.kids.length n.kc) n.kids.length (n.kids.flatMap nodeCell) :: NodesA n.kids :: F) := ((((((((H88.move 7 rfl).move 7 rfl).move 7 rfl).move 7 rfl).move 7 rfl).move 7 rfl).move 7 rfl).move 7 rfl)
                    exact nx68 (i + 1) _ _ ⟨(by omega), (by omega), H89⟩ (by first | (dsimp only; omega) | omega) ⟨by first | rfl | exact vint (by omega), by first | rfl | exact vint (by omega), by first | rfl | exact vint (by omega), by first | rfl | exact vint (by omega), by first | rfl | exact vint (by omega), by first | rfl | exact vint (by omega), congrArg Value.bool (by rw [all_take (by omega), hb71]; rfl), by first | rfl | exact vint (by omega), trivial⟩
                · skip
                  refine s_eql false rfl rfl (dfalse hc70) rfl ?_
                  refine r_cons (s_pick_t (.bool false) rfl rfl rfl ?_)
                  refine r_nil ?_
                  refine g_false rfl ?_
                  refine g_exit (by rfl) ?_
                  refine g_seq ?_
                  refine g_region ?_
                  have hex90 : ((n.kids.take i).all fun k => decide (((sureN (n.kids.getD j default)).getD q default) ∈ sureN k)) = sureC n ((sureN (n.kids.getD j default)).getD q default) := by first | exact sure_exit1 (by omega) (by omega) | exact sure_exit2 (by omega) (by omega)
                  refine r_cons (s_move (.bool ((n.kids.take i).all fun k => decide (((sureN (n.kids.getD j default)).getD q default) ∈ sureN k))) rfl rfl ?_)
                  refine r_nil ?_
                  by_cases hb91 : (((n.kids.take i).all fun k => decide (((sureN (n.kids.getD j default)).getD q default) ∈ sureN k))) = true
                  · skip
                    refine g_true (congrArg Value.bool hb91) ?_
                    refine g_region ?_
                    refine r_cons (s_move (.slice p_q3 ((sortS (filF (sureC n) ((sureN (n.kids.getD j default)).take q) (surF (sureC n) (n.kids.take j) []))).length) c_q3) rfl rfl ?_)
                    refine r_cons (s_move (.slice pp39 ((sureN (n.kids.getD j default)).length) cc40) rfl rfl ?_)
                    refine r_cons (s_move (.int .i64 (q : Int)) rfl rfl ?_)
                    refine r_cons (s_indexAddr gA45 (off := oA46) (q : Int) 1 (oA46 + q * 1) (by exact congrArg (fun z_ => Value.slice z_ ((sureN (n.kids.getD j default)).length) cc40) (hp51 (by omega))) rfl el_36 (by omega) rfl rfl ?_)
                    refine r_cons (s_load (.string (((sureN (n.kids.getD j default)).getD q default).v)) ag_9 rfl (H67.imi_at (i := 0) rfl (by omega)) (elem_cell (L := (sureN (n.kids.getD j default))) (i := q) strCell_len (hx52 (by omega)) (by omega) default 0 (by decide) _ rfl) rfl ?_)
                    refine r_cons (s_call [.slice p_q3 ((sortS (filF (sureC n) ((sureN (n.kids.getD j default)).take q) (surF (sureC n) (n.kids.take j) []))).length) c_q3, .string (((sureN (n.kids.getD j default)).getD q default).v)] pl_45 rfl rfl (ref07_put (sortS (filF (sureC n) ((sureN (n.kids.getD j default)).take q) (surF (sureC n) (n.kids.take j) []))) (.slice p_q3 ((sortS (filF (sureC n) ((sureN (n.kids.getD j default)).take q) (surF (sureC n) (n.kids.take j) []))).length) c_q3) ((sureN (n.kids.getD j default)).getD q default) (m := 3) rfl (by first | (have h9 := surF_bound (n := n) (c := sureC n) (j := j) (q := q) (by omega); rw [sortS_len]; omega) | exact Nat.zero_le _) H67) ?_)
                    rintro _ w94 ⟨pp92, cc93, rfl, H95⟩
                    refine r_cons (s_assign (.slice pp92 ((putS (sortS (filF (sureC n) ((sureN (n.kids.getD j default)).take q) (surF (sureC n) (n.kids.take j) []))) ((sureN (n.kids.getD j default)).getD q default)).length) cc93) rfl rfl ?_)
                    refine r_nil ?_
                    refine g_inBlock ?_
                    refine g_region ?_
                    refine r_cons (s_move (.int .i64 (q : Int)) rfl rfl ?_)
                    refine r_cons (s_add ((q : Int) + 1) rfl rfl (wi64 (by omega)) rfl ?_)
                    refine r_cons (s_assign (.int .i64 ((q : Int) + 1)) rfl rfl ?_)
                    refine r_nil ?_
                    have hA96 : (putS (sortS (filF (sureC n) ((sureN (n.kids.getD j default)).take q) (surF (sureC n) (n.kids.take j) []))) ((sureN (n.kids.getD j default)).getD q default)) = (sortS (filF (sureC n) ((sureN (n.kids.getD j default)).take (q + 1)) (surF (sureC n) (n.kids.take j) []))) := (putS_sort _ _).trans (congrArg sortS (by rw [filF_step (by omega), if_pos (hex90.symm.trans hb91)]))
                    have H97 : St W w94 (Im 1 (.slice pp92 ((sortS (filF (sureC n) ((sureN (n.kids.getD j default)).take (q + 1)) (surF (sureC n) (n.kids.take j) []))).length) cc93) ((sortS (filF (sureC n) ((sureN (n.kids.getD j default)).take (q + 1)) (surF (sureC n) (n.kids.take j) []))).length) ((sortS (filF (sureC n) ((sureN (n.kids.getD j default)).take (q + 1)) (surF (sureC n) (n.kids.take j) []))).flatMap strCell) :: imi (0 < (sureN (n.kids.getD j default)).length) gA45 (.cells kA47 eA48 zA49) :: Im 1 (.slice pp39 ((sureN (n.kids.getD j default)).length) cc40) ((sureN (n.kids.getD j default)).length) ((sureN (n.kids.getD j default)).flatMap strCell) :: NodeA (n.kids.getD j default) :: Im 1 (.slice p_q3 ((sortS (filF (sureC n) ((sureN (n.kids.getD j default)).take q) (surF (sureC n) (n.kids.take j) []))).length) c_q3) ((sortS (filF (sureC n) ((sureN (n.kids.getD j default)).take q) (surF (sureC n) (n.kids.take j) []))).length) ((sortS (filF (sureC n) ((sureN (n.kids.getD j default)).take q) (surF (sureC n) (n.kids.take j) []))).flatMap strCell) :: imi (0 < n.kids.length) gA18 (.cells kA20 eA21 zA22) :: blk bk3 (.cells #[.int .i64 n.kind.v, .string n.var.v, .string n.typ.v, .slice n.tp n.tests.length n.tc, .slice n.kp n.kids.length n.kc] 25 (0, 0)) :: Im 5 (.slice n.kp n.kids.length n.kc) n.kids.length (n.kids.flatMap nodeCell) :: NodesA n.kids :: F) := by rw [← hA96]; exact H95
                    have H98 : St W w94 (imi (0 < (sureN (n.kids.getD j default)).length) gA45 (.cells kA47 eA48 zA49) :: Im 1 (.slice pp39 ((sureN (n.kids.getD j default)).length) cc40) ((sureN (n.kids.getD j default)).length) ((sureN (n.kids.getD j default)).flatMap strCell) :: NodeA (n.kids.getD j default) :: Im 1 (.slice pp92 ((sortS (filF (sureC n) ((sureN (n.kids.getD j default)).take (q + 1)) (surF (sureC n) (n.kids.take j) []))).length) cc93) ((sortS (filF (sureC n) ((sureN (n.kids.getD j default)).take (q + 1)) (surF (sureC n) (n.kids.take j) []))).length) ((sortS (filF (sureC n) ((sureN (n.kids.getD j default)).take (q + 1)) (surF (sureC n) (n.kids.take j) []))).flatMap strCell) :: imi (0 < n.kids.length) gA18 (.cells kA20 eA21 zA22) :: blk bk3 (.cells #[.int .i64 n.kind.v, .string n.var.v, .string n.typ.v, .slice n.tp n.tests.length n.tc, .slice n.kp n.kids.length n.kc] 25 (0, 0)) :: Im 5 (.slice n.kp n.kids.length n.kc) n.kids.length (n.kids.flatMap nodeCell) :: NodesA n.kids :: F) := (((((((((H97.move 8 rfl).move 8 rfl).move 8 rfl).move 8 rfl).move 4 rfl).move 7 rfl).move 7 rfl).move 7 rfl).drop 8 rfl)
                    exact nx62 (pp92, cc93, q + 1) _ _ ⟨(by omega), H98⟩ (by first | (dsimp only; omega) | omega) ⟨by first | rfl | exact vint (by omega), by first | rfl | exact vint (by omega), (show (.slice pp92 ((putS (sortS (filF (sureC n) ((sureN (n.kids.getD j default)).take q) (surF (sureC n) (n.kids.take j) []))) ((sureN (n.kids.getD j default)).getD q default)).length) cc93 : Value) = .slice pp92 ((sortS (filF (sureC n) ((sureN (n.kids.getD j default)).take (q + 1)) (surF (sureC n) (n.kids.take j) []))).length) cc93 from by first | (rw [← hA96]; done) | (rw [← hA96]; rfl)), by first | rfl | exact vint (by omega), by first | rfl | exact vint (by omega), by first | rfl | exact vint (by omega), trivial⟩
                  · have hb91 := eq_false_of_ne_true hb91
                    refine g_false (congrArg Value.bool hb91) ?_
                    refine g_skip ?_
                    refine g_inBlock ?_
                    refine g_region ?_
                    refine r_cons (s_move (.int .i64 (q : Int)) rfl rfl ?_)
                    refine r_cons (s_add ((q : Int) + 1) rfl rfl (wi64 (by omega)) rfl ?_)
                    refine r_cons (s_assign (.int .i64 ((q : Int) + 1)) rfl rfl ?_)
                    refine r_nil ?_
                    have hA99 : (sortS (filF (sureC n) ((sureN (n.kids.getD j default)).take q) (surF (sureC n) (n.kids.take j) []))) = (sortS (filF (sureC n) ((sureN (n.kids.getD j default)).take (q + 1)) (surF (sureC n) (n.kids.take j) []))) := congrArg sortS (by rw [filF_step (by omega), if_neg (by rw [(hex90.symm.trans hb91)]; simp)])
                    have H100 : St W w66 (imi (0 < (sureN (n.kids.getD j default)).length) gA45 (.cells kA47 eA48 zA49) :: Im 1 (.slice pp39 ((sureN (n.kids.getD j default)).length) cc40) ((sureN (n.kids.getD j default)).length) ((sureN (n.kids.getD j default)).flatMap strCell) :: NodeA (n.kids.getD j default) :: Im 1 (.slice p_q3 ((sortS (filF (sureC n) ((sureN (n.kids.getD j default)).take (q + 1)) (surF (sureC n) (n.kids.take j) []))).length) c_q3) ((sortS (filF (sureC n) ((sureN (n.kids.getD j default)).take (q + 1)) (surF (sureC n) (n.kids.take j) []))).length) ((sortS (filF (sureC n) ((sureN (n.kids.getD j default)).take (q + 1)) (surF (sureC n) (n.kids.take j) []))).flatMap strCell) :: imi (0 < n.kids.length) gA18 (.cells kA20 eA21 zA22) :: blk bk3 (.cells #[.int .i64 n.kind.v, .string n.var.v, .string n.typ.v, .slice n.tp n.tests.length n.tc, .slice n.kp n.kids.length n.kc] 25 (0, 0)) :: Im 5 (.slice n.kp n.kids.length n.kc) n.kids.length (n.kids.flatMap nodeCell) :: NodesA n.kids :: F) := by rw [← hA99]; exact H67
                    have H101 : St W w66 (imi (0 < (sureN (n.kids.getD j default)).length) gA45 (.cells kA47 eA48 zA49) :: Im 1 (.slice pp39 ((sureN (n.kids.getD j default)).length) cc40) ((sureN (n.kids.getD j default)).length) ((sureN (n.kids.getD j default)).flatMap strCell) :: NodeA (n.kids.getD j default) :: Im 1 (.slice p_q3 ((sortS (filF (sureC n) ((sureN (n.kids.getD j default)).take (q + 1)) (surF (sureC n) (n.kids.take j) []))).length) c_q3) ((sortS (filF (sureC n) ((sureN (n.kids.getD j default)).take (q + 1)) (surF (sureC n) (n.kids.take j) []))).length) ((sortS (filF (sureC n) ((sureN (n.kids.getD j default)).take (q + 1)) (surF (sureC n) (n.kids.take j) []))).flatMap strCell) :: imi (0 < n.kids.length) gA18 (.cells kA20 eA21 zA22) :: blk bk3 (.cells #[.int .i64 n.kind.v, .string n.var.v, .string n.typ.v, .slice n.tp n.tests.length n.tc, .slice n.kp n.kids.length n.kc] 25 (0, 0)) :: Im 5 (.slice n.kp n.kids.length n.kc) n.kids.length (n.kids.flatMap nodeCell) :: NodesA n.kids :: F) := ((((((((H100.move 7 rfl).move 7 rfl).move 7 rfl).move 7 rfl).move 7 rfl).move 7 rfl).move 7 rfl).move 7 rfl)
                    exact nx62 (p_q3, c_q3, q + 1) _ _ ⟨(by omega), H101⟩ (by first | (dsimp only; omega) | omega) ⟨by first | rfl | exact vint (by omega), by first | rfl | exact vint (by omega), (show (.slice p_q3 ((sortS (filF (sureC n) ((sureN (n.kids.getD j default)).take q) (surF (sureC n) (n.kids.take j) []))).length) c_q3 : Value) = .slice p_q3 ((sortS (filF (sureC n) ((sureN (n.kids.getD j default)).take (q + 1)) (surF (sureC n) (n.kids.take j) []))).length) c_q3 from by first | (rw [← hA99]; done) | (rw [← hA99]; rfl)), by first | rfl | exact vint (by omega), by first | rfl | exact vint (by omega), by first | rfl | exact vint (by omega), trivial⟩
              · skip
                refine r_cons (s_lss false rfl rfl (dfalse hc69) rfl ?_)
                refine r_cons (s_move (.bool false) rfl rfl ?_)
                refine r_cons (r_pass rfl rfl rfl rfl rfl ?_)
                refine r_cons (r_pass rfl rfl rfl rfl rfl ?_)
                refine r_cons (r_pass rfl rfl rfl rfl rfl ?_)
                refine r_cons (s_pick_f (.bool false) rfl rfl rfl ?_)
                refine r_nil ?_
                refine g_false rfl ?_
                refine g_exit (by rfl) ?_
                refine g_seq ?_
                refine g_region ?_
                have hex102 : ((n.kids.take i).all fun k => decide (((sureN (n.kids.getD j default)).getD q default) ∈ sureN k)) = sureC n ((sureN (n.kids.getD j default)).getD q default) := by first | exact sure_exit1 (by omega) (by omega) | exact sure_exit2 (by omega) (by omega)
                refine r_cons (s_move (.bool ((n.kids.take i).all fun k => decide (((sureN (n.kids.getD j default)).getD q default) ∈ sureN k))) rfl rfl ?_)
                refine r_nil ?_
                by_cases hb103 : (((n.kids.take i).all fun k => decide (((sureN (n.kids.getD j default)).getD q default) ∈ sureN k))) = true
                · skip
                  refine g_true (congrArg Value.bool hb103) ?_
                  refine g_region ?_
                  refine r_cons (s_move (.slice p_q3 ((sortS (filF (sureC n) ((sureN (n.kids.getD j default)).take q) (surF (sureC n) (n.kids.take j) []))).length) c_q3) rfl rfl ?_)
                  refine r_cons (s_move (.slice pp39 ((sureN (n.kids.getD j default)).length) cc40) rfl rfl ?_)
                  refine r_cons (s_move (.int .i64 (q : Int)) rfl rfl ?_)
                  refine r_cons (s_indexAddr gA45 (off := oA46) (q : Int) 1 (oA46 + q * 1) (by exact congrArg (fun z_ => Value.slice z_ ((sureN (n.kids.getD j default)).length) cc40) (hp51 (by omega))) rfl el_36 (by omega) rfl rfl ?_)
                  refine r_cons (s_load (.string (((sureN (n.kids.getD j default)).getD q default).v)) ag_9 rfl (H67.imi_at (i := 0) rfl (by omega)) (elem_cell (L := (sureN (n.kids.getD j default))) (i := q) strCell_len (hx52 (by omega)) (by omega) default 0 (by decide) _ rfl) rfl ?_)
                  refine r_cons (s_call [.slice p_q3 ((sortS (filF (sureC n) ((sureN (n.kids.getD j default)).take q) (surF (sureC n) (n.kids.take j) []))).length) c_q3, .string (((sureN (n.kids.getD j default)).getD q default).v)] pl_45 rfl rfl (ref07_put (sortS (filF (sureC n) ((sureN (n.kids.getD j default)).take q) (surF (sureC n) (n.kids.take j) []))) (.slice p_q3 ((sortS (filF (sureC n) ((sureN (n.kids.getD j default)).take q) (surF (sureC n) (n.kids.take j) []))).length) c_q3) ((sureN (n.kids.getD j default)).getD q default) (m := 3) rfl (by first | (have h9 := surF_bound (n := n) (c := sureC n) (j := j) (q := q) (by omega); rw [sortS_len]; omega) | exact Nat.zero_le _) H67) ?_)
                  rintro _ w106 ⟨pp104, cc105, rfl, H107⟩
                  refine r_cons (s_assign (.slice pp104 ((putS (sortS (filF (sureC n) ((sureN (n.kids.getD j default)).take q) (surF (sureC n) (n.kids.take j) []))) ((sureN (n.kids.getD j default)).getD q default)).length) cc105) rfl rfl ?_)
                  refine r_nil ?_
                  refine g_inBlock ?_
                  refine g_region ?_
                  refine r_cons (s_move (.int .i64 (q : Int)) rfl rfl ?_)
                  refine r_cons (s_add ((q : Int) + 1) rfl rfl (wi64 (by omega)) rfl ?_)
                  refine r_cons (s_assign (.int .i64 ((q : Int) + 1)) rfl rfl ?_)
                  refine r_nil ?_
                  have hA108 : (putS (sortS (filF (sureC n) ((sureN (n.kids.getD j default)).take q) (surF (sureC n) (n.kids.take j) []))) ((sureN (n.kids.getD j default)).getD q default)) = (sortS (filF (sureC n) ((sureN (n.kids.getD j default)).take (q + 1)) (surF (sureC n) (n.kids.take j) []))) := (putS_sort _ _).trans (congrArg sortS (by rw [filF_step (by omega), if_pos (hex102.symm.trans hb103)]))
                  have H109 : St W w106 (Im 1 (.slice pp104 ((sortS (filF (sureC n) ((sureN (n.kids.getD j default)).take (q + 1)) (surF (sureC n) (n.kids.take j) []))).length) cc105) ((sortS (filF (sureC n) ((sureN (n.kids.getD j default)).take (q + 1)) (surF (sureC n) (n.kids.take j) []))).length) ((sortS (filF (sureC n) ((sureN (n.kids.getD j default)).take (q + 1)) (surF (sureC n) (n.kids.take j) []))).flatMap strCell) :: imi (0 < (sureN (n.kids.getD j default)).length) gA45 (.cells kA47 eA48 zA49) :: Im 1 (.slice pp39 ((sureN (n.kids.getD j default)).length) cc40) ((sureN (n.kids.getD j default)).length) ((sureN (n.kids.getD j default)).flatMap strCell) :: NodeA (n.kids.getD j default) :: Im 1 (.slice p_q3 ((sortS (filF (sureC n) ((sureN (n.kids.getD j default)).take q) (surF (sureC n) (n.kids.take j) []))).length) c_q3) ((sortS (filF (sureC n) ((sureN (n.kids.getD j default)).take q) (surF (sureC n) (n.kids.take j) []))).length) ((sortS (filF (sureC n) ((sureN (n.kids.getD j default)).take q) (surF (sureC n) (n.kids.take j) []))).flatMap strCell) :: imi (0 < n.kids.length) gA18 (.cells kA20 eA21 zA22) :: blk bk3 (.cells #[.int .i64 n.kind.v, .string n.var.v, .string n.typ.v, .slice n.tp n.tests.length n.tc, .slice n.kp n.kids.length n.kc] 25 (0, 0)) :: Im 5 (.slice n.kp n.kids.length n.kc) n.kids.length (n.kids.flatMap nodeCell) :: NodesA n.kids :: F) := by rw [← hA108]; exact H107
                  have H110 : St W w106 (imi (0 < (sureN (n.kids.getD j default)).length) gA45 (.cells kA47 eA48 zA49) :: Im 1 (.slice pp39 ((sureN (n.kids.getD j default)).length) cc40) ((sureN (n.kids.getD j default)).length) ((sureN (n.kids.getD j default)).flatMap strCell) :: NodeA (n.kids.getD j default) :: Im 1 (.slice pp104 ((sortS (filF (sureC n) ((sureN (n.kids.getD j default)).take (q + 1)) (surF (sureC n) (n.kids.take j) []))).length) cc105) ((sortS (filF (sureC n) ((sureN (n.kids.getD j default)).take (q + 1)) (surF (sureC n) (n.kids.take j) []))).length) ((sortS (filF (sureC n) ((sureN (n.kids.getD j default)).take (q + 1)) (surF (sureC n) (n.kids.take j) []))).flatMap strCell) :: imi (0 < n.kids.length) gA18 (.cells kA20 eA21 zA22) :: blk bk3 (.cells #[.int .i64 n.kind.v, .string n.var.v, .string n.typ.v, .slice n.tp n.tests.length n.tc, .slice n.kp n.kids.length n.kc] 25 (0, 0)) :: Im 5 (.slice n.kp n.kids.length n.kc) n.kids.length (n.kids.flatMap nodeCell) :: NodesA n.kids :: F) := (((((((((H109.move 8 rfl).move 8 rfl).move 8 rfl).move 8 rfl).move 4 rfl).move 7 rfl).move 7 rfl).move 7 rfl).drop 8 rfl)
                  exact nx62 (pp104, cc105, q + 1) _ _ ⟨(by omega), H110⟩ (by first | (dsimp only; omega) | omega) ⟨by first | rfl | exact vint (by omega), by first | rfl | exact vint (by omega), (show (.slice pp104 ((putS (sortS (filF (sureC n) ((sureN (n.kids.getD j default)).take q) (surF (sureC n) (n.kids.take j) []))) ((sureN (n.kids.getD j default)).getD q default)).length) cc105 : Value) = .slice pp104 ((sortS (filF (sureC n) ((sureN (n.kids.getD j default)).take (q + 1)) (surF (sureC n) (n.kids.take j) []))).length) cc105 from by first | (rw [← hA108]; done) | (rw [← hA108]; rfl)), by first | rfl | exact vint (by omega), by first | rfl | exact vint (by omega), by first | rfl | exact vint (by omega), trivial⟩
                · have hb103 := eq_false_of_ne_true hb103
                  refine g_false (congrArg Value.bool hb103) ?_
                  refine g_skip ?_
                  refine g_inBlock ?_
                  refine g_region ?_
                  refine r_cons (s_move (.int .i64 (q : Int)) rfl rfl ?_)
                  refine r_cons (s_add ((q : Int) + 1) rfl rfl (wi64 (by omega)) rfl ?_)
                  refine r_cons (s_assign (.int .i64 ((q : Int) + 1)) rfl rfl ?_)
                  refine r_nil ?_
                  have hA111 : (sortS (filF (sureC n) ((sureN (n.kids.getD j default)).take q) (surF (sureC n) (n.kids.take j) []))) = (sortS (filF (sureC n) ((sureN (n.kids.getD j default)).take (q + 1)) (surF (sureC n) (n.kids.take j) []))) := congrArg sortS (by rw [filF_step (by omega), if_neg (by rw [(hex102.symm.trans hb103)]; simp)])
                  have H112 : St W w66 (imi (0 < (sureN (n.kids.getD j default)).length) gA45 (.cells kA47 eA48 zA49) :: Im 1 (.slice pp39 ((sureN (n.kids.getD j default)).length) cc40) ((sureN (n.kids.getD j default)).length) ((sureN (n.kids.getD j default)).flatMap strCell) :: NodeA (n.kids.getD j default) :: Im 1 (.slice p_q3 ((sortS (filF (sureC n) ((sureN (n.kids.getD j default)).take (q + 1)) (surF (sureC n) (n.kids.take j) []))).length) c_q3) ((sortS (filF (sureC n) ((sureN (n.kids.getD j default)).take (q + 1)) (surF (sureC n) (n.kids.take j) []))).length) ((sortS (filF (sureC n) ((sureN (n.kids.getD j default)).take (q + 1)) (surF (sureC n) (n.kids.take j) []))).flatMap strCell) :: imi (0 < n.kids.length) gA18 (.cells kA20 eA21 zA22) :: blk bk3 (.cells #[.int .i64 n.kind.v, .string n.var.v, .string n.typ.v, .slice n.tp n.tests.length n.tc, .slice n.kp n.kids.length n.kc] 25 (0, 0)) :: Im 5 (.slice n.kp n.kids.length n.kc) n.kids.length (n.kids.flatMap nodeCell) :: NodesA n.kids :: F) := by rw [← hA111]; exact H67
                  have H113 : St W w66 (imi (0 < (sureN (n.kids.getD j default)).length) gA45 (.cells kA47 eA48 zA49) :: Im 1 (.slice pp39 ((sureN (n.kids.getD j default)).length) cc40) ((sureN (n.kids.getD j default)).length) ((sureN (n.kids.getD j default)).flatMap strCell) :: NodeA (n.kids.getD j default) :: Im 1 (.slice p_q3 ((sortS (filF (sureC n) ((sureN (n.kids.getD j default)).take (q + 1)) (surF (sureC n) (n.kids.take j) []))).length) c_q3) ((sortS (filF (sureC n) ((sureN (n.kids.getD j default)).take (q + 1)) (surF (sureC n) (n.kids.take j) []))).length) ((sortS (filF (sureC n) ((sureN (n.kids.getD j default)).take (q + 1)) (surF (sureC n) (n.kids.take j) []))).flatMap strCell) :: imi (0 < n.kids.length) gA18 (.cells kA20 eA21 zA22) :: blk bk3 (.cells #[.int .i64 n.kind.v, .string n.var.v, .string n.typ.v, .slice n.tp n.tests.length n.tc, .slice n.kp n.kids.length n.kc] 25 (0, 0)) :: Im 5 (.slice n.kp n.kids.length n.kc) n.kids.length (n.kids.flatMap nodeCell) :: NodesA n.kids :: F) := ((((((((H112.move 7 rfl).move 7 rfl).move 7 rfl).move 7 rfl).move 7 rfl).move 7 rfl).move 7 rfl).move 7 rfl)
                  exact nx62 (p_q3, c_q3, q + 1) _ _ ⟨(by omega), H113⟩ (by first | (dsimp only; omega) | omega) ⟨by first | rfl | exact vint (by omega), by first | rfl | exact vint (by omega), (show (.slice p_q3 ((sortS (filF (sureC n) ((sureN (n.kids.getD j default)).take q) (surF (sureC n) (n.kids.take j) []))).length) c_q3 : Value) = .slice p_q3 ((sortS (filF (sureC n) ((sureN (n.kids.getD j default)).take (q + 1)) (surF (sureC n) (n.kids.take j) []))).length) c_q3 from by first | (rw [← hA111]; done) | (rw [← hA111]; rfl)), by first | rfl | exact vint (by omega), by first | rfl | exact vint (by omega), by first | rfl | exact vint (by omega), trivial⟩
          · skip
            refine r_cons (s_lss false rfl rfl (dfalse hc63) rfl ?_)
            refine r_nil ?_
            refine g_false rfl ?_
            refine g_exit (by rfl) ?_
            refine g_inBlock ?_
            refine g_region ?_
            refine r_cons (s_move (.int .i64 (j : Int)) rfl rfl ?_)
            refine r_cons (s_add ((j : Int) + 1) rfl rfl (wi64 (by omega)) rfl ?_)
            refine r_cons (s_assign (.int .i64 ((j : Int) + 1)) rfl rfl ?_)
            refine r_nil ?_
            have hA114 : (sortS (filF (sureC n) ((sureN (n.kids.getD j default)).take q) (surF (sureC n) (n.kids.take j) []))) = (sortS (surF (sureC n) (n.kids.take (j + 1)) [])) := by rw [surF_step (by omega), List.take_of_length_le (by omega)]
            have H115 : St W w60 (imi (0 < (sureN (n.kids.getD j default)).length) gA45 (.cells kA47 eA48 zA49) :: Im 1 (.slice pp39 ((sureN (n.kids.getD j default)).length) cc40) ((sureN (n.kids.getD j default)).length) ((sureN (n.kids.getD j default)).flatMap strCell) :: NodeA (n.kids.getD j default) :: Im 1 (.slice p_q3 ((sortS (surF (sureC n) (n.kids.take (j + 1)) [])).length) c_q3) ((sortS (surF (sureC n) (n.kids.take (j + 1)) [])).length) ((sortS (surF (sureC n) (n.kids.take (j + 1)) [])).flatMap strCell) :: imi (0 < n.kids.length) gA18 (.cells kA20 eA21 zA22) :: blk bk3 (.cells #[.int .i64 n.kind.v, .string n.var.v, .string n.typ.v, .slice n.tp n.tests.length n.tc, .slice n.kp n.kids.length n.kc] 25 (0, 0)) :: Im 5 (.slice n.kp n.kids.length n.kc) n.kids.length (n.kids.flatMap nodeCell) :: NodesA n.kids :: F) := by rw [← hA114]; exact H61
            have H116 : St W w60 (Im 1 (.slice p_q3 ((sortS (surF (sureC n) (n.kids.take (j + 1)) [])).length) c_q3) ((sortS (surF (sureC n) (n.kids.take (j + 1)) [])).length) ((sortS (surF (sureC n) (n.kids.take (j + 1)) [])).flatMap strCell) :: imi (0 < n.kids.length) gA18 (.cells kA20 eA21 zA22) :: blk bk3 (.cells #[.int .i64 n.kind.v, .string n.var.v, .string n.typ.v, .slice n.tp n.tests.length n.tc, .slice n.kp n.kids.length n.kc] 25 (0, 0)) :: Im 5 (.slice n.kp n.kids.length n.kc) n.kids.length (n.kids.flatMap nodeCell) :: NodesA n.kids :: F) := ((((((((H115.move 7 rfl).move 7 rfl).move 7 rfl).move 7 rfl).move 7 rfl).drop 5 rfl).drop 5 rfl).drop 5 rfl)
            exact nx36 (p_q3, c_q3, j + 1) _ _ ⟨(by omega), H116⟩ (by first | (dsimp only; omega) | omega) ⟨by first | rfl | exact vint (by omega), by first | rfl | exact vint (by omega), (show (.slice p_q3 ((sortS (filF (sureC n) ((sureN (n.kids.getD j default)).take q) (surF (sureC n) (n.kids.take j) []))).length) c_q3 : Value) = .slice p_q3 ((sortS (surF (sureC n) (n.kids.take (j + 1)) [])).length) c_q3 from by first | (rw [← hA114]; done) | (rw [← hA114]; rfl)), by first | rfl | exact vint (by omega), trivial⟩
      · skip
        refine r_cons (s_lss false rfl rfl (dfalse hc37) rfl ?_)
        refine r_nil ?_
        refine g_false rfl ?_
        refine g_exit (by rfl) ?_
        refine g_seq ?_
        refine g_region ?_
        refine r_cons (s_move (.slice p_j3 ((sortS (surF (sureC n) (n.kids.take j) [])).length) c_j3) rfl rfl ?_)
        refine r_cons (s_assign (.slice p_j3 ((sortS (surF (sureC n) (n.kids.take j) [])).length) c_j3) rfl rfl ?_)
        refine r_nil ?_
        refine g_ret' [.slice p_j3 ((sortS (surF (sureC n) (n.kids.take j) [])).length) c_j3] Try.func27 Try.results27 ⟨rfl, trivial⟩ ?_
        have H117 : St W w34 (Im 1 (.slice p_j3 ((sortS (surF (sureC n) (n.kids.take j) [])).length) c_j3) ((sortS (surF (sureC n) (n.kids.take j) [])).length) ((sortS (surF (sureC n) (n.kids.take j) [])).flatMap strCell) :: F) := ((((H35.drop 1 rfl).drop 1 rfl).drop 1 rfl).drop 1 rfl)
        have hq9 : (sortS (surF (sureC n) (n.kids.take j) [])) = sureN n := by rw [List.take_of_length_le (by omega)]; exact sureN_ref (by rw [Bool.eq_false_iff, ne_eq, List.isEmpty_iff]; intro h9; have h8 := congrArg List.length h9; simp only [List.length_nil] at h8; omega)
        exact ⟨p_j3, c_j3, by rw [← hq9]; rfl, by rw [← hq9]; exact H117⟩
theorem ref07_Sure {W w : World} {F : List Atom} (n : NodeD)  {i : Nat} (hi : F[i]? = some (NodeA n)) (hz : sizeN n ≤ 1048576) (H : St W w F) : Calls Try.prog 27 #[.agg #[.int .i64 n.kind.v, .string n.var.v, .string n.typ.v, .slice n.tp n.tests.length n.tc, .slice n.kp n.kids.length n.kc]] w (Ret fun v w' => ∃ p c, v = .slice p (sureN n).length c ∧ St W w' (Im 1 (.slice p (sureN n).length c) (sureN n).length ((sureN n).flatMap strCell) :: F)) := ref07_Sure_r (sizeOf n + 1) n (Nat.lt_succ_self _) hi hz H
set_option maxHeartbeats 4000000 in
set_option maxRecDepth 100000 in
theorem check_Binds_r (N : Nat) : ∀ (n : NodeD), sizeOf n < N → ∀ {W w : World} {F : List Atom}  {i : Nat} (hi : F[i]? = some (NodeA n)) (hz : sizeN n ≤ 1048576) (H : St W w F), Calls Try.prog 21 #[.agg #[.int .i64 n.kind.v, .string n.var.v, .string n.typ.v, .slice n.tp n.tests.length n.tc, .slice n.kp n.kids.length n.kc]] w (Ret fun v w' => v = .int .i64 (bindsE n) ∧ St W w' F) := by
  induction N with | zero => exact fun n hN => absurd hN (Nat.not_lt_zero _) | succ N ih => ?_
  intro n hN W w F i hi hz H
  have H1 := NodeA.kids H (i := i + 0) (by exact hi)
  have H2 : St W w (Im 5 (.slice n.kp n.kids.length n.kc) n.kids.length (n.kids.flatMap nodeCell) :: NodesA n.kids :: F) := H1
  refine calls_of_go (n := 44) Try.func21 rfl Try.ntmps21 rfl ?_
  refine g_seq ?_
  refine g_region ?_
  refine r_cons (s_box H2 25 (.agg #[.int .i64 n.kind.v, .string n.var.v, .string n.typ.v, .slice n.tp n.tests.length n.tc, .slice n.kp n.kids.length n.kc]) rfl (cs := #[.int .i64 n.kind.v, .string n.var.v, .string n.typ.v, .slice n.tp n.tests.length n.tc, .slice n.kp n.kids.length n.kc]) rfl rfl ?_); intro bk3 w4 H5
  refine r_cons (s_assign (.int .i64 0) rfl rfl ?_)
  refine r_nil ?_
  refine g_seq ?_
  refine g_region ?_
  refine r_cons (s_makeMap H5 rfl ?_); intro mp6 w7 H8
  have H9 : St W w7 (MapA mp6 (ents kS vB (setOf ([] : List Str))) :: blk bk3 (.cells #[.int .i64 n.kind.v, .string n.var.v, .string n.typ.v, .slice n.tp n.tests.length n.tc, .slice n.kp n.kids.length n.kc] 25 (0, 0)) :: Im 5 (.slice n.kp n.kids.length n.kc) n.kids.length (n.kids.flatMap nodeCell) :: NodesA n.kids :: F) := H8
  refine r_cons (s_assign (.map (some mp6)) rfl rfl ?_)
  refine r_nil ?_
  refine g_seq ?_
  refine g_seq ?_
  refine g_region ?_
  refine r_cons (s_fieldAddr 25 4 4 4 23 rfl fi_25_4 rfl rfl ?_)
  refine r_cons (s_load (.slice n.kp n.kids.length n.kc) ag_23 rfl (H9.blk_at (i := 1) rfl) rfl rfl ?_)
  refine r_cons (s_len n.kids.length rfl ⟨_, un_23⟩ rfl ?_)
  refine r_cons (s_move (.int .i64 0) rfl rfl ?_)
  refine r_nil ?_
  refine g_block ?_
  obtain ⟨pA10, cA11, gA12, oA13, kA14, eA15, zA16, he22, hn17, hp18, hx19, hs20, hml, H21⟩ := Im.open_ H9 (i := 2) rfl
  obtain ⟨rfl, rfl⟩ : n.kp = pA10 ∧ n.kc = cA11 := by injection he22 with a_ b_ c_; exact ⟨a_, c_⟩
  have hM23 : ([] : List Str) = (hadF n 0) := hadF_zero n
  have H24 : St W w7 (imi (0 < n.kids.length) gA12 (.cells kA14 eA15 zA16) :: MapA mp6 (ents kS vB (setOf (hadF n 0))) :: blk bk3 (.cells #[.int .i64 n.kind.v, .string n.var.v, .string n.typ.v, .slice n.tp n.tests.length n.tc, .slice n.kp n.kids.length n.kc] 25 (0, 0)) :: Im 5 (.slice n.kp n.kids.length n.kc) n.kids.length (n.kids.flatMap nodeCell) :: NodesA n.kids :: F) := by rw [← hM23]; exact H21
  have H25 : St W w7 (imi (0 < n.kids.length) gA12 (.cells kA14 eA15 zA16) :: MapA mp6 (ents kS vB (setOf (hadF n 0))) :: blk bk3 (.cells #[.int .i64 n.kind.v, .string n.var.v, .string n.typ.v, .slice n.tp n.tests.length n.tc, .slice n.kp n.kids.length n.kc] 25 (0, 0)) :: Im 5 (.slice n.kp n.kids.length n.kc) n.kids.length (n.kids.flatMap nodeCell) :: NodesA n.kids :: F) := (((((H24.move 4 rfl).move 4 rfl).move 4 rfl).move 4 rfl).move 4 rfl)
  refine g_loop_inv (fun (x_ : Nat) => match x_ with | j => [(1, .pointer (some ⟨bk3, 0, none⟩)), (2, .int .i64 0), (3, .map (some mp6)), (11, .slice n.kp n.kids.length n.kc), (12, .int .i64 (n.kids.length : Int)), (13, .int .i64 (j : Int))]) (fun (x_ : Nat) w => match x_ with | j => (j ≤ n.kids.length) ∧ (Hres n j) ∧ St W w (imi (0 < n.kids.length) gA12 (.cells kA14 eA15 zA16) :: MapA mp6 (ents kS vB (setOf (hadF n j))) :: blk bk3 (.cells #[.int .i64 n.kind.v, .string n.var.v, .string n.typ.v, .slice n.tp n.tests.length n.tc, .slice n.kp n.kids.length n.kc] 25 (0, 0)) :: Im 5 (.slice n.kp n.kids.length n.kc) n.kids.length (n.kids.flatMap nodeCell) :: NodesA n.kids :: F)) (fun (x_ : Nat) => match x_ with | j => n.kids.length - j) (0) ?_ ?_ ?_
  · exact ⟨by first | rfl | exact vint (by omega), by first | rfl | exact vint (by omega), by first | rfl | exact vint (by omega), by first | rfl | exact vint (by omega), by first | rfl | exact vint (by omega), by first | rfl | exact vint (by omega), trivial⟩
  · exact ⟨(by omega), (Hres_zero n), H25⟩
  · rintro j ρ26 w27 ⟨hjl, hres, H28⟩ nx29
    change Ends _ _ (upds ρ26 [(1, .pointer (some ⟨bk3, 0, none⟩)), (2, .int .i64 0), (3, .map (some mp6)), (11, .slice n.kp n.kids.length n.kc), (12, .int .i64 (n.kids.length : Int)), (13, .int .i64 (j : Int))]) w27
    refine g_seq ?_
    refine g_region ?_
    by_cases hc30 : (j : Int) < (n.kids.length : Int)
    · skip
      refine r_cons (s_lss true rfl rfl (dtrue hc30) rfl ?_)
      refine r_nil ?_
      refine g_seq ?_
      refine g_true rfl ?_
      refine g_skip ?_
      refine g_seq ?_
      refine g_block ?_
      refine g_seq ?_
      refine g_region ?_
      refine r_cons (s_indexAddr gA12 (off := oA13) (j : Int) 5 (oA13 + j * 5) (by exact congrArg (fun z_ => Value.slice z_ n.kids.length n.kc) (hp18 (by omega))) rfl el_23 (by omega) rfl rfl ?_)
      refine r_cons (s_loadAgg [.int .i64 ((n.kids.getD j default).kind.v), .string ((n.kids.getD j default).var.v), .string ((n.kids.getD j default).typ.v), .slice ((n.kids.getD j default).tp) ((n.kids.getD j default).tests.length) ((n.kids.getD j default).tc), .slice ((n.kids.getD j default).kp) ((n.kids.getD j default).kids.length) ((n.kids.getD j default).kc)] 5 ag_25 rfl (H28.imi_at (i := 0) rfl (by omega)) (by have := elem_size (i := j) (s := 5) (hs20 (by omega)) (by omega); omega) (elem_take nodeCell_len (hx19 (by omega)) (by omega) default) rfl ?_)
      refine r_cons (s_alloc H28 25 ze_25 rfl ?_); intro bk31 w32 H33
      refine r_cons (s_storeAgg H33 0 #[.int .i64 ((n.kids.getD j default).kind.v), .string ((n.kids.getD j default).var.v), .string ((n.kids.getD j default).typ.v), .slice ((n.kids.getD j default).tp) ((n.kids.getD j default).tests.length) ((n.kids.getD j default).tc), .slice ((n.kids.getD j default).kp) ((n.kids.getD j default).kids.length) ((n.kids.getD j default).kc)] 5 rfl rfl rfl sz_25 rfl (by simp [Value.oneCell']) (Nat.le_of_ble_eq_true rfl) (fun o h1 h2 => by first | (simp; done) | (simp; omega)) (cs' := #[.int .i64 ((n.kids.getD j default).kind.v), .string ((n.kids.getD j default).var.v), .string ((n.kids.getD j default).typ.v), .slice ((n.kids.getD j default).tp) ((n.kids.getD j default).tests.length) ((n.kids.getD j default).tc), .slice ((n.kids.getD j default).kp) ((n.kids.getD j default).kids.length) ((n.kids.getD j default).kc)]) rfl ?_); intro w34 H35
      refine r_nil ?_
      refine g_seq ?_
      refine g_seq ?_
      refine g_region ?_
      refine r_cons (s_loadAgg [.int .i64 ((n.kids.getD j default).kind.v), .string ((n.kids.getD j default).var.v), .string ((n.kids.getD j default).typ.v), .slice ((n.kids.getD j default).tp) ((n.kids.getD j default).tests.length) ((n.kids.getD j default).tc), .slice ((n.kids.getD j default).kp) ((n.kids.getD j default).kids.length) ((n.kids.getD j default).kc)] 5 ag_25 rfl (H35.blk_at (i := 0) rfl) (Nat.le_of_ble_eq_true rfl) rfl rfl ?_)
      have H36 := NodesA.at H35 (i := 5) rfl (j := j) (by omega)
      refine r_cons (s_call [.agg #[.int .i64 ((n.kids.getD j default).kind.v), .string ((n.kids.getD j default).var.v), .string ((n.kids.getD j default).typ.v), .slice ((n.kids.getD j default).tp) ((n.kids.getD j default).tests.length) ((n.kids.getD j default).tc), .slice ((n.kids.getD j default).kp) ((n.kids.getD j default).kids.length) ((n.kids.getD j default).kc)]] pl_21 rfl rfl (ih (n.kids.getD j default) (by have h9 := kid_lt (n := n) (j := j) (by omega); omega) (i := 0) rfl (by have h9 := sizeN_kid (n := n) (j := j) (by omega); omega) H36) ?_)
      rintro _ w37 ⟨rfl, H38⟩
      refine r_cons (s_assign (.int .i64 (bindsE (n.kids.getD j default))) rfl rfl ?_)
      refine r_nil ?_
      refine g_seq ?_
      refine g_region ?_
      refine r_cons (s_move (.int .i64 (bindsE (n.kids.getD j default))) rfl rfl ?_)
      by_cases hc39 : bindsE (n.kids.getD j default) = 0
      · skip
        refine r_cons (s_neq false rfl rfl (ntrue hc39) rfl ?_)
        refine r_nil ?_
        refine g_false rfl ?_
        refine g_skip ?_
        refine g_seq ?_
        refine g_seq ?_
        refine g_region ?_
        refine r_cons (s_fieldAddr 25 0 0 0 3 rfl fi_25_0 rfl rfl ?_)
        refine r_cons (s_load (.int .i64 n.kind.v) ag_3 rfl (H38.blk_at (i := 4) rfl) rfl rfl ?_)
        by_cases hc40 : n.kind.v = 2
        · skip
          refine r_cons (s_neq false rfl rfl (ntrue hc40) rfl ?_)
          refine r_cons (s_move (.bool false) rfl rfl ?_)
          refine r_cons (r_pass rfl rfl rfl rfl rfl ?_)
          refine r_cons (r_pass rfl rfl rfl rfl rfl ?_)
          refine r_cons (r_pass rfl rfl rfl rfl rfl ?_)
          refine r_cons (s_pick_f (.bool false) rfl rfl rfl ?_)
          refine r_nil ?_
          refine g_false rfl ?_
          refine g_skip ?_
          refine g_seq ?_
          refine g_region ?_
          refine r_cons (s_loadAgg [.int .i64 ((n.kids.getD j default).kind.v), .string ((n.kids.getD j default).var.v), .string ((n.kids.getD j default).typ.v), .slice ((n.kids.getD j default).tp) ((n.kids.getD j default).tests.length) ((n.kids.getD j default).tc), .slice ((n.kids.getD j default).kp) ((n.kids.getD j default).kids.length) ((n.kids.getD j default).kc)] 5 ag_25 rfl (H38.blk_at (i := 1) rfl) (Nat.le_of_ble_eq_true rfl) rfl rfl ?_)
          refine r_cons (s_call [.agg #[.int .i64 ((n.kids.getD j default).kind.v), .string ((n.kids.getD j default).var.v), .string ((n.kids.getD j default).typ.v), .slice ((n.kids.getD j default).tp) ((n.kids.getD j default).tests.length) ((n.kids.getD j default).tc), .slice ((n.kids.getD j default).kp) ((n.kids.getD j default).kids.length) ((n.kids.getD j default).kc)]] pl_24 rfl rfl (check_Vars (n.kids.getD j default) (i := 0) rfl (by have h9 := sizeN_kid (n := n) (j := j) (by omega); omega) H38) ?_)
          rintro _ w43 ⟨pp41, cc42, rfl, H44⟩
          refine r_cons (s_len ((varsS (n.kids.getD j default)).length) rfl ⟨_, un_36⟩ rfl ?_)
          refine r_cons (s_move (.int .i64 0) rfl rfl ?_)
          refine r_nil ?_
          refine g_block ?_
          obtain ⟨pA45, cA46, gA47, oA48, kA49, eA50, zA51, he57, hn52, hp53, hx54, hs55, hml, H56⟩ := Im.open_ H44 (i := 0) rfl
          obtain ⟨rfl, rfl⟩ : pp41 = pA45 ∧ cc42 = cA46 := by injection he57 with a_ b_ c_; exact ⟨a_, c_⟩
          have hM58 : (hadF n j) = (((varsS (n.kids.getD j default)).take 0).foldl addS (hadF n j)) := rfl
          have H59 : St W w43 (imi (0 < (varsS (n.kids.getD j default)).length) gA47 (.cells kA49 eA50 zA51) :: Im 1 (.slice pp41 ((varsS (n.kids.getD j default)).length) cc42) ((varsS (n.kids.getD j default)).length) ((varsS (n.kids.getD j default)).flatMap strCell) :: NodeA (n.kids.getD j default) :: blk bk31 (.cells #[.int .i64 ((n.kids.getD j default).kind.v), .string ((n.kids.getD j default).var.v), .string ((n.kids.getD j default).typ.v), .slice ((n.kids.getD j default).tp) ((n.kids.getD j default).tests.length) ((n.kids.getD j default).tc), .slice ((n.kids.getD j default).kp) ((n.kids.getD j default).kids.length) ((n.kids.getD j default).kc)] 25 (0, 0)) :: imi (0 < n.kids.length) gA12 (.cells kA14 eA15 zA16) :: MapA mp6 (ents kS vB (setOf (((varsS (n.kids.getD j default)).take 0).foldl addS (hadF n j)))) :: blk bk3 (.cells #[.int .i64 n.kind.v, .string n.var.v, .string n.typ.v, .slice n.tp n.tests.length n.tc, .slice n.kp n.kids.length n.kc] 25 (0, 0)) :: Im 5 (.slice n.kp n.kids.length n.kc) n.kids.length (n.kids.flatMap nodeCell) :: NodesA n.kids :: F) := by rw [← hM58]; exact H56
          have H60 : St W w43 (imi (0 < (varsS (n.kids.getD j default)).length) gA47 (.cells kA49 eA50 zA51) :: Im 1 (.slice pp41 ((varsS (n.kids.getD j default)).length) cc42) ((varsS (n.kids.getD j default)).length) ((varsS (n.kids.getD j default)).flatMap strCell) :: NodeA (n.kids.getD j default) :: imi (0 < n.kids.length) gA12 (.cells kA14 eA15 zA16) :: MapA mp6 (ents kS vB (setOf (((varsS (n.kids.getD j default)).take 0).foldl addS (hadF n j)))) :: blk bk3 (.cells #[.int .i64 n.kind.v, .string n.var.v, .string n.typ.v, .slice n.tp n.tests.length n.tc, .slice n.kp n.kids.length n.kc] 25 (0, 0)) :: Im 5 (.slice n.kp n.kids.length n.kc) n.kids.length (n.kids.flatMap nodeCell) :: NodesA n.kids :: F) := (((((((((H59.move 8 rfl).move 8 rfl).move 8 rfl).move 8 rfl).move 8 rfl).move 7 rfl).move 7 rfl).move 7 rfl).drop 8 rfl)
          refine g_loop_inv (fun (x_ : Nat) => match x_ with | q => [(1, .pointer (some ⟨bk3, 0, none⟩)), (2, .int .i64 0), (3, .map (some mp6)), (11, .slice n.kp n.kids.length n.kc), (12, .int .i64 (n.kids.length : Int)), (13, .int .i64 (j : Int)), (31, .slice pp41 ((varsS (n.kids.getD j default)).length) cc42), (32, .int .i64 ((varsS (n.kids.getD j default)).length : Int)), (33, .int .i64 (q : Int))]) (fun (x_ : Nat) w => match x_ with | q => (q ≤ (varsS (n.kids.getD j default)).length) ∧ (∀ i, i < q → decide ((varsS (n.kids.getD j default)).getD i default ∈ hadF n j) = false) ∧ St W w (imi (0 < (varsS (n.kids.getD j default)).length) gA47 (.cells kA49 eA50 zA51) :: Im 1 (.slice pp41 ((varsS (n.kids.getD j default)).length) cc42) ((varsS (n.kids.getD j default)).length) ((varsS (n.kids.getD j default)).flatMap strCell) :: NodeA (n.kids.getD j default) :: imi (0 < n.kids.length) gA12 (.cells kA14 eA15 zA16) :: MapA mp6 (ents kS vB (setOf (((varsS (n.kids.getD j default)).take q).foldl addS (hadF n j)))) :: blk bk3 (.cells #[.int .i64 n.kind.v, .string n.var.v, .string n.typ.v, .slice n.tp n.tests.length n.tc, .slice n.kp n.kids.length n.kc] 25 (0, 0)) :: Im 5 (.slice n.kp n.kids.length n.kc) n.kids.length (n.kids.flatMap nodeCell) :: NodesA n.kids :: F)) (fun (x_ : Nat) => match x_ with | q => (varsS (n.kids.getD j default)).length - q) (0) ?_ ?_ ?_
          · exact ⟨by first | rfl | exact vint (by omega), by first | rfl | exact vint (by omega), by first | rfl | exact vint (by omega), by first | rfl | exact vint (by omega), by first | rfl | exact vint (by omega), by first | rfl | exact vint (by omega), by first | rfl | exact vint (by omega), by first | rfl | exact vint (by omega), by first | rfl | exact vint (by omega), trivial⟩
          · exact ⟨(by omega), (fun i hi => by omega), H60⟩
          · rintro q ρ61 w62 ⟨hql, hz2, H63⟩ nx64
            change Ends _ _ (upds ρ61 [(1, .pointer (some ⟨bk3, 0, none⟩)), (2, .int .i64 0), (3, .map (some mp6)), (11, .slice n.kp n.kids.length n.kc), (12, .int .i64 (n.kids.length : Int)), (13, .int .i64 (j : Int)), (31, .slice pp41 ((varsS (n.kids.getD j default)).length) cc42), (32, .int .i64 ((varsS (n.kids.getD j default)).length : Int)), (33, .int .i64 (q : Int))]) w62
            refine g_seq ?_
            refine g_region ?_
            by_cases hc65 : (q : Int) < ((varsS (n.kids.getD j default)).length : Int)
            · skip
              refine r_cons (s_lss true rfl rfl (dtrue hc65) rfl ?_)
              refine r_nil ?_
              refine g_seq ?_
              refine g_true rfl ?_
              refine g_skip ?_
              refine g_seq ?_
              refine g_block ?_
              refine g_seq ?_
              refine g_region ?_
              refine r_cons (s_indexAddr gA47 (off := oA48) (q : Int) 1 (oA48 + q * 1) (by exact congrArg (fun z_ => Value.slice z_ ((varsS (n.kids.getD j default)).length) cc42) (hp53 (by omega))) rfl el_36 (by omega) rfl rfl ?_)
              refine r_cons (s_load (.string (((varsS (n.kids.getD j default)).getD q default).v)) ag_9 rfl (H63.imi_at (i := 0) rfl (by omega)) (elem_cell (L := (varsS (n.kids.getD j default))) (i := q) strCell_len (hx54 (by omega)) (by omega) default 0 (by decide) _ rfl) rfl ?_)
              refine r_cons (s_assign (.string (((varsS (n.kids.getD j default)).getD q default).v)) rfl rfl ?_)
              refine r_nil ?_
              refine g_seq ?_
              refine g_seq ?_
              refine g_region ?_
              refine r_cons (s_move (.map (some mp6)) rfl rfl ?_)
              refine r_cons (s_move (.string (((varsS (n.kids.getD j default)).getD q default).v)) rfl rfl ?_)
              refine r_cons (s_lookup (ek := kS) (ev := vB) (L := setOf (((varsS (n.kids.getD j default)).take q).foldl addS (hadF n j))) ((varsS (n.kids.getD j default)).getD q default) (.bool (decide (((varsS (n.kids.getD j default)).getD q default) ∈ (((varsS (n.kids.getD j default)).take q).foldl addS (hadF n j))))) (MapA.at H63 (i := 4) rfl) (KeyLaw.S un_9) un_57 zv_4 rfl rfl (setOf_look _ _) rfl ?_)
              refine r_nil ?_
              by_cases hb66 : (decide (((varsS (n.kids.getD j default)).getD q default) ∈ (((varsS (n.kids.getD j default)).take q).foldl addS (hadF n j)))) = true
              · skip
                refine g_true (congrArg Value.bool hb66) ?_
                refine g_seq ?_
                refine g_region ?_
                refine r_cons (s_assign (.int .i64 73) rfl rfl ?_)
                refine r_nil ?_
                refine g_ret' [.int .i64 73] Try.func21 Try.results21 ⟨rfl, trivial⟩ ?_
                have H67 : St W w62 F := ((((((((H63.drop 0 rfl).drop 0 rfl).drop 0 rfl).drop 0 rfl).drop 0 rfl).drop 0 rfl).drop 0 rfl).drop 0 rfl)
                exact ⟨vint (Hres_twice hres (by omega) (by omega) (decide_eq_true (by omega)) (by omega) hb66), H67⟩
              · have hb66 := eq_false_of_ne_true hb66
                refine g_false (congrArg Value.bool hb66) ?_
                refine g_skip ?_
                refine g_region ?_
                refine r_cons (s_move (.map (some mp6)) rfl rfl ?_)
                refine r_cons (s_move (.string (((varsS (n.kids.getD j default)).getD q default).v)) rfl rfl ?_)
                refine r_cons (s_mapUpdate (ek := kS) (ev := vB) (L := setOf (((varsS (n.kids.getD j default)).take q).foldl addS (hadF n j))) ((varsS (n.kids.getD j default)).getD q default) true H63 (i := 4) rfl (KeyLaw.S un_9) un_57 rfl rfl rfl ?_); intro w68 H69
                have H70 : St W w68 (imi (0 < (varsS (n.kids.getD j default)).length) gA47 (.cells kA49 eA50 zA51) :: Im 1 (.slice pp41 ((varsS (n.kids.getD j default)).length) cc42) ((varsS (n.kids.getD j default)).length) ((varsS (n.kids.getD j default)).flatMap strCell) :: NodeA (n.kids.getD j default) :: imi (0 < n.kids.length) gA12 (.cells kA14 eA15 zA16) :: MapA mp6 (ents kS vB (setOf (addS (((varsS (n.kids.getD j default)).take q).foldl addS (hadF n j)) ((varsS (n.kids.getD j default)).getD q default)))) :: blk bk3 (.cells #[.int .i64 n.kind.v, .string n.var.v, .string n.typ.v, .slice n.tp n.tests.length n.tc, .slice n.kp n.kids.length n.kc] 25 (0, 0)) :: Im 5 (.slice n.kp n.kids.length n.kc) n.kids.length (n.kids.flatMap nodeCell) :: NodesA n.kids :: F) := by have h9 := H69; rw [setOf_set] at h9; exact h9
                refine r_nil ?_
                refine g_inBlock ?_
                refine g_region ?_
                refine r_cons (s_add ((q : Int) + 1) rfl rfl (wi64 (by omega)) rfl ?_)
                refine r_cons (s_move (.int .i64 ((q : Int) + 1)) rfl rfl ?_)
                refine r_nil ?_
                have hM71 : (addS (((varsS (n.kids.getD j default)).take q).foldl addS (hadF n j)) ((varsS (n.kids.getD j default)).getD q default)) = (((varsS (n.kids.getD j default)).take (q + 1)).foldl addS (hadF n j)) := (fold_stepS addS _ (by omega)).symm
                have H72 : St W w68 (imi (0 < (varsS (n.kids.getD j default)).length) gA47 (.cells kA49 eA50 zA51) :: Im 1 (.slice pp41 ((varsS (n.kids.getD j default)).length) cc42) ((varsS (n.kids.getD j default)).length) ((varsS (n.kids.getD j default)).flatMap strCell) :: NodeA (n.kids.getD j default) :: imi (0 < n.kids.length) gA12 (.cells kA14 eA15 zA16) :: MapA mp6 (ents kS vB (setOf (((varsS (n.kids.getD j default)).take (q + 1)).foldl addS (hadF n j)))) :: blk bk3 (.cells #[.int .i64 n.kind.v, .string n.var.v, .string n.typ.v, .slice n.tp n.tests.length n.tc, .slice n.kp n.kids.length n.kc] 25 (0, 0)) :: Im 5 (.slice n.kp n.kids.length n.kc) n.kids.length (n.kids.flatMap nodeCell) :: NodesA n.kids :: F) := by rw [← hM71]; exact H70
                have H73 : St W w68 (imi (0 < (varsS (n.kids.getD j default)).length) gA47 (.cells kA49 eA50 zA51) :: Im 1 (.slice pp41 ((varsS (n.kids.getD j default)).length) cc42) ((varsS (n.kids.getD j default)).length) ((varsS (n.kids.getD j default)).flatMap strCell) :: NodeA (n.kids.getD j default) :: imi (0 < n.kids.length) gA12 (.cells kA14 eA15 zA16) :: MapA mp6 (ents kS vB (setOf (((varsS (n.kids.getD j default)).take (q + 1)).foldl addS (hadF n j)))) :: blk bk3 (.cells #[.int .i64 n.kind.v, .string n.var.v, .string n.typ.v, .slice n.tp n.tests.length n.tc, .slice n.kp n.kids.length n.kc] 25 (0, 0)) :: Im 5 (.slice n.kp n.kids.length n.kc) n.kids.length (n.kids.flatMap nodeCell) :: NodesA n.kids :: F) := ((((((((H72.move 7 rfl).move 7 rfl).move 7 rfl).move 7 rfl).move 7 rfl).move 7 rfl).move 7 rfl).move 7 rfl)
                exact nx64 (q + 1) _ _ ⟨(by omega), (fun i hi => (Nat.lt_or_ge i q).elim (hz2 i) (fun h => by rw [show i = q from by omega]; exact Hres_new (by omega) hb66)), H73⟩ (by first | (dsimp only; omega) | omega) ⟨by first | rfl | exact vint (by omega), by first | rfl | exact vint (by omega), by first | rfl | exact vint (by omega), by first | rfl | exact vint (by omega), by first | rfl | exact vint (by omega), by first | rfl | exact vint (by omega), by first | rfl | exact vint (by omega), by first | rfl | exact vint (by omega), by first | rfl | exact vint (by omega), trivial⟩
            · skip
              refine r_cons (s_lss false rfl rfl (dfalse hc65) rfl ?_)
              refine r_nil ?_
              refine g_seq ?_
              refine g_false rfl ?_
              refine g_exit (by rfl) ?_
              refine g_inBlock ?_
              refine g_region ?_
              refine r_cons (s_add ((j : Int) + 1) rfl rfl (wi64 (by omega)) rfl ?_)
              refine r_cons (s_move (.int .i64 ((j : Int) + 1)) rfl rfl ?_)
              refine r_nil ?_
              have hM74 : (((varsS (n.kids.getD j default)).take q).foldl addS (hadF n j)) = (hadF n (j + 1)) := hadF_next (decide_eq_true (by omega)) (by omega) (by omega)
              have H75 : St W w62 (imi (0 < (varsS (n.kids.getD j default)).length) gA47 (.cells kA49 eA50 zA51) :: Im 1 (.slice pp41 ((varsS (n.kids.getD j default)).length) cc42) ((varsS (n.kids.getD j default)).length) ((varsS (n.kids.getD j default)).flatMap strCell) :: NodeA (n.kids.getD j default) :: imi (0 < n.kids.length) gA12 (.cells kA14 eA15 zA16) :: MapA mp6 (ents kS vB (setOf (hadF n (j + 1)))) :: blk bk3 (.cells #[.int .i64 n.kind.v, .string n.var.v, .string n.typ.v, .slice n.tp n.tests.length n.tc, .slice n.kp n.kids.length n.kc] 25 (0, 0)) :: Im 5 (.slice n.kp n.kids.length n.kc) n.kids.length (n.kids.flatMap nodeCell) :: NodesA n.kids :: F) := by rw [← hM74]; exact H63
              have H76 : St W w62 (imi (0 < n.kids.length) gA12 (.cells kA14 eA15 zA16) :: MapA mp6 (ents kS vB (setOf (hadF n (j + 1)))) :: blk bk3 (.cells #[.int .i64 n.kind.v, .string n.var.v, .string n.typ.v, .slice n.tp n.tests.length n.tc, .slice n.kp n.kids.length n.kc] 25 (0, 0)) :: Im 5 (.slice n.kp n.kids.length n.kc) n.kids.length (n.kids.flatMap nodeCell) :: NodesA n.kids :: F) := ((((((((H75.move 7 rfl).move 7 rfl).move 7 rfl).move 7 rfl).move 7 rfl).drop 5 rfl).drop 5 rfl).drop 5 rfl)
              exact nx29 (j + 1) _ _ ⟨(by omega), (Hres_next hres (by omega) (by omega) (decide_eq_true (by omega)) (fun i hi => hz2 i (by omega))), H76⟩ (by first | (dsimp only; omega) | omega) ⟨by first | rfl | exact vint (by omega), by first | rfl | exact vint (by omega), by first | rfl | exact vint (by omega), by first | rfl | exact vint (by omega), by first | rfl | exact vint (by omega), by first | rfl | exact vint (by omega), trivial⟩
        · skip
          refine r_cons (s_neq true rfl rfl (nfalse hc40) rfl ?_)
          refine r_cons (s_move (.bool true) rfl rfl ?_)
          refine r_cons (r_take rfl rfl ?_)
          refine s_fieldAddr 25 0 0 0 3 rfl fi_25_0 rfl rfl ?_
          refine r_cons (r_take rfl rfl ?_)
          refine s_load (.int .i64 n.kind.v) ag_3 rfl (H38.blk_at (i := 4) rfl) rfl rfl ?_
          refine r_cons (r_take rfl rfl ?_)
          by_cases hc77 : n.kind.v = 3
          · skip
            refine s_neq false rfl rfl (ntrue hc77) rfl ?_
            refine r_cons (s_pick_t (.bool false) rfl rfl rfl ?_)
            refine r_nil ?_
            refine g_false rfl ?_
            refine g_skip ?_
            refine g_seq ?_
            refine g_region ?_
            refine r_cons (s_loadAgg [.int .i64 ((n.kids.getD j default).kind.v), .string ((n.kids.getD j default).var.v), .string ((n.kids.getD j default).typ.v), .slice ((n.kids.getD j default).tp) ((n.kids.getD j default).tests.length) ((n.kids.getD j default).tc), .slice ((n.kids.getD j default).kp) ((n.kids.getD j default).kids.length) ((n.kids.getD j default).kc)] 5 ag_25 rfl (H38.blk_at (i := 1) rfl) (Nat.le_of_ble_eq_true rfl) rfl rfl ?_)
            refine r_cons (s_call [.agg #[.int .i64 ((n.kids.getD j default).kind.v), .string ((n.kids.getD j default).var.v), .string ((n.kids.getD j default).typ.v), .slice ((n.kids.getD j default).tp) ((n.kids.getD j default).tests.length) ((n.kids.getD j default).tc), .slice ((n.kids.getD j default).kp) ((n.kids.getD j default).kids.length) ((n.kids.getD j default).kc)]] pl_24 rfl rfl (check_Vars (n.kids.getD j default) (i := 0) rfl (by have h9 := sizeN_kid (n := n) (j := j) (by omega); omega) H38) ?_)
            rintro _ w80 ⟨pp78, cc79, rfl, H81⟩
            refine r_cons (s_len ((varsS (n.kids.getD j default)).length) rfl ⟨_, un_36⟩ rfl ?_)
            refine r_cons (s_move (.int .i64 0) rfl rfl ?_)
            refine r_nil ?_
            refine g_block ?_
            obtain ⟨pA82, cA83, gA84, oA85, kA86, eA87, zA88, he94, hn89, hp90, hx91, hs92, hml, H93⟩ := Im.open_ H81 (i := 0) rfl
            obtain ⟨rfl, rfl⟩ : pp78 = pA82 ∧ cc79 = cA83 := by injection he94 with a_ b_ c_; exact ⟨a_, c_⟩
            have hM95 : (hadF n j) = (((varsS (n.kids.getD j default)).take 0).foldl addS (hadF n j)) := rfl
            have H96 : St W w80 (imi (0 < (varsS (n.kids.getD j default)).length) gA84 (.cells kA86 eA87 zA88) :: Im 1 (.slice pp78 ((varsS (n.kids.getD j default)).length) cc79) ((varsS (n.kids.getD j default)).length) ((varsS (n.kids.getD j default)).flatMap strCell) :: NodeA (n.kids.getD j default) :: blk bk31 (.cells #[.int .i64 ((n.kids.getD j default).kind.v), .string ((n.kids.getD j default).var.v), .string ((n.kids.getD j default).typ.v), .slice ((n.kids.getD j default).tp) ((n.kids.getD j default).tests.length) ((n.kids.getD j default).tc), .slice ((n.kids.getD j default).kp) ((n.kids.getD j default).kids.length) ((n.kids.getD j default).kc)] 25 (0, 0)) :: imi (0 < n.kids.length) gA12 (.cells kA14 eA15 zA16) :: MapA mp6 (ents kS vB (setOf (((varsS (n.kids.getD j default)).take 0).foldl addS (hadF n j)))) :: blk bk3 (.cells #[.int .i64 n.kind.v, .string n.var.v, .string n.typ.v, .slice n.tp n.tests.length n.tc, .slice n.kp n.kids.length n.kc] 25 (0, 0)) :: Im 5 (.slice n.kp n.kids.length n.kc) n.kids.length (n.kids.flatMap nodeCell) :: NodesA n.kids :: F) := by rw [← hM95]; exact H93
            have H97 : St W w80 (imi (0 < (varsS (n.kids.getD j default)).length) gA84 (.cells kA86 eA87 zA88) :: Im 1 (.slice pp78 ((varsS (n.kids.getD j default)).length) cc79) ((varsS (n.kids.getD j default)).length) ((varsS (n.kids.getD j default)).flatMap strCell) :: NodeA (n.kids.getD j default) :: imi (0 < n.kids.length) gA12 (.cells kA14 eA15 zA16) :: MapA mp6 (ents kS vB (setOf (((varsS (n.kids.getD j default)).take 0).foldl addS (hadF n j)))) :: blk bk3 (.cells #[.int .i64 n.kind.v, .string n.var.v, .string n.typ.v, .slice n.tp n.tests.length n.tc, .slice n.kp n.kids.length n.kc] 25 (0, 0)) :: Im 5 (.slice n.kp n.kids.length n.kc) n.kids.length (n.kids.flatMap nodeCell) :: NodesA n.kids :: F) := (((((((((H96.move 8 rfl).move 8 rfl).move 8 rfl).move 8 rfl).move 8 rfl).move 7 rfl).move 7 rfl).move 7 rfl).drop 8 rfl)
            refine g_loop_inv (fun (x_ : Nat) => match x_ with | q => [(1, .pointer (some ⟨bk3, 0, none⟩)), (2, .int .i64 0), (3, .map (some mp6)), (11, .slice n.kp n.kids.length n.kc), (12, .int .i64 (n.kids.length : Int)), (13, .int .i64 (j : Int)), (31, .slice pp78 ((varsS (n.kids.getD j default)).length) cc79), (32, .int .i64 ((varsS (n.kids.getD j default)).length : Int)), (33, .int .i64 (q : Int))]) (fun (x_ : Nat) w => match x_ with | q => (q ≤ (varsS (n.kids.getD j default)).length) ∧ (∀ i, i < q → decide ((varsS (n.kids.getD j default)).getD i default ∈ hadF n j) = false) ∧ St W w (imi (0 < (varsS (n.kids.getD j default)).length) gA84 (.cells kA86 eA87 zA88) :: Im 1 (.slice pp78 ((varsS (n.kids.getD j default)).length) cc79) ((varsS (n.kids.getD j default)).length) ((varsS (n.kids.getD j default)).flatMap strCell) :: NodeA (n.kids.getD j default) :: imi (0 < n.kids.length) gA12 (.cells kA14 eA15 zA16) :: MapA mp6 (ents kS vB (setOf (((varsS (n.kids.getD j default)).take q).foldl addS (hadF n j)))) :: blk bk3 (.cells #[.int .i64 n.kind.v, .string n.var.v, .string n.typ.v, .slice n.tp n.tests.length n.tc, .slice n.kp n.kids.length n.kc] 25 (0, 0)) :: Im 5 (.slice n.kp n.kids.length n.kc) n.kids.length (n.kids.flatMap nodeCell) :: NodesA n.kids :: F)) (fun (x_ : Nat) => match x_ with | q => (varsS (n.kids.getD j default)).length - q) (0) ?_ ?_ ?_
            · exact ⟨by first | rfl | exact vint (by omega), by first | rfl | exact vint (by omega), by first | rfl | exact vint (by omega), by first | rfl | exact vint (by omega), by first | rfl | exact vint (by omega), by first | rfl | exact vint (by omega), by first | rfl | exact vint (by omega), by first | rfl | exact vint (by omega), by first | rfl | exact vint (by omega), trivial⟩
            · exact ⟨(by omega), (fun i hi => by omega), H97⟩
            · rintro q ρ98 w99 ⟨hql, hz2, H100⟩ nx101
              change Ends _ _ (upds ρ98 [(1, .pointer (some ⟨bk3, 0, none⟩)), (2, .int .i64 0), (3, .map (some mp6)), (11, .slice n.kp n.kids.length n.kc), (12, .int .i64 (n.kids.length : Int)), (13, .int .i64 (j : Int)), (31, .slice pp78 ((varsS (n.kids.getD j default)).length) cc79), (32, .int .i64 ((varsS (n.kids.getD j default)).length : Int)), (33, .int .i64 (q : Int))]) w99
              refine g_seq ?_
              refine g_region ?_
              by_cases hc102 : (q : Int) < ((varsS (n.kids.getD j default)).length : Int)
              · skip
                refine r_cons (s_lss true rfl rfl (dtrue hc102) rfl ?_)
                refine r_nil ?_
                refine g_seq ?_
                refine g_true rfl ?_
                refine g_skip ?_
                refine g_seq ?_
                refine g_block ?_
                refine g_seq ?_
                refine g_region ?_
                refine r_cons (s_indexAddr gA84 (off := oA85) (q : Int) 1 (oA85 + q * 1) (by exact congrArg (fun z_ => Value.slice z_ ((varsS (n.kids.getD j default)).length) cc79) (hp90 (by omega))) rfl el_36 (by omega) rfl rfl ?_)
                refine r_cons (s_load (.string (((varsS (n.kids.getD j default)).getD q default).v)) ag_9 rfl (H100.imi_at (i := 0) rfl (by omega)) (elem_cell (L := (varsS (n.kids.getD j default))) (i := q) strCell_len (hx91 (by omega)) (by omega) default 0 (by decide) _ rfl) rfl ?_)
                refine r_cons (s_assign (.string (((varsS (n.kids.getD j default)).getD q default).v)) rfl rfl ?_)
                refine r_nil ?_
                refine g_seq ?_
                refine g_seq ?_
                refine g_region ?_
                refine r_cons (s_move (.map (some mp6)) rfl rfl ?_)
                refine r_cons (s_move (.string (((varsS (n.kids.getD j default)).getD q default).v)) rfl rfl ?_)
                refine r_cons (s_lookup (ek := kS) (ev := vB) (L := setOf (((varsS (n.kids.getD j default)).take q).foldl addS (hadF n j))) ((varsS (n.kids.getD j default)).getD q default) (.bool (decide (((varsS (n.kids.getD j default)).getD q default) ∈ (((varsS (n.kids.getD j default)).take q).foldl addS (hadF n j))))) (MapA.at H100 (i := 4) rfl) (KeyLaw.S un_9) un_57 zv_4 rfl rfl (setOf_look _ _) rfl ?_)
                refine r_nil ?_
                by_cases hb103 : (decide (((varsS (n.kids.getD j default)).getD q default) ∈ (((varsS (n.kids.getD j default)).take q).foldl addS (hadF n j)))) = true
                · skip
                  refine g_true (congrArg Value.bool hb103) ?_
                  refine g_seq ?_
                  refine g_region ?_
                  refine r_cons (s_assign (.int .i64 73) rfl rfl ?_)
                  refine r_nil ?_
                  refine g_ret' [.int .i64 73] Try.func21 Try.results21 ⟨rfl, trivial⟩ ?_
                  have H104 : St W w99 F := ((((((((H100.drop 0 rfl).drop 0 rfl).drop 0 rfl).drop 0 rfl).drop 0 rfl).drop 0 rfl).drop 0 rfl).drop 0 rfl)
                  exact ⟨vint (Hres_twice hres (by omega) (by omega) (decide_eq_true (by omega)) (by omega) hb103), H104⟩
                · have hb103 := eq_false_of_ne_true hb103
                  refine g_false (congrArg Value.bool hb103) ?_
                  refine g_skip ?_
                  refine g_region ?_
                  refine r_cons (s_move (.map (some mp6)) rfl rfl ?_)
                  refine r_cons (s_move (.string (((varsS (n.kids.getD j default)).getD q default).v)) rfl rfl ?_)
                  refine r_cons (s_mapUpdate (ek := kS) (ev := vB) (L := setOf (((varsS (n.kids.getD j default)).take q).foldl addS (hadF n j))) ((varsS (n.kids.getD j default)).getD q default) true H100 (i := 4) rfl (KeyLaw.S un_9) un_57 rfl rfl rfl ?_); intro w105 H106
                  have H107 : St W w105 (imi (0 < (varsS (n.kids.getD j default)).length) gA84 (.cells kA86 eA87 zA88) :: Im 1 (.slice pp78 ((varsS (n.kids.getD j default)).length) cc79) ((varsS (n.kids.getD j default)).length) ((varsS (n.kids.getD j default)).flatMap strCell) :: NodeA (n.kids.getD j default) :: imi (0 < n.kids.length) gA12 (.cells kA14 eA15 zA16) :: MapA mp6 (ents kS vB (setOf (addS (((varsS (n.kids.getD j default)).take q).foldl addS (hadF n j)) ((varsS (n.kids.getD j default)).getD q default)))) :: blk bk3 (.cells #[.int .i64 n.kind.v, .string n.var.v, .string n.typ.v, .slice n.tp n.tests.length n.tc, .slice n.kp n.kids.length n.kc] 25 (0, 0)) :: Im 5 (.slice n.kp n.kids.length n.kc) n.kids.length (n.kids.flatMap nodeCell) :: NodesA n.kids :: F) := by have h9 := H106; rw [setOf_set] at h9; exact h9
                  refine r_nil ?_
                  refine g_inBlock ?_
                  refine g_region ?_
                  refine r_cons (s_add ((q : Int) + 1) rfl rfl (wi64 (by omega)) rfl ?_)
                  refine r_cons (s_move (.int .i64 ((q : Int) + 1)) rfl rfl ?_)
                  refine r_nil ?_
                  have hM108 : (addS (((varsS (n.kids.getD j default)).take q).foldl addS (hadF n j)) ((varsS (n.kids.getD j default)).getD q default)) = (((varsS (n.kids.getD j default)).take (q + 1)).foldl addS (hadF n j)) := (fold_stepS addS _ (by omega)).symm
                  have H109 : St W w105 (imi (0 < (varsS (n.kids.getD j default)).length) gA84 (.cells kA86 eA87 zA88) :: Im 1 (.slice pp78 ((varsS (n.kids.getD j default)).length) cc79) ((varsS (n.kids.getD j default)).length) ((varsS (n.kids.getD j default)).flatMap strCell) :: NodeA (n.kids.getD j default) :: imi (0 < n.kids.length) gA12 (.cells kA14 eA15 zA16) :: MapA mp6 (ents kS vB (setOf (((varsS (n.kids.getD j default)).take (q + 1)).foldl addS (hadF n j)))) :: blk bk3 (.cells #[.int .i64 n.kind.v, .string n.var.v, .string n.typ.v, .slice n.tp n.tests.length n.tc, .slice n.kp n.kids.length n.kc] 25 (0, 0)) :: Im 5 (.slice n.kp n.kids.length n.kc) n.kids.length (n.kids.flatMap nodeCell) :: NodesA n.kids :: F) := by rw [← hM108]; exact H107
                  have H110 : St W w105 (imi (0 < (varsS (n.kids.getD j default)).length) gA84 (.cells kA86 eA87 zA88) :: Im 1 (.slice pp78 ((varsS (n.kids.getD j default)).length) cc79) ((varsS (n.kids.getD j default)).length) ((varsS (n.kids.getD j default)).flatMap strCell) :: NodeA (n.kids.getD j default) :: imi (0 < n.kids.length) gA12 (.cells kA14 eA15 zA16) :: MapA mp6 (ents kS vB (setOf (((varsS (n.kids.getD j default)).take (q + 1)).foldl addS (hadF n j)))) :: blk bk3 (.cells #[.int .i64 n.kind.v, .string n.var.v, .string n.typ.v, .slice n.tp n.tests.length n.tc, .slice n.kp n.kids.length n.kc] 25 (0, 0)) :: Im 5 (.slice n.kp n.kids.length n.kc) n.kids.length (n.kids.flatMap nodeCell) :: NodesA n.kids :: F) := ((((((((H109.move 7 rfl).move 7 rfl).move 7 rfl).move 7 rfl).move 7 rfl).move 7 rfl).move 7 rfl).move 7 rfl)
                  exact nx101 (q + 1) _ _ ⟨(by omega), (fun i hi => (Nat.lt_or_ge i q).elim (hz2 i) (fun h => by rw [show i = q from by omega]; exact Hres_new (by omega) hb103)), H110⟩ (by first | (dsimp only; omega) | omega) ⟨by first | rfl | exact vint (by omega), by first | rfl | exact vint (by omega), by first | rfl | exact vint (by omega), by first | rfl | exact vint (by omega), by first | rfl | exact vint (by omega), by first | rfl | exact vint (by omega), by first | rfl | exact vint (by omega), by first | rfl | exact vint (by omega), by first | rfl | exact vint (by omega), trivial⟩
              · skip
                refine r_cons (s_lss false rfl rfl (dfalse hc102) rfl ?_)
                refine r_nil ?_
                refine g_seq ?_
                refine g_false rfl ?_
                refine g_exit (by rfl) ?_
                refine g_inBlock ?_
                refine g_region ?_
                refine r_cons (s_add ((j : Int) + 1) rfl rfl (wi64 (by omega)) rfl ?_)
                refine r_cons (s_move (.int .i64 ((j : Int) + 1)) rfl rfl ?_)
                refine r_nil ?_
                have hM111 : (((varsS (n.kids.getD j default)).take q).foldl addS (hadF n j)) = (hadF n (j + 1)) := hadF_next (decide_eq_true (by omega)) (by omega) (by omega)
                have H112 : St W w99 (imi (0 < (varsS (n.kids.getD j default)).length) gA84 (.cells kA86 eA87 zA88) :: Im 1 (.slice pp78 ((varsS (n.kids.getD j default)).length) cc79) ((varsS (n.kids.getD j default)).length) ((varsS (n.kids.getD j default)).flatMap strCell) :: NodeA (n.kids.getD j default) :: imi (0 < n.kids.length) gA12 (.cells kA14 eA15 zA16) :: MapA mp6 (ents kS vB (setOf (hadF n (j + 1)))) :: blk bk3 (.cells #[.int .i64 n.kind.v, .string n.var.v, .string n.typ.v, .slice n.tp n.tests.length n.tc, .slice n.kp n.kids.length n.kc] 25 (0, 0)) :: Im 5 (.slice n.kp n.kids.length n.kc) n.kids.length (n.kids.flatMap nodeCell) :: NodesA n.kids :: F) := by rw [← hM111]; exact H100
                have H113 : St W w99 (imi (0 < n.kids.length) gA12 (.cells kA14 eA15 zA16) :: MapA mp6 (ents kS vB (setOf (hadF n (j + 1)))) :: blk bk3 (.cells #[.int .i64 n.kind.v, .string n.var.v, .string n.typ.v, .slice n.tp n.tests.length n.tc, .slice n.kp n.kids.length n.kc] 25 (0, 0)) :: Im 5 (.slice n.kp n.kids.length n.kc) n.kids.length (n.kids.flatMap nodeCell) :: NodesA n.kids :: F) := ((((((((H112.move 7 rfl).move 7 rfl).move 7 rfl).move 7 rfl).move 7 rfl).drop 5 rfl).drop 5 rfl).drop 5 rfl)
                exact nx29 (j + 1) _ _ ⟨(by omega), (Hres_next hres (by omega) (by omega) (decide_eq_true (by omega)) (fun i hi => hz2 i (by omega))), H113⟩ (by first | (dsimp only; omega) | omega) ⟨by first | rfl | exact vint (by omega), by first | rfl | exact vint (by omega), by first | rfl | exact vint (by omega), by first | rfl | exact vint (by omega), by first | rfl | exact vint (by omega), by first | rfl | exact vint (by omega), trivial⟩
          · skip
            refine s_neq true rfl rfl (nfalse hc77) rfl ?_
            refine r_cons (s_pick_t (.bool true) rfl rfl rfl ?_)
            refine r_nil ?_
            refine g_true rfl ?_
            refine g_exit (by rfl) ?_
            refine g_region ?_
            refine r_cons (s_add ((j : Int) + 1) rfl rfl (wi64 (by omega)) rfl ?_)
            refine r_cons (s_move (.int .i64 ((j : Int) + 1)) rfl rfl ?_)
            refine r_nil ?_
            have hM114 : (hadF n j) = (hadF n (j + 1)) := hadF_off (decide_eq_false (by omega))
            have H115 : St W w37 (NodeA (n.kids.getD j default) :: blk bk31 (.cells #[.int .i64 ((n.kids.getD j default).kind.v), .string ((n.kids.getD j default).var.v), .string ((n.kids.getD j default).typ.v), .slice ((n.kids.getD j default).tp) ((n.kids.getD j default).tests.length) ((n.kids.getD j default).tc), .slice ((n.kids.getD j default).kp) ((n.kids.getD j default).kids.length) ((n.kids.getD j default).kc)] 25 (0, 0)) :: imi (0 < n.kids.length) gA12 (.cells kA14 eA15 zA16) :: MapA mp6 (ents kS vB (setOf (hadF n (j + 1)))) :: blk bk3 (.cells #[.int .i64 n.kind.v, .string n.var.v, .string n.typ.v, .slice n.tp n.tests.length n.tc, .slice n.kp n.kids.length n.kc] 25 (0, 0)) :: Im 5 (.slice n.kp n.kids.length n.kc) n.kids.length (n.kids.flatMap nodeCell) :: NodesA n.kids :: F) := by rw [← hM114]; exact H38
            have H116 : St W w37 (imi (0 < n.kids.length) gA12 (.cells kA14 eA15 zA16) :: MapA mp6 (ents kS vB (setOf (hadF n (j + 1)))) :: blk bk3 (.cells #[.int .i64 n.kind.v, .string n.var.v, .string n.typ.v, .slice n.tp n.tests.length n.tc, .slice n.kp n.kids.length n.kc] 25 (0, 0)) :: Im 5 (.slice n.kp n.kids.length n.kc) n.kids.length (n.kids.flatMap nodeCell) :: NodesA n.kids :: F) := (((((((H115.move 6 rfl).move 6 rfl).move 6 rfl).move 6 rfl).move 6 rfl).drop 5 rfl).drop 5 rfl)
            exact nx29 (j + 1) _ _ ⟨(by omega), (Hres_off hres (by omega) (by omega) (decide_eq_false (by omega))), H116⟩ (by first | (dsimp only; omega) | omega) ⟨by first | rfl | exact vint (by omega), by first | rfl | exact vint (by omega), by first | rfl | exact vint (by omega), by first | rfl | exact vint (by omega), by first | rfl | exact vint (by omega), by first | rfl | exact vint (by omega), trivial⟩
      · skip
        refine r_cons (s_neq true rfl rfl (nfalse hc39) rfl ?_)
        refine r_nil ?_
        refine g_true rfl ?_
        refine g_seq ?_
        refine g_region ?_
        refine r_cons (s_move (.int .i64 (bindsE (n.kids.getD j default))) rfl rfl ?_)
        refine r_cons (s_assign (.int .i64 (bindsE (n.kids.getD j default))) rfl rfl ?_)
        refine r_nil ?_
        refine g_ret' [.int .i64 (bindsE (n.kids.getD j default))] Try.func21 Try.results21 ⟨rfl, trivial⟩ ?_
        have H117 : St W w37 F := (((((((H38.drop 0 rfl).drop 0 rfl).drop 0 rfl).drop 0 rfl).drop 0 rfl).drop 0 rfl).drop 0 rfl)
        exact ⟨vint (Hres_bad hres (by omega) (by omega)), H117⟩
    · skip
      refine r_cons (s_lss false rfl rfl (dfalse hc30) rfl ?_)
      refine r_nil ?_
      refine g_seq ?_
      refine g_false rfl ?_
      refine g_exit (by rfl) ?_
      refine g_seq ?_
      refine g_region ?_
      refine r_cons (s_assign (.int .i64 0) rfl rfl ?_)
      refine r_nil ?_
      refine g_ret' [.int .i64 0] Try.func21 Try.results21 ⟨rfl, trivial⟩ ?_
      have H118 : St W w27 F := (((((H28.drop 0 rfl).drop 0 rfl).drop 0 rfl).drop 0 rfl).drop 0 rfl)
      exact ⟨vint (Hres_end hres (by omega)), H118⟩
theorem check_Binds {W w : World} {F : List Atom} (n : NodeD)  {i : Nat} (hi : F[i]? = some (NodeA n)) (hz : sizeN n ≤ 1048576) (H : St W w F) : Calls Try.prog 21 #[.agg #[.int .i64 n.kind.v, .string n.var.v, .string n.typ.v, .slice n.tp n.tests.length n.tc, .slice n.kp n.kids.length n.kc]] w (Ret fun v w' => v = .int .i64 (bindsE n) ∧ St W w' F) := check_Binds_r (sizeOf n + 1) n (Nat.lt_succ_self _) hi hz H
end Sl
