/- Walks of the program's functions. Printed by a program of this claim's author. No condition. -/
import Derived.Test.YtkclljglobeplaaSlCG
import Derived.Test.YtkclljglobeplaaSlQ
import Derived.Test.YtkclljglobeplaaProg
import Derived.Test.YtkclljglobeplaaWalkCheckTrees2
namespace Sl
open _root_.Go _root_.Go.RowKit _root_.Go.Proofs
set_option linter.all false
set_option maxHeartbeats 4000000 in
set_option maxRecDepth 100000 in
theorem ref07_node_r (N : Nat) : ∀ (n : NodeD), sizeOf n < N → ∀ {W w : World} {F : List Atom}  {i : Nat} (hi : F[i]? = some (NodeA n)) (H : St W w F), Calls Try.prog 41 #[.agg #[.int .i64 n.kind.v, .string n.var.v, .string n.typ.v, .slice n.tp n.tests.length n.tc, .slice n.kp n.kids.length n.kc]] w (Ret fun v w' => v = .int .i64 (nodeE n) ∧ St W w' F) := by
  induction N with | zero => exact fun n hN => absurd hN (Nat.not_lt_zero _) | succ N ih => ?_
  intro n hN W w F i hi H
  have H1 := NodeA.kids H (i := i + 0) (by exact hi)
  have H2 := NodeA.tests H1 (i := i + 2) (by exact hi)
  have H3 : St W w (Im 11 (.slice n.tp n.tests.length n.tc) n.tests.length (n.tests.flatMap condCell) :: Im 5 (.slice n.kp n.kids.length n.kc) n.kids.length (n.kids.flatMap nodeCell) :: NodesA n.kids :: F) := H2
  refine calls_of_go (n := 87) Try.func41 rfl Try.ntmps41 rfl ?_
  refine g_seq ?_
  refine g_region ?_
  refine r_cons (s_box H3 25 (.agg #[.int .i64 n.kind.v, .string n.var.v, .string n.typ.v, .slice n.tp n.tests.length n.tc, .slice n.kp n.kids.length n.kc]) rfl (cs := #[.int .i64 n.kind.v, .string n.var.v, .string n.typ.v, .slice n.tp n.tests.length n.tc, .slice n.kp n.kids.length n.kc]) rfl rfl ?_); intro bk4 w5 H6
  refine r_cons (s_assign (.int .i64 0) rfl rfl ?_)
  refine r_nil ?_
  refine g_seq ?_
  refine g_seq ?_
  refine g_region ?_
  refine r_cons (s_fieldAddr 25 0 0 0 3 rfl fi_25_0 rfl rfl ?_)
  refine r_cons (s_load (.int .i64 n.kind.v) ag_3 rfl (H6.blk_at (i := 0) rfl) rfl rfl ?_)
  refine r_nil ?_
  refine g_block ?_
  refine g_seq ?_
  refine g_region ?_
  by_cases hc7 : n.kind.v = 1
  · skip
    refine r_cons (s_eql true rfl rfl (dtrue hc7) rfl ?_)
    refine r_cons (s_assign (.bool true) rfl rfl ?_)
    refine r_nil ?_
    refine g_true rfl ?_
    refine g_seq ?_
    refine g_seq ?_
    refine g_region ?_
    refine r_cons (s_fieldAddr 25 4 4 4 23 rfl fi_25_4 rfl rfl ?_)
    refine r_cons (s_load (.slice n.kp n.kids.length n.kc) ag_23 rfl (H6.blk_at (i := 0) rfl) rfl rfl ?_)
    refine r_cons (s_len n.kids.length rfl ⟨_, un_23⟩ rfl ?_)
    by_cases hc8 : (0 : Int) < (n.kids.length : Int)
    · skip
      refine r_cons (s_gtr true rfl rfl (dtrue hc8) rfl ?_)
      refine r_cons (s_move (.bool true) rfl rfl ?_)
      refine r_cons (r_pass rfl rfl rfl rfl rfl ?_)
      refine r_cons (r_pass rfl rfl rfl rfl rfl ?_)
      refine r_cons (r_pass rfl rfl rfl rfl rfl ?_)
      refine r_cons (r_pass rfl rfl rfl rfl rfl ?_)
      refine r_cons (s_pick_t (.bool true) rfl rfl rfl ?_)
      refine r_cons (s_move (.bool true) rfl rfl ?_)
      refine r_cons (r_pass rfl rfl rfl rfl rfl ?_)
      refine r_cons (r_pass rfl rfl rfl rfl rfl ?_)
      refine r_cons (r_pass rfl rfl rfl rfl rfl ?_)
      refine r_cons (r_pass rfl rfl rfl rfl rfl ?_)
      refine r_cons (s_pick_t (.bool true) rfl rfl rfl ?_)
      refine r_nil ?_
      refine g_true rfl ?_
      refine g_seq ?_
      refine g_region ?_
      refine r_cons (s_assign (.int .i64 71) rfl rfl ?_)
      refine r_nil ?_
      refine g_ret' [.int .i64 71] Try.func41 Try.results41 ⟨rfl, trivial⟩ ?_
      have hN9 : (0 < n.kids.length) := by omega
      have ho10 : ownE n.kind.v n.var.v n.typ.v n.tests n.kids.length = 71 := by unfold ownE; simp [hc7, hN9]
      have H11 : St W w5 F := ((((H6.drop 0 rfl).drop 0 rfl).drop 0 rfl).drop 0 rfl)
      exact ⟨vint (nodeE_own ho10 (by omega)), H11⟩
    · skip
      refine r_cons (s_gtr false rfl rfl (dfalse hc8) rfl ?_)
      refine r_cons (s_move (.bool false) rfl rfl ?_)
      refine r_cons (r_take rfl rfl ?_)
      refine s_fieldAddr 25 1 1 1 9 rfl fi_25_1 rfl rfl ?_
      refine r_cons (r_take rfl rfl ?_)
      refine s_load (.string n.var.v) ag_9 rfl (H6.blk_at (i := 0) rfl) rfl rfl ?_
      refine r_cons (r_take rfl rfl ?_)
      refine s_call [.string n.var.v] pl_39 rfl rfl (ref03_Name n.var.v n.var.ok H6) ?_
      rintro _ w12 ⟨rfl, H13⟩
      refine r_cons (r_take rfl rfl ?_)
      refine s_not (nameB n.var.v) rfl (!(nameB n.var.v)) rfl rfl ?_
      refine r_cons (s_pick_f (.bool (!(nameB n.var.v))) rfl rfl rfl ?_)
      refine r_cons (s_move (.bool (!(nameB n.var.v))) rfl rfl ?_)
      by_cases hb14 : (!(nameB n.var.v)) = true
      · skip
        refine r_cons (r_pass rfl (congrArg some hb14) rfl rfl rfl ?_)
        refine r_cons (r_pass rfl (congrArg some hb14) rfl rfl rfl ?_)
        refine r_cons (r_pass rfl (congrArg some hb14) rfl rfl rfl ?_)
        refine r_cons (r_pass rfl (congrArg some hb14) rfl rfl rfl ?_)
        refine r_cons (s_pick_t (.bool true) (by exact congrArg Value.bool hb14) rfl rfl ?_)
        refine r_nil ?_
        refine g_true rfl ?_
        refine g_seq ?_
        refine g_region ?_
        refine r_cons (s_assign (.int .i64 71) rfl rfl ?_)
        refine r_nil ?_
        refine g_ret' [.int .i64 71] Try.func41 Try.results41 ⟨rfl, trivial⟩ ?_
        have hN15 : ¬ (0 < n.kids.length) := by omega
        have hb16 : ((nameB n.var.v)) = false := by simpa using hb14
        have ho17 : ownE n.kind.v n.var.v n.typ.v n.tests n.kids.length = 71 := by unfold ownE; simp [hc7, hN15, hb16]
        have H18 : St W w12 F := ((((H13.drop 0 rfl).drop 0 rfl).drop 0 rfl).drop 0 rfl)
        exact ⟨vint (nodeE_own ho17 (by omega)), H18⟩
      · have hb14 := eq_false_of_ne_true hb14
        refine r_cons (r_take rfl (congrArg some hb14) ?_)
        refine s_fieldAddr 25 2 2 2 9 rfl fi_25_2 rfl rfl ?_
        refine r_cons (r_take rfl (congrArg some hb14) ?_)
        refine s_load (.string n.typ.v) ag_9 rfl (H13.blk_at (i := 0) rfl) rfl rfl ?_
        refine r_cons (r_take rfl (congrArg some hb14) ?_)
        refine s_call [.string n.typ.v] pl_39 rfl rfl (ref03_Name n.typ.v n.typ.ok H13) ?_
        rintro _ w19 ⟨rfl, H20⟩
        refine r_cons (r_take rfl (congrArg some hb14) ?_)
        refine s_not (nameB n.typ.v) rfl (!(nameB n.typ.v)) rfl rfl ?_
        refine r_cons (s_pick_f (.bool (!(nameB n.typ.v))) (by exact congrArg Value.bool hb14) rfl rfl ?_)
        refine r_nil ?_
        by_cases hb21 : (!(nameB n.typ.v)) = true
        · skip
          refine g_true (congrArg Value.bool hb21) ?_
          refine g_seq ?_
          refine g_region ?_
          refine r_cons (s_assign (.int .i64 71) rfl rfl ?_)
          refine r_nil ?_
          refine g_ret' [.int .i64 71] Try.func41 Try.results41 ⟨rfl, trivial⟩ ?_
          have hN22 : ¬ (0 < n.kids.length) := by omega
          have hb23 : ((nameB n.var.v)) = true := by simpa using hb14
          have hb24 : ((nameB n.typ.v)) = false := by simpa using hb21
          have ho25 : ownE n.kind.v n.var.v n.typ.v n.tests n.kids.length = 71 := by unfold ownE; simp [hc7, hN22, hb23, hb24]
          have H26 : St W w19 F := ((((H20.drop 0 rfl).drop 0 rfl).drop 0 rfl).drop 0 rfl)
          exact ⟨vint (nodeE_own ho25 (by omega)), H26⟩
        · have hb21 := eq_false_of_ne_true hb21
          refine g_false (congrArg Value.bool hb21) ?_
          refine g_skip ?_
          refine g_seq ?_
          refine g_seq ?_
          refine g_region ?_
          refine r_cons (s_fieldAddr 25 3 3 3 22 rfl fi_25_3 rfl rfl ?_)
          refine r_cons (s_load (.slice n.tp n.tests.length n.tc) ag_22 rfl (H20.blk_at (i := 0) rfl) rfl rfl ?_)
          refine r_cons (s_len n.tests.length rfl ⟨_, un_22⟩ rfl ?_)
          by_cases hc27 : (16 : Int) < (n.tests.length : Int)
          · skip
            refine r_cons (s_gtr true rfl rfl (dtrue hc27) rfl ?_)
            refine r_nil ?_
            refine g_true rfl ?_
            refine g_seq ?_
            refine g_region ?_
            refine r_cons (s_assign (.int .i64 74) rfl rfl ?_)
            refine r_nil ?_
            refine g_ret' [.int .i64 74] Try.func41 Try.results41 ⟨rfl, trivial⟩ ?_
            have hC28 : condsE n.tests [] = 74 := by unfold condsE; rw [if_pos (by omega)]
            have hN29 : ¬ (0 < n.kids.length) := by omega
            have hN30 : (16 < n.tests.length) := by omega
            have hb31 : ((nameB n.var.v)) = true := by simpa using hb14
            have hb32 : ((nameB n.typ.v)) = true := by simpa using hb21
            have ho33 : ownE n.kind.v n.var.v n.typ.v n.tests n.kids.length = 74 := by unfold ownE; simp [hc7, hN29, hN30, hb31, hb32, hC28]
            have H34 : St W w19 F := ((((H20.drop 0 rfl).drop 0 rfl).drop 0 rfl).drop 0 rfl)
            exact ⟨vint (nodeE_own ho33 (by omega)), H34⟩
          · skip
            refine r_cons (s_gtr false rfl rfl (dfalse hc27) rfl ?_)
            refine r_nil ?_
            refine g_false rfl ?_
            refine g_skip ?_
            refine g_seq ?_
            refine g_region ?_
            refine r_cons (s_assign (.int .i64 0) rfl rfl ?_)
            refine r_nil ?_
            refine g_block ?_
            have hb35 : ((nameB n.var.v)) = true := by simpa using hb14
            have hb36 : ((nameB n.typ.v)) = true := by simpa using hb21
            obtain ⟨pA37, cA38, gA39, oA40, kA41, eA42, zA43, he49, hn44, hp45, hx46, hs47, hml, H48⟩ := Im.open_ H20 (i := 1) rfl
            obtain ⟨rfl, rfl⟩ : n.tp = pA37 ∧ n.tc = cA38 := by injection he49 with a_ b_ c_; exact ⟨a_, c_⟩
            have H50 : St W w19 (Im 1 (.slice none 0 0) (([] : List Str).length) (([] : List Str).flatMap strCell) :: imi (0 < n.tests.length) gA39 (.cells kA41 eA42 zA43) :: blk bk4 (.cells #[.int .i64 n.kind.v, .string n.var.v, .string n.typ.v, .slice n.tp n.tests.length n.tc, .slice n.kp n.kids.length n.kc] 25 (0, 0)) :: Im 11 (.slice n.tp n.tests.length n.tc) n.tests.length (n.tests.flatMap condCell) :: Im 5 (.slice n.kp n.kids.length n.kc) n.kids.length (n.kids.flatMap nodeCell) :: NodesA n.kids :: F) := Row.im (Row.nil_intro H48 9 1) (i := 0) rfl
            have H51 : St W w19 (Im 1 (.slice none 0 0) (([] : List Str).length) (([] : List Str).flatMap strCell) :: imi (0 < n.tests.length) gA39 (.cells kA41 eA42 zA43) :: blk bk4 (.cells #[.int .i64 n.kind.v, .string n.var.v, .string n.typ.v, .slice n.tp n.tests.length n.tc, .slice n.kp n.kids.length n.kc] 25 (0, 0)) :: Im 11 (.slice n.tp n.tests.length n.tc) n.tests.length (n.tests.flatMap condCell) :: Im 5 (.slice n.kp n.kids.length n.kc) n.kids.length (n.kids.flatMap nodeCell) :: NodesA n.kids :: F) := ((((((H50.move 5 rfl).move 5 rfl).move 5 rfl).move 5 rfl).move 5 rfl).move 5 rfl)
            refine g_loop_inv (fun (x_ : Nat) => match x_ with | t => [(1, .pointer (some ⟨bk4, 0, none⟩)), (2, .int .i64 0), (3, .int .i64 (t : Int))]) (fun (x_ : Nat) w => match x_ with | t => (t ≤ n.tests.length) ∧ (∀ q, q < t → condE (n.tests.getD q default) [] = 0) ∧ St W w (Im 1 (.slice none 0 0) (([] : List Str).length) (([] : List Str).flatMap strCell) :: imi (0 < n.tests.length) gA39 (.cells kA41 eA42 zA43) :: blk bk4 (.cells #[.int .i64 n.kind.v, .string n.var.v, .string n.typ.v, .slice n.tp n.tests.length n.tc, .slice n.kp n.kids.length n.kc] 25 (0, 0)) :: Im 11 (.slice n.tp n.tests.length n.tc) n.tests.length (n.tests.flatMap condCell) :: Im 5 (.slice n.kp n.kids.length n.kc) n.kids.length (n.kids.flatMap nodeCell) :: NodesA n.kids :: F)) (fun (x_ : Nat) => match x_ with | t => n.tests.length - t) (0) ?_ ?_ ?_
            · exact ⟨by first | rfl | exact vint (by omega), by first | rfl | exact vint (by omega), by first | rfl | exact vint (by omega), trivial⟩
            · exact ⟨(by omega), (fun q hq => by omega), H51⟩
            · rintro t ρ52 w53 ⟨htl, ht, H54⟩ nx55
              change Ends _ _ (upds ρ52 [(1, .pointer (some ⟨bk4, 0, none⟩)), (2, .int .i64 0), (3, .int .i64 (t : Int))]) w53
              refine g_seq ?_
              refine g_seq ?_
              refine g_region ?_
              refine r_cons (s_move (.int .i64 (t : Int)) rfl rfl ?_)
              refine r_cons (s_fieldAddr 25 3 3 3 22 rfl fi_25_3 rfl rfl ?_)
              refine r_cons (s_load (.slice n.tp n.tests.length n.tc) ag_22 rfl (H54.blk_at (i := 2) rfl) rfl rfl ?_)
              refine r_cons (s_len n.tests.length rfl ⟨_, un_22⟩ rfl ?_)
              by_cases hc56 : (t : Int) < (n.tests.length : Int)
              · skip
                refine r_cons (s_lss true rfl rfl (dtrue hc56) rfl ?_)
                refine r_nil ?_
                refine g_true rfl ?_
                refine g_skip ?_
                refine g_seq ?_
                refine g_block ?_
                refine g_seq ?_
                refine g_region ?_
                refine r_cons (s_fieldAddr 25 3 3 3 22 rfl fi_25_3 rfl rfl ?_)
                refine r_cons (s_load (.slice n.tp n.tests.length n.tc) ag_22 rfl (H54.blk_at (i := 2) rfl) rfl rfl ?_)
                refine r_cons (s_move (.int .i64 (t : Int)) rfl rfl ?_)
                refine r_cons (s_indexAddr gA39 (off := oA40) (t : Int) 11 (oA40 + t * 11) (by exact congrArg (fun z_ => Value.slice z_ n.tests.length n.tc) (hp45 (by omega))) rfl el_22 (by omega) rfl rfl ?_)
                refine r_cons (s_loadAgg [.string ((n.tests.getD t default).left.var.v), .string ((n.tests.getD t default).left.attr.v), .int .i64 ((n.tests.getD t default).left.val.kind.v), .int .i64 ((n.tests.getD t default).left.val.n.v), .string ((n.tests.getD t default).left.val.s.v), .int .i64 ((n.tests.getD t default).rel.v), .string ((n.tests.getD t default).right.var.v), .string ((n.tests.getD t default).right.attr.v), .int .i64 ((n.tests.getD t default).right.val.kind.v), .int .i64 ((n.tests.getD t default).right.val.n.v), .string ((n.tests.getD t default).right.val.s.v)] 11 ag_43 rfl (H54.imi_at (i := 1) rfl (by omega)) (by have := elem_size (i := t) (s := 11) (hs47 (by omega)) (by omega); omega) (elem_take condCell_len (hx46 (by omega)) (by omega) default) rfl ?_)
                refine r_cons (s_call [.agg #[.string ((n.tests.getD t default).left.var.v), .string ((n.tests.getD t default).left.attr.v), .int .i64 ((n.tests.getD t default).left.val.kind.v), .int .i64 ((n.tests.getD t default).left.val.n.v), .string ((n.tests.getD t default).left.val.s.v), .int .i64 ((n.tests.getD t default).rel.v), .string ((n.tests.getD t default).right.var.v), .string ((n.tests.getD t default).right.attr.v), .int .i64 ((n.tests.getD t default).right.val.kind.v), .int .i64 ((n.tests.getD t default).right.val.n.v), .string ((n.tests.getD t default).right.val.s.v)], .slice none 0 0] pl_29 rfl rfl (ref07_Cond (n.tests.getD t default) ([] : List Str) (.slice none 0 0) (jv := 0) rfl H54) ?_)
                rintro _ w57 ⟨rfl, H58⟩
                refine r_cons (s_assign (.int .i64 (condE (n.tests.getD t default) ([] : List Str))) rfl rfl ?_)
                refine r_nil ?_
                refine g_seq ?_
                refine g_region ?_
                refine r_cons (s_move (.int .i64 (condE (n.tests.getD t default) ([] : List Str))) rfl rfl ?_)
                by_cases hc59 : condE (n.tests.getD t default) ([] : List Str) = 0
                · skip
                  refine r_cons (s_neq false rfl rfl (ntrue hc59) rfl ?_)
                  refine r_nil ?_
                  refine g_false rfl ?_
                  refine g_skip ?_
                  refine g_inBlock ?_
                  refine g_region ?_
                  refine r_cons (s_move (.int .i64 (t : Int)) rfl rfl ?_)
                  refine r_cons (s_add ((t : Int) + 1) rfl rfl (wi64 (by omega)) rfl ?_)
                  refine r_cons (s_assign (.int .i64 ((t : Int) + 1)) rfl rfl ?_)
                  refine r_nil ?_
                  have H60 : St W w57 (Im 1 (.slice none 0 0) (([] : List Str).length) (([] : List Str).flatMap strCell) :: imi (0 < n.tests.length) gA39 (.cells kA41 eA42 zA43) :: blk bk4 (.cells #[.int .i64 n.kind.v, .string n.var.v, .string n.typ.v, .slice n.tp n.tests.length n.tc, .slice n.kp n.kids.length n.kc] 25 (0, 0)) :: Im 11 (.slice n.tp n.tests.length n.tc) n.tests.length (n.tests.flatMap condCell) :: Im 5 (.slice n.kp n.kids.length n.kc) n.kids.length (n.kids.flatMap nodeCell) :: NodesA n.kids :: F) := ((((((H58.move 5 rfl).move 5 rfl).move 5 rfl).move 5 rfl).move 5 rfl).move 5 rfl)
                  exact nx55 (t + 1) _ _ ⟨(by omega), (fun q hq => (Nat.lt_or_ge q t).elim (ht q) (fun h => by rw [show q = t from by omega]; exact hc59)), H60⟩ (by first | (dsimp only; omega) | omega) ⟨by first | rfl | exact vint (by omega), by first | rfl | exact vint (by omega), by first | rfl | exact vint (by omega), trivial⟩
                · skip
                  refine r_cons (s_neq true rfl rfl (nfalse hc59) rfl ?_)
                  refine r_nil ?_
                  refine g_true rfl ?_
                  refine g_seq ?_
                  refine g_region ?_
                  refine r_cons (s_move (.int .i64 (condE (n.tests.getD t default) ([] : List Str))) rfl rfl ?_)
                  refine r_cons (s_assign (.int .i64 (condE (n.tests.getD t default) ([] : List Str))) rfl rfl ?_)
                  refine r_nil ?_
                  refine g_ret' [.int .i64 (condE (n.tests.getD t default) ([] : List Str))] Try.func41 Try.results41 ⟨rfl, trivial⟩ ?_
                  have hC61 : condsE n.tests [] = condE (n.tests.getD t default) ([] : List Str) := by unfold condsE; rw [if_neg (by omega)]; exact (firstE_at (f := (fun c => condE c [])) ht (by omega) (by omega)).symm
                  have hN62 : ¬ (0 < n.kids.length) := by omega
                  have hN63 : ¬ (16 < n.tests.length) := by omega
                  have hN64 : ((t : Int) < n.tests.length) := by omega
                  have ho65 : ownE n.kind.v n.var.v n.typ.v n.tests n.kids.length = condE (n.tests.getD t default) ([] : List Str) := by unfold ownE; simp [hc7, hN62, hN63, hN64, hb35, hb36, hC61]
                  have H66 : St W w57 F := ((((((H58.drop 0 rfl).drop 0 rfl).drop 0 rfl).drop 0 rfl).drop 0 rfl).drop 0 rfl)
                  exact ⟨vint (nodeE_own ho65 (by omega)), H66⟩
              · skip
                refine r_cons (s_lss false rfl rfl (dfalse hc56) rfl ?_)
                refine r_nil ?_
                refine g_false rfl ?_
                refine g_exit (by rfl) ?_
                refine g_inBlock ?_
                refine g_seq ?_
                refine g_seq ?_
                refine g_region ?_
                have hC67 : condsE n.tests [] = 0 := by unfold condsE; rw [if_neg (by omega)]; exact (firstE_end (f := (fun c => condE c [])) ht (by omega)).symm
                refine r_cons (s_assign (.int .i64 0) rfl rfl ?_)
                refine r_nil ?_
                refine g_block ?_
                have hN68 : ¬ (0 < n.kids.length) := by omega
                have hN69 : ¬ (16 < n.tests.length) := by omega
                have hN70 : ¬ ((t : Int) < n.tests.length) := by omega
                have ho71 : ownE n.kind.v n.var.v n.typ.v n.tests n.kids.length = 0 := by unfold ownE; simp [hc7, hN68, hN69, hN70, hb35, hb36, hC67]
                obtain ⟨pA72, cA73, gA74, oA75, kA76, eA77, zA78, he84, hn79, hp80, hx81, hs82, hml, H83⟩ := Im.open_ H54 (i := 4) rfl
                obtain ⟨rfl, rfl⟩ : n.kp = pA72 ∧ n.kc = cA73 := by injection he84 with a_ b_ c_; exact ⟨a_, c_⟩
                have H85 : St W w53 (imi (0 < n.kids.length) gA74 (.cells kA76 eA77 zA78) :: Im 1 (.slice none 0 0) (([] : List Str).length) (([] : List Str).flatMap strCell) :: imi (0 < n.tests.length) gA39 (.cells kA41 eA42 zA43) :: blk bk4 (.cells #[.int .i64 n.kind.v, .string n.var.v, .string n.typ.v, .slice n.tp n.tests.length n.tc, .slice n.kp n.kids.length n.kc] 25 (0, 0)) :: Im 11 (.slice n.tp n.tests.length n.tc) n.tests.length (n.tests.flatMap condCell) :: Im 5 (.slice n.kp n.kids.length n.kc) n.kids.length (n.kids.flatMap nodeCell) :: NodesA n.kids :: F) := (((((((H83.move 6 rfl).move 6 rfl).move 6 rfl).move 6 rfl).move 6 rfl).move 6 rfl).move 6 rfl)
                refine g_loop_inv (fun (x_ : Nat) => match x_ with | j => [(1, .pointer (some ⟨bk4, 0, none⟩)), (2, .int .i64 0), (5, .int .i64 (j : Int))]) (fun (x_ : Nat) w => match x_ with | j => (j ≤ n.kids.length) ∧ (∀ q, q < j → nodeE (n.kids.getD q default) = 0) ∧ St W w (imi (0 < n.kids.length) gA74 (.cells kA76 eA77 zA78) :: Im 1 (.slice none 0 0) (([] : List Str).length) (([] : List Str).flatMap strCell) :: imi (0 < n.tests.length) gA39 (.cells kA41 eA42 zA43) :: blk bk4 (.cells #[.int .i64 n.kind.v, .string n.var.v, .string n.typ.v, .slice n.tp n.tests.length n.tc, .slice n.kp n.kids.length n.kc] 25 (0, 0)) :: Im 11 (.slice n.tp n.tests.length n.tc) n.tests.length (n.tests.flatMap condCell) :: Im 5 (.slice n.kp n.kids.length n.kc) n.kids.length (n.kids.flatMap nodeCell) :: NodesA n.kids :: F)) (fun (x_ : Nat) => match x_ with | j => n.kids.length - j) (0) ?_ ?_ ?_
                · exact ⟨by first | rfl | exact vint (by omega), by first | rfl | exact vint (by omega), by first | rfl | exact vint (by omega), trivial⟩
                · exact ⟨(by omega), (fun q hq => by omega), H85⟩
                · rintro j ρ86 w87 ⟨hjl, hz, H88⟩ nx89
                  change Ends _ _ (upds ρ86 [(1, .pointer (some ⟨bk4, 0, none⟩)), (2, .int .i64 0), (5, .int .i64 (j : Int))]) w87
                  refine g_seq ?_
                  refine g_seq ?_
                  refine g_region ?_
                  refine r_cons (s_move (.int .i64 (j : Int)) rfl rfl ?_)
                  refine r_cons (s_fieldAddr 25 4 4 4 23 rfl fi_25_4 rfl rfl ?_)
                  refine r_cons (s_load (.slice n.kp n.kids.length n.kc) ag_23 rfl (H88.blk_at (i := 3) rfl) rfl rfl ?_)
                  refine r_cons (s_len n.kids.length rfl ⟨_, un_23⟩ rfl ?_)
                  by_cases hc90 : (j : Int) < (n.kids.length : Int)
                  · skip
                    refine r_cons (s_lss true rfl rfl (dtrue hc90) rfl ?_)
                    refine r_nil ?_
                    refine g_true rfl ?_
                    refine g_skip ?_
                    refine g_seq ?_
                    refine g_block ?_
                    refine g_seq ?_
                    refine g_region ?_
                    refine r_cons (s_fieldAddr 25 4 4 4 23 rfl fi_25_4 rfl rfl ?_)
                    refine r_cons (s_load (.slice n.kp n.kids.length n.kc) ag_23 rfl (H88.blk_at (i := 3) rfl) rfl rfl ?_)
                    refine r_cons (s_move (.int .i64 (j : Int)) rfl rfl ?_)
                    refine r_cons (s_indexAddr gA74 (off := oA75) (j : Int) 5 (oA75 + j * 5) (by exact congrArg (fun z_ => Value.slice z_ n.kids.length n.kc) (hp80 (by omega))) rfl el_23 (by omega) rfl rfl ?_)
                    refine r_cons (s_loadAgg [.int .i64 ((n.kids.getD j default).kind.v), .string ((n.kids.getD j default).var.v), .string ((n.kids.getD j default).typ.v), .slice ((n.kids.getD j default).tp) ((n.kids.getD j default).tests.length) ((n.kids.getD j default).tc), .slice ((n.kids.getD j default).kp) ((n.kids.getD j default).kids.length) ((n.kids.getD j default).kc)] 5 ag_25 rfl (H88.imi_at (i := 0) rfl (by omega)) (by have := elem_size (i := j) (s := 5) (hs82 (by omega)) (by omega); omega) (elem_take nodeCell_len (hx81 (by omega)) (by omega) default) rfl ?_)
                    have H91 := NodesA.at H88 (i := 6) rfl (j := j) (by omega)
                    refine r_cons (s_call [.agg #[.int .i64 ((n.kids.getD j default).kind.v), .string ((n.kids.getD j default).var.v), .string ((n.kids.getD j default).typ.v), .slice ((n.kids.getD j default).tp) ((n.kids.getD j default).tests.length) ((n.kids.getD j default).tc), .slice ((n.kids.getD j default).kp) ((n.kids.getD j default).kids.length) ((n.kids.getD j default).kc)]] pl_41 rfl rfl (ih (n.kids.getD j default) (by have h9 := kid_lt (n := n) (j := j) (by omega); omega) (i := 0) rfl H91) ?_)
                    rintro _ w92 ⟨rfl, H93⟩
                    refine r_cons (s_assign (.int .i64 (nodeE (n.kids.getD j default))) rfl rfl ?_)
                    refine r_nil ?_
                    refine g_seq ?_
                    refine g_region ?_
                    refine r_cons (s_move (.int .i64 (nodeE (n.kids.getD j default))) rfl rfl ?_)
                    by_cases hc94 : nodeE (n.kids.getD j default) = 0
                    · skip
                      refine r_cons (s_neq false rfl rfl (ntrue hc94) rfl ?_)
                      refine r_nil ?_
                      refine g_false rfl ?_
                      refine g_skip ?_
                      refine g_inBlock ?_
                      refine g_region ?_
                      refine r_cons (s_move (.int .i64 (j : Int)) rfl rfl ?_)
                      refine r_cons (s_add ((j : Int) + 1) rfl rfl (wi64 (by omega)) rfl ?_)
                      have hC95 : condsE n.tests [] = 0 := by unfold condsE; rw [if_neg (by omega)]; exact (firstE_end (f := (fun c => condE c [])) ht (by omega)).symm
                      refine r_cons (s_assign (.int .i64 ((j : Int) + 1)) rfl rfl ?_)
                      refine r_nil ?_
                      have H96 : St W w92 (imi (0 < n.kids.length) gA74 (.cells kA76 eA77 zA78) :: Im 1 (.slice none 0 0) (([] : List Str).length) (([] : List Str).flatMap strCell) :: imi (0 < n.tests.length) gA39 (.cells kA41 eA42 zA43) :: blk bk4 (.cells #[.int .i64 n.kind.v, .string n.var.v, .string n.typ.v, .slice n.tp n.tests.length n.tc, .slice n.kp n.kids.length n.kc] 25 (0, 0)) :: Im 11 (.slice n.tp n.tests.length n.tc) n.tests.length (n.tests.flatMap condCell) :: Im 5 (.slice n.kp n.kids.length n.kc) n.kids.length (n.kids.flatMap nodeCell) :: NodesA n.kids :: F) := ((((((((H93.move 7 rfl).move 7 rfl).move 7 rfl).move 7 rfl).move 7 rfl).move 7 rfl).move 7 rfl).drop 7 rfl)
                      exact nx89 (j + 1) _ _ ⟨(by omega), (fun q hq => (Nat.lt_or_ge q j).elim (hz q) (fun h => by rw [show q = j from by omega]; exact hc94)), H96⟩ (by first | (dsimp only; omega) | omega) ⟨by first | rfl | exact vint (by omega), by first | rfl | exact vint (by omega), by first | rfl | exact vint (by omega), trivial⟩
                    · skip
                      refine r_cons (s_neq true rfl rfl (nfalse hc94) rfl ?_)
                      refine r_nil ?_
                      refine g_true rfl ?_
                      refine g_seq ?_
                      refine g_region ?_
                      refine r_cons (s_move (.int .i64 (nodeE (n.kids.getD j default))) rfl rfl ?_)
                      refine r_cons (s_assign (.int .i64 (nodeE (n.kids.getD j default))) rfl rfl ?_)
                      refine r_nil ?_
                      refine g_ret' [.int .i64 (nodeE (n.kids.getD j default))] Try.func41 Try.results41 ⟨rfl, trivial⟩ ?_
                      have H97 : St W w92 F := ((((((((H93.drop 0 rfl).drop 0 rfl).drop 0 rfl).drop 0 rfl).drop 0 rfl).drop 0 rfl).drop 0 rfl).drop 0 rfl)
                      exact ⟨vint ((firstE_at (f := nodeE) hz (by omega) (by omega)).trans (nodeE_kids ho71).symm), H97⟩
                  · skip
                    refine r_cons (s_lss false rfl rfl (dfalse hc90) rfl ?_)
                    refine r_nil ?_
                    refine g_false rfl ?_
                    refine g_exit (by rfl) ?_
                    refine g_seq ?_
                    refine g_region ?_
                    refine r_cons (s_assign (.int .i64 0) rfl rfl ?_)
                    refine r_nil ?_
                    refine g_ret' [.int .i64 0] Try.func41 Try.results41 ⟨rfl, trivial⟩ ?_
                    have H98 : St W w87 F := (((((((H88.drop 0 rfl).drop 0 rfl).drop 0 rfl).drop 0 rfl).drop 0 rfl).drop 0 rfl).drop 0 rfl)
                    exact ⟨vint ((firstE_end (f := nodeE) hz (by omega)).trans (nodeE_kids ho71).symm), H98⟩
  · skip
    refine r_cons (s_eql false rfl rfl (dfalse hc7) rfl ?_)
    refine r_cons (s_assign (.bool false) rfl rfl ?_)
    refine r_nil ?_
    refine g_false rfl ?_
    refine g_seq ?_
    refine g_seq ?_
    refine g_region ?_
    by_cases hc99 : n.kind.v = 2
    · skip
      refine r_cons (s_eql true rfl rfl (dtrue hc99) rfl ?_)
      refine r_cons (s_assign (.bool true) rfl rfl ?_)
      refine r_nil ?_
      refine g_true rfl ?_
      refine g_skip ?_
      refine g_true rfl ?_
      refine g_seq ?_
      refine g_region ?_
      refine r_cons (s_fieldAddr 25 4 4 4 23 rfl fi_25_4 rfl rfl ?_)
      refine r_cons (s_load (.slice n.kp n.kids.length n.kc) ag_23 rfl (H6.blk_at (i := 0) rfl) rfl rfl ?_)
      refine r_cons (s_len n.kids.length rfl ⟨_, un_23⟩ rfl ?_)
      by_cases hc100 : (n.kids.length : Int) < 2
      · skip
        refine r_cons (s_lss true rfl rfl (dtrue hc100) rfl ?_)
        refine r_cons (s_move (.bool true) rfl rfl ?_)
        refine r_cons (r_pass rfl rfl rfl rfl rfl ?_)
        refine r_cons (r_pass rfl rfl rfl rfl rfl ?_)
        refine r_cons (r_pass rfl rfl rfl rfl rfl ?_)
        refine r_cons (s_pick_t (.bool true) rfl rfl rfl ?_)
        refine r_cons (s_move (.bool true) rfl rfl ?_)
        refine r_cons (r_pass rfl rfl rfl rfl rfl ?_)
        refine r_cons (r_pass rfl rfl rfl rfl rfl ?_)
        refine r_cons (r_pass rfl rfl rfl rfl rfl ?_)
        refine r_cons (s_pick_t (.bool true) rfl rfl rfl ?_)
        refine r_cons (s_move (.bool true) rfl rfl ?_)
        refine r_cons (r_pass rfl rfl rfl rfl rfl ?_)
        refine r_cons (r_pass rfl rfl rfl rfl rfl ?_)
        refine r_cons (r_pass rfl rfl rfl rfl rfl ?_)
        refine r_cons (r_pass rfl rfl rfl rfl rfl ?_)
        refine r_cons (s_pick_t (.bool true) rfl rfl rfl ?_)
        refine r_nil ?_
        refine g_true rfl ?_
        refine g_seq ?_
        refine g_region ?_
        refine r_cons (s_assign (.int .i64 71) rfl rfl ?_)
        refine r_nil ?_
        refine g_ret' [.int .i64 71] Try.func41 Try.results41 ⟨rfl, trivial⟩ ?_
        have hN101 : (n.kids.length < 2) := by omega
        have ho102 : ownE n.kind.v n.var.v n.typ.v n.tests n.kids.length = 71 := by unfold ownE; simp [hc7, hc99, hN101]
        have H103 : St W w5 F := ((((H6.drop 0 rfl).drop 0 rfl).drop 0 rfl).drop 0 rfl)
        exact ⟨vint (nodeE_own ho102 (by omega)), H103⟩
      · skip
        refine r_cons (s_lss false rfl rfl (dfalse hc100) rfl ?_)
        refine r_cons (s_move (.bool false) rfl rfl ?_)
        refine r_cons (r_take rfl rfl ?_)
        refine s_fieldAddr 25 1 1 1 9 rfl fi_25_1 rfl rfl ?_
        refine r_cons (r_take rfl rfl ?_)
        refine s_load (.string n.var.v) ag_9 rfl (H6.blk_at (i := 0) rfl) rfl rfl ?_
        refine r_cons (r_take rfl rfl ?_)
        by_cases hc104 : n.var.v = ByteArray.empty
        · skip
          refine s_sneq false rfl rfl (ntrue hc104) rfl ?_
          refine r_cons (s_pick_f (.bool false) rfl rfl rfl ?_)
          refine r_cons (s_move (.bool false) rfl rfl ?_)
          refine r_cons (r_take rfl rfl ?_)
          refine s_fieldAddr 25 2 2 2 9 rfl fi_25_2 rfl rfl ?_
          refine r_cons (r_take rfl rfl ?_)
          refine s_load (.string n.typ.v) ag_9 rfl (H6.blk_at (i := 0) rfl) rfl rfl ?_
          refine r_cons (r_take rfl rfl ?_)
          by_cases hc105 : n.typ.v = ByteArray.empty
          · skip
            refine s_sneq false rfl rfl (ntrue hc105) rfl ?_
            refine r_cons (s_pick_f (.bool false) rfl rfl rfl ?_)
            refine r_cons (s_move (.bool false) rfl rfl ?_)
            refine r_cons (r_take rfl rfl ?_)
            refine s_fieldAddr 25 3 3 3 22 rfl fi_25_3 rfl rfl ?_
            refine r_cons (r_take rfl rfl ?_)
            refine s_load (.slice n.tp n.tests.length n.tc) ag_22 rfl (H6.blk_at (i := 0) rfl) rfl rfl ?_
            refine r_cons (r_take rfl rfl ?_)
            refine s_len n.tests.length rfl ⟨_, un_22⟩ rfl ?_
            refine r_cons (r_take rfl rfl ?_)
            by_cases hc106 : (0 : Int) < (n.tests.length : Int)
            · skip
              refine s_gtr true rfl rfl (dtrue hc106) rfl ?_
              refine r_cons (s_pick_f (.bool true) rfl rfl rfl ?_)
              refine r_nil ?_
              refine g_true rfl ?_
              refine g_seq ?_
              refine g_region ?_
              refine r_cons (s_assign (.int .i64 71) rfl rfl ?_)
              refine r_nil ?_
              refine g_ret' [.int .i64 71] Try.func41 Try.results41 ⟨rfl, trivial⟩ ?_
              have hN107 : ¬ (n.kids.length < 2) := by omega
              have hN108 : (0 < n.tests.length) := by omega
              have ho109 : ownE n.kind.v n.var.v n.typ.v n.tests n.kids.length = 71 := by unfold ownE; simp [hc7, hc99, hN107, hN108, hc104, hc105]
              have H110 : St W w5 F := ((((H6.drop 0 rfl).drop 0 rfl).drop 0 rfl).drop 0 rfl)
              exact ⟨vint (nodeE_own ho109 (by omega)), H110⟩
            · skip
              refine s_gtr false rfl rfl (dfalse hc106) rfl ?_
              refine r_cons (s_pick_f (.bool false) rfl rfl rfl ?_)
              refine r_nil ?_
              refine g_false rfl ?_
              refine g_skip ?_
              refine g_inBlock ?_
              refine g_seq ?_
              refine g_seq ?_
              refine g_region ?_
              refine r_cons (s_assign (.int .i64 0) rfl rfl ?_)
              refine r_nil ?_
              refine g_block ?_
              have hN111 : ¬ (n.kids.length < 2) := by omega
              have hN112 : ¬ (0 < n.tests.length) := by omega
              have ho113 : ownE n.kind.v n.var.v n.typ.v n.tests n.kids.length = 0 := by unfold ownE; simp [hc7, hc99, hN111, hN112, hc104, hc105]
              obtain ⟨pA114, cA115, gA116, oA117, kA118, eA119, zA120, he126, hn121, hp122, hx123, hs124, hml, H125⟩ := Im.open_ H6 (i := 2) rfl
              obtain ⟨rfl, rfl⟩ : n.kp = pA114 ∧ n.kc = cA115 := by injection he126 with a_ b_ c_; exact ⟨a_, c_⟩
              have H127 : St W w5 (imi (0 < n.kids.length) gA116 (.cells kA118 eA119 zA120) :: blk bk4 (.cells #[.int .i64 n.kind.v, .string n.var.v, .string n.typ.v, .slice n.tp n.tests.length n.tc, .slice n.kp n.kids.length n.kc] 25 (0, 0)) :: Im 11 (.slice n.tp n.tests.length n.tc) n.tests.length (n.tests.flatMap condCell) :: Im 5 (.slice n.kp n.kids.length n.kc) n.kids.length (n.kids.flatMap nodeCell) :: NodesA n.kids :: F) := (((((H125.move 4 rfl).move 4 rfl).move 4 rfl).move 4 rfl).move 4 rfl)
              refine g_loop_inv (fun (x_ : Nat) => match x_ with | j => [(1, .pointer (some ⟨bk4, 0, none⟩)), (2, .int .i64 0), (5, .int .i64 (j : Int))]) (fun (x_ : Nat) w => match x_ with | j => (j ≤ n.kids.length) ∧ (∀ q, q < j → nodeE (n.kids.getD q default) = 0) ∧ St W w (imi (0 < n.kids.length) gA116 (.cells kA118 eA119 zA120) :: blk bk4 (.cells #[.int .i64 n.kind.v, .string n.var.v, .string n.typ.v, .slice n.tp n.tests.length n.tc, .slice n.kp n.kids.length n.kc] 25 (0, 0)) :: Im 11 (.slice n.tp n.tests.length n.tc) n.tests.length (n.tests.flatMap condCell) :: Im 5 (.slice n.kp n.kids.length n.kc) n.kids.length (n.kids.flatMap nodeCell) :: NodesA n.kids :: F)) (fun (x_ : Nat) => match x_ with | j => n.kids.length - j) (0) ?_ ?_ ?_
              · exact ⟨by first | rfl | exact vint (by omega), by first | rfl | exact vint (by omega), by first | rfl | exact vint (by omega), trivial⟩
              · exact ⟨(by omega), (fun q hq => by omega), H127⟩
              · rintro j ρ128 w129 ⟨hjl, hz, H130⟩ nx131
                change Ends _ _ (upds ρ128 [(1, .pointer (some ⟨bk4, 0, none⟩)), (2, .int .i64 0), (5, .int .i64 (j : Int))]) w129
                refine g_seq ?_
                refine g_seq ?_
                refine g_region ?_
                refine r_cons (s_move (.int .i64 (j : Int)) rfl rfl ?_)
                refine r_cons (s_fieldAddr 25 4 4 4 23 rfl fi_25_4 rfl rfl ?_)
                refine r_cons (s_load (.slice n.kp n.kids.length n.kc) ag_23 rfl (H130.blk_at (i := 1) rfl) rfl rfl ?_)
                refine r_cons (s_len n.kids.length rfl ⟨_, un_23⟩ rfl ?_)
                by_cases hc132 : (j : Int) < (n.kids.length : Int)
                · skip
                  refine r_cons (s_lss true rfl rfl (dtrue hc132) rfl ?_)
                  refine r_nil ?_
                  refine g_true rfl ?_
                  refine g_skip ?_
                  refine g_seq ?_
                  refine g_block ?_
                  refine g_seq ?_
                  refine g_region ?_
                  refine r_cons (s_fieldAddr 25 4 4 4 23 rfl fi_25_4 rfl rfl ?_)
                  refine r_cons (s_load (.slice n.kp n.kids.length n.kc) ag_23 rfl (H130.blk_at (i := 1) rfl) rfl rfl ?_)
                  refine r_cons (s_move (.int .i64 (j : Int)) rfl rfl ?_)
                  refine r_cons (s_indexAddr gA116 (off := oA117) (j : Int) 5 (oA117 + j * 5) (by exact congrArg (fun z_ => Value.slice z_ n.kids.length n.kc) (hp122 (by omega))) rfl el_23 (by omega) rfl rfl ?_)
                  refine r_cons (s_loadAgg [.int .i64 ((n.kids.getD j default).kind.v), .string ((n.kids.getD j default).var.v), .string ((n.kids.getD j default).typ.v), .slice ((n.kids.getD j default).tp) ((n.kids.getD j default).tests.length) ((n.kids.getD j default).tc), .slice ((n.kids.getD j default).kp) ((n.kids.getD j default).kids.length) ((n.kids.getD j default).kc)] 5 ag_25 rfl (H130.imi_at (i := 0) rfl (by omega)) (by have := elem_size (i := j) (s := 5) (hs124 (by omega)) (by omega); omega) (elem_take nodeCell_len (hx123 (by omega)) (by omega) default) rfl ?_)
                  have H133 := NodesA.at H130 (i := 4) rfl (j := j) (by omega)
                  refine r_cons (s_call [.agg #[.int .i64 ((n.kids.getD j default).kind.v), .string ((n.kids.getD j default).var.v), .string ((n.kids.getD j default).typ.v), .slice ((n.kids.getD j default).tp) ((n.kids.getD j default).tests.length) ((n.kids.getD j default).tc), .slice ((n.kids.getD j default).kp) ((n.kids.getD j default).kids.length) ((n.kids.getD j default).kc)]] pl_41 rfl rfl (ih (n.kids.getD j default) (by have h9 := kid_lt (n := n) (j := j) (by omega); omega) (i := 0) rfl H133) ?_)
                  rintro _ w134 ⟨rfl, H135⟩
                  refine r_cons (s_assign (.int .i64 (nodeE (n.kids.getD j default))) rfl rfl ?_)
                  refine r_nil ?_
                  refine g_seq ?_
                  refine g_region ?_
                  refine r_cons (s_move (.int .i64 (nodeE (n.kids.getD j default))) rfl rfl ?_)
                  by_cases hc136 : nodeE (n.kids.getD j default) = 0
                  · skip
                    refine r_cons (s_neq false rfl rfl (ntrue hc136) rfl ?_)
                    refine r_nil ?_
                    refine g_false rfl ?_
                    refine g_skip ?_
                    refine g_inBlock ?_
                    refine g_region ?_
                    refine r_cons (s_move (.int .i64 (j : Int)) rfl rfl ?_)
                    refine r_cons (s_add ((j : Int) + 1) rfl rfl (wi64 (by omega)) rfl ?_)
                    refine r_cons (s_assign (.int .i64 ((j : Int) + 1)) rfl rfl ?_)
                    refine r_nil ?_
                    have H137 : St W w134 (imi (0 < n.kids.length) gA116 (.cells kA118 eA119 zA120) :: blk bk4 (.cells #[.int .i64 n.kind.v, .string n.var.v, .string n.typ.v, .slice n.tp n.tests.length n.tc, .slice n.kp n.kids.length n.kc] 25 (0, 0)) :: Im 11 (.slice n.tp n.tests.length n.tc) n.tests.length (n.tests.flatMap condCell) :: Im 5 (.slice n.kp n.kids.length n.kc) n.kids.length (n.kids.flatMap nodeCell) :: NodesA n.kids :: F) := ((((((H135.move 5 rfl).move 5 rfl).move 5 rfl).move 5 rfl).move 5 rfl).drop 5 rfl)
                    exact nx131 (j + 1) _ _ ⟨(by omega), (fun q hq => (Nat.lt_or_ge q j).elim (hz q) (fun h => by rw [show q = j from by omega]; exact hc136)), H137⟩ (by first | (dsimp only; omega) | omega) ⟨by first | rfl | exact vint (by omega), by first | rfl | exact vint (by omega), by first | rfl | exact vint (by omega), trivial⟩
                  · skip
                    refine r_cons (s_neq true rfl rfl (nfalse hc136) rfl ?_)
                    refine r_nil ?_
                    refine g_true rfl ?_
                    refine g_seq ?_
                    refine g_region ?_
                    refine r_cons (s_move (.int .i64 (nodeE (n.kids.getD j default))) rfl rfl ?_)
                    refine r_cons (s_assign (.int .i64 (nodeE (n.kids.getD j default))) rfl rfl ?_)
                    refine r_nil ?_
                    refine g_ret' [.int .i64 (nodeE (n.kids.getD j default))] Try.func41 Try.results41 ⟨rfl, trivial⟩ ?_
                    have H138 : St W w134 F := ((((((H135.drop 0 rfl).drop 0 rfl).drop 0 rfl).drop 0 rfl).drop 0 rfl).drop 0 rfl)
                    exact ⟨vint ((firstE_at (f := nodeE) hz (by omega) (by omega)).trans (nodeE_kids ho113).symm), H138⟩
                · skip
                  refine r_cons (s_lss false rfl rfl (dfalse hc132) rfl ?_)
                  refine r_nil ?_
                  refine g_false rfl ?_
                  refine g_exit (by rfl) ?_
                  refine g_seq ?_
                  refine g_region ?_
                  refine r_cons (s_assign (.int .i64 0) rfl rfl ?_)
                  refine r_nil ?_
                  refine g_ret' [.int .i64 0] Try.func41 Try.results41 ⟨rfl, trivial⟩ ?_
                  have H139 : St W w129 F := (((((H130.drop 0 rfl).drop 0 rfl).drop 0 rfl).drop 0 rfl).drop 0 rfl)
                  exact ⟨vint ((firstE_end (f := nodeE) hz (by omega)).trans (nodeE_kids ho113).symm), H139⟩
          · skip
            refine s_sneq true rfl rfl (nfalse hc105) rfl ?_
            refine r_cons (s_pick_f (.bool true) rfl rfl rfl ?_)
            refine r_cons (s_move (.bool true) rfl rfl ?_)
            refine r_cons (r_pass rfl rfl rfl rfl rfl ?_)
            refine r_cons (r_pass rfl rfl rfl rfl rfl ?_)
            refine r_cons (r_pass rfl rfl rfl rfl rfl ?_)
            refine r_cons (r_pass rfl rfl rfl rfl rfl ?_)
            refine r_cons (s_pick_t (.bool true) rfl rfl rfl ?_)
            refine r_nil ?_
            refine g_true rfl ?_
            refine g_seq ?_
            refine g_region ?_
            refine r_cons (s_assign (.int .i64 71) rfl rfl ?_)
            refine r_nil ?_
            refine g_ret' [.int .i64 71] Try.func41 Try.results41 ⟨rfl, trivial⟩ ?_
            have hN140 : ¬ (n.kids.length < 2) := by omega
            have ho141 : ownE n.kind.v n.var.v n.typ.v n.tests n.kids.length = 71 := by unfold ownE; simp [hc7, hc99, hN140, hc104, hc105]
            have H142 : St W w5 F := ((((H6.drop 0 rfl).drop 0 rfl).drop 0 rfl).drop 0 rfl)
            exact ⟨vint (nodeE_own ho141 (by omega)), H142⟩
        · skip
          refine s_sneq true rfl rfl (nfalse hc104) rfl ?_
          refine r_cons (s_pick_f (.bool true) rfl rfl rfl ?_)
          refine r_cons (s_move (.bool true) rfl rfl ?_)
          refine r_cons (r_pass rfl rfl rfl rfl rfl ?_)
          refine r_cons (r_pass rfl rfl rfl rfl rfl ?_)
          refine r_cons (r_pass rfl rfl rfl rfl rfl ?_)
          refine r_cons (s_pick_t (.bool true) rfl rfl rfl ?_)
          refine r_cons (s_move (.bool true) rfl rfl ?_)
          refine r_cons (r_pass rfl rfl rfl rfl rfl ?_)
          refine r_cons (r_pass rfl rfl rfl rfl rfl ?_)
          refine r_cons (r_pass rfl rfl rfl rfl rfl ?_)
          refine r_cons (r_pass rfl rfl rfl rfl rfl ?_)
          refine r_cons (s_pick_t (.bool true) rfl rfl rfl ?_)
          refine r_nil ?_
          refine g_true rfl ?_
          refine g_seq ?_
          refine g_region ?_
          refine r_cons (s_assign (.int .i64 71) rfl rfl ?_)
          refine r_nil ?_
          refine g_ret' [.int .i64 71] Try.func41 Try.results41 ⟨rfl, trivial⟩ ?_
          have hN143 : ¬ (n.kids.length < 2) := by omega
          have ho144 : ownE n.kind.v n.var.v n.typ.v n.tests n.kids.length = 71 := by unfold ownE; simp [hc7, hc99, hN143, hc104]
          have H145 : St W w5 F := ((((H6.drop 0 rfl).drop 0 rfl).drop 0 rfl).drop 0 rfl)
          exact ⟨vint (nodeE_own ho144 (by omega)), H145⟩
    · skip
      refine r_cons (s_eql false rfl rfl (dfalse hc99) rfl ?_)
      refine r_cons (s_assign (.bool false) rfl rfl ?_)
      refine r_nil ?_
      refine g_false rfl ?_
      refine g_seq ?_
      refine g_region ?_
      by_cases hc146 : n.kind.v = 3
      · skip
        refine r_cons (s_eql true rfl rfl (dtrue hc146) rfl ?_)
        refine r_cons (s_assign (.bool true) rfl rfl ?_)
        refine r_nil ?_
        refine g_true rfl ?_
        refine g_skip ?_
        refine g_true rfl ?_
        refine g_seq ?_
        refine g_region ?_
        refine r_cons (s_fieldAddr 25 4 4 4 23 rfl fi_25_4 rfl rfl ?_)
        refine r_cons (s_load (.slice n.kp n.kids.length n.kc) ag_23 rfl (H6.blk_at (i := 0) rfl) rfl rfl ?_)
        refine r_cons (s_len n.kids.length rfl ⟨_, un_23⟩ rfl ?_)
        by_cases hc147 : (n.kids.length : Int) < 2
        · skip
          refine r_cons (s_lss true rfl rfl (dtrue hc147) rfl ?_)
          refine r_cons (s_move (.bool true) rfl rfl ?_)
          refine r_cons (r_pass rfl rfl rfl rfl rfl ?_)
          refine r_cons (r_pass rfl rfl rfl rfl rfl ?_)
          refine r_cons (r_pass rfl rfl rfl rfl rfl ?_)
          refine r_cons (s_pick_t (.bool true) rfl rfl rfl ?_)
          refine r_cons (s_move (.bool true) rfl rfl ?_)
          refine r_cons (r_pass rfl rfl rfl rfl rfl ?_)
          refine r_cons (r_pass rfl rfl rfl rfl rfl ?_)
          refine r_cons (r_pass rfl rfl rfl rfl rfl ?_)
          refine r_cons (s_pick_t (.bool true) rfl rfl rfl ?_)
          refine r_cons (s_move (.bool true) rfl rfl ?_)
          refine r_cons (r_pass rfl rfl rfl rfl rfl ?_)
          refine r_cons (r_pass rfl rfl rfl rfl rfl ?_)
          refine r_cons (r_pass rfl rfl rfl rfl rfl ?_)
          refine r_cons (r_pass rfl rfl rfl rfl rfl ?_)
          refine r_cons (s_pick_t (.bool true) rfl rfl rfl ?_)
          refine r_nil ?_
          refine g_true rfl ?_
          refine g_seq ?_
          refine g_region ?_
          refine r_cons (s_assign (.int .i64 71) rfl rfl ?_)
          refine r_nil ?_
          refine g_ret' [.int .i64 71] Try.func41 Try.results41 ⟨rfl, trivial⟩ ?_
          have hN148 : (n.kids.length < 2) := by omega
          have ho149 : ownE n.kind.v n.var.v n.typ.v n.tests n.kids.length = 71 := by unfold ownE; simp [hc7, hc99, hc146, hN148]
          have H150 : St W w5 F := ((((H6.drop 0 rfl).drop 0 rfl).drop 0 rfl).drop 0 rfl)
          exact ⟨vint (nodeE_own ho149 (by omega)), H150⟩
        · skip
          refine r_cons (s_lss false rfl rfl (dfalse hc147) rfl ?_)
          refine r_cons (s_move (.bool false) rfl rfl ?_)
          refine r_cons (r_take rfl rfl ?_)
          refine s_fieldAddr 25 1 1 1 9 rfl fi_25_1 rfl rfl ?_
          refine r_cons (r_take rfl rfl ?_)
          refine s_load (.string n.var.v) ag_9 rfl (H6.blk_at (i := 0) rfl) rfl rfl ?_
          refine r_cons (r_take rfl rfl ?_)
          by_cases hc151 : n.var.v = ByteArray.empty
          · skip
            refine s_sneq false rfl rfl (ntrue hc151) rfl ?_
            refine r_cons (s_pick_f (.bool false) rfl rfl rfl ?_)
            refine r_cons (s_move (.bool false) rfl rfl ?_)
            refine r_cons (r_take rfl rfl ?_)
            refine s_fieldAddr 25 2 2 2 9 rfl fi_25_2 rfl rfl ?_
            refine r_cons (r_take rfl rfl ?_)
            refine s_load (.string n.typ.v) ag_9 rfl (H6.blk_at (i := 0) rfl) rfl rfl ?_
            refine r_cons (r_take rfl rfl ?_)
            by_cases hc152 : n.typ.v = ByteArray.empty
            · skip
              refine s_sneq false rfl rfl (ntrue hc152) rfl ?_
              refine r_cons (s_pick_f (.bool false) rfl rfl rfl ?_)
              refine r_cons (s_move (.bool false) rfl rfl ?_)
              refine r_cons (r_take rfl rfl ?_)
              refine s_fieldAddr 25 3 3 3 22 rfl fi_25_3 rfl rfl ?_
              refine r_cons (r_take rfl rfl ?_)
              refine s_load (.slice n.tp n.tests.length n.tc) ag_22 rfl (H6.blk_at (i := 0) rfl) rfl rfl ?_
              refine r_cons (r_take rfl rfl ?_)
              refine s_len n.tests.length rfl ⟨_, un_22⟩ rfl ?_
              refine r_cons (r_take rfl rfl ?_)
              by_cases hc153 : (0 : Int) < (n.tests.length : Int)
              · skip
                refine s_gtr true rfl rfl (dtrue hc153) rfl ?_
                refine r_cons (s_pick_f (.bool true) rfl rfl rfl ?_)
                refine r_nil ?_
                refine g_true rfl ?_
                refine g_seq ?_
                refine g_region ?_
                refine r_cons (s_assign (.int .i64 71) rfl rfl ?_)
                refine r_nil ?_
                refine g_ret' [.int .i64 71] Try.func41 Try.results41 ⟨rfl, trivial⟩ ?_
                have hN154 : ¬ (n.kids.length < 2) := by omega
                have hN155 : (0 < n.tests.length) := by omega
                have ho156 : ownE n.kind.v n.var.v n.typ.v n.tests n.kids.length = 71 := by unfold ownE; simp [hc7, hc99, hc146, hN154, hN155, hc151, hc152]
                have H157 : St W w5 F := ((((H6.drop 0 rfl).drop 0 rfl).drop 0 rfl).drop 0 rfl)
                exact ⟨vint (nodeE_own ho156 (by omega)), H157⟩
              · skip
                refine s_gtr false rfl rfl (dfalse hc153) rfl ?_
                refine r_cons (s_pick_f (.bool false) rfl rfl rfl ?_)
                refine r_nil ?_
                refine g_false rfl ?_
                refine g_skip ?_
                refine g_inBlock ?_
                refine g_seq ?_
                refine g_seq ?_
                refine g_region ?_
                refine r_cons (s_assign (.int .i64 0) rfl rfl ?_)
                refine r_nil ?_
                refine g_block ?_
                have hN158 : ¬ (n.kids.length < 2) := by omega
                have hN159 : ¬ (0 < n.tests.length) := by omega
                have ho160 : ownE n.kind.v n.var.v n.typ.v n.tests n.kids.length = 0 := by unfold ownE; simp [hc7, hc99, hc146, hN158, hN159, hc151, hc152]
                obtain ⟨pA161, cA162, gA163, oA164, kA165, eA166, zA167, he173, hn168, hp169, hx170, hs171, hml, H172⟩ := Im.open_ H6 (i := 2) rfl
                obtain ⟨rfl, rfl⟩ : n.kp = pA161 ∧ n.kc = cA162 := by injection he173 with a_ b_ c_; exact ⟨a_, c_⟩
                have H174 : St W w5 (imi (0 < n.kids.length) gA163 (.cells kA165 eA166 zA167) :: blk bk4 (.cells #[.int .i64 n.kind.v, .string n.var.v, .string n.typ.v, .slice n.tp n.tests.length n.tc, .slice n.kp n.kids.length n.kc] 25 (0, 0)) :: Im 11 (.slice n.tp n.tests.length n.tc) n.tests.length (n.tests.flatMap condCell) :: Im 5 (.slice n.kp n.kids.length n.kc) n.kids.length (n.kids.flatMap nodeCell) :: NodesA n.kids :: F) := (((((H172.move 4 rfl).move 4 rfl).move 4 rfl).move 4 rfl).move 4 rfl)
                refine g_loop_inv (fun (x_ : Nat) => match x_ with | j => [(1, .pointer (some ⟨bk4, 0, none⟩)), (2, .int .i64 0), (5, .int .i64 (j : Int))]) (fun (x_ : Nat) w => match x_ with | j => (j ≤ n.kids.length) ∧ (∀ q, q < j → nodeE (n.kids.getD q default) = 0) ∧ St W w (imi (0 < n.kids.length) gA163 (.cells kA165 eA166 zA167) :: blk bk4 (.cells #[.int .i64 n.kind.v, .string n.var.v, .string n.typ.v, .slice n.tp n.tests.length n.tc, .slice n.kp n.kids.length n.kc] 25 (0, 0)) :: Im 11 (.slice n.tp n.tests.length n.tc) n.tests.length (n.tests.flatMap condCell) :: Im 5 (.slice n.kp n.kids.length n.kc) n.kids.length (n.kids.flatMap nodeCell) :: NodesA n.kids :: F)) (fun (x_ : Nat) => match x_ with | j => n.kids.length - j) (0) ?_ ?_ ?_
                · exact ⟨by first | rfl | exact vint (by omega), by first | rfl | exact vint (by omega), by first | rfl | exact vint (by omega), trivial⟩
                · exact ⟨(by omega), (fun q hq => by omega), H174⟩
                · rintro j ρ175 w176 ⟨hjl, hz, H177⟩ nx178
                  change Ends _ _ (upds ρ175 [(1, .pointer (some ⟨bk4, 0, none⟩)), (2, .int .i64 0), (5, .int .i64 (j : Int))]) w176
                  refine g_seq ?_
                  refine g_seq ?_
                  refine g_region ?_
                  refine r_cons (s_move (.int .i64 (j : Int)) rfl rfl ?_)
                  refine r_cons (s_fieldAddr 25 4 4 4 23 rfl fi_25_4 rfl rfl ?_)
                  refine r_cons (s_load (.slice n.kp n.kids.length n.kc) ag_23 rfl (H177.blk_at (i := 1) rfl) rfl rfl ?_)
                  refine r_cons (s_len n.kids.length rfl ⟨_, un_23⟩ rfl ?_)
                  by_cases hc179 : (j : Int) < (n.kids.length : Int)
                  · skip
                    refine r_cons (s_lss true rfl rfl (dtrue hc179) rfl ?_)
                    refine r_nil ?_
                    refine g_true rfl ?_
                    refine g_skip ?_
                    refine g_seq ?_
                    refine g_block ?_
                    refine g_seq ?_
                    refine g_region ?_
                    refine r_cons (s_fieldAddr 25 4 4 4 23 rfl fi_25_4 rfl rfl ?_)
                    refine r_cons (s_load (.slice n.kp n.kids.length n.kc) ag_23 rfl (H177.blk_at (i := 1) rfl) rfl rfl ?_)
                    refine r_cons (s_move (.int .i64 (j : Int)) rfl rfl ?_)
                    refine r_cons (s_indexAddr gA163 (off := oA164) (j : Int) 5 (oA164 + j * 5) (by exact congrArg (fun z_ => Value.slice z_ n.kids.length n.kc) (hp169 (by omega))) rfl el_23 (by omega) rfl rfl ?_)
                    refine r_cons (s_loadAgg [.int .i64 ((n.kids.getD j default).kind.v), .string ((n.kids.getD j default).var.v), .string ((n.kids.getD j default).typ.v), .slice ((n.kids.getD j default).tp) ((n.kids.getD j default).tests.length) ((n.kids.getD j default).tc), .slice ((n.kids.getD j default).kp) ((n.kids.getD j default).kids.length) ((n.kids.getD j default).kc)] 5 ag_25 rfl (H177.imi_at (i := 0) rfl (by omega)) (by have := elem_size (i := j) (s := 5) (hs171 (by omega)) (by omega); omega) (elem_take nodeCell_len (hx170 (by omega)) (by omega) default) rfl ?_)
                    have H180 := NodesA.at H177 (i := 4) rfl (j := j) (by omega)
                    refine r_cons (s_call [.agg #[.int .i64 ((n.kids.getD j default).kind.v), .string ((n.kids.getD j default).var.v), .string ((n.kids.getD j default).typ.v), .slice ((n.kids.getD j default).tp) ((n.kids.getD j default).tests.length) ((n.kids.getD j default).tc), .slice ((n.kids.getD j default).kp) ((n.kids.getD j default).kids.length) ((n.kids.getD j default).kc)]] pl_41 rfl rfl (ih (n.kids.getD j default) (by have h9 := kid_lt (n := n) (j := j) (by omega); omega) (i := 0) rfl H180) ?_)
                    rintro _ w181 ⟨rfl, H182⟩
                    refine r_cons (s_assign (.int .i64 (nodeE (n.kids.getD j default))) rfl rfl ?_)
                    refine r_nil ?_
                    refine g_seq ?_
                    refine g_region ?_
                    refine r_cons (s_move (.int .i64 (nodeE (n.kids.getD j default))) rfl rfl ?_)
                    by_cases hc183 : nodeE (n.kids.getD j default) = 0
                    · skip
                      refine r_cons (s_neq false rfl rfl (ntrue hc183) rfl ?_)
                      refine r_nil ?_
                      refine g_false rfl ?_
                      refine g_skip ?_
                      refine g_inBlock ?_
                      refine g_region ?_
                      refine r_cons (s_move (.int .i64 (j : Int)) rfl rfl ?_)
                      refine r_cons (s_add ((j : Int) + 1) rfl rfl (wi64 (by omega)) rfl ?_)
                      refine r_cons (s_assign (.int .i64 ((j : Int) + 1)) rfl rfl ?_)
                      refine r_nil ?_
                      have H184 : St W w181 (imi (0 < n.kids.length) gA163 (.cells kA165 eA166 zA167) :: blk bk4 (.cells #[.int .i64 n.kind.v, .string n.var.v, .string n.typ.v, .slice n.tp n.tests.length n.tc, .slice n.kp n.kids.length n.kc] 25 (0, 0)) :: Im 11 (.slice n.tp n.tests.length n.tc) n.tests.length (n.tests.flatMap condCell) :: Im 5 (.slice n.kp n.kids.length n.kc) n.kids.length (n.kids.flatMap nodeCell) :: NodesA n.kids :: F) := ((((((H182.move 5 rfl).move 5 rfl).move 5 rfl).move 5 rfl).move 5 rfl).drop 5 rfl)
                      exact nx178 (j + 1) _ _ ⟨(by omega), (fun q hq => (Nat.lt_or_ge q j).elim (hz q) (fun h => by rw [show q = j from by omega]; exact hc183)), H184⟩ (by first | (dsimp only; omega) | omega) ⟨by first | rfl | exact vint (by omega), by first | rfl | exact vint (by omega), by first | rfl | exact vint (by omega), trivial⟩
                    · skip
                      refine r_cons (s_neq true rfl rfl (nfalse hc183) rfl ?_)
                      refine r_nil ?_
                      refine g_true rfl ?_
                      refine g_seq ?_
                      refine g_region ?_
                      refine r_cons (s_move (.int .i64 (nodeE (n.kids.getD j default))) rfl rfl ?_)
                      refine r_cons (s_assign (.int .i64 (nodeE (n.kids.getD j default))) rfl rfl ?_)
                      refine r_nil ?_
                      refine g_ret' [.int .i64 (nodeE (n.kids.getD j default))] Try.func41 Try.results41 ⟨rfl, trivial⟩ ?_
                      have H185 : St W w181 F := ((((((H182.drop 0 rfl).drop 0 rfl).drop 0 rfl).drop 0 rfl).drop 0 rfl).drop 0 rfl)
                      exact ⟨vint ((firstE_at (f := nodeE) hz (by omega) (by omega)).trans (nodeE_kids ho160).symm), H185⟩
                  · skip
                    refine r_cons (s_lss false rfl rfl (dfalse hc179) rfl ?_)
                    refine r_nil ?_
                    refine g_false rfl ?_
                    refine g_exit (by rfl) ?_
                    refine g_seq ?_
                    refine g_region ?_
                    refine r_cons (s_assign (.int .i64 0) rfl rfl ?_)
                    refine r_nil ?_
                    refine g_ret' [.int .i64 0] Try.func41 Try.results41 ⟨rfl, trivial⟩ ?_
                    have H186 : St W w176 F := (((((H177.drop 0 rfl).drop 0 rfl).drop 0 rfl).drop 0 rfl).drop 0 rfl)
                    exact ⟨vint ((firstE_end (f := nodeE) hz (by omega)).trans (nodeE_kids ho160).symm), H186⟩
            · skip
              refine s_sneq true rfl rfl (nfalse hc152) rfl ?_
              refine r_cons (s_pick_f (.bool true) rfl rfl rfl ?_)
              refine r_cons (s_move (.bool true) rfl rfl ?_)
              refine r_cons (r_pass rfl rfl rfl rfl rfl ?_)
              refine r_cons (r_pass rfl rfl rfl rfl rfl ?_)
              refine r_cons (r_pass rfl rfl rfl rfl rfl ?_)
              refine r_cons (r_pass rfl rfl rfl rfl rfl ?_)
              refine r_cons (s_pick_t (.bool true) rfl rfl rfl ?_)
              refine r_nil ?_
              refine g_true rfl ?_
              refine g_seq ?_
              refine g_region ?_
              refine r_cons (s_assign (.int .i64 71) rfl rfl ?_)
              refine r_nil ?_
              refine g_ret' [.int .i64 71] Try.func41 Try.results41 ⟨rfl, trivial⟩ ?_
              have hN187 : ¬ (n.kids.length < 2) := by omega
              have ho188 : ownE n.kind.v n.var.v n.typ.v n.tests n.kids.length = 71 := by unfold ownE; simp [hc7, hc99, hc146, hN187, hc151, hc152]
              have H189 : St W w5 F := ((((H6.drop 0 rfl).drop 0 rfl).drop 0 rfl).drop 0 rfl)
              exact ⟨vint (nodeE_own ho188 (by omega)), H189⟩
          · skip
            refine s_sneq true rfl rfl (nfalse hc151) rfl ?_
            refine r_cons (s_pick_f (.bool true) rfl rfl rfl ?_)
            refine r_cons (s_move (.bool true) rfl rfl ?_)
            refine r_cons (r_pass rfl rfl rfl rfl rfl ?_)
            refine r_cons (r_pass rfl rfl rfl rfl rfl ?_)
            refine r_cons (r_pass rfl rfl rfl rfl rfl ?_)
            refine r_cons (s_pick_t (.bool true) rfl rfl rfl ?_)
            refine r_cons (s_move (.bool true) rfl rfl ?_)
            refine r_cons (r_pass rfl rfl rfl rfl rfl ?_)
            refine r_cons (r_pass rfl rfl rfl rfl rfl ?_)
            refine r_cons (r_pass rfl rfl rfl rfl rfl ?_)
            refine r_cons (r_pass rfl rfl rfl rfl rfl ?_)
            refine r_cons (s_pick_t (.bool true) rfl rfl rfl ?_)
            refine r_nil ?_
            refine g_true rfl ?_
            refine g_seq ?_
            refine g_region ?_
            refine r_cons (s_assign (.int .i64 71) rfl rfl ?_)
            refine r_nil ?_
            refine g_ret' [.int .i64 71] Try.func41 Try.results41 ⟨rfl, trivial⟩ ?_
            have hN190 : ¬ (n.kids.length < 2) := by omega
            have ho191 : ownE n.kind.v n.var.v n.typ.v n.tests n.kids.length = 71 := by unfold ownE; simp [hc7, hc99, hc146, hN190, hc151]
            have H192 : St W w5 F := ((((H6.drop 0 rfl).drop 0 rfl).drop 0 rfl).drop 0 rfl)
            exact ⟨vint (nodeE_own ho191 (by omega)), H192⟩
      · skip
        refine r_cons (s_eql false rfl rfl (dfalse hc146) rfl ?_)
        refine r_cons (s_assign (.bool false) rfl rfl ?_)
        refine r_nil ?_
        refine g_false rfl ?_
        refine g_region ?_
        by_cases hc193 : n.kind.v = 4
        · skip
          refine r_cons (s_eql true rfl rfl (dtrue hc193) rfl ?_)
          refine r_cons (s_assign (.bool true) rfl rfl ?_)
          refine r_nil ?_
          refine g_true rfl ?_
          refine g_seq ?_
          refine g_region ?_
          refine r_cons (s_fieldAddr 25 4 4 4 23 rfl fi_25_4 rfl rfl ?_)
          refine r_cons (s_load (.slice n.kp n.kids.length n.kc) ag_23 rfl (H6.blk_at (i := 0) rfl) rfl rfl ?_)
          refine r_cons (s_len n.kids.length rfl ⟨_, un_23⟩ rfl ?_)
          by_cases hc194 : (n.kids.length : Int) < 2
          · skip
            refine r_cons (s_lss true rfl rfl (dtrue hc194) rfl ?_)
            refine r_cons (s_move (.bool true) rfl rfl ?_)
            refine r_cons (r_pass rfl rfl rfl rfl rfl ?_)
            refine r_cons (r_pass rfl rfl rfl rfl rfl ?_)
            refine r_cons (r_pass rfl rfl rfl rfl rfl ?_)
            refine r_cons (s_pick_t (.bool true) rfl rfl rfl ?_)
            refine r_cons (s_move (.bool true) rfl rfl ?_)
            refine r_cons (r_pass rfl rfl rfl rfl rfl ?_)
            refine r_cons (r_pass rfl rfl rfl rfl rfl ?_)
            refine r_cons (r_pass rfl rfl rfl rfl rfl ?_)
            refine r_cons (s_pick_t (.bool true) rfl rfl rfl ?_)
            refine r_cons (s_move (.bool true) rfl rfl ?_)
            refine r_cons (r_pass rfl rfl rfl rfl rfl ?_)
            refine r_cons (r_pass rfl rfl rfl rfl rfl ?_)
            refine r_cons (r_pass rfl rfl rfl rfl rfl ?_)
            refine r_cons (r_pass rfl rfl rfl rfl rfl ?_)
            refine r_cons (s_pick_t (.bool true) rfl rfl rfl ?_)
            refine r_nil ?_
            refine g_true rfl ?_
            refine g_seq ?_
            refine g_region ?_
            refine r_cons (s_assign (.int .i64 71) rfl rfl ?_)
            refine r_nil ?_
            refine g_ret' [.int .i64 71] Try.func41 Try.results41 ⟨rfl, trivial⟩ ?_
            have hN195 : (n.kids.length < 2) := by omega
            have ho196 : ownE n.kind.v n.var.v n.typ.v n.tests n.kids.length = 71 := by unfold ownE; simp [hc7, hc99, hc146, hc193, hN195]
            have H197 : St W w5 F := ((((H6.drop 0 rfl).drop 0 rfl).drop 0 rfl).drop 0 rfl)
            exact ⟨vint (nodeE_own ho196 (by omega)), H197⟩
          · skip
            refine r_cons (s_lss false rfl rfl (dfalse hc194) rfl ?_)
            refine r_cons (s_move (.bool false) rfl rfl ?_)
            refine r_cons (r_take rfl rfl ?_)
            refine s_fieldAddr 25 1 1 1 9 rfl fi_25_1 rfl rfl ?_
            refine r_cons (r_take rfl rfl ?_)
            refine s_load (.string n.var.v) ag_9 rfl (H6.blk_at (i := 0) rfl) rfl rfl ?_
            refine r_cons (r_take rfl rfl ?_)
            by_cases hc198 : n.var.v = ByteArray.empty
            · skip
              refine s_sneq false rfl rfl (ntrue hc198) rfl ?_
              refine r_cons (s_pick_f (.bool false) rfl rfl rfl ?_)
              refine r_cons (s_move (.bool false) rfl rfl ?_)
              refine r_cons (r_take rfl rfl ?_)
              refine s_fieldAddr 25 2 2 2 9 rfl fi_25_2 rfl rfl ?_
              refine r_cons (r_take rfl rfl ?_)
              refine s_load (.string n.typ.v) ag_9 rfl (H6.blk_at (i := 0) rfl) rfl rfl ?_
              refine r_cons (r_take rfl rfl ?_)
              by_cases hc199 : n.typ.v = ByteArray.empty
              · skip
                refine s_sneq false rfl rfl (ntrue hc199) rfl ?_
                refine r_cons (s_pick_f (.bool false) rfl rfl rfl ?_)
                refine r_cons (s_move (.bool false) rfl rfl ?_)
                refine r_cons (r_take rfl rfl ?_)
                refine s_fieldAddr 25 3 3 3 22 rfl fi_25_3 rfl rfl ?_
                refine r_cons (r_take rfl rfl ?_)
                refine s_load (.slice n.tp n.tests.length n.tc) ag_22 rfl (H6.blk_at (i := 0) rfl) rfl rfl ?_
                refine r_cons (r_take rfl rfl ?_)
                refine s_len n.tests.length rfl ⟨_, un_22⟩ rfl ?_
                refine r_cons (r_take rfl rfl ?_)
                by_cases hc200 : (0 : Int) < (n.tests.length : Int)
                · skip
                  refine s_gtr true rfl rfl (dtrue hc200) rfl ?_
                  refine r_cons (s_pick_f (.bool true) rfl rfl rfl ?_)
                  refine r_nil ?_
                  refine g_true rfl ?_
                  refine g_seq ?_
                  refine g_region ?_
                  refine r_cons (s_assign (.int .i64 71) rfl rfl ?_)
                  refine r_nil ?_
                  refine g_ret' [.int .i64 71] Try.func41 Try.results41 ⟨rfl, trivial⟩ ?_
                  have hN201 : ¬ (n.kids.length < 2) := by omega
                  have hN202 : (0 < n.tests.length) := by omega
                  have ho203 : ownE n.kind.v n.var.v n.typ.v n.tests n.kids.length = 71 := by unfold ownE; simp [hc7, hc99, hc146, hc193, hN201, hN202, hc198, hc199]
                  have H204 : St W w5 F := ((((H6.drop 0 rfl).drop 0 rfl).drop 0 rfl).drop 0 rfl)
                  exact ⟨vint (nodeE_own ho203 (by omega)), H204⟩
                · skip
                  refine s_gtr false rfl rfl (dfalse hc200) rfl ?_
                  refine r_cons (s_pick_f (.bool false) rfl rfl rfl ?_)
                  refine r_nil ?_
                  refine g_false rfl ?_
                  refine g_skip ?_
                  refine g_inBlock ?_
                  refine g_seq ?_
                  refine g_seq ?_
                  refine g_region ?_
                  refine r_cons (s_assign (.int .i64 0) rfl rfl ?_)
                  refine r_nil ?_
                  refine g_block ?_
                  have hN205 : ¬ (n.kids.length < 2) := by omega
                  have hN206 : ¬ (0 < n.tests.length) := by omega
                  have ho207 : ownE n.kind.v n.var.v n.typ.v n.tests n.kids.length = 0 := by unfold ownE; simp [hc7, hc99, hc146, hc193, hN205, hN206, hc198, hc199]
                  obtain ⟨pA208, cA209, gA210, oA211, kA212, eA213, zA214, he220, hn215, hp216, hx217, hs218, hml, H219⟩ := Im.open_ H6 (i := 2) rfl
                  obtain ⟨rfl, rfl⟩ : n.kp = pA208 ∧ n.kc = cA209 := by injection he220 with a_ b_ c_; exact ⟨a_, c_⟩
                  have H221 : St W w5 (imi (0 < n.kids.length) gA210 (.cells kA212 eA213 zA214) :: blk bk4 (.cells #[.int .i64 n.kind.v, .string n.var.v, .string n.typ.v, .slice n.tp n.tests.length n.tc, .slice n.kp n.kids.length n.kc] 25 (0, 0)) :: Im 11 (.slice n.tp n.tests.length n.tc) n.tests.length (n.tests.flatMap condCell) :: Im 5 (.slice n.kp n.kids.length n.kc) n.kids.length (n.kids.flatMap nodeCell) :: NodesA n.kids :: F) := (((((H219.move 4 rfl).move 4 rfl).move 4 rfl).move 4 rfl).move 4 rfl)
                  refine g_loop_inv (fun (x_ : Nat) => match x_ with | j => [(1, .pointer (some ⟨bk4, 0, none⟩)), (2, .int .i64 0), (5, .int .i64 (j : Int))]) (fun (x_ : Nat) w => match x_ with | j => (j ≤ n.kids.length) ∧ (∀ q, q < j → nodeE (n.kids.getD q default) = 0) ∧ St W w (imi (0 < n.kids.length) gA210 (.cells kA212 eA213 zA214) :: blk bk4 (.cells #[.int .i64 n.kind.v, .string n.var.v, .string n.typ.v, .slice n.tp n.tests.length n.tc, .slice n.kp n.kids.length n.kc] 25 (0, 0)) :: Im 11 (.slice n.tp n.tests.length n.tc) n.tests.length (n.tests.flatMap condCell) :: Im 5 (.slice n.kp n.kids.length n.kc) n.kids.length (n.kids.flatMap nodeCell) :: NodesA n.kids :: F)) (fun (x_ : Nat) => match x_ with | j => n.kids.length - j) (0) ?_ ?_ ?_
                  · exact ⟨by first | rfl | exact vint (by omega), by first | rfl | exact vint (by omega), by first | rfl | exact vint (by omega), trivial⟩
                  · exact ⟨(by omega), (fun q hq => by omega), H221⟩
                  · rintro j ρ222 w223 ⟨hjl, hz, H224⟩ nx225
                    change Ends _ _ (upds ρ222 [(1, .pointer (some ⟨bk4, 0, none⟩)), (2, .int .i64 0), (5, .int .i64 (j : Int))]) w223
                    refine g_seq ?_
                    refine g_seq ?_
                    refine g_region ?_
                    refine r_cons (s_move (.int .i64 (j : Int)) rfl rfl ?_)
                    refine r_cons (s_fieldAddr 25 4 4 4 23 rfl fi_25_4 rfl rfl ?_)
                    refine r_cons (s_load (.slice n.kp n.kids.length n.kc) ag_23 rfl (H224.blk_at (i := 1) rfl) rfl rfl ?_)
                    refine r_cons (s_len n.kids.length rfl ⟨_, un_23⟩ rfl ?_)
                    by_cases hc226 : (j : Int) < (n.kids.length : Int)
                    · skip
                      refine r_cons (s_lss true rfl rfl (dtrue hc226) rfl ?_)
                      refine r_nil ?_
                      refine g_true rfl ?_
                      refine g_skip ?_
                      refine g_seq ?_
                      refine g_block ?_
                      refine g_seq ?_
                      refine g_region ?_
                      refine r_cons (s_fieldAddr 25 4 4 4 23 rfl fi_25_4 rfl rfl ?_)
                      refine r_cons (s_load (.slice n.kp n.kids.length n.kc) ag_23 rfl (H224.blk_at (i := 1) rfl) rfl rfl ?_)
                      refine r_cons (s_move (.int .i64 (j : Int)) rfl rfl ?_)
                      refine r_cons (s_indexAddr gA210 (off := oA211) (j : Int) 5 (oA211 + j * 5) (by exact congrArg (fun z_ => Value.slice z_ n.kids.length n.kc) (hp216 (by omega))) rfl el_23 (by omega) rfl rfl ?_)
                      refine r_cons (s_loadAgg [.int .i64 ((n.kids.getD j default).kind.v), .string ((n.kids.getD j default).var.v), .string ((n.kids.getD j default).typ.v), .slice ((n.kids.getD j default).tp) ((n.kids.getD j default).tests.length) ((n.kids.getD j default).tc), .slice ((n.kids.getD j default).kp) ((n.kids.getD j default).kids.length) ((n.kids.getD j default).kc)] 5 ag_25 rfl (H224.imi_at (i := 0) rfl (by omega)) (by have := elem_size (i := j) (s := 5) (hs218 (by omega)) (by omega); omega) (elem_take nodeCell_len (hx217 (by omega)) (by omega) default) rfl ?_)
                      have H227 := NodesA.at H224 (i := 4) rfl (j := j) (by omega)
                      refine r_cons (s_call [.agg #[.int .i64 ((n.kids.getD j default).kind.v), .string ((n.kids.getD j default).var.v), .string ((n.kids.getD j default).typ.v), .slice ((n.kids.getD j default).tp) ((n.kids.getD j default).tests.length) ((n.kids.getD j default).tc), .slice ((n.kids.getD j default).kp) ((n.kids.getD j default).kids.length) ((n.kids.getD j default).kc)]] pl_41 rfl rfl (ih (n.kids.getD j default) (by have h9 := kid_lt (n := n) (j := j) (by omega); omega) (i := 0) rfl H227) ?_)
                      rintro _ w228 ⟨rfl, H229⟩
                      refine r_cons (s_assign (.int .i64 (nodeE (n.kids.getD j default))) rfl rfl ?_)
                      refine r_nil ?_
                      refine g_seq ?_
                      refine g_region ?_
                      refine r_cons (s_move (.int .i64 (nodeE (n.kids.getD j default))) rfl rfl ?_)
                      by_cases hc230 : nodeE (n.kids.getD j default) = 0
                      · skip
                        refine r_cons (s_neq false rfl rfl (ntrue hc230) rfl ?_)
                        refine r_nil ?_
                        refine g_false rfl ?_
                        refine g_skip ?_
                        refine g_inBlock ?_
                        refine g_region ?_
                        refine r_cons (s_move (.int .i64 (j : Int)) rfl rfl ?_)
                        refine r_cons (s_add ((j : Int) + 1) rfl rfl (wi64 (by omega)) rfl ?_)
                        refine r_cons (s_assign (.int .i64 ((j : Int) + 1)) rfl rfl ?_)
                        refine r_nil ?_
                        have H231 : St W w228 (imi (0 < n.kids.length) gA210 (.cells kA212 eA213 zA214) :: blk bk4 (.cells #[.int .i64 n.kind.v, .string n.var.v, .string n.typ.v, .slice n.tp n.tests.length n.tc, .slice n.kp n.kids.length n.kc] 25 (0, 0)) :: Im 11 (.slice n.tp n.tests.length n.tc) n.tests.length (n.tests.flatMap condCell) :: Im 5 (.slice n.kp n.kids.length n.kc) n.kids.length (n.kids.flatMap nodeCell) :: NodesA n.kids :: F) := ((((((H229.move 5 rfl).move 5 rfl).move 5 rfl).move 5 rfl).move 5 rfl).drop 5 rfl)
                        exact nx225 (j + 1) _ _ ⟨(by omega), (fun q hq => (Nat.lt_or_ge q j).elim (hz q) (fun h => by rw [show q = j from by omega]; exact hc230)), H231⟩ (by first | (dsimp only; omega) | omega) ⟨by first | rfl | exact vint (by omega), by first | rfl | exact vint (by omega), by first | rfl | exact vint (by omega), trivial⟩
                      · skip
                        refine r_cons (s_neq true rfl rfl (nfalse hc230) rfl ?_)
                        refine r_nil ?_
                        refine g_true rfl ?_
                        refine g_seq ?_
                        refine g_region ?_
                        refine r_cons (s_move (.int .i64 (nodeE (n.kids.getD j default))) rfl rfl ?_)
                        refine r_cons (s_assign (.int .i64 (nodeE (n.kids.getD j default))) rfl rfl ?_)
                        refine r_nil ?_
                        refine g_ret' [.int .i64 (nodeE (n.kids.getD j default))] Try.func41 Try.results41 ⟨rfl, trivial⟩ ?_
                        have H232 : St W w228 F := ((((((H229.drop 0 rfl).drop 0 rfl).drop 0 rfl).drop 0 rfl).drop 0 rfl).drop 0 rfl)
                        exact ⟨vint ((firstE_at (f := nodeE) hz (by omega) (by omega)).trans (nodeE_kids ho207).symm), H232⟩
                    · skip
                      refine r_cons (s_lss false rfl rfl (dfalse hc226) rfl ?_)
                      refine r_nil ?_
                      refine g_false rfl ?_
                      refine g_exit (by rfl) ?_
                      refine g_seq ?_
                      refine g_region ?_
                      refine r_cons (s_assign (.int .i64 0) rfl rfl ?_)
                      refine r_nil ?_
                      refine g_ret' [.int .i64 0] Try.func41 Try.results41 ⟨rfl, trivial⟩ ?_
                      have H233 : St W w223 F := (((((H224.drop 0 rfl).drop 0 rfl).drop 0 rfl).drop 0 rfl).drop 0 rfl)
                      exact ⟨vint ((firstE_end (f := nodeE) hz (by omega)).trans (nodeE_kids ho207).symm), H233⟩
              · skip
                refine s_sneq true rfl rfl (nfalse hc199) rfl ?_
                refine r_cons (s_pick_f (.bool true) rfl rfl rfl ?_)
                refine r_cons (s_move (.bool true) rfl rfl ?_)
                refine r_cons (r_pass rfl rfl rfl rfl rfl ?_)
                refine r_cons (r_pass rfl rfl rfl rfl rfl ?_)
                refine r_cons (r_pass rfl rfl rfl rfl rfl ?_)
                refine r_cons (r_pass rfl rfl rfl rfl rfl ?_)
                refine r_cons (s_pick_t (.bool true) rfl rfl rfl ?_)
                refine r_nil ?_
                refine g_true rfl ?_
                refine g_seq ?_
                refine g_region ?_
                refine r_cons (s_assign (.int .i64 71) rfl rfl ?_)
                refine r_nil ?_
                refine g_ret' [.int .i64 71] Try.func41 Try.results41 ⟨rfl, trivial⟩ ?_
                have hN234 : ¬ (n.kids.length < 2) := by omega
                have ho235 : ownE n.kind.v n.var.v n.typ.v n.tests n.kids.length = 71 := by unfold ownE; simp [hc7, hc99, hc146, hc193, hN234, hc198, hc199]
                have H236 : St W w5 F := ((((H6.drop 0 rfl).drop 0 rfl).drop 0 rfl).drop 0 rfl)
                exact ⟨vint (nodeE_own ho235 (by omega)), H236⟩
            · skip
              refine s_sneq true rfl rfl (nfalse hc198) rfl ?_
              refine r_cons (s_pick_f (.bool true) rfl rfl rfl ?_)
              refine r_cons (s_move (.bool true) rfl rfl ?_)
              refine r_cons (r_pass rfl rfl rfl rfl rfl ?_)
              refine r_cons (r_pass rfl rfl rfl rfl rfl ?_)
              refine r_cons (r_pass rfl rfl rfl rfl rfl ?_)
              refine r_cons (s_pick_t (.bool true) rfl rfl rfl ?_)
              refine r_cons (s_move (.bool true) rfl rfl ?_)
              refine r_cons (r_pass rfl rfl rfl rfl rfl ?_)
              refine r_cons (r_pass rfl rfl rfl rfl rfl ?_)
              refine r_cons (r_pass rfl rfl rfl rfl rfl ?_)
              refine r_cons (r_pass rfl rfl rfl rfl rfl ?_)
              refine r_cons (s_pick_t (.bool true) rfl rfl rfl ?_)
              refine r_nil ?_
              refine g_true rfl ?_
              refine g_seq ?_
              refine g_region ?_
              refine r_cons (s_assign (.int .i64 71) rfl rfl ?_)
              refine r_nil ?_
              refine g_ret' [.int .i64 71] Try.func41 Try.results41 ⟨rfl, trivial⟩ ?_
              have hN237 : ¬ (n.kids.length < 2) := by omega
              have ho238 : ownE n.kind.v n.var.v n.typ.v n.tests n.kids.length = 71 := by unfold ownE; simp [hc7, hc99, hc146, hc193, hN237, hc198]
              have H239 : St W w5 F := ((((H6.drop 0 rfl).drop 0 rfl).drop 0 rfl).drop 0 rfl)
              exact ⟨vint (nodeE_own ho238 (by omega)), H239⟩
        · skip
          refine r_cons (s_eql false rfl rfl (dfalse hc193) rfl ?_)
          refine r_cons (s_assign (.bool false) rfl rfl ?_)
          refine r_nil ?_
          refine g_false rfl ?_
          refine g_seq ?_
          refine g_region ?_
          refine r_cons (s_assign (.int .i64 71) rfl rfl ?_)
          refine r_nil ?_
          refine g_ret' [.int .i64 71] Try.func41 Try.results41 ⟨rfl, trivial⟩ ?_
          have ho240 : ownE n.kind.v n.var.v n.typ.v n.tests n.kids.length = 71 := by unfold ownE; simp [hc7, hc99, hc146, hc193]
          have H241 : St W w5 F := ((((H6.drop 0 rfl).drop 0 rfl).drop 0 rfl).drop 0 rfl)
          exact ⟨vint (nodeE_own ho240 (by omega)), H241⟩
theorem ref07_node {W w : World} {F : List Atom} (n : NodeD)  {i : Nat} (hi : F[i]? = some (NodeA n)) (H : St W w F) : Calls Try.prog 41 #[.agg #[.int .i64 n.kind.v, .string n.var.v, .string n.typ.v, .slice n.tp n.tests.length n.tc, .slice n.kp n.kids.length n.kc]] w (Ret fun v w' => v = .int .i64 (nodeE n) ∧ St W w' F) := ref07_node_r (sizeOf n + 1) n (Nat.lt_succ_self _) hi H
set_option maxHeartbeats 4000000 in
set_option maxRecDepth 100000 in
theorem check_Shape {W w : World} {F : List Atom} (n : NodeD) {i : Nat} (hi : F[i]? = some (NodeA n)) (H : St W w F) : Calls Try.prog 19 #[.agg #[.int .i64 n.kind.v, .string n.var.v, .string n.typ.v, .slice n.tp n.tests.length n.tc, .slice n.kp n.kids.length n.kc]] w (Ret fun v w' => v = .int .i64 (shapeE n) ∧ St W w' F) := by
  have H1 := H.dup (i := i) (by exact hi) (NodeA_pers _)
  have H2 : St W w (NodeA n :: F) := H1
  refine calls_of_go (n := 20) Try.func19 rfl Try.ntmps19 rfl ?_
  refine g_seq ?_
  refine g_region ?_
  refine r_cons (s_box H2 25 (.agg #[.int .i64 n.kind.v, .string n.var.v, .string n.typ.v, .slice n.tp n.tests.length n.tc, .slice n.kp n.kids.length n.kc]) rfl (cs := #[.int .i64 n.kind.v, .string n.var.v, .string n.typ.v, .slice n.tp n.tests.length n.tc, .slice n.kp n.kids.length n.kc]) rfl rfl ?_); intro bk3 w4 H5
  refine r_cons (s_assign (.int .i64 0) rfl rfl ?_)
  refine r_nil ?_
  refine g_seq ?_
  refine g_seq ?_
  refine g_region ?_
  refine r_cons (s_loadAgg [.int .i64 n.kind.v, .string n.var.v, .string n.typ.v, .slice n.tp n.tests.length n.tc, .slice n.kp n.kids.length n.kc] 5 ag_25 rfl (H5.blk_at (i := 0) rfl) (Nat.le_of_ble_eq_true rfl) rfl rfl ?_)
  refine r_cons (s_call [.agg #[.int .i64 n.kind.v, .string n.var.v, .string n.typ.v, .slice n.tp n.tests.length n.tc, .slice n.kp n.kids.length n.kc]] pl_15 rfl rfl (check_Deep n (i := 1) rfl H5) ?_)
  rintro _ w6 ⟨rfl, H7⟩
  by_cases hc8 : (8 : Int) < deepN n
  · skip
    refine r_cons (s_gtr true rfl rfl (dtrue hc8) rfl ?_)
    refine r_cons (s_move (.bool true) rfl rfl ?_)
    refine r_cons (r_pass rfl rfl rfl rfl rfl ?_)
    refine r_cons (r_pass rfl rfl rfl rfl rfl ?_)
    refine r_cons (r_pass rfl rfl rfl rfl rfl ?_)
    refine r_cons (s_pick_t (.bool true) rfl rfl rfl ?_)
    refine r_nil ?_
    refine g_true rfl ?_
    refine g_seq ?_
    refine g_region ?_
    refine r_cons (s_assign (.int .i64 72) rfl rfl ?_)
    refine r_nil ?_
    refine g_ret' [.int .i64 72] Try.func19 Try.results19 ⟨rfl, trivial⟩ ?_
    have H9 : St W w6 F := ((H7.drop 0 rfl).drop 0 rfl)
    exact ⟨vint (by unfold shapeE; split <;> (try omega) <;> split <;> (try omega) <;> split <;> omega), H9⟩
  · skip
    refine r_cons (s_gtr false rfl rfl (dfalse hc8) rfl ?_)
    refine r_cons (s_move (.bool false) rfl rfl ?_)
    refine r_cons (r_take rfl rfl ?_)
    refine s_loadAgg [.int .i64 n.kind.v, .string n.var.v, .string n.typ.v, .slice n.tp n.tests.length n.tc, .slice n.kp n.kids.length n.kc] 5 ag_25 rfl (H7.blk_at (i := 0) rfl) (Nat.le_of_ble_eq_true rfl) rfl rfl ?_
    refine r_cons (r_take rfl rfl ?_)
    refine s_call [.agg #[.int .i64 n.kind.v, .string n.var.v, .string n.typ.v, .slice n.tp n.tests.length n.tc, .slice n.kp n.kids.length n.kc]] pl_13 rfl rfl (check_Terms n (i := 1) rfl H7) ?_
    rintro _ w10 ⟨rfl, H11⟩
    refine r_cons (r_take rfl rfl ?_)
    by_cases hc12 : (12 : Int) < termsN n
    · skip
      refine s_gtr true rfl rfl (dtrue hc12) rfl ?_
      refine r_cons (s_pick_f (.bool true) rfl rfl rfl ?_)
      refine r_nil ?_
      refine g_true rfl ?_
      refine g_seq ?_
      refine g_region ?_
      refine r_cons (s_assign (.int .i64 72) rfl rfl ?_)
      refine r_nil ?_
      refine g_ret' [.int .i64 72] Try.func19 Try.results19 ⟨rfl, trivial⟩ ?_
      have H13 : St W w10 F := ((H11.drop 0 rfl).drop 0 rfl)
      exact ⟨vint (by unfold shapeE; split <;> (try omega) <;> split <;> (try omega) <;> split <;> omega), H13⟩
    · skip
      refine s_gtr false rfl rfl (dfalse hc12) rfl ?_
      refine r_cons (s_pick_f (.bool false) rfl rfl rfl ?_)
      refine r_nil ?_
      refine g_false rfl ?_
      refine g_skip ?_
      refine g_seq ?_
      refine g_seq ?_
      refine g_region ?_
      refine r_cons (s_loadAgg [.int .i64 n.kind.v, .string n.var.v, .string n.typ.v, .slice n.tp n.tests.length n.tc, .slice n.kp n.kids.length n.kc] 5 ag_25 rfl (H11.blk_at (i := 0) rfl) (Nat.le_of_ble_eq_true rfl) rfl rfl ?_)
      refine r_cons (s_call [.agg #[.int .i64 n.kind.v, .string n.var.v, .string n.typ.v, .slice n.tp n.tests.length n.tc, .slice n.kp n.kids.length n.kc]] pl_40 rfl rfl (check_node n (i := 1) rfl H11) ?_)
      rintro _ w14 ⟨rfl, H15⟩
      refine r_cons (s_assign (.int .i64 (nodeE n)) rfl rfl ?_)
      refine r_nil ?_
      refine g_seq ?_
      refine g_region ?_
      refine r_cons (s_move (.int .i64 (nodeE n)) rfl rfl ?_)
      by_cases hc16 : nodeE n = 0
      · skip
        refine r_cons (s_neq false rfl rfl (ntrue hc16) rfl ?_)
        refine r_nil ?_
        refine g_false rfl ?_
        refine g_skip ?_
        refine g_seq ?_
        refine g_seq ?_
        refine g_region ?_
        refine r_cons (s_loadAgg [.int .i64 n.kind.v, .string n.var.v, .string n.typ.v, .slice n.tp n.tests.length n.tc, .slice n.kp n.kids.length n.kc] 5 ag_25 rfl (H15.blk_at (i := 0) rfl) (Nat.le_of_ble_eq_true rfl) rfl rfl ?_)
        refine r_cons (s_call [.agg #[.int .i64 n.kind.v, .string n.var.v, .string n.typ.v, .slice n.tp n.tests.length n.tc, .slice n.kp n.kids.length n.kc]] pl_17 rfl rfl (check_Alts n (i := 1) rfl H15) ?_)
        rintro _ w17 ⟨rfl, H18⟩
        by_cases hc19 : (64 : Int) < altsN n
        · skip
          refine r_cons (s_gtr true rfl rfl (dtrue hc19) rfl ?_)
          refine r_nil ?_
          refine g_true rfl ?_
          refine g_seq ?_
          refine g_region ?_
          refine r_cons (s_assign (.int .i64 72) rfl rfl ?_)
          refine r_nil ?_
          refine g_ret' [.int .i64 72] Try.func19 Try.results19 ⟨rfl, trivial⟩ ?_
          have H20 : St W w17 F := ((H18.drop 0 rfl).drop 0 rfl)
          exact ⟨vint (by unfold shapeE; split <;> (try omega) <;> split <;> (try omega) <;> split <;> omega), H20⟩
        · skip
          refine r_cons (s_gtr false rfl rfl (dfalse hc19) rfl ?_)
          refine r_nil ?_
          refine g_false rfl ?_
          refine g_skip ?_
          refine g_seq ?_
          refine g_region ?_
          refine r_cons (s_assign (.int .i64 0) rfl rfl ?_)
          refine r_nil ?_
          refine g_ret' [.int .i64 0] Try.func19 Try.results19 ⟨rfl, trivial⟩ ?_
          have H21 : St W w17 F := ((H18.drop 0 rfl).drop 0 rfl)
          exact ⟨vint (by unfold shapeE; split <;> (try omega) <;> split <;> (try omega) <;> split <;> omega), H21⟩
      · skip
        refine r_cons (s_neq true rfl rfl (nfalse hc16) rfl ?_)
        refine r_nil ?_
        refine g_true rfl ?_
        refine g_seq ?_
        refine g_region ?_
        refine r_cons (s_move (.int .i64 (nodeE n)) rfl rfl ?_)
        refine r_cons (s_assign (.int .i64 (nodeE n)) rfl rfl ?_)
        refine r_nil ?_
        refine g_ret' [.int .i64 (nodeE n)] Try.func19 Try.results19 ⟨rfl, trivial⟩ ?_
        have H22 : St W w14 F := ((H15.drop 0 rfl).drop 0 rfl)
        exact ⟨vint (by unfold shapeE; split <;> (try omega) <;> split <;> (try omega) <;> split <;> omega), H22⟩
set_option maxHeartbeats 4000000 in
set_option maxRecDepth 100000 in
theorem ref07_Shape {W w : World} {F : List Atom} (n : NodeD) {i : Nat} (hi : F[i]? = some (NodeA n)) (H : St W w F) : Calls Try.prog 20 #[.agg #[.int .i64 n.kind.v, .string n.var.v, .string n.typ.v, .slice n.tp n.tests.length n.tc, .slice n.kp n.kids.length n.kc]] w (Ret fun v w' => v = .int .i64 (shapeE n) ∧ St W w' F) := by
  have H1 := H.dup (i := i) (by exact hi) (NodeA_pers _)
  have H2 : St W w (NodeA n :: F) := H1
  refine calls_of_go (n := 20) Try.func20 rfl Try.ntmps20 rfl ?_
  refine g_seq ?_
  refine g_region ?_
  refine r_cons (s_box H2 25 (.agg #[.int .i64 n.kind.v, .string n.var.v, .string n.typ.v, .slice n.tp n.tests.length n.tc, .slice n.kp n.kids.length n.kc]) rfl (cs := #[.int .i64 n.kind.v, .string n.var.v, .string n.typ.v, .slice n.tp n.tests.length n.tc, .slice n.kp n.kids.length n.kc]) rfl rfl ?_); intro bk3 w4 H5
  refine r_cons (s_assign (.int .i64 0) rfl rfl ?_)
  refine r_nil ?_
  refine g_seq ?_
  refine g_seq ?_
  refine g_region ?_
  refine r_cons (s_loadAgg [.int .i64 n.kind.v, .string n.var.v, .string n.typ.v, .slice n.tp n.tests.length n.tc, .slice n.kp n.kids.length n.kc] 5 ag_25 rfl (H5.blk_at (i := 0) rfl) (Nat.le_of_ble_eq_true rfl) rfl rfl ?_)
  refine r_cons (s_call [.agg #[.int .i64 n.kind.v, .string n.var.v, .string n.typ.v, .slice n.tp n.tests.length n.tc, .slice n.kp n.kids.length n.kc]] pl_16 rfl rfl (ref07_Deep n (i := 1) rfl H5) ?_)
  rintro _ w6 ⟨rfl, H7⟩
  by_cases hc8 : (8 : Int) < deepN n
  · skip
    refine r_cons (s_gtr true rfl rfl (dtrue hc8) rfl ?_)
    refine r_cons (s_move (.bool true) rfl rfl ?_)
    refine r_cons (r_pass rfl rfl rfl rfl rfl ?_)
    refine r_cons (r_pass rfl rfl rfl rfl rfl ?_)
    refine r_cons (r_pass rfl rfl rfl rfl rfl ?_)
    refine r_cons (s_pick_t (.bool true) rfl rfl rfl ?_)
    refine r_nil ?_
    refine g_true rfl ?_
    refine g_seq ?_
    refine g_region ?_
    refine r_cons (s_assign (.int .i64 72) rfl rfl ?_)
    refine r_nil ?_
    refine g_ret' [.int .i64 72] Try.func20 Try.results20 ⟨rfl, trivial⟩ ?_
    have H9 : St W w6 F := ((H7.drop 0 rfl).drop 0 rfl)
    exact ⟨vint (by unfold shapeE; split <;> (try omega) <;> split <;> (try omega) <;> split <;> omega), H9⟩
  · skip
    refine r_cons (s_gtr false rfl rfl (dfalse hc8) rfl ?_)
    refine r_cons (s_move (.bool false) rfl rfl ?_)
    refine r_cons (r_take rfl rfl ?_)
    refine s_loadAgg [.int .i64 n.kind.v, .string n.var.v, .string n.typ.v, .slice n.tp n.tests.length n.tc, .slice n.kp n.kids.length n.kc] 5 ag_25 rfl (H7.blk_at (i := 0) rfl) (Nat.le_of_ble_eq_true rfl) rfl rfl ?_
    refine r_cons (r_take rfl rfl ?_)
    refine s_call [.agg #[.int .i64 n.kind.v, .string n.var.v, .string n.typ.v, .slice n.tp n.tests.length n.tc, .slice n.kp n.kids.length n.kc]] pl_14 rfl rfl (ref07_Terms n (i := 1) rfl H7) ?_
    rintro _ w10 ⟨rfl, H11⟩
    refine r_cons (r_take rfl rfl ?_)
    by_cases hc12 : (12 : Int) < termsN n
    · skip
      refine s_gtr true rfl rfl (dtrue hc12) rfl ?_
      refine r_cons (s_pick_f (.bool true) rfl rfl rfl ?_)
      refine r_nil ?_
      refine g_true rfl ?_
      refine g_seq ?_
      refine g_region ?_
      refine r_cons (s_assign (.int .i64 72) rfl rfl ?_)
      refine r_nil ?_
      refine g_ret' [.int .i64 72] Try.func20 Try.results20 ⟨rfl, trivial⟩ ?_
      have H13 : St W w10 F := ((H11.drop 0 rfl).drop 0 rfl)
      exact ⟨vint (by unfold shapeE; split <;> (try omega) <;> split <;> (try omega) <;> split <;> omega), H13⟩
    · skip
      refine s_gtr false rfl rfl (dfalse hc12) rfl ?_
      refine r_cons (s_pick_f (.bool false) rfl rfl rfl ?_)
      refine r_nil ?_
      refine g_false rfl ?_
      refine g_skip ?_
      refine g_seq ?_
      refine g_seq ?_
      refine g_region ?_
      refine r_cons (s_loadAgg [.int .i64 n.kind.v, .string n.var.v, .string n.typ.v, .slice n.tp n.tests.length n.tc, .slice n.kp n.kids.length n.kc] 5 ag_25 rfl (H11.blk_at (i := 0) rfl) (Nat.le_of_ble_eq_true rfl) rfl rfl ?_)
      refine r_cons (s_call [.agg #[.int .i64 n.kind.v, .string n.var.v, .string n.typ.v, .slice n.tp n.tests.length n.tc, .slice n.kp n.kids.length n.kc]] pl_41 rfl rfl (ref07_node n (i := 1) rfl H11) ?_)
      rintro _ w14 ⟨rfl, H15⟩
      refine r_cons (s_assign (.int .i64 (nodeE n)) rfl rfl ?_)
      refine r_nil ?_
      refine g_seq ?_
      refine g_region ?_
      refine r_cons (s_move (.int .i64 (nodeE n)) rfl rfl ?_)
      by_cases hc16 : nodeE n = 0
      · skip
        refine r_cons (s_neq false rfl rfl (ntrue hc16) rfl ?_)
        refine r_nil ?_
        refine g_false rfl ?_
        refine g_skip ?_
        refine g_seq ?_
        refine g_seq ?_
        refine g_region ?_
        refine r_cons (s_loadAgg [.int .i64 n.kind.v, .string n.var.v, .string n.typ.v, .slice n.tp n.tests.length n.tc, .slice n.kp n.kids.length n.kc] 5 ag_25 rfl (H15.blk_at (i := 0) rfl) (Nat.le_of_ble_eq_true rfl) rfl rfl ?_)
        refine r_cons (s_call [.agg #[.int .i64 n.kind.v, .string n.var.v, .string n.typ.v, .slice n.tp n.tests.length n.tc, .slice n.kp n.kids.length n.kc]] pl_18 rfl rfl (ref07_Alts n (i := 1) rfl H15) ?_)
        rintro _ w17 ⟨rfl, H18⟩
        by_cases hc19 : (64 : Int) < altsN n
        · skip
          refine r_cons (s_gtr true rfl rfl (dtrue hc19) rfl ?_)
          refine r_nil ?_
          refine g_true rfl ?_
          refine g_seq ?_
          refine g_region ?_
          refine r_cons (s_assign (.int .i64 72) rfl rfl ?_)
          refine r_nil ?_
          refine g_ret' [.int .i64 72] Try.func20 Try.results20 ⟨rfl, trivial⟩ ?_
          have H20 : St W w17 F := ((H18.drop 0 rfl).drop 0 rfl)
          exact ⟨vint (by unfold shapeE; split <;> (try omega) <;> split <;> (try omega) <;> split <;> omega), H20⟩
        · skip
          refine r_cons (s_gtr false rfl rfl (dfalse hc19) rfl ?_)
          refine r_nil ?_
          refine g_false rfl ?_
          refine g_skip ?_
          refine g_seq ?_
          refine g_region ?_
          refine r_cons (s_assign (.int .i64 0) rfl rfl ?_)
          refine r_nil ?_
          refine g_ret' [.int .i64 0] Try.func20 Try.results20 ⟨rfl, trivial⟩ ?_
          have H21 : St W w17 F := ((H18.drop 0 rfl).drop 0 rfl)
          exact ⟨vint (by unfold shapeE; split <;> (try omega) <;> split <;> (try omega) <;> split <;> omega), H21⟩
      · skip
        refine r_cons (s_neq true rfl rfl (nfalse hc16) rfl ?_)
        refine r_nil ?_
        refine g_true rfl ?_
        refine g_seq ?_
        refine g_region ?_
        refine r_cons (s_move (.int .i64 (nodeE n)) rfl rfl ?_)
        refine r_cons (s_assign (.int .i64 (nodeE n)) rfl rfl ?_)
        refine r_nil ?_
        refine g_ret' [.int .i64 (nodeE n)] Try.func20 Try.results20 ⟨rfl, trivial⟩ ?_
        have H22 : St W w14 F := ((H15.drop 0 rfl).drop 0 rfl)
        exact ⟨vint (by unfold shapeE; split <;> (try omega) <;> split <;> (try omega) <;> split <;> omega), H22⟩
set_option maxHeartbeats 4000000 in
set_option maxRecDepth 100000 in
theorem check_Pattern {W w : World} {F : List Atom} (p : PatD) {i : Nat} (hi : F[i]? = some (NodeA p.root)) {k : Nat} (hk : F[k]? = some (Im 11 (.slice p.wp p.wh.length p.wc) p.wh.length (p.wh.flatMap condCell))) (hz : sizeN p.root ≤ 1048576) (H : St W w F) : Calls Try.prog 11 #[.agg #[.string p.name.v, .int .i64 p.win.v, .int .i64 p.root.kind.v, .string p.root.var.v, .string p.root.typ.v, .slice p.root.tp p.root.tests.length p.root.tc, .slice p.root.kp p.root.kids.length p.root.kc, .slice p.wp p.wh.length p.wc]] w (Ret fun v w' => v = .int .i64 (patE p) ∧ St W w' F) := by
  have H1 := H.dup (i := i + 0) (by exact hi) (NodeA_pers _)
  have H2 := H1.dup (i := k + 1) (by exact hk) (Im_pers _ _ _ _)
  have H3 : St W w (Im 11 (.slice p.wp p.wh.length p.wc) p.wh.length (p.wh.flatMap condCell) :: NodeA p.root :: F) := H2
  refine calls_of_go (n := 40) Try.func11 rfl Try.ntmps11 rfl ?_
  refine g_seq ?_
  refine g_region ?_
  refine r_cons (s_box H3 27 (.agg #[.string p.name.v, .int .i64 p.win.v, .int .i64 p.root.kind.v, .string p.root.var.v, .string p.root.typ.v, .slice p.root.tp p.root.tests.length p.root.tc, .slice p.root.kp p.root.kids.length p.root.kc, .slice p.wp p.wh.length p.wc]) rfl (cs := #[.string p.name.v, .int .i64 p.win.v, .int .i64 p.root.kind.v, .string p.root.var.v, .string p.root.typ.v, .slice p.root.tp p.root.tests.length p.root.tc, .slice p.root.kp p.root.kids.length p.root.kc, .slice p.wp p.wh.length p.wc]) rfl rfl ?_); intro bk4 w5 H6
  refine r_cons (s_assign (.int .i64 0) rfl rfl ?_)
  refine r_nil ?_
  refine g_seq ?_
  refine g_seq ?_
  refine g_region ?_
  refine r_cons (s_fieldAddr 27 0 0 0 9 rfl fi_27_0 rfl rfl ?_)
  refine r_cons (s_load (.string p.name.v) ag_9 rfl (H6.blk_at (i := 0) rfl) rfl rfl ?_)
  refine r_cons (s_call [.string p.name.v] pl_37 rfl rfl (value_Name p.name.v p.name.ok H6) ?_)
  rintro _ w7 ⟨rfl, H8⟩
  refine r_cons (s_not (nameB p.name.v) rfl (!(nameB p.name.v)) rfl rfl ?_)
  refine r_cons (s_move (.bool (!(nameB p.name.v))) rfl rfl ?_)
  by_cases hb9 : (!(nameB p.name.v)) = true
  · skip
    refine r_cons (r_pass rfl (congrArg some hb9) rfl rfl rfl ?_)
    refine r_cons (r_pass rfl (congrArg some hb9) rfl rfl rfl ?_)
    refine r_cons (r_pass rfl (congrArg some hb9) rfl rfl rfl ?_)
    refine r_cons (s_pick_t (.bool true) (by exact congrArg Value.bool hb9) rfl rfl ?_)
    refine r_cons (s_move (.bool true) rfl rfl ?_)
    refine r_cons (r_pass rfl rfl rfl rfl rfl ?_)
    refine r_cons (r_pass rfl rfl rfl rfl rfl ?_)
    refine r_cons (r_pass rfl rfl rfl rfl rfl ?_)
    refine r_cons (s_pick_t (.bool true) rfl rfl rfl ?_)
    refine r_nil ?_
    refine g_true rfl ?_
    refine g_seq ?_
    refine g_region ?_
    refine r_cons (s_assign (.int .i64 70) rfl rfl ?_)
    refine r_nil ?_
    refine g_ret' [.int .i64 70] Try.func11 Try.results11 ⟨rfl, trivial⟩ ?_
    have hb10 : ((nameB p.name.v)) = false := by simpa using hb9
    have H11 : St W w7 F := (((H8.drop 0 rfl).drop 0 rfl).drop 0 rfl)
    exact ⟨vint (by unfold patE; rw [if_pos (by simp [hb10])]), H11⟩
  · have hb9 := eq_false_of_ne_true hb9
    refine r_cons (r_take rfl (congrArg some hb9) ?_)
    refine s_fieldAddr 27 1 1 1 2 rfl fi_27_1 rfl rfl ?_
    refine r_cons (r_take rfl (congrArg some hb9) ?_)
    refine s_load (.int .i64 p.win.v) ag_2 rfl (H8.blk_at (i := 0) rfl) rfl rfl ?_
    refine r_cons (r_take rfl (congrArg some hb9) ?_)
    by_cases hc12 : p.win.v < 1
    · skip
      refine s_lss true rfl rfl (dtrue hc12) rfl ?_
      refine r_cons (s_pick_f (.bool true) (by exact congrArg Value.bool hb9) rfl rfl ?_)
      refine r_cons (s_move (.bool true) rfl rfl ?_)
      refine r_cons (r_pass rfl rfl rfl rfl rfl ?_)
      refine r_cons (r_pass rfl rfl rfl rfl rfl ?_)
      refine r_cons (r_pass rfl rfl rfl rfl rfl ?_)
      refine r_cons (s_pick_t (.bool true) rfl rfl rfl ?_)
      refine r_nil ?_
      refine g_true rfl ?_
      refine g_seq ?_
      refine g_region ?_
      refine r_cons (s_assign (.int .i64 70) rfl rfl ?_)
      refine r_nil ?_
      refine g_ret' [.int .i64 70] Try.func11 Try.results11 ⟨rfl, trivial⟩ ?_
      have hb13 : ((nameB p.name.v)) = true := by simpa using hb9
      have H14 : St W w7 F := (((H8.drop 0 rfl).drop 0 rfl).drop 0 rfl)
      exact ⟨vint (by unfold patE; rw [if_pos (by simp [hc12, hb13])]), H14⟩
    · skip
      refine s_lss false rfl rfl (dfalse hc12) rfl ?_
      refine r_cons (s_pick_f (.bool false) (by exact congrArg Value.bool hb9) rfl rfl ?_)
      refine r_cons (s_move (.bool false) rfl rfl ?_)
      refine r_cons (r_take rfl rfl ?_)
      refine s_fieldAddr 27 1 1 1 2 rfl fi_27_1 rfl rfl ?_
      refine r_cons (r_take rfl rfl ?_)
      refine s_load (.int .i64 p.win.v) ag_2 rfl (H8.blk_at (i := 0) rfl) rfl rfl ?_
      refine r_cons (r_take rfl rfl ?_)
      by_cases hc15 : (1099511627776 : Int) < p.win.v
      · skip
        refine s_gtr true rfl rfl (dtrue hc15) rfl ?_
        refine r_cons (s_pick_f (.bool true) rfl rfl rfl ?_)
        refine r_nil ?_
        refine g_true rfl ?_
        refine g_seq ?_
        refine g_region ?_
        refine r_cons (s_assign (.int .i64 70) rfl rfl ?_)
        refine r_nil ?_
        refine g_ret' [.int .i64 70] Try.func11 Try.results11 ⟨rfl, trivial⟩ ?_
        have hb16 : ((nameB p.name.v)) = true := by simpa using hb9
        have H17 : St W w7 F := (((H8.drop 0 rfl).drop 0 rfl).drop 0 rfl)
        exact ⟨vint (by unfold patE; rw [if_pos (by simp [hc12, hc15, hb16])]), H17⟩
      · skip
        refine s_gtr false rfl rfl (dfalse hc15) rfl ?_
        refine r_cons (s_pick_f (.bool false) rfl rfl rfl ?_)
        refine r_nil ?_
        refine g_false rfl ?_
        refine g_skip ?_
        refine g_seq ?_
        refine g_seq ?_
        refine g_region ?_
        refine r_cons (s_buildSlice H8 1 2 (cs := #[.func (.func 19) #[] #[], .func (.func 21) #[] #[]]) #[.nilFunc] el_54 ze_34 (by decide) (by decide) (by kernel_rfl) rfl ?_); intro bk18 w19 H20
        refine r_cons (s_len 2 rfl ⟨_, un_54⟩ rfl ?_)
        refine r_cons (s_move (.int .i64 0) rfl rfl ?_)
        refine r_nil ?_
        refine g_block ?_
        refine g_loop ?_
        refine g_seq ?_
        refine g_region ?_
        refine r_cons (s_lss true rfl rfl (dtrue (by decide)) rfl ?_)
        refine r_nil ?_
        refine g_seq ?_
        refine g_true rfl ?_
        refine g_skip ?_
        refine g_seq ?_
        refine g_block ?_
        refine g_seq ?_
        refine g_region ?_
        refine r_cons (s_indexAddr bk18 0 1 0 rfl rfl el_54 (by omega) rfl rfl ?_)
        refine r_cons (s_load (.func (.func 19) #[] #[]) ag_34 rfl (H20.blk_at (i := 0) rfl) rfl rfl ?_)
        refine r_cons (s_assign (.func (.func 19) #[] #[]) rfl rfl ?_)
        refine r_nil ?_
        refine g_seq ?_
        refine g_region ?_
        refine r_cons (s_move (.func (.func 19) #[] #[]) rfl rfl ?_)
        refine r_cons (s_fieldAddr 27 2 2 2 25 rfl fi_27_2 rfl rfl ?_)
        refine r_cons (s_loadAgg [.int .i64 p.root.kind.v, .string p.root.var.v, .string p.root.typ.v, .slice p.root.tp p.root.tests.length p.root.tc, .slice p.root.kp p.root.kids.length p.root.kc] 5 ag_25 rfl (H20.blk_at (i := 1) rfl) (Nat.le_of_ble_eq_true rfl) rfl rfl ?_)
        refine r_cons (s_callv [] [.agg #[.int .i64 p.root.kind.v, .string p.root.var.v, .string p.root.typ.v, .slice p.root.tp p.root.tests.length p.root.tc, .slice p.root.kp p.root.kids.length p.root.kc]] rfl pl_19 rfl rfl (check_Shape p.root (i := 3) rfl H20) ?_)
        rintro _ w21 ⟨rfl, H22⟩
        refine r_cons (s_assign (.int .i64 (shapeE p.root)) rfl rfl ?_)
        refine r_nil ?_
        refine g_seq ?_
        refine g_region ?_
        refine r_cons (s_move (.int .i64 (shapeE p.root)) rfl rfl ?_)
        by_cases hc23 : shapeE p.root = 0
        · skip
          refine r_cons (s_neq false rfl rfl (ntrue hc23) rfl ?_)
          refine r_nil ?_
          refine g_false rfl ?_
          refine g_skip ?_
          refine g_inBlock ?_
          refine g_region ?_
          refine r_cons (s_add 1 rfl rfl (wi64 (by omega)) rfl ?_)
          refine r_cons (s_move (.int .i64 1) rfl rfl ?_)
          refine r_nil ?_
          refine g_inLoop ?_
          refine g_seq ?_
          refine g_region ?_
          refine r_cons (s_lss true rfl rfl (dtrue (by decide)) rfl ?_)
          refine r_nil ?_
          refine g_seq ?_
          refine g_true rfl ?_
          refine g_skip ?_
          refine g_seq ?_
          refine g_block ?_
          refine g_seq ?_
          refine g_region ?_
          refine r_cons (s_indexAddr bk18 1 1 1 rfl rfl el_54 (by omega) rfl rfl ?_)
          refine r_cons (s_load (.func (.func 21) #[] #[]) ag_34 rfl (H22.blk_at (i := 0) rfl) rfl rfl ?_)
          refine r_cons (s_assign (.func (.func 21) #[] #[]) rfl rfl ?_)
          refine r_nil ?_
          refine g_seq ?_
          refine g_region ?_
          refine r_cons (s_move (.func (.func 21) #[] #[]) rfl rfl ?_)
          refine r_cons (s_fieldAddr 27 2 2 2 25 rfl fi_27_2 rfl rfl ?_)
          refine r_cons (s_loadAgg [.int .i64 p.root.kind.v, .string p.root.var.v, .string p.root.typ.v, .slice p.root.tp p.root.tests.length p.root.tc, .slice p.root.kp p.root.kids.length p.root.kc] 5 ag_25 rfl (H22.blk_at (i := 1) rfl) (Nat.le_of_ble_eq_true rfl) rfl rfl ?_)
          refine r_cons (s_callv [] [.agg #[.int .i64 p.root.kind.v, .string p.root.var.v, .string p.root.typ.v, .slice p.root.tp p.root.tests.length p.root.tc, .slice p.root.kp p.root.kids.length p.root.kc]] rfl pl_21 rfl rfl (check_Binds p.root (i := 3) rfl (by omega) H22) ?_)
          rintro _ w24 ⟨rfl, H25⟩
          refine r_cons (s_assign (.int .i64 (bindsE p.root)) rfl rfl ?_)
          refine r_nil ?_
          refine g_seq ?_
          refine g_region ?_
          refine r_cons (s_move (.int .i64 (bindsE p.root)) rfl rfl ?_)
          by_cases hc26 : bindsE p.root = 0
          · skip
            refine r_cons (s_neq false rfl rfl (ntrue hc26) rfl ?_)
            refine r_nil ?_
            refine g_false rfl ?_
            refine g_skip ?_
            refine g_inBlock ?_
            refine g_region ?_
            refine r_cons (s_add 2 rfl rfl (wi64 (by omega)) rfl ?_)
            refine r_cons (s_move (.int .i64 2) rfl rfl ?_)
            refine r_nil ?_
            refine g_inLoop ?_
            refine g_seq ?_
            refine g_region ?_
            refine r_cons (s_lss false rfl rfl (dfalse (by decide)) rfl ?_)
            refine r_nil ?_
            refine g_seq ?_
            refine g_false rfl ?_
            refine g_exit (by rfl) ?_
            refine g_seq ?_
            refine g_mix (fun t_ w => St W w (blk bk18 (.cells #[.func (.func 19) #[] #[], .func (.func 21) #[] #[]] 34 (0, 0)) :: blk bk4 (.cells #[.string p.name.v, .int .i64 p.win.v, .int .i64 p.root.kind.v, .string p.root.var.v, .string p.root.typ.v, .slice p.root.tp p.root.tests.length p.root.tc, .slice p.root.kp p.root.kids.length p.root.kc, .slice p.wp p.wh.length p.wc] 27 (0, 0)) :: Im 11 (.slice p.wp p.wh.length p.wc) p.wh.length (p.wh.flatMap condCell) :: NodeA p.root :: t_)) F mixed 7 rfl H25.drew ?_
            refine f_first 0 (listed' := #[true, false, false, false, false, false, false]) rfl (by kernel_rfl) (by kernel_rfl) (by kernel_rfl) rfl ?_
            refine f_val rfl rfl rfl (by intro t_ w hw; exact x_fieldAddr 27 3 7 7 22 rfl fi_27_3 rfl w) ?_
            refine f_first 1 (listed' := #[true, true, false, false, false, false, false]) rfl (by kernel_rfl) (by kernel_rfl) (by kernel_rfl) rfl ?_
            refine f_val rfl rfl rfl (by intro t_ w hw; exact x_load (.slice p.wp p.wh.length p.wc) ag_22 rfl (hw.blk_at (i := 1) rfl) rfl) ?_
            refine f_first 2 (listed' := #[true, true, true, false, false, false, false]) rfl (by kernel_rfl) (by kernel_rfl) (by kernel_rfl) rfl ?_
            refine f_val rfl rfl rfl (by intro t_ w hw; exact x_fieldAddr 27 2 2 2 25 rfl fi_27_2 rfl w) ?_
            refine f_first 3 (listed' := #[true, true, true, true, false, false, false]) rfl (by kernel_rfl) (by kernel_rfl) (by kernel_rfl) rfl ?_
            refine f_val rfl rfl rfl (by intro t_ w hw; exact x_loadAgg [.int .i64 p.root.kind.v, .string p.root.var.v, .string p.root.typ.v, .slice p.root.tp p.root.tests.length p.root.tc, .slice p.root.kp p.root.kids.length p.root.kc] 5 ag_25 rfl (hw.blk_at (i := 1) rfl) (Nat.le_of_ble_eq_true rfl) rfl) ?_
            refine f_all (rs := [4]) (by kernel_rfl) (by simp) ?_
            refine a_cons ⟨_, rfl, ?_⟩ (fun x hx => absurd hx (by simp))
            intro w27 H28
            try dsimp only at H28
            refine s_call [.agg #[.int .i64 p.root.kind.v, .string p.root.var.v, .string p.root.typ.v, .slice p.root.tp p.root.tests.length p.root.tc, .slice p.root.kp p.root.kids.length p.root.kc]] pl_24 rfl rfl (check_Vars p.root (i := 3) rfl (by omega) H28) ?_
            rintro _ w31 ⟨pp29, cc30, rfl, H32⟩
            have H33 : St W w31 (blk bk18 (.cells #[.func (.func 19) #[] #[], .func (.func 21) #[] #[]] 34 (0, 0)) :: blk bk4 (.cells #[.string p.name.v, .int .i64 p.win.v, .int .i64 p.root.kind.v, .string p.root.var.v, .string p.root.typ.v, .slice p.root.tp p.root.tests.length p.root.tc, .slice p.root.kp p.root.kids.length p.root.kc, .slice p.wp p.wh.length p.wc] 27 (0, 0)) :: Im 11 (.slice p.wp p.wh.length p.wc) p.wh.length (p.wh.flatMap condCell) :: NodeA p.root :: Im 1 (.slice pp29 ((varsS p.root).length) cc30) ((varsS p.root).length) ((varsS p.root).flatMap strCell) :: F) := ((((H32.move 4 rfl).move 4 rfl).move 4 rfl).move 4 rfl)
            refine ⟨Im 1 (.slice pp29 ((varsS p.root).length) cc30) ((varsS p.root).length) ((varsS p.root).flatMap strCell) :: F, ?_, H33⟩
            change FReg _ _ _ _ _ #[true, true, true, true, true, false, false] _ _
            refine f_all (rs := [5]) (by kernel_rfl) (by simp) ?_
            refine a_cons ⟨_, rfl, ?_⟩ (fun x hx => absurd hx (by simp))
            intro w34 H35
            try dsimp only at H35
            refine s_call [.slice p.wp p.wh.length p.wc, .slice pp29 ((varsS p.root).length) cc30] pl_38 rfl rfl (check_conds p.wh (.slice p.wp p.wh.length p.wc) (varsS p.root) (.slice pp29 ((varsS p.root).length) cc30) (m := 2) rfl (jv := 4) rfl H35) ?_
            rintro _ w36 ⟨rfl, H37⟩
            refine ⟨Im 1 (.slice pp29 ((varsS p.root).length) cc30) ((varsS p.root).length) ((varsS p.root).flatMap strCell) :: F, ?_, H37⟩
            change FReg _ _ _ _ _ #[true, true, true, true, true, true, false] _ _
            refine f_first 6 (listed' := #[true, true, true, true, true, true, true]) rfl (by kernel_rfl) (by kernel_rfl) (by kernel_rfl) rfl ?_
            refine f_val rfl rfl rfl (by intro t_ w hw; exact x_assign (.int .i64 (condsE p.wh (varsS p.root))) rfl w) ?_
            refine f_done (by kernel_rfl) ?_
            intro w38 H39
            refine g_ret' [.int .i64 (condsE p.wh (varsS p.root))] Try.func11 Try.results11 ⟨rfl, trivial⟩ ?_
            have hb40 : ((nameB p.name.v)) = true := by simpa using hb9
            have H41 : St W w38 F := (((((H39.drop 0 rfl).drop 0 rfl).drop 0 rfl).drop 0 rfl).drop 0 rfl)
            exact ⟨vint (by unfold patE; rw [if_neg (by simp [hc12, hc15, hb40])]; rw [if_neg (by omega), if_neg (by omega)]), H41⟩
          · skip
            refine r_cons (s_neq true rfl rfl (nfalse hc26) rfl ?_)
            refine r_nil ?_
            refine g_true rfl ?_
            refine g_seq ?_
            refine g_region ?_
            refine r_cons (s_move (.int .i64 (bindsE p.root)) rfl rfl ?_)
            refine r_cons (s_assign (.int .i64 (bindsE p.root)) rfl rfl ?_)
            refine r_nil ?_
            refine g_ret' [.int .i64 (bindsE p.root)] Try.func11 Try.results11 ⟨rfl, trivial⟩ ?_
            have hb42 : ((nameB p.name.v)) = true := by simpa using hb9
            have H43 : St W w24 F := ((((H25.drop 0 rfl).drop 0 rfl).drop 0 rfl).drop 0 rfl)
            exact ⟨vint (by unfold patE; rw [if_neg (by simp [hc12, hc15, hb42])]; rw [if_neg (by omega), if_pos (by omega)]), H43⟩
        · skip
          refine r_cons (s_neq true rfl rfl (nfalse hc23) rfl ?_)
          refine r_nil ?_
          refine g_true rfl ?_
          refine g_seq ?_
          refine g_region ?_
          refine r_cons (s_move (.int .i64 (shapeE p.root)) rfl rfl ?_)
          refine r_cons (s_assign (.int .i64 (shapeE p.root)) rfl rfl ?_)
          refine r_nil ?_
          refine g_ret' [.int .i64 (shapeE p.root)] Try.func11 Try.results11 ⟨rfl, trivial⟩ ?_
          have hb44 : ((nameB p.name.v)) = true := by simpa using hb9
          have H45 : St W w21 F := ((((H22.drop 0 rfl).drop 0 rfl).drop 0 rfl).drop 0 rfl)
          exact ⟨vint (by unfold patE; rw [if_neg (by simp [hc12, hc15, hb44])]; rw [if_pos (by omega)]), H45⟩
set_option maxHeartbeats 4000000 in
set_option maxRecDepth 100000 in
theorem check_live {W w : World} {F : List Atom}  (H : St W w F) : Calls Try.prog 9 #[] w (Ret fun v w' => v = .bool true ∧ St W w' F) := by
  refine calls_of_go (n := 34) Try.func9 rfl Try.ntmps9 rfl ?_
  refine g_seq ?_
  refine g_region ?_
  refine r_cons (s_assign (.bool false) rfl rfl ?_)
  refine r_nil ?_
  refine g_seq ?_
  refine g_region ?_
  refine r_cons (s_build (cs := #[.int .i64 1, .string (⟨#[97]⟩), .string (⟨#[65]⟩), .slice none 0 0, .slice none 0 0]) (by kernel_rfl) rfl ?_)
  refine r_cons (s_alloc H 25 ze_25 rfl ?_); intro bk1 w2 H3
  refine r_cons (s_storeAgg H3 0 #[.int .i64 1, .string (⟨#[97]⟩), .string (⟨#[65]⟩), .slice none 0 0, .slice none 0 0] 5 rfl rfl rfl sz_25 rfl (by simp [Value.oneCell']) (Nat.le_of_ble_eq_true rfl) (fun o h1 h2 => by first | (simp; done) | (simp; omega)) (cs' := #[.int .i64 1, .string (⟨#[97]⟩), .string (⟨#[65]⟩), .slice none 0 0, .slice none 0 0]) rfl ?_); intro w4 H5
  refine r_nil ?_
  refine g_seq ?_
  refine g_region ?_
  refine r_cons (s_loadAgg [.int .i64 1, .string (⟨#[97]⟩), .string (⟨#[65]⟩), .slice none 0 0, .slice none 0 0] 5 ag_25 rfl (H5.blk_at (i := 0) rfl) (Nat.le_of_ble_eq_true rfl) rfl rfl ?_)
  refine r_cons (s_loadAgg [.int .i64 1, .string (⟨#[97]⟩), .string (⟨#[65]⟩), .slice none 0 0, .slice none 0 0] 5 ag_25 rfl (H5.blk_at (i := 0) rfl) (Nat.le_of_ble_eq_true rfl) rfl rfl ?_)
  refine r_cons (s_buildSlice H5 5 2 (cs := #[.int .i64 1, .string (⟨#[97]⟩), .string (⟨#[65]⟩), .slice none 0 0, .slice none 0 0, .int .i64 1, .string (⟨#[97]⟩), .string (⟨#[65]⟩), .slice none 0 0, .slice none 0 0]) #[.int .i64 0, .string ByteArray.empty, .string ByteArray.empty, .slice none 0 0, .slice none 0 0] el_23 ze_25 (by decide) (by decide) (by kernel_rfl) rfl ?_); intro bk6 w7 H8
  have H9 := Row.cut (n := 0) (m := 2) (c := 2) (size := 5) (xs := [.int .i64 1, .string (⟨#[97]⟩), .string (⟨#[65]⟩), .slice none 0 0, .slice none 0 0, .int .i64 1, .string (⟨#[97]⟩), .string (⟨#[65]⟩), .slice none 0 0, .slice none 0 0]) H8 (i := 0) rfl (by decide) (by decide +kernel) rfl rfl (by simp [Value.oneCell'])
  have H10 : St W w7 (Row 25 5 (.slice (some ⟨bk6, 0, none⟩) 2 2) 2 [.int .i64 1, .string (⟨#[97]⟩), .string (⟨#[65]⟩), .slice none 0 0, .slice none 0 0, .int .i64 1, .string (⟨#[97]⟩), .string (⟨#[65]⟩), .slice none 0 0, .slice none 0 0] :: blk bk1 (.cells #[.int .i64 1, .string (⟨#[97]⟩), .string (⟨#[65]⟩), .slice none 0 0, .slice none 0 0] 25 (0, 0)) :: F) := H9
  have H11 : St W w7 (Im 5 (.slice (some ⟨bk6, 0, none⟩) 2 2) 2 ([lvA, lvA].flatMap nodeCell) :: blk bk1 (.cells #[.int .i64 1, .string (⟨#[97]⟩), .string (⟨#[65]⟩), .slice none 0 0, .slice none 0 0] 25 (0, 0)) :: F) := Row.im H10 (i := 0) rfl
  refine r_cons (s_build (cs := #[.int .i64 2, .string ByteArray.empty, .string ByteArray.empty, .slice none 0 0, .slice (some ⟨bk6, 0, none⟩) 2 2]) (by kernel_rfl) rfl ?_)
  refine r_cons (s_build (cs := #[.string (⟨#[112]⟩), .int .i64 5, .int .i64 2, .string ByteArray.empty, .string ByteArray.empty, .slice none 0 0, .slice (some ⟨bk6, 0, none⟩) 2 2, .slice none 0 0]) (by kernel_rfl) rfl ?_)
  refine r_cons (s_alloc H11 27 ze_27 rfl ?_); intro bk12 w13 H14
  refine r_cons (s_storeAgg H14 0 #[.string (⟨#[112]⟩), .int .i64 5, .int .i64 2, .string ByteArray.empty, .string ByteArray.empty, .slice none 0 0, .slice (some ⟨bk6, 0, none⟩) 2 2, .slice none 0 0] 8 rfl rfl rfl sz_27 rfl (by simp [Value.oneCell']) (Nat.le_of_ble_eq_true rfl) (fun o h1 h2 => by first | (simp; done) | (simp; omega)) (cs' := #[.string (⟨#[112]⟩), .int .i64 5, .int .i64 2, .string ByteArray.empty, .string ByteArray.empty, .slice none 0 0, .slice (some ⟨bk6, 0, none⟩) 2 2, .slice none 0 0]) rfl ?_); intro w15 H16
  refine r_nil ?_
  refine g_seq ?_
  refine g_region ?_
  refine r_cons (s_loadAgg [.string (⟨#[112]⟩), .int .i64 5, .int .i64 2, .string ByteArray.empty, .string ByteArray.empty, .slice none 0 0, .slice (some ⟨bk6, 0, none⟩) 2 2, .slice none 0 0] 8 ag_27 rfl (H16.blk_at (i := 0) rfl) (Nat.le_of_ble_eq_true rfl) rfl rfl ?_)
  refine r_cons (s_alloc H16 27 ze_27 rfl ?_); intro bk17 w18 H19
  refine r_cons (s_storeAgg H19 0 #[.string (⟨#[112]⟩), .int .i64 5, .int .i64 2, .string ByteArray.empty, .string ByteArray.empty, .slice none 0 0, .slice (some ⟨bk6, 0, none⟩) 2 2, .slice none 0 0] 8 rfl rfl rfl sz_27 rfl (by simp [Value.oneCell']) (Nat.le_of_ble_eq_true rfl) (fun o h1 h2 => by first | (simp; done) | (simp; omega)) (cs' := #[.string (⟨#[112]⟩), .int .i64 5, .int .i64 2, .string ByteArray.empty, .string ByteArray.empty, .slice none 0 0, .slice (some ⟨bk6, 0, none⟩) 2 2, .slice none 0 0]) rfl ?_); intro w20 H21
  refine r_nil ?_
  refine g_seq ?_
  refine g_region ?_
  refine r_cons (s_fieldAddr 27 2 2 2 25 rfl fi_27_2 rfl rfl ?_)
  refine r_cons (s_fieldAddr 25 0 0 2 3 rfl fi_25_0 rfl rfl ?_)
  refine r_cons (s_store H21 0 (.int .i64 4) rfl rfl rfl sz_3 rfl (Nat.le_of_ble_eq_true rfl) rfl (cs' := #[.string (⟨#[112]⟩), .int .i64 5, .int .i64 4, .string ByteArray.empty, .string ByteArray.empty, .slice none 0 0, .slice (some ⟨bk6, 0, none⟩) 2 2, .slice none 0 0]) rfl ?_); intro w22 H23
  refine r_nil ?_
  refine g_seq ?_
  refine g_region ?_
  have H24 : St W w22 (Im 11 (.slice none 0 0) (([] : List CondV).length) (([] : List CondV).flatMap condCell) :: blk bk17 (.cells #[.string (⟨#[112]⟩), .int .i64 5, .int .i64 4, .string ByteArray.empty, .string ByteArray.empty, .slice none 0 0, .slice (some ⟨bk6, 0, none⟩) 2 2, .slice none 0 0] 27 (0, 0)) :: blk bk12 (.cells #[.string (⟨#[112]⟩), .int .i64 5, .int .i64 2, .string ByteArray.empty, .string ByteArray.empty, .slice none 0 0, .slice (some ⟨bk6, 0, none⟩) 2 2, .slice none 0 0] 27 (0, 0)) :: Im 5 (.slice (some ⟨bk6, 0, none⟩) 2 2) 2 ([lvA, lvA].flatMap nodeCell) :: blk bk1 (.cells #[.int .i64 1, .string (⟨#[97]⟩), .string (⟨#[65]⟩), .slice none 0 0, .slice none 0 0] 25 (0, 0)) :: F) := Row.im (Row.nil_intro H23 43 11) (i := 0) rfl
  have H25 : St W w22 (Im 5 (.slice none 0 0) (([] : List NodeD).length) (([] : List NodeD).flatMap nodeCell) :: Im 11 (.slice none 0 0) (([] : List CondV).length) (([] : List CondV).flatMap condCell) :: blk bk17 (.cells #[.string (⟨#[112]⟩), .int .i64 5, .int .i64 4, .string ByteArray.empty, .string ByteArray.empty, .slice none 0 0, .slice (some ⟨bk6, 0, none⟩) 2 2, .slice none 0 0] 27 (0, 0)) :: blk bk12 (.cells #[.string (⟨#[112]⟩), .int .i64 5, .int .i64 2, .string ByteArray.empty, .string ByteArray.empty, .slice none 0 0, .slice (some ⟨bk6, 0, none⟩) 2 2, .slice none 0 0] 27 (0, 0)) :: Im 5 (.slice (some ⟨bk6, 0, none⟩) 2 2) 2 ([lvA, lvA].flatMap nodeCell) :: blk bk1 (.cells #[.int .i64 1, .string (⟨#[97]⟩), .string (⟨#[65]⟩), .slice none 0 0, .slice none 0 0] 25 (0, 0)) :: F) := Row.im (Row.nil_intro H24 25 5) (i := 0) rfl
  have H26 : St W w22 (NodesA [] :: Im 5 (.slice none 0 0) (([] : List NodeD).length) (([] : List NodeD).flatMap nodeCell) :: Im 11 (.slice none 0 0) (([] : List CondV).length) (([] : List CondV).flatMap condCell) :: blk bk17 (.cells #[.string (⟨#[112]⟩), .int .i64 5, .int .i64 4, .string ByteArray.empty, .string ByteArray.empty, .slice none 0 0, .slice (some ⟨bk6, 0, none⟩) 2 2, .slice none 0 0] 27 (0, 0)) :: blk bk12 (.cells #[.string (⟨#[112]⟩), .int .i64 5, .int .i64 2, .string ByteArray.empty, .string ByteArray.empty, .slice none 0 0, .slice (some ⟨bk6, 0, none⟩) 2 2, .slice none 0 0] 27 (0, 0)) :: Im 5 (.slice (some ⟨bk6, 0, none⟩) 2 2) 2 ([lvA, lvA].flatMap nodeCell) :: blk bk1 (.cells #[.int .i64 1, .string (⟨#[97]⟩), .string (⟨#[65]⟩), .slice none 0 0, .slice none 0 0] 25 (0, 0)) :: F) := NodesA.nil H25
  have H27 : St W w22 (NodeA lvA :: NodesA [] :: Im 5 (.slice none 0 0) (([] : List NodeD).length) (([] : List NodeD).flatMap nodeCell) :: Im 11 (.slice none 0 0) (([] : List CondV).length) (([] : List CondV).flatMap condCell) :: blk bk17 (.cells #[.string (⟨#[112]⟩), .int .i64 5, .int .i64 4, .string ByteArray.empty, .string ByteArray.empty, .slice none 0 0, .slice (some ⟨bk6, 0, none⟩) 2 2, .slice none 0 0] 27 (0, 0)) :: blk bk12 (.cells #[.string (⟨#[112]⟩), .int .i64 5, .int .i64 2, .string ByteArray.empty, .string ByteArray.empty, .slice none 0 0, .slice (some ⟨bk6, 0, none⟩) 2 2, .slice none 0 0] 27 (0, 0)) :: Im 5 (.slice (some ⟨bk6, 0, none⟩) 2 2) 2 ([lvA, lvA].flatMap nodeCell) :: blk bk1 (.cells #[.int .i64 1, .string (⟨#[97]⟩), .string (⟨#[65]⟩), .slice none 0 0, .slice none 0 0] 25 (0, 0)) :: F) := NodeA.make (a := 2) (b := 1) (c := 0) lvA H26 rfl rfl rfl (by decide)
  have H28 : St W w22 (NodesA [lvA] :: NodeA lvA :: NodesA [] :: Im 5 (.slice none 0 0) (([] : List NodeD).length) (([] : List NodeD).flatMap nodeCell) :: Im 11 (.slice none 0 0) (([] : List CondV).length) (([] : List CondV).flatMap condCell) :: blk bk17 (.cells #[.string (⟨#[112]⟩), .int .i64 5, .int .i64 4, .string ByteArray.empty, .string ByteArray.empty, .slice none 0 0, .slice (some ⟨bk6, 0, none⟩) 2 2, .slice none 0 0] 27 (0, 0)) :: blk bk12 (.cells #[.string (⟨#[112]⟩), .int .i64 5, .int .i64 2, .string ByteArray.empty, .string ByteArray.empty, .slice none 0 0, .slice (some ⟨bk6, 0, none⟩) 2 2, .slice none 0 0] 27 (0, 0)) :: Im 5 (.slice (some ⟨bk6, 0, none⟩) 2 2) 2 ([lvA, lvA].flatMap nodeCell) :: blk bk1 (.cells #[.int .i64 1, .string (⟨#[97]⟩), .string (⟨#[65]⟩), .slice none 0 0, .slice none 0 0] 25 (0, 0)) :: F) := NodesA.cons (a := 0) (b := 1) H27 rfl rfl
  have H29 : St W w22 (NodesA [lvA, lvA] :: NodesA [lvA] :: NodeA lvA :: NodesA [] :: Im 5 (.slice none 0 0) (([] : List NodeD).length) (([] : List NodeD).flatMap nodeCell) :: Im 11 (.slice none 0 0) (([] : List CondV).length) (([] : List CondV).flatMap condCell) :: blk bk17 (.cells #[.string (⟨#[112]⟩), .int .i64 5, .int .i64 4, .string ByteArray.empty, .string ByteArray.empty, .slice none 0 0, .slice (some ⟨bk6, 0, none⟩) 2 2, .slice none 0 0] 27 (0, 0)) :: blk bk12 (.cells #[.string (⟨#[112]⟩), .int .i64 5, .int .i64 2, .string ByteArray.empty, .string ByteArray.empty, .slice none 0 0, .slice (some ⟨bk6, 0, none⟩) 2 2, .slice none 0 0] 27 (0, 0)) :: Im 5 (.slice (some ⟨bk6, 0, none⟩) 2 2) 2 ([lvA, lvA].flatMap nodeCell) :: blk bk1 (.cells #[.int .i64 1, .string (⟨#[97]⟩), .string (⟨#[65]⟩), .slice none 0 0, .slice none 0 0] 25 (0, 0)) :: F) := NodesA.cons (a := 1) (b := 0) H28 rfl rfl
  have H30 : St W w22 (NodeA ((lvP (lvR2 bk6)).root) :: NodesA [lvA, lvA] :: NodesA [lvA] :: NodeA lvA :: NodesA [] :: Im 5 (.slice none 0 0) (([] : List NodeD).length) (([] : List NodeD).flatMap nodeCell) :: Im 11 (.slice none 0 0) (([] : List CondV).length) (([] : List CondV).flatMap condCell) :: blk bk17 (.cells #[.string (⟨#[112]⟩), .int .i64 5, .int .i64 4, .string ByteArray.empty, .string ByteArray.empty, .slice none 0 0, .slice (some ⟨bk6, 0, none⟩) 2 2, .slice none 0 0] 27 (0, 0)) :: blk bk12 (.cells #[.string (⟨#[112]⟩), .int .i64 5, .int .i64 2, .string ByteArray.empty, .string ByteArray.empty, .slice none 0 0, .slice (some ⟨bk6, 0, none⟩) 2 2, .slice none 0 0] 27 (0, 0)) :: Im 5 (.slice (some ⟨bk6, 0, none⟩) 2 2) 2 ([lvA, lvA].flatMap nodeCell) :: blk bk1 (.cells #[.int .i64 1, .string (⟨#[97]⟩), .string (⟨#[65]⟩), .slice none 0 0, .slice none 0 0] 25 (0, 0)) :: F) := NodeA.make (a := 5) (b := 8) (c := 0) (lvR2 bk6) H29 rfl rfl rfl ⟨Nat.le_of_ble_eq_true rfl, Nat.le_of_ble_eq_true rfl⟩
  have H31 : St W w22 (Im 11 (.slice ((lvP (lvR2 bk6)).wp) ((lvP (lvR2 bk6)).wh.length) ((lvP (lvR2 bk6)).wc)) ((lvP (lvR2 bk6)).wh.length) ((lvP (lvR2 bk6)).wh.flatMap condCell) :: NodeA ((lvP (lvR2 bk6)).root) :: NodesA [lvA, lvA] :: NodesA [lvA] :: NodeA lvA :: NodesA [] :: Im 5 (.slice none 0 0) (([] : List NodeD).length) (([] : List NodeD).flatMap nodeCell) :: Im 11 (.slice none 0 0) (([] : List CondV).length) (([] : List CondV).flatMap condCell) :: blk bk17 (.cells #[.string (⟨#[112]⟩), .int .i64 5, .int .i64 4, .string ByteArray.empty, .string ByteArray.empty, .slice none 0 0, .slice (some ⟨bk6, 0, none⟩) 2 2, .slice none 0 0] 27 (0, 0)) :: blk bk12 (.cells #[.string (⟨#[112]⟩), .int .i64 5, .int .i64 2, .string ByteArray.empty, .string ByteArray.empty, .slice none 0 0, .slice (some ⟨bk6, 0, none⟩) 2 2, .slice none 0 0] 27 (0, 0)) :: Im 5 (.slice (some ⟨bk6, 0, none⟩) 2 2) 2 ([lvA, lvA].flatMap nodeCell) :: blk bk1 (.cells #[.int .i64 1, .string (⟨#[97]⟩), .string (⟨#[65]⟩), .slice none 0 0, .slice none 0 0] 25 (0, 0)) :: F) := H30.dup (i := 6) rfl (Im_pers _ _ _ _)
  have H32 : St W w22 (NodeA ((lvP (lvR4 bk6)).root) :: Im 11 (.slice ((lvP (lvR2 bk6)).wp) ((lvP (lvR2 bk6)).wh.length) ((lvP (lvR2 bk6)).wc)) ((lvP (lvR2 bk6)).wh.length) ((lvP (lvR2 bk6)).wh.flatMap condCell) :: NodeA ((lvP (lvR2 bk6)).root) :: NodesA [lvA, lvA] :: NodesA [lvA] :: NodeA lvA :: NodesA [] :: Im 5 (.slice none 0 0) (([] : List NodeD).length) (([] : List NodeD).flatMap nodeCell) :: Im 11 (.slice none 0 0) (([] : List CondV).length) (([] : List CondV).flatMap condCell) :: blk bk17 (.cells #[.string (⟨#[112]⟩), .int .i64 5, .int .i64 4, .string ByteArray.empty, .string ByteArray.empty, .slice none 0 0, .slice (some ⟨bk6, 0, none⟩) 2 2, .slice none 0 0] 27 (0, 0)) :: blk bk12 (.cells #[.string (⟨#[112]⟩), .int .i64 5, .int .i64 2, .string ByteArray.empty, .string ByteArray.empty, .slice none 0 0, .slice (some ⟨bk6, 0, none⟩) 2 2, .slice none 0 0] 27 (0, 0)) :: Im 5 (.slice (some ⟨bk6, 0, none⟩) 2 2) 2 ([lvA, lvA].flatMap nodeCell) :: blk bk1 (.cells #[.int .i64 1, .string (⟨#[97]⟩), .string (⟨#[65]⟩), .slice none 0 0, .slice none 0 0] 25 (0, 0)) :: F) := NodeA.make (a := 0) (b := 10) (c := 2) (lvR4 bk6) H31 rfl rfl rfl ⟨Nat.le_of_ble_eq_true rfl, Nat.le_of_ble_eq_true rfl⟩
  have H33 : St W w22 (Im 11 (.slice ((lvP (lvR4 bk6)).wp) ((lvP (lvR4 bk6)).wh.length) ((lvP (lvR4 bk6)).wc)) ((lvP (lvR4 bk6)).wh.length) ((lvP (lvR4 bk6)).wh.flatMap condCell) :: NodeA ((lvP (lvR4 bk6)).root) :: Im 11 (.slice ((lvP (lvR2 bk6)).wp) ((lvP (lvR2 bk6)).wh.length) ((lvP (lvR2 bk6)).wc)) ((lvP (lvR2 bk6)).wh.length) ((lvP (lvR2 bk6)).wh.flatMap condCell) :: NodeA ((lvP (lvR2 bk6)).root) :: NodesA [lvA, lvA] :: NodesA [lvA] :: NodeA lvA :: NodesA [] :: Im 5 (.slice none 0 0) (([] : List NodeD).length) (([] : List NodeD).flatMap nodeCell) :: Im 11 (.slice none 0 0) (([] : List CondV).length) (([] : List CondV).flatMap condCell) :: blk bk17 (.cells #[.string (⟨#[112]⟩), .int .i64 5, .int .i64 4, .string ByteArray.empty, .string ByteArray.empty, .slice none 0 0, .slice (some ⟨bk6, 0, none⟩) 2 2, .slice none 0 0] 27 (0, 0)) :: blk bk12 (.cells #[.string (⟨#[112]⟩), .int .i64 5, .int .i64 2, .string ByteArray.empty, .string ByteArray.empty, .slice none 0 0, .slice (some ⟨bk6, 0, none⟩) 2 2, .slice none 0 0] 27 (0, 0)) :: Im 5 (.slice (some ⟨bk6, 0, none⟩) 2 2) 2 ([lvA, lvA].flatMap nodeCell) :: blk bk1 (.cells #[.int .i64 1, .string (⟨#[97]⟩), .string (⟨#[65]⟩), .slice none 0 0, .slice none 0 0] 25 (0, 0)) :: F) := H32.dup (i := 1) rfl (Im_pers _ _ _ _)
  refine r_cons (s_loadAgg [.string (⟨#[112]⟩), .int .i64 5, .int .i64 2, .string ByteArray.empty, .string ByteArray.empty, .slice none 0 0, .slice (some ⟨bk6, 0, none⟩) 2 2, .slice none 0 0] 8 ag_27 rfl (H33.blk_at (i := 11) rfl) (Nat.le_of_ble_eq_true rfl) rfl rfl ?_)
  refine r_cons (s_call [.agg #[.string (⟨#[112]⟩), .int .i64 5, .int .i64 2, .string ByteArray.empty, .string ByteArray.empty, .slice none 0 0, .slice (some ⟨bk6, 0, none⟩) 2 2, .slice none 0 0]] pl_11 rfl rfl (check_Pattern (lvP (lvR2 bk6)) (i := 3) rfl (k := 2) rfl (Nat.le_of_ble_eq_true rfl) H33) ?_)
  rintro _ w34 ⟨rfl, H35⟩
  refine r_cons (s_eql true rfl rfl (dtrue (lv_pat2 _)) rfl ?_)
  refine r_cons (s_move (.bool true) rfl rfl ?_)
  refine r_cons (r_take rfl rfl ?_)
  refine s_loadAgg [.string (⟨#[112]⟩), .int .i64 5, .int .i64 4, .string ByteArray.empty, .string ByteArray.empty, .slice none 0 0, .slice (some ⟨bk6, 0, none⟩) 2 2, .slice none 0 0] 8 ag_27 rfl (H35.blk_at (i := 10) rfl) (Nat.le_of_ble_eq_true rfl) rfl rfl ?_
  refine r_cons (r_take rfl rfl ?_)
  refine s_call [.agg #[.string (⟨#[112]⟩), .int .i64 5, .int .i64 4, .string ByteArray.empty, .string ByteArray.empty, .slice none 0 0, .slice (some ⟨bk6, 0, none⟩) 2 2, .slice none 0 0]] pl_11 rfl rfl (check_Pattern (lvP (lvR4 bk6)) (i := 1) rfl (k := 0) rfl (Nat.le_of_ble_eq_true rfl) H35) ?_
  rintro _ w36 ⟨rfl, H37⟩
  refine r_cons (r_take rfl rfl ?_)
  refine s_eql true rfl rfl (dtrue (lv_pat4 _)) rfl ?_
  refine r_cons (s_pick_t (.bool true) rfl rfl rfl ?_)
  refine r_cons (s_move (.bool true) rfl rfl ?_)
  refine r_cons (r_take rfl rfl ?_)
  refine s_fieldAddr 27 2 2 2 25 rfl fi_27_2 rfl rfl ?_
  refine r_cons (r_take rfl rfl ?_)
  refine s_loadAgg [.int .i64 4, .string ByteArray.empty, .string ByteArray.empty, .slice none 0 0, .slice (some ⟨bk6, 0, none⟩) 2 2] 5 ag_25 rfl (H37.blk_at (i := 10) rfl) (Nat.le_of_ble_eq_true rfl) rfl rfl ?_
  refine r_cons (r_take rfl rfl ?_)
  refine s_call [.agg #[.int .i64 4, .string ByteArray.empty, .string ByteArray.empty, .slice none 0 0, .slice (some ⟨bk6, 0, none⟩) 2 2]] pl_26 rfl rfl (check_Sure ((lvP (lvR4 bk6)).root) (i := 1) rfl (Nat.le_of_ble_eq_true rfl) H37) ?_
  rintro _ w40 ⟨pp38, cc39, rfl, H41⟩
  refine r_cons (r_take rfl rfl ?_)
  refine s_buildSlice H41 1 1 (cs := #[.string (⟨#[97]⟩)]) #[.string ByteArray.empty] el_36 ze_9 (by decide) (by decide) (by kernel_rfl) rfl ?_; intro bk42 w43 H44
  refine r_cons (r_take rfl rfl ?_)
  have H45 := Row.cut (n := 0) (m := 1) (c := 1) (size := 1) (xs := [.string (⟨#[97]⟩)]) H44 (i := 0) rfl (by decide) (by decide +kernel) rfl rfl (by simp [Value.oneCell'])
  have H46 : St W w43 (Row 9 1 (.slice (some ⟨bk42, 0, none⟩) 1 1) 1 [.string (⟨#[97]⟩)] :: Im 1 (.slice pp38 ((sureN ((lvP (lvR4 bk6)).root)).length) cc39) ((sureN ((lvP (lvR4 bk6)).root)).length) ((sureN ((lvP (lvR4 bk6)).root)).flatMap strCell) :: Im 11 (.slice ((lvP (lvR4 bk6)).wp) ((lvP (lvR4 bk6)).wh.length) ((lvP (lvR4 bk6)).wc)) ((lvP (lvR4 bk6)).wh.length) ((lvP (lvR4 bk6)).wh.flatMap condCell) :: NodeA ((lvP (lvR4 bk6)).root) :: Im 11 (.slice ((lvP (lvR2 bk6)).wp) ((lvP (lvR2 bk6)).wh.length) ((lvP (lvR2 bk6)).wc)) ((lvP (lvR2 bk6)).wh.length) ((lvP (lvR2 bk6)).wh.flatMap condCell) :: NodeA ((lvP (lvR2 bk6)).root) :: NodesA [lvA, lvA] :: NodesA [lvA] :: NodeA lvA :: NodesA [] :: Im 5 (.slice none 0 0) (([] : List NodeD).length) (([] : List NodeD).flatMap nodeCell) :: Im 11 (.slice none 0 0) (([] : List CondV).length) (([] : List CondV).flatMap condCell) :: blk bk17 (.cells #[.string (⟨#[112]⟩), .int .i64 5, .int .i64 4, .string ByteArray.empty, .string ByteArray.empty, .slice none 0 0, .slice (some ⟨bk6, 0, none⟩) 2 2, .slice none 0 0] 27 (0, 0)) :: blk bk12 (.cells #[.string (⟨#[112]⟩), .int .i64 5, .int .i64 2, .string ByteArray.empty, .string ByteArray.empty, .slice none 0 0, .slice (some ⟨bk6, 0, none⟩) 2 2, .slice none 0 0] 27 (0, 0)) :: Im 5 (.slice (some ⟨bk6, 0, none⟩) 2 2) 2 ([lvA, lvA].flatMap nodeCell) :: blk bk1 (.cells #[.int .i64 1, .string (⟨#[97]⟩), .string (⟨#[65]⟩), .slice none 0 0, .slice none 0 0] 25 (0, 0)) :: F) := H45
  have H47 : St W w43 (Im 1 (.slice (some ⟨bk42, 0, none⟩) 1 1) 1 ([lvS].flatMap strCell) :: Im 1 (.slice pp38 ((sureN ((lvP (lvR4 bk6)).root)).length) cc39) ((sureN ((lvP (lvR4 bk6)).root)).length) ((sureN ((lvP (lvR4 bk6)).root)).flatMap strCell) :: Im 11 (.slice ((lvP (lvR4 bk6)).wp) ((lvP (lvR4 bk6)).wh.length) ((lvP (lvR4 bk6)).wc)) ((lvP (lvR4 bk6)).wh.length) ((lvP (lvR4 bk6)).wh.flatMap condCell) :: NodeA ((lvP (lvR4 bk6)).root) :: Im 11 (.slice ((lvP (lvR2 bk6)).wp) ((lvP (lvR2 bk6)).wh.length) ((lvP (lvR2 bk6)).wc)) ((lvP (lvR2 bk6)).wh.length) ((lvP (lvR2 bk6)).wh.flatMap condCell) :: NodeA ((lvP (lvR2 bk6)).root) :: NodesA [lvA, lvA] :: NodesA [lvA] :: NodeA lvA :: NodesA [] :: Im 5 (.slice none 0 0) (([] : List NodeD).length) (([] : List NodeD).flatMap nodeCell) :: Im 11 (.slice none 0 0) (([] : List CondV).length) (([] : List CondV).flatMap condCell) :: blk bk17 (.cells #[.string (⟨#[112]⟩), .int .i64 5, .int .i64 4, .string ByteArray.empty, .string ByteArray.empty, .slice none 0 0, .slice (some ⟨bk6, 0, none⟩) 2 2, .slice none 0 0] 27 (0, 0)) :: blk bk12 (.cells #[.string (⟨#[112]⟩), .int .i64 5, .int .i64 2, .string ByteArray.empty, .string ByteArray.empty, .slice none 0 0, .slice (some ⟨bk6, 0, none⟩) 2 2, .slice none 0 0] 27 (0, 0)) :: Im 5 (.slice (some ⟨bk6, 0, none⟩) 2 2) 2 ([lvA, lvA].flatMap nodeCell) :: blk bk1 (.cells #[.int .i64 1, .string (⟨#[97]⟩), .string (⟨#[65]⟩), .slice none 0 0, .slice none 0 0] 25 (0, 0)) :: F) := Row.im H46 (i := 0) rfl
  refine s_call [.slice pp38 ((sureN ((lvP (lvR4 bk6)).root)).length) cc39, .slice (some ⟨bk42, 0, none⟩) 1 1] pl_23 rfl rfl (Equal_str (sureN ((lvP (lvR4 bk6)).root)) [lvS] (.slice pp38 ((sureN ((lvP (lvR4 bk6)).root)).length) cc39) (.slice (some ⟨bk42, 0, none⟩) 1 1) (m := 1) rfl (n := 0) rfl H47) ?_
  rintro _ w48 ⟨rfl, H49⟩
  refine r_cons (s_pick_t (.bool (eqS (sureN ((lvP (lvR4 bk6)).root)) [lvS])) rfl rfl rfl ?_)
  refine r_cons (s_move (.bool (eqS (sureN ((lvP (lvR4 bk6)).root)) [lvS])) rfl rfl ?_)
  refine r_cons (r_take rfl (congrArg some (by rw [show (eqS (sureN ((lvP (lvR4 bk6)).root)) [lvS]) = eqS [lvS] [lvS] from congrArg (fun z_ => eqS z_ [lvS]) (lv_sure4 _)]; exact eqS_refl _)) ?_)
  refine s_fieldAddr 27 2 2 2 25 rfl fi_27_2 rfl rfl ?_
  refine r_cons (r_take rfl (congrArg some (by rw [show (eqS (sureN ((lvP (lvR4 bk6)).root)) [lvS]) = eqS [lvS] [lvS] from congrArg (fun z_ => eqS z_ [lvS]) (lv_sure4 _)]; exact eqS_refl _)) ?_)
  refine s_loadAgg [.int .i64 4, .string ByteArray.empty, .string ByteArray.empty, .slice none 0 0, .slice (some ⟨bk6, 0, none⟩) 2 2] 5 ag_25 rfl (H49.blk_at (i := 12) rfl) (Nat.le_of_ble_eq_true rfl) rfl rfl ?_
  refine r_cons (r_take rfl (congrArg some (by rw [show (eqS (sureN ((lvP (lvR4 bk6)).root)) [lvS]) = eqS [lvS] [lvS] from congrArg (fun z_ => eqS z_ [lvS]) (lv_sure4 _)]; exact eqS_refl _)) ?_)
  refine s_call [.agg #[.int .i64 4, .string ByteArray.empty, .string ByteArray.empty, .slice none 0 0, .slice (some ⟨bk6, 0, none⟩) 2 2]] pl_13 rfl rfl (check_Terms ((lvP (lvR4 bk6)).root) (i := 3) rfl H49) ?_
  rintro _ w50 ⟨rfl, H51⟩
  refine r_cons (r_take rfl (congrArg some (by rw [show (eqS (sureN ((lvP (lvR4 bk6)).root)) [lvS]) = eqS [lvS] [lvS] from congrArg (fun z_ => eqS z_ [lvS]) (lv_sure4 _)]; exact eqS_refl _)) ?_)
  refine s_eql true rfl rfl (dtrue (lv_terms _)) rfl ?_
  refine r_cons (s_pick_t (.bool true) (by exact congrArg Value.bool (by rw [show (eqS (sureN ((lvP (lvR4 bk6)).root)) [lvS]) = eqS [lvS] [lvS] from congrArg (fun z_ => eqS z_ [lvS]) (lv_sure4 _)]; exact eqS_refl _)) rfl rfl ?_)
  refine r_cons (s_assign (.bool true) rfl rfl ?_)
  refine r_nil ?_
  refine g_ret' [.bool true] Try.func9 Try.results9 ⟨rfl, trivial⟩ ?_
  have H52 : St W w50 F := ((((((((((((((((H51.drop 0 rfl).drop 0 rfl).drop 0 rfl).drop 0 rfl).drop 0 rfl).drop 0 rfl).drop 0 rfl).drop 0 rfl).drop 0 rfl).drop 0 rfl).drop 0 rfl).drop 0 rfl).drop 0 rfl).drop 0 rfl).drop 0 rfl).drop 0 rfl)
  exact ⟨rfl, H52⟩
set_option maxHeartbeats 4000000 in
set_option maxRecDepth 100000 in
theorem check_fits {W w : World} {F : List Atom} (n : NodeD) {i : Nat} (hi : F[i]? = some (NodeA n)) (H : St W w F) : Calls Try.prog 10 #[.agg #[.int .i64 n.kind.v, .string n.var.v, .string n.typ.v, .slice n.tp n.tests.length n.tc, .slice n.kp n.kids.length n.kc]] w (Ret fun v w' => v = .bool (fitB n) ∧ St W w' F) := by
  have H1 := H.dup (i := i + 0) (by exact hi) (NodeA_pers _)
  have H2 : St W w (NodeA n :: F) := H1
  refine calls_of_go (n := 11) Try.func10 rfl Try.ntmps10 rfl ?_
  refine g_seq ?_
  refine g_region ?_
  refine r_cons (s_box H2 25 (.agg #[.int .i64 n.kind.v, .string n.var.v, .string n.typ.v, .slice n.tp n.tests.length n.tc, .slice n.kp n.kids.length n.kc]) rfl (cs := #[.int .i64 n.kind.v, .string n.var.v, .string n.typ.v, .slice n.tp n.tests.length n.tc, .slice n.kp n.kids.length n.kc]) rfl rfl ?_); intro bk3 w4 H5
  refine r_cons (s_assign (.bool false) rfl rfl ?_)
  refine r_nil ?_
  refine g_seq ?_
  refine g_region ?_
  refine r_cons (s_loadAgg [.int .i64 n.kind.v, .string n.var.v, .string n.typ.v, .slice n.tp n.tests.length n.tc, .slice n.kp n.kids.length n.kc] 5 ag_25 rfl (H5.blk_at (i := 0) rfl) (Nat.le_of_ble_eq_true rfl) rfl rfl ?_)
  refine r_cons (s_call [.agg #[.int .i64 n.kind.v, .string n.var.v, .string n.typ.v, .slice n.tp n.tests.length n.tc, .slice n.kp n.kids.length n.kc]] pl_14 rfl rfl (ref07_Terms n (i := 1) rfl H5) ?_)
  rintro _ w6 ⟨rfl, H7⟩
  by_cases hc8 : termsN n ≤ 200
  · skip
    refine r_cons (s_leq true rfl rfl (dtrue hc8) rfl ?_)
    refine r_cons (s_move (.bool true) rfl rfl ?_)
    refine r_cons (r_take rfl rfl ?_)
    refine s_loadAgg [.int .i64 n.kind.v, .string n.var.v, .string n.typ.v, .slice n.tp n.tests.length n.tc, .slice n.kp n.kids.length n.kc] 5 ag_25 rfl (H7.blk_at (i := 0) rfl) (Nat.le_of_ble_eq_true rfl) rfl rfl ?_
    refine r_cons (r_take rfl rfl ?_)
    refine s_call [.agg #[.int .i64 n.kind.v, .string n.var.v, .string n.typ.v, .slice n.tp n.tests.length n.tc, .slice n.kp n.kids.length n.kc]] pl_16 rfl rfl (ref07_Deep n (i := 1) rfl H7) ?_
    rintro _ w9 ⟨rfl, H10⟩
    refine r_cons (r_take rfl rfl ?_)
    by_cases hc11 : deepN n ≤ 50
    · skip
      refine s_leq true rfl rfl (dtrue hc11) rfl ?_
      refine r_cons (s_pick_t (.bool true) rfl rfl rfl ?_)
      refine r_cons (s_assign (.bool true) rfl rfl ?_)
      refine r_nil ?_
      refine g_ret' [.bool true] Try.func10 Try.results10 ⟨rfl, trivial⟩ ?_
      have H12 : St W w9 F := ((H10.drop 0 rfl).drop 0 rfl)
      exact ⟨congrArg Value.bool (decide_eq_true ⟨by omega, by omega⟩).symm, H12⟩
    · skip
      refine s_leq false rfl rfl (dfalse hc11) rfl ?_
      refine r_cons (s_pick_t (.bool false) rfl rfl rfl ?_)
      refine r_cons (s_assign (.bool false) rfl rfl ?_)
      refine r_nil ?_
      refine g_ret' [.bool false] Try.func10 Try.results10 ⟨rfl, trivial⟩ ?_
      have H13 : St W w9 F := ((H10.drop 0 rfl).drop 0 rfl)
      exact ⟨congrArg Value.bool (decide_eq_false (by omega)).symm, H13⟩
  · skip
    refine r_cons (s_leq false rfl rfl (dfalse hc8) rfl ?_)
    refine r_cons (s_move (.bool false) rfl rfl ?_)
    refine r_cons (r_pass rfl rfl rfl rfl rfl ?_)
    refine r_cons (r_pass rfl rfl rfl rfl rfl ?_)
    refine r_cons (r_pass rfl rfl rfl rfl rfl ?_)
    refine r_cons (s_pick_f (.bool false) rfl rfl rfl ?_)
    refine r_cons (s_assign (.bool false) rfl rfl ?_)
    refine r_nil ?_
    refine g_ret' [.bool false] Try.func10 Try.results10 ⟨rfl, trivial⟩ ?_
    have H14 : St W w6 F := ((H7.drop 0 rfl).drop 0 rfl)
    exact ⟨congrArg Value.bool (decide_eq_false (by omega)).symm, H14⟩
set_option maxHeartbeats 4000000 in
set_option maxRecDepth 100000 in
theorem law_CheckTrees {W w : World} {F : List Atom} (n : NodeD) {i : Nat} (hi : F[i]? = some (NodeA n)) (hz : sizeN n ≤ 1048576) (H : St W w F) : Calls Try.prog 4 #[.agg #[.int .i64 n.kind.v, .string n.var.v, .string n.typ.v, .slice n.tp n.tests.length n.tc, .slice n.kp n.kids.length n.kc]] w (Ret fun v w' => v = .bool true ∧ St W w' F) := by
  have H1 := H.dup (i := i + 0) (by exact hi) (NodeA_pers _)
  have H2 : St W w (NodeA n :: F) := H1
  refine calls_of_go (n := 58) Try.func4 rfl Try.ntmps4 rfl ?_
  refine g_seq ?_
  refine g_region ?_
  refine r_cons (s_box H2 25 (.agg #[.int .i64 n.kind.v, .string n.var.v, .string n.typ.v, .slice n.tp n.tests.length n.tc, .slice n.kp n.kids.length n.kc]) rfl (cs := #[.int .i64 n.kind.v, .string n.var.v, .string n.typ.v, .slice n.tp n.tests.length n.tc, .slice n.kp n.kids.length n.kc]) rfl rfl ?_); intro bk3 w4 H5
  refine r_cons (s_assign (.bool false) rfl rfl ?_)
  refine r_nil ?_
  refine g_seq ?_
  refine g_seq ?_
  refine g_region ?_
  refine r_cons (s_loadAgg [.int .i64 n.kind.v, .string n.var.v, .string n.typ.v, .slice n.tp n.tests.length n.tc, .slice n.kp n.kids.length n.kc] 5 ag_25 rfl (H5.blk_at (i := 0) rfl) (Nat.le_of_ble_eq_true rfl) rfl rfl ?_)
  refine r_cons (s_call [.agg #[.int .i64 n.kind.v, .string n.var.v, .string n.typ.v, .slice n.tp n.tests.length n.tc, .slice n.kp n.kids.length n.kc]] pl_10 rfl rfl (check_fits n (i := 1) rfl H5) ?_)
  rintro _ w6 ⟨rfl, H7⟩
  refine r_cons (s_not (fitB n) rfl (!(fitB n)) rfl rfl ?_)
  refine r_cons (s_move (.bool (!(fitB n))) rfl rfl ?_)
  by_cases hb8 : (!(fitB n)) = true
  · skip
    refine r_cons (r_pass rfl (congrArg some hb8) rfl rfl rfl ?_)
    refine r_cons (r_pass rfl (congrArg some hb8) rfl rfl rfl ?_)
    refine r_cons (s_pick_t (.bool true) (by exact congrArg Value.bool hb8) rfl rfl ?_)
    refine r_nil ?_
    refine g_true rfl ?_
    refine g_seq ?_
    refine g_region ?_
    refine r_cons (s_call [] pl_9 rfl rfl (check_live H7) ?_)
    rintro _ w9 ⟨rfl, H10⟩
    refine r_cons (s_assign (.bool true) rfl rfl ?_)
    refine r_nil ?_
    refine g_ret' [.bool true] Try.func4 Try.results4 ⟨rfl, trivial⟩ ?_
    have H11 : St W w9 F := ((H10.drop 0 rfl).drop 0 rfl)
    exact ⟨rfl, H11⟩
  · have hb8 := eq_false_of_ne_true hb8
    refine r_cons (r_take rfl (congrArg some hb8) ?_)
    refine s_call [] pl_9 rfl rfl (check_live H7) ?_
    rintro _ w12 ⟨rfl, H13⟩
    refine r_cons (r_take rfl (congrArg some hb8) ?_)
    refine s_not true rfl false rfl rfl ?_
    refine r_cons (s_pick_f (.bool false) (by exact congrArg Value.bool hb8) rfl rfl ?_)
    refine r_nil ?_
    refine g_false rfl ?_
    refine g_skip ?_
    refine g_seq ?_
    refine g_mix (fun t_ w => St W w (blk bk3 (.cells #[.int .i64 n.kind.v, .string n.var.v, .string n.typ.v, .slice n.tp n.tests.length n.tc, .slice n.kp n.kids.length n.kc] 25 (0, 0)) :: NodeA n :: t_)) F mixed 48 rfl H13.drew ?_
    refine f_first 0 (listed' := #[true, false, false, false, false, false, false, false, false, false, false, false, false, false, false, false, false, false, false, false, false, false, false, false, false, false, false, false, false, false, false, false, false, false, false, false, false, false, false, false, false, false, false, false, false, false, false, false]) rfl (by kernel_rfl) (by kernel_rfl) (by kernel_rfl) rfl ?_
    refine f_val rfl rfl rfl (by intro t_ w hw; exact x_loadAgg [.int .i64 n.kind.v, .string n.var.v, .string n.typ.v, .slice n.tp n.tests.length n.tc, .slice n.kp n.kids.length n.kc] 5 ag_25 rfl (hw.blk_at (i := 0) rfl) (Nat.le_of_ble_eq_true rfl) rfl) ?_
    refine f_first 1 (listed' := #[true, true, false, false, false, false, false, false, false, false, false, false, false, false, false, false, false, false, false, false, false, false, false, false, false, false, false, false, false, false, false, false, false, false, false, false, false, false, false, false, false, false, false, false, false, false, false, false]) rfl (by kernel_rfl) (by kernel_rfl) (by kernel_rfl) rfl ?_
    refine f_enter (args := #[.agg #[.int .i64 n.kind.v, .string n.var.v, .string n.typ.v, .slice n.tp n.tests.length n.tc, .slice n.kp n.kids.length n.kc]]) (v := .int .i64 (termsN n)) rfl rfl rfl (x_call pl_13 [.agg #[.int .i64 n.kind.v, .string n.var.v, .string n.typ.v, .slice n.tp n.tests.length n.tc, .slice n.kp n.kids.length n.kc]] rfl) (fun t_ w hw => check_Terms n (i := 1) rfl hw) ?_
    refine f_first 2 (listed' := #[true, true, true, false, false, false, false, false, false, false, false, false, false, false, false, false, false, false, false, false, false, false, false, false, false, false, false, false, false, false, false, false, false, false, false, false, false, false, false, false, false, false, false, false, false, false, false, false]) rfl (by kernel_rfl) (by kernel_rfl) (by kernel_rfl) rfl ?_
    refine f_val rfl rfl rfl (by intro t_ w hw; exact x_loadAgg [.int .i64 n.kind.v, .string n.var.v, .string n.typ.v, .slice n.tp n.tests.length n.tc, .slice n.kp n.kids.length n.kc] 5 ag_25 rfl (hw.blk_at (i := 0) rfl) (Nat.le_of_ble_eq_true rfl) rfl) ?_
    refine f_first 3 (listed' := #[true, true, true, true, false, false, false, false, false, false, false, false, false, false, false, false, false, false, false, false, false, false, false, false, false, false, false, false, false, false, false, false, false, false, false, false, false, false, false, false, false, false, false, false, false, false, false, false]) rfl (by kernel_rfl) (by kernel_rfl) (by kernel_rfl) rfl ?_
    refine f_enter (args := #[.agg #[.int .i64 n.kind.v, .string n.var.v, .string n.typ.v, .slice n.tp n.tests.length n.tc, .slice n.kp n.kids.length n.kc]]) (v := .int .i64 (termsN n)) rfl rfl rfl (x_call pl_14 [.agg #[.int .i64 n.kind.v, .string n.var.v, .string n.typ.v, .slice n.tp n.tests.length n.tc, .slice n.kp n.kids.length n.kc]] rfl) (fun t_ w hw => ref07_Terms n (i := 1) rfl hw) ?_
    refine f_first 4 (listed' := #[true, true, true, true, true, false, false, false, false, false, false, false, false, false, false, false, false, false, false, false, false, false, false, false, false, false, false, false, false, false, false, false, false, false, false, false, false, false, false, false, false, false, false, false, false, false, false, false]) rfl (by kernel_rfl) (by kernel_rfl) (by kernel_rfl) rfl ?_
    refine f_val rfl rfl rfl (by intro t_ w hw; exact x_eql true rfl rfl (dtrue rfl) w) ?_
    refine f_first 5 (listed' := #[true, true, true, true, true, true, false, false, false, false, false, false, false, false, false, false, false, false, false, false, false, false, false, false, false, false, false, false, false, false, false, false, false, false, false, false, false, false, false, false, false, false, false, false, false, false, false, false]) rfl (by kernel_rfl) (by kernel_rfl) (by kernel_rfl) rfl ?_
    refine f_val rfl rfl rfl (by intro t_ w hw; exact x_move (.bool true) rfl w) ?_
    refine f_first 6 (listed' := #[true, true, true, true, true, true, true, false, false, false, false, false, false, false, false, false, false, false, false, false, false, false, false, false, false, false, false, false, false, false, false, false, false, false, false, false, false, false, false, false, false, false, false, false, false, false, false, false]) rfl (by kernel_rfl) (by kernel_rfl) (by kernel_rfl) rfl ?_
    refine f_take rfl rfl ?_
    refine f_val rfl rfl rfl (by intro t_ w hw; exact x_loadAgg [.int .i64 n.kind.v, .string n.var.v, .string n.typ.v, .slice n.tp n.tests.length n.tc, .slice n.kp n.kids.length n.kc] 5 ag_25 rfl (hw.blk_at (i := 0) rfl) (Nat.le_of_ble_eq_true rfl) rfl) ?_
    refine f_first 7 (listed' := #[true, true, true, true, true, true, true, true, false, false, false, false, false, false, false, false, false, false, false, false, false, false, false, false, false, false, false, false, false, false, false, false, false, false, false, false, false, false, false, false, false, false, false, false, false, false, false, false]) rfl (by kernel_rfl) (by kernel_rfl) (by kernel_rfl) rfl ?_
    refine f_take rfl rfl ?_
    refine f_enter (args := #[.agg #[.int .i64 n.kind.v, .string n.var.v, .string n.typ.v, .slice n.tp n.tests.length n.tc, .slice n.kp n.kids.length n.kc]]) (v := .int .i64 (deepN n)) rfl rfl rfl (x_call pl_15 [.agg #[.int .i64 n.kind.v, .string n.var.v, .string n.typ.v, .slice n.tp n.tests.length n.tc, .slice n.kp n.kids.length n.kc]] rfl) (fun t_ w hw => check_Deep n (i := 1) rfl hw) ?_
    refine f_first 8 (listed' := #[true, true, true, true, true, true, true, true, true, false, false, false, false, false, false, false, false, false, false, false, false, false, false, false, false, false, false, false, false, false, false, false, false, false, false, false, false, false, false, false, false, false, false, false, false, false, false, false]) rfl (by kernel_rfl) (by kernel_rfl) (by kernel_rfl) rfl ?_
    refine f_take rfl rfl ?_
    refine f_val rfl rfl rfl (by intro t_ w hw; exact x_loadAgg [.int .i64 n.kind.v, .string n.var.v, .string n.typ.v, .slice n.tp n.tests.length n.tc, .slice n.kp n.kids.length n.kc] 5 ag_25 rfl (hw.blk_at (i := 0) rfl) (Nat.le_of_ble_eq_true rfl) rfl) ?_
    refine f_first 9 (listed' := #[true, true, true, true, true, true, true, true, true, true, false, false, false, false, false, false, false, false, false, false, false, false, false, false, false, false, false, false, false, false, false, false, false, false, false, false, false, false, false, false, false, false, false, false, false, false, false, false]) rfl (by kernel_rfl) (by kernel_rfl) (by kernel_rfl) rfl ?_
    refine f_take rfl rfl ?_
    refine f_enter (args := #[.agg #[.int .i64 n.kind.v, .string n.var.v, .string n.typ.v, .slice n.tp n.tests.length n.tc, .slice n.kp n.kids.length n.kc]]) (v := .int .i64 (deepN n)) rfl rfl rfl (x_call pl_16 [.agg #[.int .i64 n.kind.v, .string n.var.v, .string n.typ.v, .slice n.tp n.tests.length n.tc, .slice n.kp n.kids.length n.kc]] rfl) (fun t_ w hw => ref07_Deep n (i := 1) rfl hw) ?_
    refine f_first 10 (listed' := #[true, true, true, true, true, true, true, true, true, true, true, false, false, false, false, false, false, false, false, false, false, false, false, false, false, false, false, false, false, false, false, false, false, false, false, false, false, false, false, false, false, false, false, false, false, false, false, false]) rfl (by kernel_rfl) (by kernel_rfl) (by kernel_rfl) rfl ?_
    refine f_take rfl rfl ?_
    refine f_val rfl rfl rfl (by intro t_ w hw; exact x_eql true rfl rfl (dtrue rfl) w) ?_
    refine f_first 11 (listed' := #[true, true, true, true, true, true, true, true, true, true, true, true, false, false, false, false, false, false, false, false, false, false, false, false, false, false, false, false, false, false, false, false, false, false, false, false, false, false, false, false, false, false, false, false, false, false, false, false]) rfl (by kernel_rfl) (by kernel_rfl) (by kernel_rfl) rfl ?_
    refine f_val rfl rfl rfl (by intro t_ w hw; exact x_pick_t (.bool true) rfl rfl w) ?_
    refine f_first 12 (listed' := #[true, true, true, true, true, true, true, true, true, true, true, true, true, false, false, false, false, false, false, false, false, false, false, false, false, false, false, false, false, false, false, false, false, false, false, false, false, false, false, false, false, false, false, false, false, false, false, false]) rfl (by kernel_rfl) (by kernel_rfl) (by kernel_rfl) rfl ?_
    refine f_val rfl rfl rfl (by intro t_ w hw; exact x_move (.bool true) rfl w) ?_
    refine f_first 13 (listed' := #[true, true, true, true, true, true, true, true, true, true, true, true, true, true, false, false, false, false, false, false, false, false, false, false, false, false, false, false, false, false, false, false, false, false, false, false, false, false, false, false, false, false, false, false, false, false, false, false]) rfl (by kernel_rfl) (by kernel_rfl) (by kernel_rfl) rfl ?_
    refine f_take rfl rfl ?_
    refine f_val rfl rfl rfl (by intro t_ w hw; exact x_loadAgg [.int .i64 n.kind.v, .string n.var.v, .string n.typ.v, .slice n.tp n.tests.length n.tc, .slice n.kp n.kids.length n.kc] 5 ag_25 rfl (hw.blk_at (i := 0) rfl) (Nat.le_of_ble_eq_true rfl) rfl) ?_
    refine f_first 14 (listed' := #[true, true, true, true, true, true, true, true, true, true, true, true, true, true, true, false, false, false, false, false, false, false, false, false, false, false, false, false, false, false, false, false, false, false, false, false, false, false, false, false, false, false, false, false, false, false, false, false]) rfl (by kernel_rfl) (by kernel_rfl) (by kernel_rfl) rfl ?_
    refine f_take rfl rfl ?_
    refine f_enter (args := #[.agg #[.int .i64 n.kind.v, .string n.var.v, .string n.typ.v, .slice n.tp n.tests.length n.tc, .slice n.kp n.kids.length n.kc]]) (v := .int .i64 (altsN n)) rfl rfl rfl (x_call pl_17 [.agg #[.int .i64 n.kind.v, .string n.var.v, .string n.typ.v, .slice n.tp n.tests.length n.tc, .slice n.kp n.kids.length n.kc]] rfl) (fun t_ w hw => check_Alts n (i := 1) rfl hw) ?_
    refine f_first 15 (listed' := #[true, true, true, true, true, true, true, true, true, true, true, true, true, true, true, true, false, false, false, false, false, false, false, false, false, false, false, false, false, false, false, false, false, false, false, false, false, false, false, false, false, false, false, false, false, false, false, false]) rfl (by kernel_rfl) (by kernel_rfl) (by kernel_rfl) rfl ?_
    refine f_take rfl rfl ?_
    refine f_val rfl rfl rfl (by intro t_ w hw; exact x_loadAgg [.int .i64 n.kind.v, .string n.var.v, .string n.typ.v, .slice n.tp n.tests.length n.tc, .slice n.kp n.kids.length n.kc] 5 ag_25 rfl (hw.blk_at (i := 0) rfl) (Nat.le_of_ble_eq_true rfl) rfl) ?_
    refine f_first 16 (listed' := #[true, true, true, true, true, true, true, true, true, true, true, true, true, true, true, true, true, false, false, false, false, false, false, false, false, false, false, false, false, false, false, false, false, false, false, false, false, false, false, false, false, false, false, false, false, false, false, false]) rfl (by kernel_rfl) (by kernel_rfl) (by kernel_rfl) rfl ?_
    refine f_take rfl rfl ?_
    refine f_enter (args := #[.agg #[.int .i64 n.kind.v, .string n.var.v, .string n.typ.v, .slice n.tp n.tests.length n.tc, .slice n.kp n.kids.length n.kc]]) (v := .int .i64 (altsN n)) rfl rfl rfl (x_call pl_18 [.agg #[.int .i64 n.kind.v, .string n.var.v, .string n.typ.v, .slice n.tp n.tests.length n.tc, .slice n.kp n.kids.length n.kc]] rfl) (fun t_ w hw => ref07_Alts n (i := 1) rfl hw) ?_
    refine f_first 17 (listed' := #[true, true, true, true, true, true, true, true, true, true, true, true, true, true, true, true, true, true, false, false, false, false, false, false, false, false, false, false, false, false, false, false, false, false, false, false, false, false, false, false, false, false, false, false, false, false, false, false]) rfl (by kernel_rfl) (by kernel_rfl) (by kernel_rfl) rfl ?_
    refine f_take rfl rfl ?_
    refine f_val rfl rfl rfl (by intro t_ w hw; exact x_eql true rfl rfl (dtrue rfl) w) ?_
    refine f_first 18 (listed' := #[true, true, true, true, true, true, true, true, true, true, true, true, true, true, true, true, true, true, true, false, false, false, false, false, false, false, false, false, false, false, false, false, false, false, false, false, false, false, false, false, false, false, false, false, false, false, false, false]) rfl (by kernel_rfl) (by kernel_rfl) (by kernel_rfl) rfl ?_
    refine f_val rfl rfl rfl (by intro t_ w hw; exact x_pick_t (.bool true) rfl rfl w) ?_
    refine f_first 19 (listed' := #[true, true, true, true, true, true, true, true, true, true, true, true, true, true, true, true, true, true, true, true, false, false, false, false, false, false, false, false, false, false, false, false, false, false, false, false, false, false, false, false, false, false, false, false, false, false, false, false]) rfl (by kernel_rfl) (by kernel_rfl) (by kernel_rfl) rfl ?_
    refine f_val rfl rfl rfl (by intro t_ w hw; exact x_move (.bool true) rfl w) ?_
    refine f_first 20 (listed' := #[true, true, true, true, true, true, true, true, true, true, true, true, true, true, true, true, true, true, true, true, true, false, false, false, false, false, false, false, false, false, false, false, false, false, false, false, false, false, false, false, false, false, false, false, false, false, false, false]) rfl (by kernel_rfl) (by kernel_rfl) (by kernel_rfl) rfl ?_
    refine f_take rfl rfl ?_
    refine f_val rfl rfl rfl (by intro t_ w hw; exact x_loadAgg [.int .i64 n.kind.v, .string n.var.v, .string n.typ.v, .slice n.tp n.tests.length n.tc, .slice n.kp n.kids.length n.kc] 5 ag_25 rfl (hw.blk_at (i := 0) rfl) (Nat.le_of_ble_eq_true rfl) rfl) ?_
    refine f_first 21 (listed' := #[true, true, true, true, true, true, true, true, true, true, true, true, true, true, true, true, true, true, true, true, true, true, false, false, false, false, false, false, false, false, false, false, false, false, false, false, false, false, false, false, false, false, false, false, false, false, false, false]) rfl (by kernel_rfl) (by kernel_rfl) (by kernel_rfl) rfl ?_
    refine f_take rfl rfl ?_
    refine f_enter (args := #[.agg #[.int .i64 n.kind.v, .string n.var.v, .string n.typ.v, .slice n.tp n.tests.length n.tc, .slice n.kp n.kids.length n.kc]]) (v := .int .i64 (shapeE n)) rfl rfl rfl (x_call pl_19 [.agg #[.int .i64 n.kind.v, .string n.var.v, .string n.typ.v, .slice n.tp n.tests.length n.tc, .slice n.kp n.kids.length n.kc]] rfl) (fun t_ w hw => check_Shape n (i := 1) rfl hw) ?_
    refine f_first 22 (listed' := #[true, true, true, true, true, true, true, true, true, true, true, true, true, true, true, true, true, true, true, true, true, true, true, false, false, false, false, false, false, false, false, false, false, false, false, false, false, false, false, false, false, false, false, false, false, false, false, false]) rfl (by kernel_rfl) (by kernel_rfl) (by kernel_rfl) rfl ?_
    refine f_take rfl rfl ?_
    refine f_val rfl rfl rfl (by intro t_ w hw; exact x_loadAgg [.int .i64 n.kind.v, .string n.var.v, .string n.typ.v, .slice n.tp n.tests.length n.tc, .slice n.kp n.kids.length n.kc] 5 ag_25 rfl (hw.blk_at (i := 0) rfl) (Nat.le_of_ble_eq_true rfl) rfl) ?_
    refine f_first 23 (listed' := #[true, true, true, true, true, true, true, true, true, true, true, true, true, true, true, true, true, true, true, true, true, true, true, true, false, false, false, false, false, false, false, false, false, false, false, false, false, false, false, false, false, false, false, false, false, false, false, false]) rfl (by kernel_rfl) (by kernel_rfl) (by kernel_rfl) rfl ?_
    refine f_take rfl rfl ?_
    refine f_enter (args := #[.agg #[.int .i64 n.kind.v, .string n.var.v, .string n.typ.v, .slice n.tp n.tests.length n.tc, .slice n.kp n.kids.length n.kc]]) (v := .int .i64 (shapeE n)) rfl rfl rfl (x_call pl_20 [.agg #[.int .i64 n.kind.v, .string n.var.v, .string n.typ.v, .slice n.tp n.tests.length n.tc, .slice n.kp n.kids.length n.kc]] rfl) (fun t_ w hw => ref07_Shape n (i := 1) rfl hw) ?_
    refine f_first 24 (listed' := #[true, true, true, true, true, true, true, true, true, true, true, true, true, true, true, true, true, true, true, true, true, true, true, true, true, false, false, false, false, false, false, false, false, false, false, false, false, false, false, false, false, false, false, false, false, false, false, false]) rfl (by kernel_rfl) (by kernel_rfl) (by kernel_rfl) rfl ?_
    refine f_take rfl rfl ?_
    refine f_val rfl rfl rfl (by intro t_ w hw; exact x_eql true rfl rfl (dtrue rfl) w) ?_
    refine f_first 25 (listed' := #[true, true, true, true, true, true, true, true, true, true, true, true, true, true, true, true, true, true, true, true, true, true, true, true, true, true, false, false, false, false, false, false, false, false, false, false, false, false, false, false, false, false, false, false, false, false, false, false]) rfl (by kernel_rfl) (by kernel_rfl) (by kernel_rfl) rfl ?_
    refine f_val rfl rfl rfl (by intro t_ w hw; exact x_pick_t (.bool true) rfl rfl w) ?_
    refine f_first 26 (listed' := #[true, true, true, true, true, true, true, true, true, true, true, true, true, true, true, true, true, true, true, true, true, true, true, true, true, true, true, false, false, false, false, false, false, false, false, false, false, false, false, false, false, false, false, false, false, false, false, false]) rfl (by kernel_rfl) (by kernel_rfl) (by kernel_rfl) rfl ?_
    refine f_val rfl rfl rfl (by intro t_ w hw; exact x_move (.bool true) rfl w) ?_
    refine f_first 27 (listed' := #[true, true, true, true, true, true, true, true, true, true, true, true, true, true, true, true, true, true, true, true, true, true, true, true, true, true, true, true, false, false, false, false, false, false, false, false, false, false, false, false, false, false, false, false, false, false, false, false]) rfl (by kernel_rfl) (by kernel_rfl) (by kernel_rfl) rfl ?_
    refine f_take rfl rfl ?_
    refine f_val rfl rfl rfl (by intro t_ w hw; exact x_loadAgg [.int .i64 n.kind.v, .string n.var.v, .string n.typ.v, .slice n.tp n.tests.length n.tc, .slice n.kp n.kids.length n.kc] 5 ag_25 rfl (hw.blk_at (i := 0) rfl) (Nat.le_of_ble_eq_true rfl) rfl) ?_
    refine f_first 28 (listed' := #[true, true, true, true, true, true, true, true, true, true, true, true, true, true, true, true, true, true, true, true, true, true, true, true, true, true, true, true, true, false, false, false, false, false, false, false, false, false, false, false, false, false, false, false, false, false, false, false]) rfl (by kernel_rfl) (by kernel_rfl) (by kernel_rfl) rfl ?_
    refine f_take rfl rfl ?_
    refine f_enter (args := #[.agg #[.int .i64 n.kind.v, .string n.var.v, .string n.typ.v, .slice n.tp n.tests.length n.tc, .slice n.kp n.kids.length n.kc]]) (v := .int .i64 (bindsE n)) rfl rfl rfl (x_call pl_21 [.agg #[.int .i64 n.kind.v, .string n.var.v, .string n.typ.v, .slice n.tp n.tests.length n.tc, .slice n.kp n.kids.length n.kc]] rfl) (fun t_ w hw => check_Binds n (i := 1) rfl (by omega) hw) ?_
    refine f_first 29 (listed' := #[true, true, true, true, true, true, true, true, true, true, true, true, true, true, true, true, true, true, true, true, true, true, true, true, true, true, true, true, true, true, false, false, false, false, false, false, false, false, false, false, false, false, false, false, false, false, false, false]) rfl (by kernel_rfl) (by kernel_rfl) (by kernel_rfl) rfl ?_
    refine f_take rfl rfl ?_
    refine f_val rfl rfl rfl (by intro t_ w hw; exact x_loadAgg [.int .i64 n.kind.v, .string n.var.v, .string n.typ.v, .slice n.tp n.tests.length n.tc, .slice n.kp n.kids.length n.kc] 5 ag_25 rfl (hw.blk_at (i := 0) rfl) (Nat.le_of_ble_eq_true rfl) rfl) ?_
    refine f_first 30 (listed' := #[true, true, true, true, true, true, true, true, true, true, true, true, true, true, true, true, true, true, true, true, true, true, true, true, true, true, true, true, true, true, true, false, false, false, false, false, false, false, false, false, false, false, false, false, false, false, false, false]) rfl (by kernel_rfl) (by kernel_rfl) (by kernel_rfl) rfl ?_
    refine f_take rfl rfl ?_
    refine f_enter (args := #[.agg #[.int .i64 n.kind.v, .string n.var.v, .string n.typ.v, .slice n.tp n.tests.length n.tc, .slice n.kp n.kids.length n.kc]]) (v := .int .i64 (bindsE n)) rfl rfl rfl (x_call pl_22 [.agg #[.int .i64 n.kind.v, .string n.var.v, .string n.typ.v, .slice n.tp n.tests.length n.tc, .slice n.kp n.kids.length n.kc]] rfl) (fun t_ w hw => ref07_Binds n (i := 1) rfl (by omega) hw) ?_
    refine f_first 31 (listed' := #[true, true, true, true, true, true, true, true, true, true, true, true, true, true, true, true, true, true, true, true, true, true, true, true, true, true, true, true, true, true, true, true, false, false, false, false, false, false, false, false, false, false, false, false, false, false, false, false]) rfl (by kernel_rfl) (by kernel_rfl) (by kernel_rfl) rfl ?_
    refine f_take rfl rfl ?_
    refine f_val rfl rfl rfl (by intro t_ w hw; exact x_eql true rfl rfl (dtrue rfl) w) ?_
    refine f_first 32 (listed' := #[true, true, true, true, true, true, true, true, true, true, true, true, true, true, true, true, true, true, true, true, true, true, true, true, true, true, true, true, true, true, true, true, true, false, false, false, false, false, false, false, false, false, false, false, false, false, false, false]) rfl (by kernel_rfl) (by kernel_rfl) (by kernel_rfl) rfl ?_
    refine f_val rfl rfl rfl (by intro t_ w hw; exact x_pick_t (.bool true) rfl rfl w) ?_
    refine f_first 33 (listed' := #[true, true, true, true, true, true, true, true, true, true, true, true, true, true, true, true, true, true, true, true, true, true, true, true, true, true, true, true, true, true, true, true, true, true, false, false, false, false, false, false, false, false, false, false, false, false, false, false]) rfl (by kernel_rfl) (by kernel_rfl) (by kernel_rfl) rfl ?_
    refine f_val rfl rfl rfl (by intro t_ w hw; exact x_move (.bool true) rfl w) ?_
    refine f_first 34 (listed' := #[true, true, true, true, true, true, true, true, true, true, true, true, true, true, true, true, true, true, true, true, true, true, true, true, true, true, true, true, true, true, true, true, true, true, true, false, false, false, false, false, false, false, false, false, false, false, false, false]) rfl (by kernel_rfl) (by kernel_rfl) (by kernel_rfl) rfl ?_
    refine f_take rfl rfl ?_
    refine f_val rfl rfl rfl (by intro t_ w hw; exact x_loadAgg [.int .i64 n.kind.v, .string n.var.v, .string n.typ.v, .slice n.tp n.tests.length n.tc, .slice n.kp n.kids.length n.kc] 5 ag_25 rfl (hw.blk_at (i := 0) rfl) (Nat.le_of_ble_eq_true rfl) rfl) ?_
    refine f_first 36 (listed' := #[true, true, true, true, true, true, true, true, true, true, true, true, true, true, true, true, true, true, true, true, true, true, true, true, true, true, true, true, true, true, true, true, true, true, true, false, true, false, false, false, false, false, false, false, false, false, false, false]) rfl (by kernel_rfl) (by kernel_rfl) (by kernel_rfl) rfl ?_
    refine f_take rfl rfl ?_
    refine f_val rfl rfl rfl (by intro t_ w hw; exact x_loadAgg [.int .i64 n.kind.v, .string n.var.v, .string n.typ.v, .slice n.tp n.tests.length n.tc, .slice n.kp n.kids.length n.kc] 5 ag_25 rfl (hw.blk_at (i := 0) rfl) (Nat.le_of_ble_eq_true rfl) rfl) ?_
    refine f_all (rs := [35]) (by kernel_rfl) (by simp) ?_
    refine a_cons ⟨_, rfl, ?_⟩ (fun x hx => absurd hx (by simp))
    intro w14 H15
    try dsimp only at H15
    refine r_take rfl rfl ?_
    refine s_call [.agg #[.int .i64 n.kind.v, .string n.var.v, .string n.typ.v, .slice n.tp n.tests.length n.tc, .slice n.kp n.kids.length n.kc]] pl_24 rfl rfl (check_Vars n (i := 1) rfl (by omega) H15) ?_
    rintro _ w18 ⟨pp16, cc17, rfl, H19⟩
    have H20 : St W w18 (blk bk3 (.cells #[.int .i64 n.kind.v, .string n.var.v, .string n.typ.v, .slice n.tp n.tests.length n.tc, .slice n.kp n.kids.length n.kc] 25 (0, 0)) :: NodeA n :: Im 1 (.slice pp16 ((varsS n).length) cc17) ((varsS n).length) ((varsS n).flatMap strCell) :: F) := ((H19.move 2 rfl).move 2 rfl)
    refine ⟨Im 1 (.slice pp16 ((varsS n).length) cc17) ((varsS n).length) ((varsS n).flatMap strCell) :: F, ?_, H20⟩
    change FReg _ _ _ _ _ #[true, true, true, true, true, true, true, true, true, true, true, true, true, true, true, true, true, true, true, true, true, true, true, true, true, true, true, true, true, true, true, true, true, true, true, true, true, false, false, false, false, false, false, false, false, false, false, false] _ _
    refine f_all (rs := [37]) (by kernel_rfl) (by simp) ?_
    refine a_cons ⟨_, rfl, ?_⟩ (fun x hx => absurd hx (by simp))
    intro w21 H22
    try dsimp only at H22
    refine r_take rfl rfl ?_
    refine s_call [.agg #[.int .i64 n.kind.v, .string n.var.v, .string n.typ.v, .slice n.tp n.tests.length n.tc, .slice n.kp n.kids.length n.kc]] pl_25 rfl rfl (ref07_Vars n (i := 1) rfl (by omega) H22) ?_
    rintro _ w25 ⟨pp23, cc24, rfl, H26⟩
    have H27 : St W w25 (blk bk3 (.cells #[.int .i64 n.kind.v, .string n.var.v, .string n.typ.v, .slice n.tp n.tests.length n.tc, .slice n.kp n.kids.length n.kc] 25 (0, 0)) :: NodeA n :: Im 1 (.slice pp23 ((varsS n).length) cc24) ((varsS n).length) ((varsS n).flatMap strCell) :: Im 1 (.slice pp16 ((varsS n).length) cc17) ((varsS n).length) ((varsS n).flatMap strCell) :: F) := ((((H26.move 3 rfl).move 1 rfl).move 3 rfl).move 3 rfl)
    refine ⟨Im 1 (.slice pp23 ((varsS n).length) cc24) ((varsS n).length) ((varsS n).flatMap strCell) :: Im 1 (.slice pp16 ((varsS n).length) cc17) ((varsS n).length) ((varsS n).flatMap strCell) :: F, ?_, H27⟩
    change FReg _ _ _ _ _ #[true, true, true, true, true, true, true, true, true, true, true, true, true, true, true, true, true, true, true, true, true, true, true, true, true, true, true, true, true, true, true, true, true, true, true, true, true, true, false, false, false, false, false, false, false, false, false, false] _ _
    refine f_all (rs := [38]) (by kernel_rfl) (by simp) ?_
    refine a_cons ⟨_, rfl, ?_⟩ (fun x hx => absurd hx (by simp))
    intro w28 H29
    try dsimp only at H29
    refine r_take rfl rfl ?_
    refine s_call [.slice pp16 ((varsS n).length) cc17, .slice pp23 ((varsS n).length) cc24] pl_23 rfl rfl (Equal_str (varsS n) (varsS n) (.slice pp16 ((varsS n).length) cc17) (.slice pp23 ((varsS n).length) cc24) (m := 3) rfl (n := 2) rfl H29) ?_
    rintro _ w30 ⟨rfl, H31⟩
    refine ⟨Im 1 (.slice pp23 ((varsS n).length) cc24) ((varsS n).length) ((varsS n).flatMap strCell) :: Im 1 (.slice pp16 ((varsS n).length) cc17) ((varsS n).length) ((varsS n).flatMap strCell) :: F, ?_, H31⟩
    change FReg _ _ _ _ _ #[true, true, true, true, true, true, true, true, true, true, true, true, true, true, true, true, true, true, true, true, true, true, true, true, true, true, true, true, true, true, true, true, true, true, true, true, true, true, true, false, false, false, false, false, false, false, false, false] _ _
    refine f_first 39 (listed' := #[true, true, true, true, true, true, true, true, true, true, true, true, true, true, true, true, true, true, true, true, true, true, true, true, true, true, true, true, true, true, true, true, true, true, true, true, true, true, true, true, false, false, false, false, false, false, false, false]) rfl (by kernel_rfl) (by kernel_rfl) (by kernel_rfl) rfl ?_
    refine f_val rfl rfl rfl (by intro t_ w hw; exact x_pick_t (.bool (eqS (varsS n) (varsS n))) rfl rfl w) ?_
    refine f_first 40 (listed' := #[true, true, true, true, true, true, true, true, true, true, true, true, true, true, true, true, true, true, true, true, true, true, true, true, true, true, true, true, true, true, true, true, true, true, true, true, true, true, true, true, true, false, false, false, false, false, false, false]) rfl (by kernel_rfl) (by kernel_rfl) (by kernel_rfl) rfl ?_
    refine f_val rfl rfl rfl (by intro t_ w hw; exact x_move (.bool (eqS (varsS n) (varsS n))) rfl w) ?_
    refine f_first 41 (listed' := #[true, true, true, true, true, true, true, true, true, true, true, true, true, true, true, true, true, true, true, true, true, true, true, true, true, true, true, true, true, true, true, true, true, true, true, true, true, true, true, true, true, true, false, false, false, false, false, false]) rfl (by kernel_rfl) (by kernel_rfl) (by kernel_rfl) rfl ?_
    refine f_take rfl (by exact congrArg some (eqS_refl _)) ?_
    refine f_val rfl rfl rfl (by intro t_ w hw; exact x_loadAgg [.int .i64 n.kind.v, .string n.var.v, .string n.typ.v, .slice n.tp n.tests.length n.tc, .slice n.kp n.kids.length n.kc] 5 ag_25 rfl (hw.blk_at (i := 0) rfl) (Nat.le_of_ble_eq_true rfl) rfl) ?_
    refine f_first 43 (listed' := #[true, true, true, true, true, true, true, true, true, true, true, true, true, true, true, true, true, true, true, true, true, true, true, true, true, true, true, true, true, true, true, true, true, true, true, true, true, true, true, true, true, true, false, true, false, false, false, false]) rfl (by kernel_rfl) (by kernel_rfl) (by kernel_rfl) rfl ?_
    refine f_take rfl (by exact congrArg some (eqS_refl _)) ?_
    refine f_val rfl rfl rfl (by intro t_ w hw; exact x_loadAgg [.int .i64 n.kind.v, .string n.var.v, .string n.typ.v, .slice n.tp n.tests.length n.tc, .slice n.kp n.kids.length n.kc] 5 ag_25 rfl (hw.blk_at (i := 0) rfl) (Nat.le_of_ble_eq_true rfl) rfl) ?_
    refine f_all (rs := [42]) (by kernel_rfl) (by simp) ?_
    refine a_cons ⟨_, rfl, ?_⟩ (fun x hx => absurd hx (by simp))
    intro w32 H33
    try dsimp only at H33
    refine r_take rfl (by exact congrArg some (eqS_refl _)) ?_
    refine s_call [.agg #[.int .i64 n.kind.v, .string n.var.v, .string n.typ.v, .slice n.tp n.tests.length n.tc, .slice n.kp n.kids.length n.kc]] pl_26 rfl rfl (check_Sure n (i := 1) rfl (by omega) H33) ?_
    rintro _ w36 ⟨pp34, cc35, rfl, H37⟩
    have H38 : St W w36 (blk bk3 (.cells #[.int .i64 n.kind.v, .string n.var.v, .string n.typ.v, .slice n.tp n.tests.length n.tc, .slice n.kp n.kids.length n.kc] 25 (0, 0)) :: NodeA n :: Im 1 (.slice pp34 ((sureN n).length) cc35) ((sureN n).length) ((sureN n).flatMap strCell) :: Im 1 (.slice pp23 ((varsS n).length) cc24) ((varsS n).length) ((varsS n).flatMap strCell) :: Im 1 (.slice pp16 ((varsS n).length) cc17) ((varsS n).length) ((varsS n).flatMap strCell) :: F) := (((((H37.move 4 rfl).move 4 rfl).move 2 rfl).move 4 rfl).move 4 rfl)
    refine ⟨Im 1 (.slice pp34 ((sureN n).length) cc35) ((sureN n).length) ((sureN n).flatMap strCell) :: Im 1 (.slice pp23 ((varsS n).length) cc24) ((varsS n).length) ((varsS n).flatMap strCell) :: Im 1 (.slice pp16 ((varsS n).length) cc17) ((varsS n).length) ((varsS n).flatMap strCell) :: F, ?_, H38⟩
    change FReg _ _ _ _ _ #[true, true, true, true, true, true, true, true, true, true, true, true, true, true, true, true, true, true, true, true, true, true, true, true, true, true, true, true, true, true, true, true, true, true, true, true, true, true, true, true, true, true, true, true, false, false, false, false] _ _
    refine f_all (rs := [44]) (by kernel_rfl) (by simp) ?_
    refine a_cons ⟨_, rfl, ?_⟩ (fun x hx => absurd hx (by simp))
    intro w39 H40
    try dsimp only at H40
    refine r_take rfl (by exact congrArg some (eqS_refl _)) ?_
    refine s_call [.agg #[.int .i64 n.kind.v, .string n.var.v, .string n.typ.v, .slice n.tp n.tests.length n.tc, .slice n.kp n.kids.length n.kc]] pl_27 rfl rfl (ref07_Sure n (i := 1) rfl (by omega) H40) ?_
    rintro _ w43 ⟨pp41, cc42, rfl, H44⟩
    have H45 : St W w43 (blk bk3 (.cells #[.int .i64 n.kind.v, .string n.var.v, .string n.typ.v, .slice n.tp n.tests.length n.tc, .slice n.kp n.kids.length n.kc] 25 (0, 0)) :: NodeA n :: Im 1 (.slice pp41 ((sureN n).length) cc42) ((sureN n).length) ((sureN n).flatMap strCell) :: Im 1 (.slice pp34 ((sureN n).length) cc35) ((sureN n).length) ((sureN n).flatMap strCell) :: Im 1 (.slice pp23 ((varsS n).length) cc24) ((varsS n).length) ((varsS n).flatMap strCell) :: Im 1 (.slice pp16 ((varsS n).length) cc17) ((varsS n).length) ((varsS n).flatMap strCell) :: F) := ((((((H44.move 5 rfl).move 5 rfl).move 5 rfl).move 3 rfl).move 5 rfl).move 5 rfl)
    refine ⟨Im 1 (.slice pp41 ((sureN n).length) cc42) ((sureN n).length) ((sureN n).flatMap strCell) :: Im 1 (.slice pp34 ((sureN n).length) cc35) ((sureN n).length) ((sureN n).flatMap strCell) :: Im 1 (.slice pp23 ((varsS n).length) cc24) ((varsS n).length) ((varsS n).flatMap strCell) :: Im 1 (.slice pp16 ((varsS n).length) cc17) ((varsS n).length) ((varsS n).flatMap strCell) :: F, ?_, H45⟩
    change FReg _ _ _ _ _ #[true, true, true, true, true, true, true, true, true, true, true, true, true, true, true, true, true, true, true, true, true, true, true, true, true, true, true, true, true, true, true, true, true, true, true, true, true, true, true, true, true, true, true, true, true, false, false, false] _ _
    refine f_all (rs := [45]) (by kernel_rfl) (by simp) ?_
    refine a_cons ⟨_, rfl, ?_⟩ (fun x hx => absurd hx (by simp))
    intro w46 H47
    try dsimp only at H47
    refine r_take rfl (by exact congrArg some (eqS_refl _)) ?_
    refine s_call [.slice pp34 ((sureN n).length) cc35, .slice pp41 ((sureN n).length) cc42] pl_23 rfl rfl (Equal_str (sureN n) (sureN n) (.slice pp34 ((sureN n).length) cc35) (.slice pp41 ((sureN n).length) cc42) (m := 3) rfl (n := 2) rfl H47) ?_
    rintro _ w48 ⟨rfl, H49⟩
    refine ⟨Im 1 (.slice pp41 ((sureN n).length) cc42) ((sureN n).length) ((sureN n).flatMap strCell) :: Im 1 (.slice pp34 ((sureN n).length) cc35) ((sureN n).length) ((sureN n).flatMap strCell) :: Im 1 (.slice pp23 ((varsS n).length) cc24) ((varsS n).length) ((varsS n).flatMap strCell) :: Im 1 (.slice pp16 ((varsS n).length) cc17) ((varsS n).length) ((varsS n).flatMap strCell) :: F, ?_, H49⟩
    change FReg _ _ _ _ _ #[true, true, true, true, true, true, true, true, true, true, true, true, true, true, true, true, true, true, true, true, true, true, true, true, true, true, true, true, true, true, true, true, true, true, true, true, true, true, true, true, true, true, true, true, true, true, false, false] _ _
    refine f_first 46 (listed' := #[true, true, true, true, true, true, true, true, true, true, true, true, true, true, true, true, true, true, true, true, true, true, true, true, true, true, true, true, true, true, true, true, true, true, true, true, true, true, true, true, true, true, true, true, true, true, true, false]) rfl (by kernel_rfl) (by kernel_rfl) (by kernel_rfl) rfl ?_
    refine f_val rfl rfl rfl (by intro t_ w hw; exact x_pick_t (.bool (eqS (sureN n) (sureN n))) (by exact congrArg Value.bool (eqS_refl _)) rfl w) ?_
    refine f_first 47 (listed' := #[true, true, true, true, true, true, true, true, true, true, true, true, true, true, true, true, true, true, true, true, true, true, true, true, true, true, true, true, true, true, true, true, true, true, true, true, true, true, true, true, true, true, true, true, true, true, true, true]) rfl (by kernel_rfl) (by kernel_rfl) (by kernel_rfl) rfl ?_
    refine f_val rfl rfl rfl (by intro t_ w hw; exact x_assign (.bool (eqS (sureN n) (sureN n))) rfl w) ?_
    refine f_done (by kernel_rfl) ?_
    intro w50 H51
    refine g_ret' [.bool (eqS (sureN n) (sureN n))] Try.func4 Try.results4 ⟨rfl, trivial⟩ ?_
    have H52 : St W w50 F := ((((((H51.drop 0 rfl).drop 0 rfl).drop 0 rfl).drop 0 rfl).drop 0 rfl).drop 0 rfl)
    exact ⟨congrArg Value.bool ((eqS_refl _)), H52⟩
end Sl
