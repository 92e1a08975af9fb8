/- Walks of the program's functions. Printed by a program of this claim's author. No condition. -/
import Derived.Test.YtkclljglobeplaaSlCH
import Derived.Test.YtkclljglobeplaaSlQ
import Derived.Test.YtkclljglobeplaaProg
import Derived.Test.YtkclljglobeplaaWalkCheckSame1
namespace Sl
open _root_.Go _root_.Go.RowKit _root_.Go.Proofs
set_option linter.all false
set_option maxHeartbeats 4000000 in
set_option maxRecDepth 100000 in
theorem check_Clone {W w : World} {F : List Atom} (p : PatD) {i : Nat} (hi : F[i]? = some (NodeA p.root)) {k : Nat} (hk : F[k]? = some (Im 11 (.slice p.wp p.wh.length p.wc) p.wh.length (p.wh.flatMap condCell))) (hb : p.wh.length * 136 ≤ 140737488355328) (H : St W w F) : Calls Try.prog 32 #[.agg #[.string p.name.v, .int .i64 p.win.v, .int .i64 p.root.kind.v, .string p.root.var.v, .string p.root.typ.v, .slice p.root.tp p.root.tests.length p.root.tc, .slice p.root.kp p.root.kids.length p.root.kc, .slice p.wp p.wh.length p.wc]] w (Ret fun v w' => ∃ (r : NodeD) (wp2 : Option Addr) (wc2 : Nat), v = .agg #[.string p.name.v, .int .i64 p.win.v, .int .i64 r.kind.v, .string r.var.v, .string r.typ.v, .slice r.tp r.tests.length r.tc, .slice r.kp r.kids.length r.kc, .slice wp2 p.wh.length wc2] ∧ eraseN r = eraseN p.root ∧ St W w' (TreeA 43 25 r :: Row 43 11 (.slice wp2 p.wh.length wc2) p.wh.length (p.wh.flatMap condCell) :: F)) := by
  have H1 := H.dup (i := i + 0) (by exact hi) (NodeA_pers _)
  have H2 := H1.dup (i := k + 1) (by exact hk) (Im_pers _ _ _ _)
  have H3 : St W w (Im 11 (.slice p.wp p.wh.length p.wc) p.wh.length (p.wh.flatMap condCell) :: NodeA p.root :: F) := H2
  refine calls_of_go (n := 12) Try.func32 rfl Try.ntmps32 rfl ?_
  refine g_seq ?_
  refine g_region ?_
  refine r_cons (s_box H3 27 (.agg #[.string p.name.v, .int .i64 p.win.v, .int .i64 p.root.kind.v, .string p.root.var.v, .string p.root.typ.v, .slice p.root.tp p.root.tests.length p.root.tc, .slice p.root.kp p.root.kids.length p.root.kc, .slice p.wp p.wh.length p.wc]) rfl (cs := #[.string p.name.v, .int .i64 p.win.v, .int .i64 p.root.kind.v, .string p.root.var.v, .string p.root.typ.v, .slice p.root.tp p.root.tests.length p.root.tc, .slice p.root.kp p.root.kids.length p.root.kc, .slice p.wp p.wh.length p.wc]) rfl rfl ?_); intro bk4 w5 H6
  refine r_cons (s_alloc H6 27 ze_27 rfl ?_); intro bk7 w8 H9
  refine r_nil ?_
  refine g_seq ?_
  refine g_region ?_
  refine r_cons (s_fieldAddr 27 3 7 7 22 rfl fi_27_3 rfl rfl ?_)
  refine r_cons (s_load (.slice p.wp p.wh.length p.wc) ag_22 rfl (H9.blk_at (i := 1) rfl) rfl rfl ?_)
  refine r_cons (s_call [.slice p.wp p.wh.length p.wc] pl_50 rfl rfl (Clone_cond p.wh (.slice p.wp p.wh.length p.wc) (m := 2) rfl (by omega) H9) ?_)
  rintro _ w12 ⟨pp10, cc11, rfl, H13⟩
  refine r_cons (s_fieldAddr 27 3 7 7 22 rfl fi_27_3 rfl rfl ?_)
  refine r_cons (s_store H13 2 (.slice pp10 p.wh.length cc11) rfl rfl rfl sz_22 rfl (Nat.le_of_ble_eq_true rfl) rfl (cs' := #[.string p.name.v, .int .i64 p.win.v, .int .i64 p.root.kind.v, .string p.root.var.v, .string p.root.typ.v, .slice p.root.tp p.root.tests.length p.root.tc, .slice p.root.kp p.root.kids.length p.root.kc, .slice pp10 p.wh.length cc11]) rfl ?_); intro w14 H15
  refine r_nil ?_
  refine g_seq ?_
  refine g_region ?_
  refine r_cons (s_fieldAddr 27 2 2 2 25 rfl fi_27_2 rfl rfl ?_)
  refine r_cons (s_loadAgg [.int .i64 p.root.kind.v, .string p.root.var.v, .string p.root.typ.v, .slice p.root.tp p.root.tests.length p.root.tc, .slice p.root.kp p.root.kids.length p.root.kc] 5 ag_25 rfl (H15.blk_at (i := 2) rfl) (Nat.le_of_ble_eq_true rfl) rfl rfl ?_)
  refine r_cons (s_call [.agg #[.int .i64 p.root.kind.v, .string p.root.var.v, .string p.root.typ.v, .slice p.root.tp p.root.tests.length p.root.tc, .slice p.root.kp p.root.kids.length p.root.kc]] pl_51 rfl rfl (check_cloneNode p.root (i := 4) rfl H15) ?_)
  rintro _ w19 ⟨nn16, rfl, hq17, H20⟩
  refine r_cons (s_fieldAddr 27 2 2 2 25 rfl fi_27_2 rfl rfl ?_)
  refine r_cons (s_storeAgg H20 3 #[.int .i64 nn16.kind.v, .string nn16.var.v, .string nn16.typ.v, .slice nn16.tp nn16.tests.length nn16.tc, .slice nn16.kp nn16.kids.length nn16.kc] 5 rfl rfl rfl sz_25 rfl (by simp [Value.oneCell']) (Nat.le_of_ble_eq_true rfl) (fun o h1 h2 => by first | (simp; done) | (simp; omega)) (cs' := #[.string p.name.v, .int .i64 p.win.v, .int .i64 nn16.kind.v, .string nn16.var.v, .string nn16.typ.v, .slice nn16.tp nn16.tests.length nn16.tc, .slice nn16.kp nn16.kids.length nn16.kc, .slice pp10 p.wh.length cc11]) rfl ?_); intro w21 H22
  refine r_nil ?_
  refine g_seq ?_
  refine g_region ?_
  refine r_cons (s_loadAgg [.string p.name.v, .int .i64 p.win.v, .int .i64 nn16.kind.v, .string nn16.var.v, .string nn16.typ.v, .slice nn16.tp nn16.tests.length nn16.tc, .slice nn16.kp nn16.kids.length nn16.kc, .slice pp10 p.wh.length cc11] 8 ag_27 rfl (H22.blk_at (i := 3) rfl) (Nat.le_of_ble_eq_true rfl) rfl rfl ?_)
  refine r_cons (s_storeAgg H22 2 #[.string p.name.v, .int .i64 p.win.v, .int .i64 nn16.kind.v, .string nn16.var.v, .string nn16.typ.v, .slice nn16.tp nn16.tests.length nn16.tc, .slice nn16.kp nn16.kids.length nn16.kc, .slice pp10 p.wh.length cc11] 8 rfl rfl rfl sz_27 rfl (by simp [Value.oneCell']) (Nat.le_of_ble_eq_true rfl) (fun o h1 h2 => by first | (simp; done) | (simp; omega)) (cs' := #[.string p.name.v, .int .i64 p.win.v, .int .i64 nn16.kind.v, .string nn16.var.v, .string nn16.typ.v, .slice nn16.tp nn16.tests.length nn16.tc, .slice nn16.kp nn16.kids.length nn16.kc, .slice pp10 p.wh.length cc11]) rfl ?_); intro w23 H24
  refine r_nil ?_
  refine g_ret' [.agg #[.string p.name.v, .int .i64 p.win.v, .int .i64 nn16.kind.v, .string nn16.var.v, .string nn16.typ.v, .slice nn16.tp nn16.tests.length nn16.tc, .slice nn16.kp nn16.kids.length nn16.kc, .slice pp10 p.wh.length cc11]] Try.func32 Try.results32 ⟨(res_cellN rfl ag_27 (H24.blk_at (i := 2) rfl) (Nat.le_of_ble_eq_true rfl) rfl), trivial⟩ ?_
  have H25 : St W w23 (TreeA 43 25 nn16 :: Row 43 11 (.slice pp10 p.wh.length cc11) p.wh.length (p.wh.flatMap condCell) :: F) := ((((((H24.move 1 rfl).move 1 rfl).drop 2 rfl).drop 2 rfl).drop 2 rfl).drop 2 rfl)
  exact ⟨nn16, pp10, cc11, rfl, hq17, H25⟩
set_option maxHeartbeats 4000000 in
set_option maxRecDepth 100000 in
theorem Equal_cond {W w : World} {F : List Atom} (L M : List CondV) (lv mv : Value) {m : Nat} (hm : F[m]? = some (Im 11 lv L.length (L.flatMap condCell))) {n : Nat} (hn : F[n]? = some (Im 11 mv M.length (M.flatMap condCell))) (H : St W w F) : Calls Try.prog 53 #[lv, mv] w (Ret fun v w' => v = .bool (sameCs L M) ∧ St W w' F) := by
  obtain ⟨pp1, cc2, rfl, hn3⟩ := Rd.shape (Im.rd H (i := m) hm)
  have H4 := H.dup (i := m + 0) (by exact hm) (Im_pers _ _ _ _)
  have H5 : St W w (Im 11 (.slice pp1 L.length cc2) L.length (L.flatMap condCell) :: F) := H4
  obtain ⟨pp6, cc7, rfl, hn8⟩ := Rd.shape (Im.rd H (i := n) hn)
  have H9 := H5.dup (i := n + 1) (by exact hn) (Im_pers _ _ _ _)
  have H10 : St W w (Im 11 (.slice pp6 M.length cc7) M.length (M.flatMap condCell) :: Im 11 (.slice pp1 L.length cc2) L.length (L.flatMap condCell) :: F) := H9
  refine calls_of_go (n := 26) Try.func53 rfl Try.ntmps53 rfl ?_
  refine g_seq ?_
  refine g_region ?_
  refine r_cons (s_assign (.bool false) rfl rfl ?_)
  refine r_nil ?_
  refine g_seq ?_
  refine g_seq ?_
  refine g_region ?_
  refine r_cons (s_move (.slice pp1 L.length cc2) rfl rfl ?_)
  refine r_cons (s_len L.length rfl ⟨_, un_22⟩ rfl ?_)
  refine r_cons (s_move (.slice pp6 M.length cc7) rfl rfl ?_)
  refine r_cons (s_len M.length rfl ⟨_, un_22⟩ rfl ?_)
  by_cases hc11 : (L.length : Int) = (M.length : Int)
  · skip
    refine r_cons (s_neq false rfl rfl (ntrue hc11) rfl ?_)
    refine r_nil ?_
    refine g_false rfl ?_
    refine g_skip ?_
    refine g_seq ?_
    refine g_seq ?_
    refine g_region ?_
    refine r_cons (s_move (.slice pp1 L.length cc2) rfl rfl ?_)
    refine r_cons (s_len L.length rfl ⟨_, un_22⟩ rfl ?_)
    refine r_cons (s_move (.int .i64 0) rfl rfl ?_)
    refine r_nil ?_
    refine g_block ?_
    obtain ⟨pA12, cA13, gA14, oA15, kA16, eA17, zA18, he24, hn19, hp20, hx21, hs22, hml, H23⟩ := Im.open_ H10 (i := 1) rfl
    obtain ⟨rfl, rfl⟩ : pp1 = pA12 ∧ cc2 = cA13 := by injection he24 with a_ b_ c_; exact ⟨a_, c_⟩
    obtain ⟨pA25, cA26, gA27, oA28, kA29, eA30, zA31, he37, hn32, hp33, hx34, hs35, hml, H36⟩ := Im.open_ H23 (i := 1) rfl
    obtain ⟨rfl, rfl⟩ : pp6 = pA25 ∧ cc7 = cA26 := by injection he37 with a_ b_ c_; exact ⟨a_, c_⟩
    have H38 : St W w (imi (0 < M.length) gA27 (.cells kA29 eA30 zA31) :: imi (0 < L.length) gA14 (.cells kA16 eA17 zA18) :: Im 11 (.slice pp6 M.length cc7) M.length (M.flatMap condCell) :: Im 11 (.slice pp1 L.length cc2) L.length (L.flatMap condCell) :: F) := ((((H36.move 3 rfl).move 3 rfl).move 3 rfl).move 3 rfl)
    refine g_loop_inv (fun (x_ : Nat) => match x_ with | j => [(0, .slice pp1 L.length cc2), (1, .slice pp6 M.length cc7), (4, .bool false), (12, .int .i64 (L.length : Int)), (13, .int .i64 (j : Int))]) (fun (x_ : Nat) w => match x_ with | j => (j ≤ L.length) ∧ (∀ q, q < j → sameCd (L.getD q default) (M.getD q default) = true) ∧ St W w (imi (0 < M.length) gA27 (.cells kA29 eA30 zA31) :: imi (0 < L.length) gA14 (.cells kA16 eA17 zA18) :: Im 11 (.slice pp6 M.length cc7) M.length (M.flatMap condCell) :: Im 11 (.slice pp1 L.length cc2) L.length (L.flatMap condCell) :: F)) (fun (x_ : Nat) => match x_ with | j => L.length - j) (0) ?_ ?_ ?_
    · exact ⟨by first | rfl | exact vint (by omega), by first | rfl | exact vint (by omega), by first | rfl | exact vint (by omega), by first | rfl | exact vint (by omega), by first | rfl | exact vint (by omega), trivial⟩
    · exact ⟨(by omega), (fun q hq => by omega), H38⟩
    · rintro j ρ39 w40 ⟨hjn, hz, H41⟩ nx42
      change Ends _ _ (upds ρ39 [(0, .slice pp1 L.length cc2), (1, .slice pp6 M.length cc7), (4, .bool false), (12, .int .i64 (L.length : Int)), (13, .int .i64 (j : Int))]) w40
      refine g_seq ?_
      refine g_region ?_
      by_cases hc43 : (j : Int) < (L.length : Int)
      · skip
        refine r_cons (s_lss true rfl rfl (dtrue hc43) rfl ?_)
        refine r_nil ?_
        refine g_seq ?_
        refine g_true rfl ?_
        refine g_skip ?_
        refine g_seq ?_
        refine g_block ?_
        refine g_seq ?_
        refine g_region ?_
        refine r_cons (s_move (.int .i64 (j : Int)) rfl rfl ?_)
        refine r_cons (s_assign (.int .i64 (j : Int)) rfl rfl ?_)
        refine r_nil ?_
        refine g_seq ?_
        refine g_quiet (fun w' => St W w' (imi (0 < M.length) gA27 (.cells kA29 eA30 zA31) :: imi (0 < L.length) gA14 (.cells kA16 eA17 zA18) :: Im 11 (.slice pp6 M.length cc7) M.length (M.flatMap condCell) :: Im 11 (.slice pp1 L.length cc2) L.length (L.flatMap condCell) :: F)) mixed (by kernel_rfl) H41.drew ?_
        refine q_cons (q_val rfl rfl rfl (by intro w hw; exact x_move (.slice pp1 L.length cc2) rfl w) ?_)
        refine q_cons (q_val rfl rfl rfl (by intro w hw; exact x_move (.int .i64 (j : Int)) rfl w) ?_)
        refine q_cons (q_val rfl rfl rfl (by intro w hw; exact x_indexAddr gA14 (off := oA15) (j : Int) 11 (oA15 + j * 11) (by exact congrArg (fun z_ => Value.slice z_ L.length cc2) (hp20 (by omega))) rfl el_22 (by omega) rfl w) ?_)
        refine q_cons (q_val rfl rfl rfl (by intro w hw; exact x_loadAgg [.string ((L.getD j default).left.var.v), .string ((L.getD j default).left.attr.v), .int .i64 ((L.getD j default).left.val.kind.v), .int .i64 ((L.getD j default).left.val.n.v), .string ((L.getD j default).left.val.s.v), .int .i64 ((L.getD j default).rel.v), .string ((L.getD j default).right.var.v), .string ((L.getD j default).right.attr.v), .int .i64 ((L.getD j default).right.val.kind.v), .int .i64 ((L.getD j default).right.val.n.v), .string ((L.getD j default).right.val.s.v)] 11 ag_43 rfl (hw.imi_at (i := 1) rfl (by omega)) (by have := elem_size (i := j) (s := 11) (hs22 (by omega)) (by omega); omega) (elem_take condCell_len (hx21 (by omega)) (by omega) default)) ?_)
        refine q_cons (q_val rfl rfl rfl (by intro w hw; exact x_move (.slice pp6 M.length cc7) rfl w) ?_)
        refine q_cons (q_val rfl rfl rfl (by intro w hw; exact x_move (.int .i64 (j : Int)) rfl w) ?_)
        refine q_cons (q_val rfl rfl rfl (by intro w hw; exact x_indexAddr gA27 (off := oA28) (j : Int) 11 (oA28 + j * 11) (by exact congrArg (fun z_ => Value.slice z_ M.length cc7) (hp33 (by omega))) rfl el_22 (by omega) rfl w) ?_)
        refine q_cons (q_val rfl rfl rfl (by intro w hw; exact x_loadAgg [.string ((M.getD j default).left.var.v), .string ((M.getD j default).left.attr.v), .int .i64 ((M.getD j default).left.val.kind.v), .int .i64 ((M.getD j default).left.val.n.v), .string ((M.getD j default).left.val.s.v), .int .i64 ((M.getD j default).rel.v), .string ((M.getD j default).right.var.v), .string ((M.getD j default).right.attr.v), .int .i64 ((M.getD j default).right.val.kind.v), .int .i64 ((M.getD j default).right.val.n.v), .string ((M.getD j default).right.val.s.v)] 11 ag_43 rfl (hw.imi_at (i := 0) rfl (by omega)) (by have := elem_size (i := j) (s := 11) (hs35 (by omega)) (by omega); omega) (elem_take condCell_len (hx34 (by omega)) (by omega) default)) ?_)
        refine q_cons (q_val rfl rfl rfl (by intro w hw; exact x_aneq (!(sameCd (L.getD j default) (M.getD j default))) gd_43 ev_43 rfl rfl rfl w) ?_)
        refine q_nil ?_
        intro w44 H45
        by_cases hb46 : (!(sameCd (L.getD j default) (M.getD j default))) = true
        · skip
          refine g_true (congrArg Value.bool hb46) ?_
          refine g_seq ?_
          refine g_region ?_
          refine r_cons (s_assign (.bool false) rfl rfl ?_)
          refine r_nil ?_
          refine g_ret' [.bool false] Try.func53 Try.results53 ⟨rfl, trivial⟩ ?_
          have H47 : St W w44 F := ((((H45.drop 0 rfl).drop 0 rfl).drop 0 rfl).drop 0 rfl)
          exact ⟨congrArg Value.bool (sameCs_at (j := j) (by omega) (by omega) (by simpa using hb46)).symm, H47⟩
        · have hb46 := eq_false_of_ne_true hb46
          refine g_false (congrArg Value.bool hb46) ?_
          refine g_skip ?_
          refine g_inBlock ?_
          refine g_region ?_
          refine r_cons (s_add ((j : Int) + 1) rfl rfl (wi64 (by omega)) rfl ?_)
          refine r_cons (s_move (.int .i64 ((j : Int) + 1)) rfl rfl ?_)
          refine r_nil ?_
          have H48 : St W w44 (imi (0 < M.length) gA27 (.cells kA29 eA30 zA31) :: imi (0 < L.length) gA14 (.cells kA16 eA17 zA18) :: Im 11 (.slice pp6 M.length cc7) M.length (M.flatMap condCell) :: Im 11 (.slice pp1 L.length cc2) L.length (L.flatMap condCell) :: F) := ((((H45.move 3 rfl).move 3 rfl).move 3 rfl).move 3 rfl)
          exact nx42 (j + 1) _ _ ⟨(by omega), (fun q hq => (Nat.lt_or_ge q j).elim (hz q) (fun h => by rw [show q = j from by omega]; exact (by simpa using hb46))), H48⟩ (by first | (dsimp only; omega) | omega) ⟨by first | rfl | exact vint (by omega), by first | rfl | exact vint (by omega), by first | rfl | exact vint (by omega), by first | rfl | exact vint (by omega), by first | rfl | exact vint (by omega), trivial⟩
      · skip
        refine r_cons (s_lss false rfl rfl (dfalse hc43) rfl ?_)
        refine r_nil ?_
        refine g_seq ?_
        refine g_false rfl ?_
        refine g_exit (by rfl) ?_
        refine g_seq ?_
        refine g_region ?_
        refine r_cons (s_assign (.bool true) rfl rfl ?_)
        refine r_nil ?_
        refine g_ret' [.bool true] Try.func53 Try.results53 ⟨rfl, trivial⟩ ?_
        have H49 : St W w40 F := ((((H41.drop 0 rfl).drop 0 rfl).drop 0 rfl).drop 0 rfl)
        exact ⟨congrArg Value.bool (sameCs_all (by omega) (fun q hq => hz q (by omega))).symm, H49⟩
  · skip
    refine r_cons (s_neq true rfl rfl (nfalse hc11) rfl ?_)
    refine r_nil ?_
    refine g_true rfl ?_
    refine g_seq ?_
    refine g_region ?_
    refine r_cons (s_assign (.bool false) rfl rfl ?_)
    refine r_nil ?_
    refine g_ret' [.bool false] Try.func53 Try.results53 ⟨rfl, trivial⟩ ?_
    have H50 : St W w F := ((H10.drop 0 rfl).drop 0 rfl)
    exact ⟨congrArg Value.bool (sameCs_len (by omega)).symm, H50⟩
set_option maxHeartbeats 4000000 in
set_option maxRecDepth 100000 in
theorem ref07_SameCs {W w : World} {F : List Atom} (L M : List CondV) (lv mv : Value) {m : Nat} (hm : F[m]? = some (Im 11 lv L.length (L.flatMap condCell))) {n : Nat} (hn : F[n]? = some (Im 11 mv M.length (M.flatMap condCell))) (H : St W w F) : Calls Try.prog 56 #[lv, mv] w (Ret fun v w' => v = .bool (sameCs L M) ∧ St W w' F) := by
  obtain ⟨pp1, cc2, rfl, hn3⟩ := Rd.shape (Im.rd H (i := m) hm)
  have H4 := H.dup (i := m + 0) (by exact hm) (Im_pers _ _ _ _)
  have H5 : St W w (Im 11 (.slice pp1 L.length cc2) L.length (L.flatMap condCell) :: F) := H4
  obtain ⟨pp6, cc7, rfl, hn8⟩ := Rd.shape (Im.rd H (i := n) hn)
  have H9 := H5.dup (i := n + 1) (by exact hn) (Im_pers _ _ _ _)
  have H10 : St W w (Im 11 (.slice pp6 M.length cc7) M.length (M.flatMap condCell) :: Im 11 (.slice pp1 L.length cc2) L.length (L.flatMap condCell) :: F) := H9
  refine calls_of_go (n := 26) Try.func56 rfl Try.ntmps56 rfl ?_
  refine g_seq ?_
  refine g_region ?_
  refine r_cons (s_assign (.bool false) rfl rfl ?_)
  refine r_nil ?_
  refine g_seq ?_
  refine g_seq ?_
  refine g_region ?_
  refine r_cons (s_move (.slice pp1 L.length cc2) rfl rfl ?_)
  refine r_cons (s_len L.length rfl ⟨_, un_22⟩ rfl ?_)
  refine r_cons (s_move (.slice pp6 M.length cc7) rfl rfl ?_)
  refine r_cons (s_len M.length rfl ⟨_, un_22⟩ rfl ?_)
  by_cases hc11 : (L.length : Int) = (M.length : Int)
  · skip
    refine r_cons (s_neq false rfl rfl (ntrue hc11) rfl ?_)
    refine r_nil ?_
    refine g_false rfl ?_
    refine g_skip ?_
    refine g_seq ?_
    refine g_seq ?_
    refine g_region ?_
    refine r_cons (s_assign (.int .i64 0) rfl rfl ?_)
    refine r_nil ?_
    refine g_block ?_
    obtain ⟨pA12, cA13, gA14, oA15, kA16, eA17, zA18, he24, hn19, hp20, hx21, hs22, hml, H23⟩ := Im.open_ H10 (i := 1) rfl
    obtain ⟨rfl, rfl⟩ : pp1 = pA12 ∧ cc2 = cA13 := by injection he24 with a_ b_ c_; exact ⟨a_, c_⟩
    obtain ⟨pA25, cA26, gA27, oA28, kA29, eA30, zA31, he37, hn32, hp33, hx34, hs35, hml, H36⟩ := Im.open_ H23 (i := 1) rfl
    obtain ⟨rfl, rfl⟩ : pp6 = pA25 ∧ cc7 = cA26 := by injection he37 with a_ b_ c_; exact ⟨a_, c_⟩
    have H38 : St W w (imi (0 < M.length) gA27 (.cells kA29 eA30 zA31) :: imi (0 < L.length) gA14 (.cells kA16 eA17 zA18) :: Im 11 (.slice pp6 M.length cc7) M.length (M.flatMap condCell) :: Im 11 (.slice pp1 L.length cc2) L.length (L.flatMap condCell) :: F) := ((((H36.move 3 rfl).move 3 rfl).move 3 rfl).move 3 rfl)
    refine g_loop_inv (fun (x_ : Nat) => match x_ with | j => [(0, .slice pp1 L.length cc2), (1, .slice pp6 M.length cc7), (4, .bool false), (5, .int .i64 (j : Int))]) (fun (x_ : Nat) w => match x_ with | j => (j ≤ L.length) ∧ (∀ q, q < j → sameCd (L.getD q default) (M.getD q default) = true) ∧ St W w (imi (0 < M.length) gA27 (.cells kA29 eA30 zA31) :: imi (0 < L.length) gA14 (.cells kA16 eA17 zA18) :: Im 11 (.slice pp6 M.length cc7) M.length (M.flatMap condCell) :: Im 11 (.slice pp1 L.length cc2) L.length (L.flatMap condCell) :: F)) (fun (x_ : Nat) => match x_ with | j => L.length - j) (0) ?_ ?_ ?_
    · exact ⟨by first | rfl | exact vint (by omega), by first | rfl | exact vint (by omega), by first | rfl | exact vint (by omega), by first | rfl | exact vint (by omega), trivial⟩
    · exact ⟨(by omega), (fun q hq => by omega), H38⟩
    · rintro j ρ39 w40 ⟨hjn, hz, H41⟩ nx42
      change Ends _ _ (upds ρ39 [(0, .slice pp1 L.length cc2), (1, .slice pp6 M.length cc7), (4, .bool false), (5, .int .i64 (j : Int))]) w40
      refine g_seq ?_
      refine g_seq ?_
      refine g_region ?_
      refine r_cons (s_move (.int .i64 (j : Int)) rfl rfl ?_)
      refine r_cons (s_move (.slice pp1 L.length cc2) rfl rfl ?_)
      refine r_cons (s_len L.length rfl ⟨_, un_22⟩ rfl ?_)
      by_cases hc43 : (j : Int) < (L.length : Int)
      · skip
        refine r_cons (s_lss true rfl rfl (dtrue hc43) rfl ?_)
        refine r_nil ?_
        refine g_true rfl ?_
        refine g_skip ?_
        refine g_seq ?_
        refine g_block ?_
        refine g_seq ?_
        refine g_quiet (fun w' => St W w' (imi (0 < M.length) gA27 (.cells kA29 eA30 zA31) :: imi (0 < L.length) gA14 (.cells kA16 eA17 zA18) :: Im 11 (.slice pp6 M.length cc7) M.length (M.flatMap condCell) :: Im 11 (.slice pp1 L.length cc2) L.length (L.flatMap condCell) :: F)) mixed (by kernel_rfl) H41.drew ?_
        refine q_cons (q_val rfl rfl rfl (by intro w hw; exact x_move (.slice pp1 L.length cc2) rfl w) ?_)
        refine q_cons (q_val rfl rfl rfl (by intro w hw; exact x_move (.int .i64 (j : Int)) rfl w) ?_)
        refine q_cons (q_val rfl rfl rfl (by intro w hw; exact x_indexAddr gA14 (off := oA15) (j : Int) 11 (oA15 + j * 11) (by exact congrArg (fun z_ => Value.slice z_ L.length cc2) (hp20 (by omega))) rfl el_22 (by omega) rfl w) ?_)
        refine q_cons (q_val rfl rfl rfl (by intro w hw; exact x_loadAgg [.string ((L.getD j default).left.var.v), .string ((L.getD j default).left.attr.v), .int .i64 ((L.getD j default).left.val.kind.v), .int .i64 ((L.getD j default).left.val.n.v), .string ((L.getD j default).left.val.s.v), .int .i64 ((L.getD j default).rel.v), .string ((L.getD j default).right.var.v), .string ((L.getD j default).right.attr.v), .int .i64 ((L.getD j default).right.val.kind.v), .int .i64 ((L.getD j default).right.val.n.v), .string ((L.getD j default).right.val.s.v)] 11 ag_43 rfl (hw.imi_at (i := 1) rfl (by omega)) (by have := elem_size (i := j) (s := 11) (hs22 (by omega)) (by omega); omega) (elem_take condCell_len (hx21 (by omega)) (by omega) default)) ?_)
        refine q_cons (q_val rfl rfl rfl (by intro w hw; exact x_move (.slice pp6 M.length cc7) rfl w) ?_)
        refine q_cons (q_val rfl rfl rfl (by intro w hw; exact x_move (.int .i64 (j : Int)) rfl w) ?_)
        refine q_cons (q_val rfl rfl rfl (by intro w hw; exact x_indexAddr gA27 (off := oA28) (j : Int) 11 (oA28 + j * 11) (by exact congrArg (fun z_ => Value.slice z_ M.length cc7) (hp33 (by omega))) rfl el_22 (by omega) rfl w) ?_)
        refine q_cons (q_val rfl rfl rfl (by intro w hw; exact x_loadAgg [.string ((M.getD j default).left.var.v), .string ((M.getD j default).left.attr.v), .int .i64 ((M.getD j default).left.val.kind.v), .int .i64 ((M.getD j default).left.val.n.v), .string ((M.getD j default).left.val.s.v), .int .i64 ((M.getD j default).rel.v), .string ((M.getD j default).right.var.v), .string ((M.getD j default).right.attr.v), .int .i64 ((M.getD j default).right.val.kind.v), .int .i64 ((M.getD j default).right.val.n.v), .string ((M.getD j default).right.val.s.v)] 11 ag_43 rfl (hw.imi_at (i := 0) rfl (by omega)) (by have := elem_size (i := j) (s := 11) (hs35 (by omega)) (by omega); omega) (elem_take condCell_len (hx34 (by omega)) (by omega) default)) ?_)
        refine q_cons (q_val rfl rfl rfl (by intro w hw; exact x_aneq (!(sameCd (L.getD j default) (M.getD j default))) gd_43 ev_43 rfl rfl rfl w) ?_)
        refine q_nil ?_
        intro w44 H45
        by_cases hb46 : (!(sameCd (L.getD j default) (M.getD j default))) = true
        · skip
          refine g_true (congrArg Value.bool hb46) ?_
          refine g_seq ?_
          refine g_region ?_
          refine r_cons (s_assign (.bool false) rfl rfl ?_)
          refine r_nil ?_
          refine g_ret' [.bool false] Try.func56 Try.results56 ⟨rfl, trivial⟩ ?_
          have H47 : St W w44 F := ((((H45.drop 0 rfl).drop 0 rfl).drop 0 rfl).drop 0 rfl)
          exact ⟨congrArg Value.bool (sameCs_at (j := j) (by omega) (by omega) (by simpa using hb46)).symm, H47⟩
        · have hb46 := eq_false_of_ne_true hb46
          refine g_false (congrArg Value.bool hb46) ?_
          refine g_skip ?_
          refine g_inBlock ?_
          refine g_region ?_
          refine r_cons (s_move (.int .i64 (j : Int)) rfl rfl ?_)
          refine r_cons (s_add ((j : Int) + 1) rfl rfl (wi64 (by omega)) rfl ?_)
          refine r_cons (s_assign (.int .i64 ((j : Int) + 1)) rfl rfl ?_)
          refine r_nil ?_
          have H48 : St W w44 (imi (0 < M.length) gA27 (.cells kA29 eA30 zA31) :: imi (0 < L.length) gA14 (.cells kA16 eA17 zA18) :: Im 11 (.slice pp6 M.length cc7) M.length (M.flatMap condCell) :: Im 11 (.slice pp1 L.length cc2) L.length (L.flatMap condCell) :: F) := ((((H45.move 3 rfl).move 3 rfl).move 3 rfl).move 3 rfl)
          exact nx42 (j + 1) _ _ ⟨(by omega), (fun q hq => (Nat.lt_or_ge q j).elim (hz q) (fun h => by rw [show q = j from by omega]; exact (by simpa using hb46))), H48⟩ (by first | (dsimp only; omega) | omega) ⟨by first | rfl | exact vint (by omega), by first | rfl | exact vint (by omega), by first | rfl | exact vint (by omega), by first | rfl | exact vint (by omega), trivial⟩
      · skip
        refine r_cons (s_lss false rfl rfl (dfalse hc43) rfl ?_)
        refine r_nil ?_
        refine g_false rfl ?_
        refine g_exit (by rfl) ?_
        refine g_seq ?_
        refine g_region ?_
        refine r_cons (s_assign (.bool true) rfl rfl ?_)
        refine r_nil ?_
        refine g_ret' [.bool true] Try.func56 Try.results56 ⟨rfl, trivial⟩ ?_
        have H49 : St W w40 F := ((((H41.drop 0 rfl).drop 0 rfl).drop 0 rfl).drop 0 rfl)
        exact ⟨congrArg Value.bool (sameCs_all (by omega) (fun q hq => hz q (by omega))).symm, H49⟩
  · skip
    refine r_cons (s_neq true rfl rfl (nfalse hc11) rfl ?_)
    refine r_nil ?_
    refine g_true rfl ?_
    refine g_seq ?_
    refine g_region ?_
    refine r_cons (s_assign (.bool false) rfl rfl ?_)
    refine r_nil ?_
    refine g_ret' [.bool false] Try.func56 Try.results56 ⟨rfl, trivial⟩ ?_
    have H50 : St W w F := ((H10.drop 0 rfl).drop 0 rfl)
    exact ⟨congrArg Value.bool (sameCs_len (by omega)).symm, H50⟩
set_option maxHeartbeats 4000000 in
set_option maxRecDepth 100000 in
theorem EqualFunc_node {W w : World} {F : List Atom} (L M : List NodeD) (lv mv : Value) {m : Nat} (hm : F[m]? = some (Im 5 lv L.length (L.flatMap nodeCell))) {n : Nat} (hn : F[n]? = some (Im 5 mv M.length (M.flatMap nodeCell))) {il : Nat} (hl : F[il]? = some (NodesA L)) {ik : Nat} (hk : F[ik]? = some (NodesA M)) (hf : ∀ x ∈ L, ∀ (y : NodeD) {W w : World} {F : List Atom} {i i2 : Nat}, F[i]? = some (NodeA x) → F[i2]? = some (NodeA y) → St W w F → Calls Try.prog 54 #[.agg #[.int .i64 x.kind.v, .string x.var.v, .string x.typ.v, .slice x.tp x.tests.length x.tc, .slice x.kp x.kids.length x.kc], .agg #[.int .i64 y.kind.v, .string y.var.v, .string y.typ.v, .slice y.tp y.tests.length y.tc, .slice y.kp y.kids.length y.kc]] w (Ret fun v w' => v = .bool (sameNB x y) ∧ St W w' F)) (H : St W w F) : Calls Try.prog 65 #[lv, mv, .func (.func 54) #[] #[]] w (Ret fun v w' => v = .bool (sameNL L M) ∧ St W w' F) := by
  obtain ⟨pp1, cc2, rfl, hn3⟩ := Rd.shape (Im.rd H (i := m) hm)
  have H4 := H.dup (i := m + 0) (by exact hm) (Im_pers _ _ _ _)
  have H5 : St W w (Im 5 (.slice pp1 L.length cc2) L.length (L.flatMap nodeCell) :: F) := H4
  obtain ⟨pp6, cc7, rfl, hn8⟩ := Rd.shape (Im.rd H (i := n) hn)
  have H9 := H5.dup (i := n + 1) (by exact hn) (Im_pers _ _ _ _)
  have H10 : St W w (Im 5 (.slice pp6 M.length cc7) M.length (M.flatMap nodeCell) :: Im 5 (.slice pp1 L.length cc2) L.length (L.flatMap nodeCell) :: F) := H9
  have H11 := H10.dup (i := il + 2) (by exact hl) (NodesA_pers _)
  have H12 : St W w (NodesA L :: Im 5 (.slice pp6 M.length cc7) M.length (M.flatMap nodeCell) :: Im 5 (.slice pp1 L.length cc2) L.length (L.flatMap nodeCell) :: F) := H11
  have H13 := H12.dup (i := ik + 3) (by exact hk) (NodesA_pers _)
  have H14 : St W w (NodesA M :: NodesA L :: Im 5 (.slice pp6 M.length cc7) M.length (M.flatMap nodeCell) :: Im 5 (.slice pp1 L.length cc2) L.length (L.flatMap nodeCell) :: F) := H13
  refine calls_of_go (n := 32) Try.func65 rfl Try.ntmps65 rfl ?_
  refine g_seq ?_
  refine g_region ?_
  refine r_cons (s_assign (.bool false) rfl rfl ?_)
  refine r_nil ?_
  refine g_seq ?_
  refine g_seq ?_
  refine g_region ?_
  refine r_cons (s_move (.slice pp1 L.length cc2) rfl rfl ?_)
  refine r_cons (s_len L.length rfl ⟨_, un_23⟩ rfl ?_)
  refine r_cons (s_move (.slice pp6 M.length cc7) rfl rfl ?_)
  refine r_cons (s_len M.length rfl ⟨_, un_23⟩ rfl ?_)
  by_cases hc15 : (L.length : Int) = (M.length : Int)
  · skip
    refine r_cons (s_neq false rfl rfl (ntrue hc15) rfl ?_)
    refine r_nil ?_
    refine g_false rfl ?_
    refine g_skip ?_
    refine g_seq ?_
    refine g_seq ?_
    refine g_region ?_
    refine r_cons (s_move (.slice pp1 L.length cc2) rfl rfl ?_)
    refine r_cons (s_len L.length rfl ⟨_, un_23⟩ rfl ?_)
    refine r_cons (s_move (.int .i64 0) rfl rfl ?_)
    refine r_nil ?_
    refine g_block ?_
    obtain ⟨pA16, cA17, gA18, oA19, kA20, eA21, zA22, he28, hn23, hp24, hx25, hs26, hml, H27⟩ := Im.open_ H14 (i := 3) rfl
    obtain ⟨rfl, rfl⟩ : pp1 = pA16 ∧ cc2 = cA17 := by injection he28 with a_ b_ c_; exact ⟨a_, c_⟩
    obtain ⟨pA29, cA30, gA31, oA32, kA33, eA34, zA35, he41, hn36, hp37, hx38, hs39, hml, H40⟩ := Im.open_ H27 (i := 3) rfl
    obtain ⟨rfl, rfl⟩ : pp6 = pA29 ∧ cc7 = cA30 := by injection he41 with a_ b_ c_; exact ⟨a_, c_⟩
    have H42 : St W w (imi (0 < M.length) gA31 (.cells kA33 eA34 zA35) :: imi (0 < L.length) gA18 (.cells kA20 eA21 zA22) :: NodesA M :: NodesA L :: Im 5 (.slice pp6 M.length cc7) M.length (M.flatMap nodeCell) :: Im 5 (.slice pp1 L.length cc2) L.length (L.flatMap nodeCell) :: F) := ((((((H40.move 5 rfl).move 5 rfl).move 5 rfl).move 5 rfl).move 5 rfl).move 5 rfl)
    refine g_loop_inv (fun (x_ : Nat) => match x_ with | j => [(1, .slice pp6 M.length cc7), (2, .func (.func 54) #[] #[]), (6, .bool false), (15, .slice pp1 L.length cc2), (16, .int .i64 (L.length : Int)), (17, .int .i64 (j : Int))]) (fun (x_ : Nat) w => match x_ with | j => (j ≤ L.length) ∧ (∀ q, q < j → sameNB (L.getD q default) (M.getD q default) = true) ∧ St W w (imi (0 < M.length) gA31 (.cells kA33 eA34 zA35) :: imi (0 < L.length) gA18 (.cells kA20 eA21 zA22) :: NodesA M :: NodesA L :: Im 5 (.slice pp6 M.length cc7) M.length (M.flatMap nodeCell) :: Im 5 (.slice pp1 L.length cc2) L.length (L.flatMap nodeCell) :: F)) (fun (x_ : Nat) => match x_ with | j => L.length - j) (0) ?_ ?_ ?_
    · exact ⟨by first | rfl | exact vint (by omega), by first | rfl | exact vint (by omega), by first | rfl | exact vint (by omega), by first | rfl | exact vint (by omega), by first | rfl | exact vint (by omega), by first | rfl | exact vint (by omega), trivial⟩
    · exact ⟨(by omega), (fun q hq => by omega), H42⟩
    · rintro j ρ43 w44 ⟨hjl, hz, H45⟩ nx46
      change Ends _ _ (upds ρ43 [(1, .slice pp6 M.length cc7), (2, .func (.func 54) #[] #[]), (6, .bool false), (15, .slice pp1 L.length cc2), (16, .int .i64 (L.length : Int)), (17, .int .i64 (j : Int))]) w44
      refine g_seq ?_
      refine g_region ?_
      by_cases hc47 : (j : Int) < (L.length : Int)
      · skip
        refine r_cons (s_lss true rfl rfl (dtrue hc47) rfl ?_)
        refine r_nil ?_
        refine g_seq ?_
        refine g_true rfl ?_
        refine g_skip ?_
        refine g_seq ?_
        refine g_block ?_
        refine g_seq ?_
        refine g_region ?_
        refine r_cons (s_move (.int .i64 (j : Int)) rfl rfl ?_)
        refine r_cons (s_indexAddr gA18 (off := oA19) (j : Int) 5 (oA19 + j * 5) (by exact congrArg (fun z_ => Value.slice z_ L.length cc2) (hp24 (by omega))) rfl el_23 (by omega) rfl rfl ?_)
        refine r_cons (s_loadAgg [.int .i64 ((L.getD j default).kind.v), .string ((L.getD j default).var.v), .string ((L.getD j default).typ.v), .slice ((L.getD j default).tp) ((L.getD j default).tests.length) ((L.getD j default).tc), .slice ((L.getD j default).kp) ((L.getD j default).kids.length) ((L.getD j default).kc)] 5 ag_25 rfl (H45.imi_at (i := 1) rfl (by omega)) (by have := elem_size (i := j) (s := 5) (hs26 (by omega)) (by omega); omega) (elem_take nodeCell_len (hx25 (by omega)) (by omega) default) rfl ?_)
        refine r_cons (s_alloc H45 25 ze_25 rfl ?_); intro bk48 w49 H50
        refine r_cons (s_assign (.int .i64 (j : Int)) rfl rfl ?_)
        refine r_cons (s_storeAgg H50 0 #[.int .i64 ((L.getD j default).kind.v), .string ((L.getD j default).var.v), .string ((L.getD j default).typ.v), .slice ((L.getD j default).tp) ((L.getD j default).tests.length) ((L.getD j default).tc), .slice ((L.getD j default).kp) ((L.getD j default).kids.length) ((L.getD j default).kc)] 5 rfl rfl rfl sz_25 rfl (by simp [Value.oneCell']) (Nat.le_of_ble_eq_true rfl) (fun o h1 h2 => by first | (simp; done) | (simp; omega)) (cs' := #[.int .i64 ((L.getD j default).kind.v), .string ((L.getD j default).var.v), .string ((L.getD j default).typ.v), .slice ((L.getD j default).tp) ((L.getD j default).tests.length) ((L.getD j default).tc), .slice ((L.getD j default).kp) ((L.getD j default).kids.length) ((L.getD j default).kc)]) rfl ?_); intro w51 H52
        refine r_nil ?_
        refine g_seq ?_
        refine g_region ?_
        refine r_cons (s_move (.slice pp6 M.length cc7) rfl rfl ?_)
        refine r_cons (s_move (.int .i64 (j : Int)) rfl rfl ?_)
        refine r_cons (s_indexAddr gA31 (off := oA32) (j : Int) 5 (oA32 + j * 5) (by exact congrArg (fun z_ => Value.slice z_ M.length cc7) (hp37 (by omega))) rfl el_23 (by omega) rfl rfl ?_)
        refine r_cons (s_loadAgg [.int .i64 ((M.getD j default).kind.v), .string ((M.getD j default).var.v), .string ((M.getD j default).typ.v), .slice ((M.getD j default).tp) ((M.getD j default).tests.length) ((M.getD j default).tc), .slice ((M.getD j default).kp) ((M.getD j default).kids.length) ((M.getD j default).kc)] 5 ag_25 rfl (H52.imi_at (i := 1) rfl (by omega)) (by have := elem_size (i := j) (s := 5) (hs39 (by omega)) (by omega); omega) (elem_take nodeCell_len (hx38 (by omega)) (by omega) default) rfl ?_)
        refine r_cons (s_alloc H52 25 ze_25 rfl ?_); intro bk53 w54 H55
        refine r_cons (s_storeAgg H55 0 #[.int .i64 ((M.getD j default).kind.v), .string ((M.getD j default).var.v), .string ((M.getD j default).typ.v), .slice ((M.getD j default).tp) ((M.getD j default).tests.length) ((M.getD j default).tc), .slice ((M.getD j default).kp) ((M.getD j default).kids.length) ((M.getD j default).kc)] 5 rfl rfl rfl sz_25 rfl (by simp [Value.oneCell']) (Nat.le_of_ble_eq_true rfl) (fun o h1 h2 => by first | (simp; done) | (simp; omega)) (cs' := #[.int .i64 ((M.getD j default).kind.v), .string ((M.getD j default).var.v), .string ((M.getD j default).typ.v), .slice ((M.getD j default).tp) ((M.getD j default).tests.length) ((M.getD j default).tc), .slice ((M.getD j default).kp) ((M.getD j default).kids.length) ((M.getD j default).kc)]) rfl ?_); intro w56 H57
        refine r_nil ?_
        refine g_seq ?_
        refine g_region ?_
        refine r_cons (s_move (.func (.func 54) #[] #[]) rfl rfl ?_)
        refine r_cons (s_loadAgg [.int .i64 ((L.getD j default).kind.v), .string ((L.getD j default).var.v), .string ((L.getD j default).typ.v), .slice ((L.getD j default).tp) ((L.getD j default).tests.length) ((L.getD j default).tc), .slice ((L.getD j default).kp) ((L.getD j default).kids.length) ((L.getD j default).kc)] 5 ag_25 rfl (H57.blk_at (i := 1) rfl) (Nat.le_of_ble_eq_true rfl) rfl rfl ?_)
        refine r_cons (s_loadAgg [.int .i64 ((M.getD j default).kind.v), .string ((M.getD j default).var.v), .string ((M.getD j default).typ.v), .slice ((M.getD j default).tp) ((M.getD j default).tests.length) ((M.getD j default).tc), .slice ((M.getD j default).kp) ((M.getD j default).kids.length) ((M.getD j default).kc)] 5 ag_25 rfl (H57.blk_at (i := 0) rfl) (Nat.le_of_ble_eq_true rfl) rfl rfl ?_)
        have H58 := NodesA.at H57 (i := 5) rfl (j := j) (by omega)
        have H59 := NodesA.at H58 (i := 5) rfl (j := j) (by omega)
        refine r_cons (s_callv [] [.agg #[.int .i64 ((L.getD j default).kind.v), .string ((L.getD j default).var.v), .string ((L.getD j default).typ.v), .slice ((L.getD j default).tp) ((L.getD j default).tests.length) ((L.getD j default).tc), .slice ((L.getD j default).kp) ((L.getD j default).kids.length) ((L.getD j default).kc)], .agg #[.int .i64 ((M.getD j default).kind.v), .string ((M.getD j default).var.v), .string ((M.getD j default).typ.v), .slice ((M.getD j default).tp) ((M.getD j default).tests.length) ((M.getD j default).tc), .slice ((M.getD j default).kp) ((M.getD j default).kids.length) ((M.getD j default).kc)]] rfl pl_54 rfl rfl (hf (L.getD j default) (getD_mem' (by omega)) (M.getD j default) (i := 1) (i2 := 0) rfl rfl H59) ?_)
        rintro _ w60 ⟨rfl, H61⟩
        refine r_cons (s_not (sameNB (L.getD j default) (M.getD j default)) rfl (!(sameNB (L.getD j default) (M.getD j default))) rfl rfl ?_)
        refine r_nil ?_
        by_cases hb62 : (!(sameNB (L.getD j default) (M.getD j default))) = true
        · skip
          refine g_true (congrArg Value.bool hb62) ?_
          refine g_seq ?_
          refine g_region ?_
          refine r_cons (s_assign (.bool false) rfl rfl ?_)
          refine r_nil ?_
          refine g_ret' [.bool false] Try.func65 Try.results65 ⟨rfl, trivial⟩ ?_
          have H63 : St W w60 F := ((((((((((H61.drop 0 rfl).drop 0 rfl).drop 0 rfl).drop 0 rfl).drop 0 rfl).drop 0 rfl).drop 0 rfl).drop 0 rfl).drop 0 rfl).drop 0 rfl)
          exact ⟨congrArg Value.bool (sameNL_at (j := j) (by omega) (by omega) (by simpa using hb62)).symm, H63⟩
        · have hb62 := eq_false_of_ne_true hb62
          refine g_false (congrArg Value.bool hb62) ?_
          refine g_skip ?_
          refine g_inBlock ?_
          refine g_region ?_
          refine r_cons (s_add ((j : Int) + 1) rfl rfl (wi64 (by omega)) rfl ?_)
          refine r_cons (s_move (.int .i64 ((j : Int) + 1)) rfl rfl ?_)
          refine r_nil ?_
          have H64 : St W w60 (imi (0 < M.length) gA31 (.cells kA33 eA34 zA35) :: imi (0 < L.length) gA18 (.cells kA20 eA21 zA22) :: NodesA M :: NodesA L :: Im 5 (.slice pp6 M.length cc7) M.length (M.flatMap nodeCell) :: Im 5 (.slice pp1 L.length cc2) L.length (L.flatMap nodeCell) :: F) := ((((((((((H61.move 9 rfl).move 9 rfl).move 9 rfl).move 9 rfl).move 9 rfl).move 9 rfl).drop 6 rfl).drop 6 rfl).drop 6 rfl).drop 6 rfl)
          exact nx46 (j + 1) _ _ ⟨(by omega), (fun q hq => (Nat.lt_or_ge q j).elim (hz q) (fun h => by rw [show q = j from by omega]; simpa using hb62)), H64⟩ (by first | (dsimp only; omega) | omega) ⟨by first | rfl | exact vint (by omega), by first | rfl | exact vint (by omega), by first | rfl | exact vint (by omega), by first | rfl | exact vint (by omega), by first | rfl | exact vint (by omega), by first | rfl | exact vint (by omega), trivial⟩
      · skip
        refine r_cons (s_lss false rfl rfl (dfalse hc47) rfl ?_)
        refine r_nil ?_
        refine g_seq ?_
        refine g_false rfl ?_
        refine g_exit (by rfl) ?_
        refine g_seq ?_
        refine g_region ?_
        refine r_cons (s_assign (.bool true) rfl rfl ?_)
        refine r_nil ?_
        refine g_ret' [.bool true] Try.func65 Try.results65 ⟨rfl, trivial⟩ ?_
        have H65 : St W w44 F := ((((((H45.drop 0 rfl).drop 0 rfl).drop 0 rfl).drop 0 rfl).drop 0 rfl).drop 0 rfl)
        exact ⟨congrArg Value.bool (sameNL_all (by omega) (fun q hq => hz q (by omega))).symm, H65⟩
  · skip
    refine r_cons (s_neq true rfl rfl (nfalse hc15) rfl ?_)
    refine r_nil ?_
    refine g_true rfl ?_
    refine g_seq ?_
    refine g_region ?_
    refine r_cons (s_assign (.bool false) rfl rfl ?_)
    refine r_nil ?_
    refine g_ret' [.bool false] Try.func65 Try.results65 ⟨rfl, trivial⟩ ?_
    have H66 : St W w F := ((((H14.drop 0 rfl).drop 0 rfl).drop 0 rfl).drop 0 rfl)
    exact ⟨congrArg Value.bool (sameNL_len (by omega)).symm, H66⟩
set_option maxHeartbeats 4000000 in
set_option maxRecDepth 100000 in
theorem check_sameNode_r (N : Nat) : ∀ (n : NodeD), sizeOf n < N → ∀ {W w : World} {F : List Atom} (m : NodeD) {i : Nat} (hi : F[i]? = some (NodeA n)) {i2 : Nat} (hi2 : F[i2]? = some (NodeA m)) (H : St W w F), Calls Try.prog 54 #[.agg #[.int .i64 n.kind.v, .string n.var.v, .string n.typ.v, .slice n.tp n.tests.length n.tc, .slice n.kp n.kids.length n.kc], .agg #[.int .i64 m.kind.v, .string m.var.v, .string m.typ.v, .slice m.tp m.tests.length m.tc, .slice m.kp m.kids.length m.kc]] w (Ret fun v w' => v = .bool (sameNB n m) ∧ St W w' F) := by
  induction N with | zero => exact fun n hN => absurd hN (Nat.not_lt_zero _) | succ N ih => ?_
  intro n hN W w F m i hi i2 hi2 H
  have H1 := NodeA.kids H (i := i + 0) (by exact hi)
  have H2 := NodeA.tests H1 (i := i + 2) (by exact hi)
  have H3 : St W w (Im 11 (.slice n.tp n.tests.length n.tc) n.tests.length (n.tests.flatMap condCell) :: Im 5 (.slice n.kp n.kids.length n.kc) n.kids.length (n.kids.flatMap nodeCell) :: NodesA n.kids :: F) := H2
  have H4 := NodeA.kids H3 (i := i2 + 3) (by exact hi2)
  have H5 := NodeA.tests H4 (i := i2 + 5) (by exact hi2)
  have H6 : St W w (Im 11 (.slice m.tp m.tests.length m.tc) m.tests.length (m.tests.flatMap condCell) :: Im 5 (.slice m.kp m.kids.length m.kc) m.kids.length (m.kids.flatMap nodeCell) :: NodesA m.kids :: Im 11 (.slice n.tp n.tests.length n.tc) n.tests.length (n.tests.flatMap condCell) :: Im 5 (.slice n.kp n.kids.length n.kc) n.kids.length (n.kids.flatMap nodeCell) :: NodesA n.kids :: F) := H5
  refine calls_of_go (n := 38) Try.func54 rfl Try.ntmps54 rfl ?_
  refine g_seq ?_
  refine g_region ?_
  refine r_cons (s_box H6 25 (.agg #[.int .i64 n.kind.v, .string n.var.v, .string n.typ.v, .slice n.tp n.tests.length n.tc, .slice n.kp n.kids.length n.kc]) rfl (cs := #[.int .i64 n.kind.v, .string n.var.v, .string n.typ.v, .slice n.tp n.tests.length n.tc, .slice n.kp n.kids.length n.kc]) rfl rfl ?_); intro bk7 w8 H9
  refine r_cons (s_box H9 25 (.agg #[.int .i64 m.kind.v, .string m.var.v, .string m.typ.v, .slice m.tp m.tests.length m.tc, .slice m.kp m.kids.length m.kc]) rfl (cs := #[.int .i64 m.kind.v, .string m.var.v, .string m.typ.v, .slice m.tp m.tests.length m.tc, .slice m.kp m.kids.length m.kc]) rfl rfl ?_); intro bk10 w11 H12
  refine r_cons (s_assign (.bool false) rfl rfl ?_)
  refine r_nil ?_
  refine g_seq ?_
  refine g_region ?_
  refine r_cons (s_fieldAddr 25 0 0 0 3 rfl fi_25_0 rfl rfl ?_)
  refine r_cons (s_load (.int .i64 n.kind.v) ag_3 rfl (H12.blk_at (i := 1) rfl) rfl rfl ?_)
  refine r_cons (s_fieldAddr 25 0 0 0 3 rfl fi_25_0 rfl rfl ?_)
  refine r_cons (s_load (.int .i64 m.kind.v) ag_3 rfl (H12.blk_at (i := 0) rfl) rfl rfl ?_)
  by_cases hc13 : n.kind.v = m.kind.v
  · skip
    refine r_cons (s_eql true rfl rfl (dtrue hc13) rfl ?_)
    refine r_cons (s_move (.bool true) rfl rfl ?_)
    refine r_cons (r_take rfl rfl ?_)
    refine s_fieldAddr 25 1 1 1 9 rfl fi_25_1 rfl rfl ?_
    refine r_cons (r_take rfl rfl ?_)
    refine s_load (.string n.var.v) ag_9 rfl (H12.blk_at (i := 1) rfl) rfl rfl ?_
    refine r_cons (r_take rfl rfl ?_)
    refine s_fieldAddr 25 1 1 1 9 rfl fi_25_1 rfl rfl ?_
    refine r_cons (r_take rfl rfl ?_)
    refine s_load (.string m.var.v) ag_9 rfl (H12.blk_at (i := 0) rfl) rfl rfl ?_
    refine r_cons (r_take rfl rfl ?_)
    by_cases hc14 : n.var.v = m.var.v
    · skip
      refine s_seql true rfl rfl (dtrue hc14) rfl ?_
      refine r_cons (s_pick_t (.bool true) rfl rfl rfl ?_)
      refine r_cons (s_move (.bool true) rfl rfl ?_)
      refine r_cons (r_take rfl rfl ?_)
      refine s_fieldAddr 25 2 2 2 9 rfl fi_25_2 rfl rfl ?_
      refine r_cons (r_take rfl rfl ?_)
      refine s_load (.string n.typ.v) ag_9 rfl (H12.blk_at (i := 1) rfl) rfl rfl ?_
      refine r_cons (r_take rfl rfl ?_)
      refine s_fieldAddr 25 2 2 2 9 rfl fi_25_2 rfl rfl ?_
      refine r_cons (r_take rfl rfl ?_)
      refine s_load (.string m.typ.v) ag_9 rfl (H12.blk_at (i := 0) rfl) rfl rfl ?_
      refine r_cons (r_take rfl rfl ?_)
      by_cases hc15 : n.typ.v = m.typ.v
      · skip
        refine s_seql true rfl rfl (dtrue hc15) rfl ?_
        refine r_cons (s_pick_t (.bool true) rfl rfl rfl ?_)
        refine r_cons (s_move (.bool true) rfl rfl ?_)
        refine r_cons (r_take rfl rfl ?_)
        refine s_fieldAddr 25 3 3 3 22 rfl fi_25_3 rfl rfl ?_
        refine r_cons (r_take rfl rfl ?_)
        refine s_load (.slice n.tp n.tests.length n.tc) ag_22 rfl (H12.blk_at (i := 1) rfl) rfl rfl ?_
        refine r_cons (r_take rfl rfl ?_)
        refine s_fieldAddr 25 3 3 3 22 rfl fi_25_3 rfl rfl ?_
        refine r_cons (r_take rfl rfl ?_)
        refine s_load (.slice m.tp m.tests.length m.tc) ag_22 rfl (H12.blk_at (i := 0) rfl) rfl rfl ?_
        refine r_cons (r_take rfl rfl ?_)
        refine s_call [.slice n.tp n.tests.length n.tc, .slice m.tp m.tests.length m.tc] pl_53 rfl rfl (Equal_cond n.tests m.tests (.slice n.tp n.tests.length n.tc) (.slice m.tp m.tests.length m.tc) (m := 5) rfl (n := 2) rfl H12) ?_
        rintro _ w16 ⟨rfl, H17⟩
        refine r_cons (s_pick_t (.bool (sameCs n.tests m.tests)) rfl rfl rfl ?_)
        refine r_cons (s_move (.bool (sameCs n.tests m.tests)) rfl rfl ?_)
        by_cases hb18 : (sameCs n.tests m.tests) = true
        · skip
          refine r_cons (r_take rfl (congrArg some hb18) ?_)
          refine s_fieldAddr 25 4 4 4 23 rfl fi_25_4 rfl rfl ?_
          refine r_cons (r_take rfl (congrArg some hb18) ?_)
          refine s_load (.slice n.kp n.kids.length n.kc) ag_23 rfl (H17.blk_at (i := 1) rfl) rfl rfl ?_
          refine r_cons (r_take rfl (congrArg some hb18) ?_)
          refine s_fieldAddr 25 4 4 4 23 rfl fi_25_4 rfl rfl ?_
          refine r_cons (r_take rfl (congrArg some hb18) ?_)
          refine s_load (.slice m.kp m.kids.length m.kc) ag_23 rfl (H17.blk_at (i := 0) rfl) rfl rfl ?_
          refine r_cons (r_take rfl (congrArg some hb18) ?_)
          refine s_call [.slice n.kp n.kids.length n.kc, .slice m.kp m.kids.length m.kc, .func (.func 54) #[] #[]] pl_65 rfl rfl (EqualFunc_node n.kids m.kids (.slice n.kp n.kids.length n.kc) (.slice m.kp m.kids.length m.kc) (m := 6) rfl (n := 3) rfl (il := 7) rfl (ik := 4) rfl (fun x hx y _ _ _ _ _ h1 h2 h3 => ih x (by have h9 := kid_mem_lt hx; omega) y h1 h2 h3) H17) ?_
          rintro _ w19 ⟨rfl, H20⟩
          refine r_cons (s_pick_t (.bool (sameNL n.kids m.kids)) (by exact congrArg Value.bool hb18) rfl rfl ?_)
          refine r_cons (s_assign (.bool (sameNL n.kids m.kids)) rfl rfl ?_)
          refine r_nil ?_
          refine g_ret' [.bool (sameNL n.kids m.kids)] Try.func54 Try.results54 ⟨rfl, trivial⟩ ?_
          have H21 : St W w19 F := ((((((((H20.drop 0 rfl).drop 0 rfl).drop 0 rfl).drop 0 rfl).drop 0 rfl).drop 0 rfl).drop 0 rfl).drop 0 rfl)
          exact ⟨congrArg Value.bool (by rw [sameNB_eq, decide_eq_true hc13, decide_eq_true hc14, decide_eq_true hc15, hb18]; first | rfl | simp), H21⟩
        · have hb18 := eq_false_of_ne_true hb18
          refine r_cons (r_pass rfl (congrArg some hb18) rfl rfl rfl ?_)
          refine r_cons (r_pass rfl (congrArg some hb18) rfl rfl rfl ?_)
          refine r_cons (r_pass rfl (congrArg some hb18) rfl rfl rfl ?_)
          refine r_cons (r_pass rfl (congrArg some hb18) rfl rfl rfl ?_)
          refine r_cons (r_pass rfl (congrArg some hb18) rfl rfl rfl ?_)
          refine r_cons (s_pick_f (.bool false) (by exact congrArg Value.bool hb18) rfl rfl ?_)
          refine r_cons (s_assign (.bool false) rfl rfl ?_)
          refine r_nil ?_
          refine g_ret' [.bool false] Try.func54 Try.results54 ⟨rfl, trivial⟩ ?_
          have H22 : St W w16 F := ((((((((H17.drop 0 rfl).drop 0 rfl).drop 0 rfl).drop 0 rfl).drop 0 rfl).drop 0 rfl).drop 0 rfl).drop 0 rfl)
          exact ⟨congrArg Value.bool (by rw [sameNB_eq, decide_eq_true hc13, decide_eq_true hc14, decide_eq_true hc15, hb18]; first | rfl | simp), H22⟩
      · skip
        refine s_seql false rfl rfl (dfalse hc15) rfl ?_
        refine r_cons (s_pick_t (.bool false) rfl rfl rfl ?_)
        refine r_cons (s_move (.bool false) rfl rfl ?_)
        refine r_cons (r_pass rfl rfl rfl rfl rfl ?_)
        refine r_cons (r_pass rfl rfl rfl rfl rfl ?_)
        refine r_cons (r_pass rfl rfl rfl rfl rfl ?_)
        refine r_cons (r_pass rfl rfl rfl rfl rfl ?_)
        refine r_cons (r_pass rfl rfl rfl rfl rfl ?_)
        refine r_cons (s_pick_f (.bool false) rfl rfl rfl ?_)
        refine r_cons (s_move (.bool false) rfl rfl ?_)
        refine r_cons (r_pass rfl rfl rfl rfl rfl ?_)
        refine r_cons (r_pass rfl rfl rfl rfl rfl ?_)
        refine r_cons (r_pass rfl rfl rfl rfl rfl ?_)
        refine r_cons (r_pass rfl rfl rfl rfl rfl ?_)
        refine r_cons (r_pass rfl rfl rfl rfl rfl ?_)
        refine r_cons (s_pick_f (.bool false) rfl rfl rfl ?_)
        refine r_cons (s_assign (.bool false) rfl rfl ?_)
        refine r_nil ?_
        refine g_ret' [.bool false] Try.func54 Try.results54 ⟨rfl, trivial⟩ ?_
        have H23 : St W w11 F := ((((((((H12.drop 0 rfl).drop 0 rfl).drop 0 rfl).drop 0 rfl).drop 0 rfl).drop 0 rfl).drop 0 rfl).drop 0 rfl)
        exact ⟨congrArg Value.bool (by rw [sameNB_eq, decide_eq_true hc13, decide_eq_true hc14, decide_eq_false hc15]; first | rfl | simp), H23⟩
    · skip
      refine s_seql false rfl rfl (dfalse hc14) rfl ?_
      refine r_cons (s_pick_t (.bool false) rfl rfl rfl ?_)
      refine r_cons (s_move (.bool false) rfl rfl ?_)
      refine r_cons (r_pass rfl rfl rfl rfl rfl ?_)
      refine r_cons (r_pass rfl rfl rfl rfl rfl ?_)
      refine r_cons (r_pass rfl rfl rfl rfl rfl ?_)
      refine r_cons (r_pass rfl rfl rfl rfl rfl ?_)
      refine r_cons (r_pass rfl rfl rfl rfl rfl ?_)
      refine r_cons (s_pick_f (.bool false) rfl rfl rfl ?_)
      refine r_cons (s_move (.bool false) rfl rfl ?_)
      refine r_cons (r_pass rfl rfl rfl rfl rfl ?_)
      refine r_cons (r_pass rfl rfl rfl rfl rfl ?_)
      refine r_cons (r_pass rfl rfl rfl rfl rfl ?_)
      refine r_cons (r_pass rfl rfl rfl rfl rfl ?_)
      refine r_cons (r_pass rfl rfl rfl rfl rfl ?_)
      refine r_cons (s_pick_f (.bool false) rfl rfl rfl ?_)
      refine r_cons (s_move (.bool false) rfl rfl ?_)
      refine r_cons (r_pass rfl rfl rfl rfl rfl ?_)
      refine r_cons (r_pass rfl rfl rfl rfl rfl ?_)
      refine r_cons (r_pass rfl rfl rfl rfl rfl ?_)
      refine r_cons (r_pass rfl rfl rfl rfl rfl ?_)
      refine r_cons (r_pass rfl rfl rfl rfl rfl ?_)
      refine r_cons (s_pick_f (.bool false) rfl rfl rfl ?_)
      refine r_cons (s_assign (.bool false) rfl rfl ?_)
      refine r_nil ?_
      refine g_ret' [.bool false] Try.func54 Try.results54 ⟨rfl, trivial⟩ ?_
      have H24 : St W w11 F := ((((((((H12.drop 0 rfl).drop 0 rfl).drop 0 rfl).drop 0 rfl).drop 0 rfl).drop 0 rfl).drop 0 rfl).drop 0 rfl)
      exact ⟨congrArg Value.bool (by rw [sameNB_eq, decide_eq_true hc13, decide_eq_false hc14]; first | rfl | simp), H24⟩
  · skip
    refine r_cons (s_eql false rfl rfl (dfalse hc13) rfl ?_)
    refine r_cons (s_move (.bool false) rfl rfl ?_)
    refine r_cons (r_pass rfl rfl rfl rfl rfl ?_)
    refine r_cons (r_pass rfl rfl rfl rfl rfl ?_)
    refine r_cons (r_pass rfl rfl rfl rfl rfl ?_)
    refine r_cons (r_pass rfl rfl rfl rfl rfl ?_)
    refine r_cons (r_pass rfl rfl rfl rfl rfl ?_)
    refine r_cons (s_pick_f (.bool false) rfl rfl rfl ?_)
    refine r_cons (s_move (.bool false) rfl rfl ?_)
    refine r_cons (r_pass rfl rfl rfl rfl rfl ?_)
    refine r_cons (r_pass rfl rfl rfl rfl rfl ?_)
    refine r_cons (r_pass rfl rfl rfl rfl rfl ?_)
    refine r_cons (r_pass rfl rfl rfl rfl rfl ?_)
    refine r_cons (r_pass rfl rfl rfl rfl rfl ?_)
    refine r_cons (s_pick_f (.bool false) rfl rfl rfl ?_)
    refine r_cons (s_move (.bool false) rfl rfl ?_)
    refine r_cons (r_pass rfl rfl rfl rfl rfl ?_)
    refine r_cons (r_pass rfl rfl rfl rfl rfl ?_)
    refine r_cons (r_pass rfl rfl rfl rfl rfl ?_)
    refine r_cons (r_pass rfl rfl rfl rfl rfl ?_)
    refine r_cons (r_pass rfl rfl rfl rfl rfl ?_)
    refine r_cons (s_pick_f (.bool false) rfl rfl rfl ?_)
    refine r_cons (s_move (.bool false) rfl rfl ?_)
    refine r_cons (r_pass rfl rfl rfl rfl rfl ?_)
    refine r_cons (r_pass rfl rfl rfl rfl rfl ?_)
    refine r_cons (r_pass rfl rfl rfl rfl rfl ?_)
    refine r_cons (r_pass rfl rfl rfl rfl rfl ?_)
    refine r_cons (r_pass rfl rfl rfl rfl rfl ?_)
    refine r_cons (s_pick_f (.bool false) rfl rfl rfl ?_)
    refine r_cons (s_assign (.bool false) rfl rfl ?_)
    refine r_nil ?_
    refine g_ret' [.bool false] Try.func54 Try.results54 ⟨rfl, trivial⟩ ?_
    have H25 : St W w11 F := ((((((((H12.drop 0 rfl).drop 0 rfl).drop 0 rfl).drop 0 rfl).drop 0 rfl).drop 0 rfl).drop 0 rfl).drop 0 rfl)
    exact ⟨congrArg Value.bool (by rw [sameNB_eq, decide_eq_false hc13]; first | rfl | simp), H25⟩
theorem check_sameNode {W w : World} {F : List Atom} (n : NodeD) (m : NodeD) {i : Nat} (hi : F[i]? = some (NodeA n)) {i2 : Nat} (hi2 : F[i2]? = some (NodeA m)) (H : St W w F) : Calls Try.prog 54 #[.agg #[.int .i64 n.kind.v, .string n.var.v, .string n.typ.v, .slice n.tp n.tests.length n.tc, .slice n.kp n.kids.length n.kc], .agg #[.int .i64 m.kind.v, .string m.var.v, .string m.typ.v, .slice m.tp m.tests.length m.tc, .slice m.kp m.kids.length m.kc]] w (Ret fun v w' => v = .bool (sameNB n m) ∧ St W w' F) := check_sameNode_r (sizeOf n + 1) n (Nat.lt_succ_self _) m hi hi2 H
set_option maxHeartbeats 4000000 in
set_option maxRecDepth 100000 in
theorem ref07_SameNode_r (N : Nat) : ∀ (n : NodeD), sizeOf n < N → ∀ {W w : World} {F : List Atom} (m : NodeD) {i : Nat} (hi : F[i]? = some (NodeA n)) {i2 : Nat} (hi2 : F[i2]? = some (NodeA m)) (H : St W w F), Calls Try.prog 55 #[.agg #[.int .i64 n.kind.v, .string n.var.v, .string n.typ.v, .slice n.tp n.tests.length n.tc, .slice n.kp n.kids.length n.kc], .agg #[.int .i64 m.kind.v, .string m.var.v, .string m.typ.v, .slice m.tp m.tests.length m.tc, .slice m.kp m.kids.length m.kc]] w (Ret fun v w' => v = .bool (sameNB n m) ∧ St W w' F) := by
  induction N with | zero => exact fun n hN => absurd hN (Nat.not_lt_zero _) | succ N ih => ?_
  intro n hN W w F m i hi i2 hi2 H
  have H1 := NodeA.kids H (i := i + 0) (by exact hi)
  have H2 := NodeA.tests H1 (i := i + 2) (by exact hi)
  have H3 : St W w (Im 11 (.slice n.tp n.tests.length n.tc) n.tests.length (n.tests.flatMap condCell) :: Im 5 (.slice n.kp n.kids.length n.kc) n.kids.length (n.kids.flatMap nodeCell) :: NodesA n.kids :: F) := H2
  have H4 := NodeA.kids H3 (i := i2 + 3) (by exact hi2)
  have H5 := NodeA.tests H4 (i := i2 + 5) (by exact hi2)
  have H6 : St W w (Im 11 (.slice m.tp m.tests.length m.tc) m.tests.length (m.tests.flatMap condCell) :: Im 5 (.slice m.kp m.kids.length m.kc) m.kids.length (m.kids.flatMap nodeCell) :: NodesA m.kids :: Im 11 (.slice n.tp n.tests.length n.tc) n.tests.length (n.tests.flatMap condCell) :: Im 5 (.slice n.kp n.kids.length n.kc) n.kids.length (n.kids.flatMap nodeCell) :: NodesA n.kids :: F) := H5
  refine calls_of_go (n := 61) Try.func55 rfl Try.ntmps55 rfl ?_
  refine g_seq ?_
  refine g_region ?_
  refine r_cons (s_box H6 25 (.agg #[.int .i64 n.kind.v, .string n.var.v, .string n.typ.v, .slice n.tp n.tests.length n.tc, .slice n.kp n.kids.length n.kc]) rfl (cs := #[.int .i64 n.kind.v, .string n.var.v, .string n.typ.v, .slice n.tp n.tests.length n.tc, .slice n.kp n.kids.length n.kc]) rfl rfl ?_); intro bk7 w8 H9
  refine r_cons (s_box H9 25 (.agg #[.int .i64 m.kind.v, .string m.var.v, .string m.typ.v, .slice m.tp m.tests.length m.tc, .slice m.kp m.kids.length m.kc]) rfl (cs := #[.int .i64 m.kind.v, .string m.var.v, .string m.typ.v, .slice m.tp m.tests.length m.tc, .slice m.kp m.kids.length m.kc]) rfl rfl ?_); intro bk10 w11 H12
  refine r_cons (s_assign (.bool false) rfl rfl ?_)
  refine r_nil ?_
  refine g_seq ?_
  refine g_seq ?_
  refine g_region ?_
  refine r_cons (s_fieldAddr 25 0 0 0 3 rfl fi_25_0 rfl rfl ?_)
  refine r_cons (s_load (.int .i64 n.kind.v) ag_3 rfl (H12.blk_at (i := 1) rfl) rfl rfl ?_)
  refine r_cons (s_fieldAddr 25 0 0 0 3 rfl fi_25_0 rfl rfl ?_)
  refine r_cons (s_load (.int .i64 m.kind.v) ag_3 rfl (H12.blk_at (i := 0) rfl) rfl rfl ?_)
  by_cases hc13 : n.kind.v = m.kind.v
  · skip
    refine r_cons (s_neq false rfl rfl (ntrue hc13) rfl ?_)
    refine r_cons (s_move (.bool false) rfl rfl ?_)
    refine r_cons (r_take rfl rfl ?_)
    refine s_fieldAddr 25 1 1 1 9 rfl fi_25_1 rfl rfl ?_
    refine r_cons (r_take rfl rfl ?_)
    refine s_load (.string n.var.v) ag_9 rfl (H12.blk_at (i := 1) rfl) rfl rfl ?_
    refine r_cons (r_take rfl rfl ?_)
    refine s_fieldAddr 25 1 1 1 9 rfl fi_25_1 rfl rfl ?_
    refine r_cons (r_take rfl rfl ?_)
    refine s_load (.string m.var.v) ag_9 rfl (H12.blk_at (i := 0) rfl) rfl rfl ?_
    refine r_cons (r_take rfl rfl ?_)
    by_cases hc14 : n.var.v = m.var.v
    · skip
      refine s_sneq false rfl rfl (ntrue hc14) rfl ?_
      refine r_cons (s_pick_f (.bool false) rfl rfl rfl ?_)
      refine r_cons (s_move (.bool false) rfl rfl ?_)
      refine r_cons (r_take rfl rfl ?_)
      refine s_fieldAddr 25 2 2 2 9 rfl fi_25_2 rfl rfl ?_
      refine r_cons (r_take rfl rfl ?_)
      refine s_load (.string n.typ.v) ag_9 rfl (H12.blk_at (i := 1) rfl) rfl rfl ?_
      refine r_cons (r_take rfl rfl ?_)
      refine s_fieldAddr 25 2 2 2 9 rfl fi_25_2 rfl rfl ?_
      refine r_cons (r_take rfl rfl ?_)
      refine s_load (.string m.typ.v) ag_9 rfl (H12.blk_at (i := 0) rfl) rfl rfl ?_
      refine r_cons (r_take rfl rfl ?_)
      by_cases hc15 : n.typ.v = m.typ.v
      · skip
        refine s_sneq false rfl rfl (ntrue hc15) rfl ?_
        refine r_cons (s_pick_f (.bool false) rfl rfl rfl ?_)
        refine r_cons (s_move (.bool false) rfl rfl ?_)
        refine r_cons (r_take rfl rfl ?_)
        refine s_fieldAddr 25 3 3 3 22 rfl fi_25_3 rfl rfl ?_
        refine r_cons (r_take rfl rfl ?_)
        refine s_load (.slice n.tp n.tests.length n.tc) ag_22 rfl (H12.blk_at (i := 1) rfl) rfl rfl ?_
        refine r_cons (r_take rfl rfl ?_)
        refine s_fieldAddr 25 3 3 3 22 rfl fi_25_3 rfl rfl ?_
        refine r_cons (r_take rfl rfl ?_)
        refine s_load (.slice m.tp m.tests.length m.tc) ag_22 rfl (H12.blk_at (i := 0) rfl) rfl rfl ?_
        refine r_cons (r_take rfl rfl ?_)
        refine s_call [.slice n.tp n.tests.length n.tc, .slice m.tp m.tests.length m.tc] pl_56 rfl rfl (ref07_SameCs n.tests m.tests (.slice n.tp n.tests.length n.tc) (.slice m.tp m.tests.length m.tc) (m := 5) rfl (n := 2) rfl H12) ?_
        rintro _ w16 ⟨rfl, H17⟩
        refine r_cons (r_take rfl rfl ?_)
        refine s_not (sameCs n.tests m.tests) rfl (!(sameCs n.tests m.tests)) rfl rfl ?_
        refine r_cons (s_pick_f (.bool (!(sameCs n.tests m.tests))) rfl rfl rfl ?_)
        refine r_cons (s_move (.bool (!(sameCs n.tests m.tests))) rfl rfl ?_)
        by_cases hb18 : (!(sameCs n.tests m.tests)) = true
        · skip
          refine r_cons (r_pass rfl (congrArg some hb18) rfl rfl rfl ?_)
          refine r_cons (r_pass rfl (congrArg some hb18) rfl rfl rfl ?_)
          refine r_cons (r_pass rfl (congrArg some hb18) rfl rfl rfl ?_)
          refine r_cons (r_pass rfl (congrArg some hb18) rfl rfl rfl ?_)
          refine r_cons (r_pass rfl (congrArg some hb18) rfl rfl rfl ?_)
          refine r_cons (r_pass rfl (congrArg some hb18) rfl rfl rfl ?_)
          refine r_cons (r_pass rfl (congrArg some hb18) rfl rfl rfl ?_)
          refine r_cons (s_pick_t (.bool true) (by exact congrArg Value.bool hb18) rfl rfl ?_)
          refine r_nil ?_
          refine g_true rfl ?_
          refine g_seq ?_
          refine g_region ?_
          refine r_cons (s_assign (.bool false) rfl rfl ?_)
          refine r_nil ?_
          refine g_ret' [.bool false] Try.func55 Try.results55 ⟨rfl, trivial⟩ ?_
          have hb19 : ((sameCs n.tests m.tests)) = false := by simpa using hb18
          have H20 : St W w16 F := ((((((((H17.drop 0 rfl).drop 0 rfl).drop 0 rfl).drop 0 rfl).drop 0 rfl).drop 0 rfl).drop 0 rfl).drop 0 rfl)
          exact ⟨congrArg Value.bool (by rw [sameNB_eq, decide_eq_true hc13, decide_eq_true hc14, decide_eq_true hc15, hb19]; first | rfl | simp), H20⟩
        · have hb18 := eq_false_of_ne_true hb18
          refine r_cons (r_take rfl (congrArg some hb18) ?_)
          refine s_fieldAddr 25 4 4 4 23 rfl fi_25_4 rfl rfl ?_
          refine r_cons (r_take rfl (congrArg some hb18) ?_)
          refine s_load (.slice n.kp n.kids.length n.kc) ag_23 rfl (H17.blk_at (i := 1) rfl) rfl rfl ?_
          refine r_cons (r_take rfl (congrArg some hb18) ?_)
          refine s_len n.kids.length rfl ⟨_, un_23⟩ rfl ?_
          refine r_cons (r_take rfl (congrArg some hb18) ?_)
          refine s_fieldAddr 25 4 4 4 23 rfl fi_25_4 rfl rfl ?_
          refine r_cons (r_take rfl (congrArg some hb18) ?_)
          refine s_load (.slice m.kp m.kids.length m.kc) ag_23 rfl (H17.blk_at (i := 0) rfl) rfl rfl ?_
          refine r_cons (r_take rfl (congrArg some hb18) ?_)
          refine s_len m.kids.length rfl ⟨_, un_23⟩ rfl ?_
          refine r_cons (r_take rfl (congrArg some hb18) ?_)
          by_cases hc21 : (n.kids.length : Int) = (m.kids.length : Int)
          · skip
            refine s_neq false rfl rfl (ntrue hc21) rfl ?_
            refine r_cons (s_pick_f (.bool false) (by exact congrArg Value.bool hb18) rfl rfl ?_)
            refine r_nil ?_
            refine g_false rfl ?_
            refine g_skip ?_
            refine g_seq ?_
            refine g_seq ?_
            refine g_region ?_
            refine r_cons (s_assign (.int .i64 0) rfl rfl ?_)
            refine r_nil ?_
            refine g_block ?_
            have hb22 : ((sameCs n.tests m.tests)) = true := by simpa using hb18
            obtain ⟨pA23, cA24, gA25, oA26, kA27, eA28, zA29, he35, hn30, hp31, hx32, hs33, hml, H34⟩ := Im.open_ H17 (i := 6) rfl
            obtain ⟨rfl, rfl⟩ : n.kp = pA23 ∧ n.kc = cA24 := by injection he35 with a_ b_ c_; exact ⟨a_, c_⟩
            obtain ⟨pA36, cA37, gA38, oA39, kA40, eA41, zA42, he48, hn43, hp44, hx45, hs46, hml, H47⟩ := Im.open_ H34 (i := 4) rfl
            obtain ⟨rfl, rfl⟩ : m.kp = pA36 ∧ m.kc = cA37 := by injection he48 with a_ b_ c_; exact ⟨a_, c_⟩
            have H49 : St W w16 (imi (0 < m.kids.length) gA38 (.cells kA40 eA41 zA42) :: imi (0 < n.kids.length) gA25 (.cells kA27 eA28 zA29) :: blk bk10 (.cells #[.int .i64 m.kind.v, .string m.var.v, .string m.typ.v, .slice m.tp m.tests.length m.tc, .slice m.kp m.kids.length m.kc] 25 (0, 0)) :: blk bk7 (.cells #[.int .i64 n.kind.v, .string n.var.v, .string n.typ.v, .slice n.tp n.tests.length n.tc, .slice n.kp n.kids.length n.kc] 25 (0, 0)) :: Im 11 (.slice m.tp m.tests.length m.tc) m.tests.length (m.tests.flatMap condCell) :: Im 5 (.slice m.kp m.kids.length m.kc) m.kids.length (m.kids.flatMap nodeCell) :: NodesA m.kids :: Im 11 (.slice n.tp n.tests.length n.tc) n.tests.length (n.tests.flatMap condCell) :: Im 5 (.slice n.kp n.kids.length n.kc) n.kids.length (n.kids.flatMap nodeCell) :: NodesA n.kids :: F) := ((((((((((H47.move 9 rfl).move 9 rfl).move 9 rfl).move 9 rfl).move 9 rfl).move 9 rfl).move 9 rfl).move 9 rfl).move 9 rfl).move 9 rfl)
            refine g_loop_inv (fun (x_ : Nat) => match x_ with | j => [(2, .pointer (some ⟨bk7, 0, none⟩)), (3, .pointer (some ⟨bk10, 0, none⟩)), (4, .bool false), (5, .int .i64 (j : Int))]) (fun (x_ : Nat) w => match x_ with | j => (j ≤ n.kids.length) ∧ (∀ q, q < j → sameNB (n.kids.getD q default) (m.kids.getD q default) = true) ∧ St W w (imi (0 < m.kids.length) gA38 (.cells kA40 eA41 zA42) :: imi (0 < n.kids.length) gA25 (.cells kA27 eA28 zA29) :: blk bk10 (.cells #[.int .i64 m.kind.v, .string m.var.v, .string m.typ.v, .slice m.tp m.tests.length m.tc, .slice m.kp m.kids.length m.kc] 25 (0, 0)) :: blk bk7 (.cells #[.int .i64 n.kind.v, .string n.var.v, .string n.typ.v, .slice n.tp n.tests.length n.tc, .slice n.kp n.kids.length n.kc] 25 (0, 0)) :: Im 11 (.slice m.tp m.tests.length m.tc) m.tests.length (m.tests.flatMap condCell) :: Im 5 (.slice m.kp m.kids.length m.kc) m.kids.length (m.kids.flatMap nodeCell) :: NodesA m.kids :: Im 11 (.slice n.tp n.tests.length n.tc) n.tests.length (n.tests.flatMap condCell) :: Im 5 (.slice n.kp n.kids.length n.kc) n.kids.length (n.kids.flatMap nodeCell) :: NodesA n.kids :: F)) (fun (x_ : Nat) => match x_ with | j => n.kids.length - j) (0) ?_ ?_ ?_
            · exact ⟨by first | rfl | exact vint (by omega), by first | rfl | exact vint (by omega), by first | rfl | exact vint (by omega), by first | rfl | exact vint (by omega), trivial⟩
            · exact ⟨(by omega), (fun q hq => by omega), H49⟩
            · rintro j ρ50 w51 ⟨hjl, hz, H52⟩ nx53
              change Ends _ _ (upds ρ50 [(2, .pointer (some ⟨bk7, 0, none⟩)), (3, .pointer (some ⟨bk10, 0, none⟩)), (4, .bool false), (5, .int .i64 (j : Int))]) w51
              refine g_seq ?_
              refine g_seq ?_
              refine g_region ?_
              refine r_cons (s_move (.int .i64 (j : Int)) rfl rfl ?_)
              refine r_cons (s_fieldAddr 25 4 4 4 23 rfl fi_25_4 rfl rfl ?_)
              refine r_cons (s_load (.slice n.kp n.kids.length n.kc) ag_23 rfl (H52.blk_at (i := 3) rfl) rfl rfl ?_)
              refine r_cons (s_len n.kids.length rfl ⟨_, un_23⟩ rfl ?_)
              by_cases hc54 : (j : Int) < (n.kids.length : Int)
              · skip
                refine r_cons (s_lss true rfl rfl (dtrue hc54) rfl ?_)
                refine r_nil ?_
                refine g_true rfl ?_
                refine g_skip ?_
                refine g_seq ?_
                refine g_block ?_
                refine g_seq ?_
                have H55 := NodesA.at H52 (i := 9) rfl (j := j) (by omega)
                have H56 := NodesA.at H55 (i := 7) rfl (j := j) (by omega)
                refine g_quiet (fun w' => St W w' (NodeA (m.kids.getD j default) :: NodeA (n.kids.getD j default) :: imi (0 < m.kids.length) gA38 (.cells kA40 eA41 zA42) :: imi (0 < n.kids.length) gA25 (.cells kA27 eA28 zA29) :: blk bk10 (.cells #[.int .i64 m.kind.v, .string m.var.v, .string m.typ.v, .slice m.tp m.tests.length m.tc, .slice m.kp m.kids.length m.kc] 25 (0, 0)) :: blk bk7 (.cells #[.int .i64 n.kind.v, .string n.var.v, .string n.typ.v, .slice n.tp n.tests.length n.tc, .slice n.kp n.kids.length n.kc] 25 (0, 0)) :: Im 11 (.slice m.tp m.tests.length m.tc) m.tests.length (m.tests.flatMap condCell) :: Im 5 (.slice m.kp m.kids.length m.kc) m.kids.length (m.kids.flatMap nodeCell) :: NodesA m.kids :: Im 11 (.slice n.tp n.tests.length n.tc) n.tests.length (n.tests.flatMap condCell) :: Im 5 (.slice n.kp n.kids.length n.kc) n.kids.length (n.kids.flatMap nodeCell) :: NodesA n.kids :: F)) mixed (by kernel_rfl) H56.drew ?_
                refine q_cons (q_val rfl rfl rfl (by intro w hw; exact x_fieldAddr 25 4 4 4 23 rfl fi_25_4 rfl w) ?_)
                refine q_cons (q_val rfl rfl rfl (by intro w hw; exact x_load (.slice n.kp n.kids.length n.kc) ag_23 rfl (hw.blk_at (i := 5) rfl) rfl) ?_)
                refine q_cons (q_val rfl rfl rfl (by intro w hw; exact x_move (.int .i64 (j : Int)) rfl w) ?_)
                refine q_cons (q_val rfl rfl rfl (by intro w hw; exact x_indexAddr gA25 (off := oA26) (j : Int) 5 (oA26 + j * 5) (by exact congrArg (fun z_ => Value.slice z_ n.kids.length n.kc) (hp31 (by omega))) rfl el_23 (by omega) rfl w) ?_)
                refine q_cons (q_val rfl rfl rfl (by intro w hw; exact x_loadAgg [.int .i64 ((n.kids.getD j default).kind.v), .string ((n.kids.getD j default).var.v), .string ((n.kids.getD j default).typ.v), .slice ((n.kids.getD j default).tp) ((n.kids.getD j default).tests.length) ((n.kids.getD j default).tc), .slice ((n.kids.getD j default).kp) ((n.kids.getD j default).kids.length) ((n.kids.getD j default).kc)] 5 ag_25 rfl (hw.imi_at (i := 3) rfl (by omega)) (by have := elem_size (i := j) (s := 5) (hs33 (by omega)) (by omega); omega) (elem_take nodeCell_len (hx32 (by omega)) (by omega) default)) ?_)
                refine q_cons (q_val rfl rfl rfl (by intro w hw; exact x_fieldAddr 25 4 4 4 23 rfl fi_25_4 rfl w) ?_)
                refine q_cons (q_val rfl rfl rfl (by intro w hw; exact x_load (.slice m.kp m.kids.length m.kc) ag_23 rfl (hw.blk_at (i := 4) rfl) rfl) ?_)
                refine q_cons (q_val rfl rfl rfl (by intro w hw; exact x_move (.int .i64 (j : Int)) rfl w) ?_)
                refine q_cons (q_val rfl rfl rfl (by intro w hw; exact x_indexAddr gA38 (off := oA39) (j : Int) 5 (oA39 + j * 5) (by exact congrArg (fun z_ => Value.slice z_ m.kids.length m.kc) (hp44 (by omega))) rfl el_23 (by omega) rfl w) ?_)
                refine q_cons (q_val rfl rfl rfl (by intro w hw; exact x_loadAgg [.int .i64 ((m.kids.getD j default).kind.v), .string ((m.kids.getD j default).var.v), .string ((m.kids.getD j default).typ.v), .slice ((m.kids.getD j default).tp) ((m.kids.getD j default).tests.length) ((m.kids.getD j default).tc), .slice ((m.kids.getD j default).kp) ((m.kids.getD j default).kids.length) ((m.kids.getD j default).kc)] 5 ag_25 rfl (hw.imi_at (i := 2) rfl (by omega)) (by have := elem_size (i := j) (s := 5) (hs46 (by omega)) (by omega); omega) (elem_take nodeCell_len (hx45 (by omega)) (by omega) default)) ?_)
                refine q_cons (q_enter (args := #[.agg #[.int .i64 ((n.kids.getD j default).kind.v), .string ((n.kids.getD j default).var.v), .string ((n.kids.getD j default).typ.v), .slice ((n.kids.getD j default).tp) ((n.kids.getD j default).tests.length) ((n.kids.getD j default).tc), .slice ((n.kids.getD j default).kp) ((n.kids.getD j default).kids.length) ((n.kids.getD j default).kc)], .agg #[.int .i64 ((m.kids.getD j default).kind.v), .string ((m.kids.getD j default).var.v), .string ((m.kids.getD j default).typ.v), .slice ((m.kids.getD j default).tp) ((m.kids.getD j default).tests.length) ((m.kids.getD j default).tc), .slice ((m.kids.getD j default).kp) ((m.kids.getD j default).kids.length) ((m.kids.getD j default).kc)]]) (v := .bool (sameNB (n.kids.getD j default) (m.kids.getD j default))) rfl rfl rfl (x_call pl_55 [.agg #[.int .i64 ((n.kids.getD j default).kind.v), .string ((n.kids.getD j default).var.v), .string ((n.kids.getD j default).typ.v), .slice ((n.kids.getD j default).tp) ((n.kids.getD j default).tests.length) ((n.kids.getD j default).tc), .slice ((n.kids.getD j default).kp) ((n.kids.getD j default).kids.length) ((n.kids.getD j default).kc)], .agg #[.int .i64 ((m.kids.getD j default).kind.v), .string ((m.kids.getD j default).var.v), .string ((m.kids.getD j default).typ.v), .slice ((m.kids.getD j default).tp) ((m.kids.getD j default).tests.length) ((m.kids.getD j default).tc), .slice ((m.kids.getD j default).kp) ((m.kids.getD j default).kids.length) ((m.kids.getD j default).kc)]] rfl) (fun w hw => ih (n.kids.getD j default) (by have h9 := kid_lt (n := n) (j := j) (by omega); omega) (m.kids.getD j default) (i := 1) rfl (i2 := 0) rfl hw) ?_)
                refine q_cons (q_val rfl rfl rfl (by intro w hw; exact x_not (sameNB (n.kids.getD j default) (m.kids.getD j default)) rfl (!(sameNB (n.kids.getD j default) (m.kids.getD j default))) rfl w) ?_)
                refine q_nil ?_
                intro w57 H58
                by_cases hb59 : (!(sameNB (n.kids.getD j default) (m.kids.getD j default))) = true
                · skip
                  refine g_true (congrArg Value.bool hb59) ?_
                  refine g_seq ?_
                  refine g_region ?_
                  refine r_cons (s_assign (.bool false) rfl rfl ?_)
                  refine r_nil ?_
                  refine g_ret' [.bool false] Try.func55 Try.results55 ⟨rfl, trivial⟩ ?_
                  have H60 : St W w57 F := ((((((((((((H58.drop 0 rfl).drop 0 rfl).drop 0 rfl).drop 0 rfl).drop 0 rfl).drop 0 rfl).drop 0 rfl).drop 0 rfl).drop 0 rfl).drop 0 rfl).drop 0 rfl).drop 0 rfl)
                  exact ⟨congrArg Value.bool (by rw [sameNB_eq, decide_eq_true hc13, decide_eq_true hc14, decide_eq_true hc15, hb22, sameNL_at (j := j) (by omega) (by omega) (by simpa using hb59)]; first | rfl | simp), H60⟩
                · have hb59 := eq_false_of_ne_true hb59
                  refine g_false (congrArg Value.bool hb59) ?_
                  refine g_skip ?_
                  refine g_inBlock ?_
                  refine g_region ?_
                  refine r_cons (s_move (.int .i64 (j : Int)) rfl rfl ?_)
                  refine r_cons (s_add ((j : Int) + 1) rfl rfl (wi64 (by omega)) rfl ?_)
                  refine r_cons (s_assign (.int .i64 ((j : Int) + 1)) rfl rfl ?_)
                  refine r_nil ?_
                  have H61 : St W w57 (imi (0 < m.kids.length) gA38 (.cells kA40 eA41 zA42) :: imi (0 < n.kids.length) gA25 (.cells kA27 eA28 zA29) :: blk bk10 (.cells #[.int .i64 m.kind.v, .string m.var.v, .string m.typ.v, .slice m.tp m.tests.length m.tc, .slice m.kp m.kids.length m.kc] 25 (0, 0)) :: blk bk7 (.cells #[.int .i64 n.kind.v, .string n.var.v, .string n.typ.v, .slice n.tp n.tests.length n.tc, .slice n.kp n.kids.length n.kc] 25 (0, 0)) :: Im 11 (.slice m.tp m.tests.length m.tc) m.tests.length (m.tests.flatMap condCell) :: Im 5 (.slice m.kp m.kids.length m.kc) m.kids.length (m.kids.flatMap nodeCell) :: NodesA m.kids :: Im 11 (.slice n.tp n.tests.length n.tc) n.tests.length (n.tests.flatMap condCell) :: Im 5 (.slice n.kp n.kids.length n.kc) n.kids.length (n.kids.flatMap nodeCell) :: NodesA n.kids :: F) := ((((((((((((H58.move 11 rfl).move 11 rfl).move 11 rfl).move 11 rfl).move 11 rfl).move 11 rfl).move 11 rfl).move 11 rfl).move 11 rfl).move 11 rfl).drop 10 rfl).drop 10 rfl)
                  exact nx53 (j + 1) _ _ ⟨(by omega), (fun q hq => (Nat.lt_or_ge q j).elim (hz q) (fun h => by rw [show q = j from by omega]; simpa using hb59)), H61⟩ (by first | (dsimp only; omega) | omega) ⟨by first | rfl | exact vint (by omega), by first | rfl | exact vint (by omega), by first | rfl | exact vint (by omega), by first | rfl | exact vint (by omega), trivial⟩
              · skip
                refine r_cons (s_lss false rfl rfl (dfalse hc54) rfl ?_)
                refine r_nil ?_
                refine g_false rfl ?_
                refine g_exit (by rfl) ?_
                refine g_seq ?_
                refine g_region ?_
                refine r_cons (s_assign (.bool true) rfl rfl ?_)
                refine r_nil ?_
                refine g_ret' [.bool true] Try.func55 Try.results55 ⟨rfl, trivial⟩ ?_
                have H62 : St W w51 F := ((((((((((H52.drop 0 rfl).drop 0 rfl).drop 0 rfl).drop 0 rfl).drop 0 rfl).drop 0 rfl).drop 0 rfl).drop 0 rfl).drop 0 rfl).drop 0 rfl)
                exact ⟨congrArg Value.bool (by rw [sameNB_eq, decide_eq_true hc13, decide_eq_true hc14, decide_eq_true hc15, hb22, sameNL_all (by omega) (fun q hq => hz q (by omega))]; first | rfl | simp), H62⟩
          · skip
            refine s_neq true rfl rfl (nfalse hc21) rfl ?_
            refine r_cons (s_pick_f (.bool true) (by exact congrArg Value.bool hb18) rfl rfl ?_)
            refine r_nil ?_
            refine g_true rfl ?_
            refine g_seq ?_
            refine g_region ?_
            refine r_cons (s_assign (.bool false) rfl rfl ?_)
            refine r_nil ?_
            refine g_ret' [.bool false] Try.func55 Try.results55 ⟨rfl, trivial⟩ ?_
            have hb63 : ((sameCs n.tests m.tests)) = true := by simpa using hb18
            have H64 : St W w16 F := ((((((((H17.drop 0 rfl).drop 0 rfl).drop 0 rfl).drop 0 rfl).drop 0 rfl).drop 0 rfl).drop 0 rfl).drop 0 rfl)
            exact ⟨congrArg Value.bool (by rw [sameNB_eq, decide_eq_true hc13, decide_eq_true hc14, decide_eq_true hc15, hb63, sameNL_len (show ¬ n.kids.length = m.kids.length from by omega)]; first | rfl | simp), H64⟩
      · skip
        refine s_sneq true rfl rfl (nfalse hc15) rfl ?_
        refine r_cons (s_pick_f (.bool true) rfl rfl rfl ?_)
        refine r_cons (s_move (.bool true) rfl rfl ?_)
        refine r_cons (r_pass rfl rfl rfl rfl rfl ?_)
        refine r_cons (r_pass rfl rfl rfl rfl rfl ?_)
        refine r_cons (r_pass rfl rfl rfl rfl rfl ?_)
        refine r_cons (r_pass rfl rfl rfl rfl rfl ?_)
        refine r_cons (r_pass rfl rfl rfl rfl rfl ?_)
        refine r_cons (r_pass rfl rfl rfl rfl rfl ?_)
        refine r_cons (s_pick_t (.bool true) rfl rfl rfl ?_)
        refine r_cons (s_move (.bool true) rfl rfl ?_)
        refine r_cons (r_pass rfl rfl rfl rfl rfl ?_)
        refine r_cons (r_pass rfl rfl rfl rfl rfl ?_)
        refine r_cons (r_pass rfl rfl rfl rfl rfl ?_)
        refine r_cons (r_pass rfl rfl rfl rfl rfl ?_)
        refine r_cons (r_pass rfl rfl rfl rfl rfl ?_)
        refine r_cons (r_pass rfl rfl rfl rfl rfl ?_)
        refine r_cons (r_pass rfl rfl rfl rfl rfl ?_)
        refine r_cons (s_pick_t (.bool true) rfl rfl rfl ?_)
        refine r_nil ?_
        refine g_true rfl ?_
        refine g_seq ?_
        refine g_region ?_
        refine r_cons (s_assign (.bool false) rfl rfl ?_)
        refine r_nil ?_
        refine g_ret' [.bool false] Try.func55 Try.results55 ⟨rfl, trivial⟩ ?_
        have H65 : St W w11 F := ((((((((H12.drop 0 rfl).drop 0 rfl).drop 0 rfl).drop 0 rfl).drop 0 rfl).drop 0 rfl).drop 0 rfl).drop 0 rfl)
        exact ⟨congrArg Value.bool (by rw [sameNB_eq, decide_eq_true hc13, decide_eq_true hc14, decide_eq_false hc15]; first | rfl | simp), H65⟩
    · skip
      refine s_sneq true rfl rfl (nfalse hc14) rfl ?_
      refine r_cons (s_pick_f (.bool true) rfl rfl rfl ?_)
      refine r_cons (s_move (.bool true) rfl rfl ?_)
      refine r_cons (r_pass rfl rfl rfl rfl rfl ?_)
      refine r_cons (r_pass rfl rfl rfl rfl rfl ?_)
      refine r_cons (r_pass rfl rfl rfl rfl rfl ?_)
      refine r_cons (r_pass rfl rfl rfl rfl rfl ?_)
      refine r_cons (r_pass rfl rfl rfl rfl rfl ?_)
      refine r_cons (s_pick_t (.bool true) rfl rfl rfl ?_)
      refine r_cons (s_move (.bool true) rfl rfl ?_)
      refine r_cons (r_pass rfl rfl rfl rfl rfl ?_)
      refine r_cons (r_pass rfl rfl rfl rfl rfl ?_)
      refine r_cons (r_pass rfl rfl rfl rfl rfl ?_)
      refine r_cons (r_pass rfl rfl rfl rfl rfl ?_)
      refine r_cons (r_pass rfl rfl rfl rfl rfl ?_)
      refine r_cons (r_pass rfl rfl rfl rfl rfl ?_)
      refine r_cons (s_pick_t (.bool true) rfl rfl rfl ?_)
      refine r_cons (s_move (.bool true) rfl rfl ?_)
      refine r_cons (r_pass rfl rfl rfl rfl rfl ?_)
      refine r_cons (r_pass rfl rfl rfl rfl rfl ?_)
      refine r_cons (r_pass rfl rfl rfl rfl rfl ?_)
      refine r_cons (r_pass rfl rfl rfl rfl rfl ?_)
      refine r_cons (r_pass rfl rfl rfl rfl rfl ?_)
      refine r_cons (r_pass rfl rfl rfl rfl rfl ?_)
      refine r_cons (r_pass rfl rfl rfl rfl rfl ?_)
      refine r_cons (s_pick_t (.bool true) rfl rfl rfl ?_)
      refine r_nil ?_
      refine g_true rfl ?_
      refine g_seq ?_
      refine g_region ?_
      refine r_cons (s_assign (.bool false) rfl rfl ?_)
      refine r_nil ?_
      refine g_ret' [.bool false] Try.func55 Try.results55 ⟨rfl, trivial⟩ ?_
      have H66 : St W w11 F := ((((((((H12.drop 0 rfl).drop 0 rfl).drop 0 rfl).drop 0 rfl).drop 0 rfl).drop 0 rfl).drop 0 rfl).drop 0 rfl)
      exact ⟨congrArg Value.bool (by rw [sameNB_eq, decide_eq_true hc13, decide_eq_false hc14]; first | rfl | simp), H66⟩
  · skip
    refine r_cons (s_neq true rfl rfl (nfalse hc13) rfl ?_)
    refine r_cons (s_move (.bool true) rfl rfl ?_)
    refine r_cons (r_pass rfl rfl rfl rfl rfl ?_)
    refine r_cons (r_pass rfl rfl rfl rfl rfl ?_)
    refine r_cons (r_pass rfl rfl rfl rfl rfl ?_)
    refine r_cons (r_pass rfl rfl rfl rfl rfl ?_)
    refine r_cons (r_pass rfl rfl rfl rfl rfl ?_)
    refine r_cons (s_pick_t (.bool true) rfl rfl rfl ?_)
    refine r_cons (s_move (.bool true) rfl rfl ?_)
    refine r_cons (r_pass rfl rfl rfl rfl rfl ?_)
    refine r_cons (r_pass rfl rfl rfl rfl rfl ?_)
    refine r_cons (r_pass rfl rfl rfl rfl rfl ?_)
    refine r_cons (r_pass rfl rfl rfl rfl rfl ?_)
    refine r_cons (r_pass rfl rfl rfl rfl rfl ?_)
    refine r_cons (s_pick_t (.bool true) rfl rfl rfl ?_)
    refine r_cons (s_move (.bool true) rfl rfl ?_)
    refine r_cons (r_pass rfl rfl rfl rfl rfl ?_)
    refine r_cons (r_pass rfl rfl rfl rfl rfl ?_)
    refine r_cons (r_pass rfl rfl rfl rfl rfl ?_)
    refine r_cons (r_pass rfl rfl rfl rfl rfl ?_)
    refine r_cons (r_pass rfl rfl rfl rfl rfl ?_)
    refine r_cons (r_pass rfl rfl rfl rfl rfl ?_)
    refine r_cons (s_pick_t (.bool true) rfl rfl rfl ?_)
    refine r_cons (s_move (.bool true) rfl rfl ?_)
    refine r_cons (r_pass rfl rfl rfl rfl rfl ?_)
    refine r_cons (r_pass rfl rfl rfl rfl rfl ?_)
    refine r_cons (r_pass rfl rfl rfl rfl rfl ?_)
    refine r_cons (r_pass rfl rfl rfl rfl rfl ?_)
    refine r_cons (r_pass rfl rfl rfl rfl rfl ?_)
    refine r_cons (r_pass rfl rfl rfl rfl rfl ?_)
    refine r_cons (r_pass rfl rfl rfl rfl rfl ?_)
    refine r_cons (s_pick_t (.bool true) rfl rfl rfl ?_)
    refine r_nil ?_
    refine g_true rfl ?_
    refine g_seq ?_
    refine g_region ?_
    refine r_cons (s_assign (.bool false) rfl rfl ?_)
    refine r_nil ?_
    refine g_ret' [.bool false] Try.func55 Try.results55 ⟨rfl, trivial⟩ ?_
    have H67 : St W w11 F := ((((((((H12.drop 0 rfl).drop 0 rfl).drop 0 rfl).drop 0 rfl).drop 0 rfl).drop 0 rfl).drop 0 rfl).drop 0 rfl)
    exact ⟨congrArg Value.bool (by rw [sameNB_eq, decide_eq_false hc13]; first | rfl | simp), H67⟩
theorem ref07_SameNode {W w : World} {F : List Atom} (n : NodeD) (m : NodeD) {i : Nat} (hi : F[i]? = some (NodeA n)) {i2 : Nat} (hi2 : F[i2]? = some (NodeA m)) (H : St W w F) : Calls Try.prog 55 #[.agg #[.int .i64 n.kind.v, .string n.var.v, .string n.typ.v, .slice n.tp n.tests.length n.tc, .slice n.kp n.kids.length n.kc], .agg #[.int .i64 m.kind.v, .string m.var.v, .string m.typ.v, .slice m.tp m.tests.length m.tc, .slice m.kp m.kids.length m.kc]] w (Ret fun v w' => v = .bool (sameNB n m) ∧ St W w' F) := ref07_SameNode_r (sizeOf n + 1) n (Nat.lt_succ_self _) m hi hi2 H
set_option maxHeartbeats 4000000 in
set_option maxRecDepth 100000 in
theorem check_Same {W w : World} {F : List Atom} (p q : PatD) {i : Nat} (hi : F[i]? = some (NodeA p.root)) {k : Nat} (hk : F[k]? = some (Im 11 (.slice p.wp p.wh.length p.wc) p.wh.length (p.wh.flatMap condCell))) {i2 : Nat} (hi2 : F[i2]? = some (NodeA q.root)) {k2 : Nat} (hk2 : F[k2]? = some (Im 11 (.slice q.wp q.wh.length q.wc) q.wh.length (q.wh.flatMap condCell))) (H : St W w F) : Calls Try.prog 34 #[.agg #[.string p.name.v, .int .i64 p.win.v, .int .i64 p.root.kind.v, .string p.root.var.v, .string p.root.typ.v, .slice p.root.tp p.root.tests.length p.root.tc, .slice p.root.kp p.root.kids.length p.root.kc, .slice p.wp p.wh.length p.wc], .agg #[.string q.name.v, .int .i64 q.win.v, .int .i64 q.root.kind.v, .string q.root.var.v, .string q.root.typ.v, .slice q.root.tp q.root.tests.length q.root.tc, .slice q.root.kp q.root.kids.length q.root.kc, .slice q.wp q.wh.length q.wc]] w (Ret fun v w' => v = .bool (samePB p q) ∧ St W w' F) := by
  have H1 := H.dup (i := i + 0) (by exact hi) (NodeA_pers _)
  have H2 := H1.dup (i := k + 1) (by exact hk) (Im_pers _ _ _ _)
  have H3 : St W w (Im 11 (.slice p.wp p.wh.length p.wc) p.wh.length (p.wh.flatMap condCell) :: NodeA p.root :: F) := H2
  have H4 := H3.dup (i := i2 + 2) (by exact hi2) (NodeA_pers _)
  have H5 := H4.dup (i := k2 + 3) (by exact hk2) (Im_pers _ _ _ _)
  have H6 : St W w (Im 11 (.slice q.wp q.wh.length q.wc) q.wh.length (q.wh.flatMap condCell) :: NodeA q.root :: Im 11 (.slice p.wp p.wh.length p.wc) p.wh.length (p.wh.flatMap condCell) :: NodeA p.root :: F) := H5
  refine calls_of_go (n := 31) Try.func34 rfl Try.ntmps34 rfl ?_
  refine g_seq ?_
  refine g_region ?_
  refine r_cons (s_box H6 27 (.agg #[.string p.name.v, .int .i64 p.win.v, .int .i64 p.root.kind.v, .string p.root.var.v, .string p.root.typ.v, .slice p.root.tp p.root.tests.length p.root.tc, .slice p.root.kp p.root.kids.length p.root.kc, .slice p.wp p.wh.length p.wc]) rfl (cs := #[.string p.name.v, .int .i64 p.win.v, .int .i64 p.root.kind.v, .string p.root.var.v, .string p.root.typ.v, .slice p.root.tp p.root.tests.length p.root.tc, .slice p.root.kp p.root.kids.length p.root.kc, .slice p.wp p.wh.length p.wc]) rfl rfl ?_); intro bk7 w8 H9
  refine r_cons (s_box H9 27 (.agg #[.string q.name.v, .int .i64 q.win.v, .int .i64 q.root.kind.v, .string q.root.var.v, .string q.root.typ.v, .slice q.root.tp q.root.tests.length q.root.tc, .slice q.root.kp q.root.kids.length q.root.kc, .slice q.wp q.wh.length q.wc]) rfl (cs := #[.string q.name.v, .int .i64 q.win.v, .int .i64 q.root.kind.v, .string q.root.var.v, .string q.root.typ.v, .slice q.root.tp q.root.tests.length q.root.tc, .slice q.root.kp q.root.kids.length q.root.kc, .slice q.wp q.wh.length q.wc]) rfl rfl ?_); intro bk10 w11 H12
  refine r_cons (s_assign (.bool false) rfl rfl ?_)
  refine r_nil ?_
  refine g_seq ?_
  refine g_region ?_
  refine r_cons (s_fieldAddr 27 0 0 0 9 rfl fi_27_0 rfl rfl ?_)
  refine r_cons (s_load (.string p.name.v) ag_9 rfl (H12.blk_at (i := 1) rfl) rfl rfl ?_)
  refine r_cons (s_fieldAddr 27 0 0 0 9 rfl fi_27_0 rfl rfl ?_)
  refine r_cons (s_load (.string q.name.v) ag_9 rfl (H12.blk_at (i := 0) rfl) rfl rfl ?_)
  by_cases hc13 : p.name.v = q.name.v
  · skip
    refine r_cons (s_seql true rfl rfl (dtrue hc13) rfl ?_)
    refine r_cons (s_move (.bool true) rfl rfl ?_)
    refine r_cons (r_take rfl rfl ?_)
    refine s_fieldAddr 27 1 1 1 2 rfl fi_27_1 rfl rfl ?_
    refine r_cons (r_take rfl rfl ?_)
    refine s_load (.int .i64 p.win.v) ag_2 rfl (H12.blk_at (i := 1) rfl) rfl rfl ?_
    refine r_cons (r_take rfl rfl ?_)
    refine s_fieldAddr 27 1 1 1 2 rfl fi_27_1 rfl rfl ?_
    refine r_cons (r_take rfl rfl ?_)
    refine s_load (.int .i64 q.win.v) ag_2 rfl (H12.blk_at (i := 0) rfl) rfl rfl ?_
    refine r_cons (r_take rfl rfl ?_)
    by_cases hc14 : p.win.v = q.win.v
    · skip
      refine s_eql true rfl rfl (dtrue hc14) rfl ?_
      refine r_cons (s_pick_t (.bool true) rfl rfl rfl ?_)
      refine r_cons (s_move (.bool true) rfl rfl ?_)
      refine r_cons (r_take rfl rfl ?_)
      refine s_fieldAddr 27 3 7 7 22 rfl fi_27_3 rfl rfl ?_
      refine r_cons (r_take rfl rfl ?_)
      refine s_load (.slice p.wp p.wh.length p.wc) ag_22 rfl (H12.blk_at (i := 1) rfl) rfl rfl ?_
      refine r_cons (r_take rfl rfl ?_)
      refine s_fieldAddr 27 3 7 7 22 rfl fi_27_3 rfl rfl ?_
      refine r_cons (r_take rfl rfl ?_)
      refine s_load (.slice q.wp q.wh.length q.wc) ag_22 rfl (H12.blk_at (i := 0) rfl) rfl rfl ?_
      refine r_cons (r_take rfl rfl ?_)
      refine s_call [.slice p.wp p.wh.length p.wc, .slice q.wp q.wh.length q.wc] pl_53 rfl rfl (Equal_cond p.wh q.wh (.slice p.wp p.wh.length p.wc) (.slice q.wp q.wh.length q.wc) (m := 4) rfl (n := 2) rfl H12) ?_
      rintro _ w15 ⟨rfl, H16⟩
      refine r_cons (s_pick_t (.bool (sameCs p.wh q.wh)) rfl rfl rfl ?_)
      refine r_cons (s_move (.bool (sameCs p.wh q.wh)) rfl rfl ?_)
      by_cases hb17 : (sameCs p.wh q.wh) = true
      · skip
        refine r_cons (r_take rfl (congrArg some hb17) ?_)
        refine s_fieldAddr 27 2 2 2 25 rfl fi_27_2 rfl rfl ?_
        refine r_cons (r_take rfl (congrArg some hb17) ?_)
        refine s_loadAgg [.int .i64 p.root.kind.v, .string p.root.var.v, .string p.root.typ.v, .slice p.root.tp p.root.tests.length p.root.tc, .slice p.root.kp p.root.kids.length p.root.kc] 5 ag_25 rfl (H16.blk_at (i := 1) rfl) (Nat.le_of_ble_eq_true rfl) rfl rfl ?_
        refine r_cons (r_take rfl (congrArg some hb17) ?_)
        refine s_fieldAddr 27 2 2 2 25 rfl fi_27_2 rfl rfl ?_
        refine r_cons (r_take rfl (congrArg some hb17) ?_)
        refine s_loadAgg [.int .i64 q.root.kind.v, .string q.root.var.v, .string q.root.typ.v, .slice q.root.tp q.root.tests.length q.root.tc, .slice q.root.kp q.root.kids.length q.root.kc] 5 ag_25 rfl (H16.blk_at (i := 0) rfl) (Nat.le_of_ble_eq_true rfl) rfl rfl ?_
        refine r_cons (r_take rfl (congrArg some hb17) ?_)
        refine s_call [.agg #[.int .i64 p.root.kind.v, .string p.root.var.v, .string p.root.typ.v, .slice p.root.tp p.root.tests.length p.root.tc, .slice p.root.kp p.root.kids.length p.root.kc], .agg #[.int .i64 q.root.kind.v, .string q.root.var.v, .string q.root.typ.v, .slice q.root.tp q.root.tests.length q.root.tc, .slice q.root.kp q.root.kids.length q.root.kc]] pl_54 rfl rfl (check_sameNode p.root q.root (i := 5) rfl (i2 := 3) rfl H16) ?_
        rintro _ w18 ⟨rfl, H19⟩
        refine r_cons (s_pick_t (.bool (sameNB p.root q.root)) (by exact congrArg Value.bool hb17) rfl rfl ?_)
        refine r_cons (s_assign (.bool (sameNB p.root q.root)) rfl rfl ?_)
        refine r_nil ?_
        refine g_ret' [.bool (sameNB p.root q.root)] Try.func34 Try.results34 ⟨rfl, trivial⟩ ?_
        have H20 : St W w18 F := ((((((H19.drop 0 rfl).drop 0 rfl).drop 0 rfl).drop 0 rfl).drop 0 rfl).drop 0 rfl)
        exact ⟨congrArg Value.bool (show (sameNB p.root q.root) = samePB p q from by unfold samePB; simp [hc13, hc14, hb17]), H20⟩
      · have hb17 := eq_false_of_ne_true hb17
        refine r_cons (r_pass rfl (congrArg some hb17) rfl rfl rfl ?_)
        refine r_cons (r_pass rfl (congrArg some hb17) rfl rfl rfl ?_)
        refine r_cons (r_pass rfl (congrArg some hb17) rfl rfl rfl ?_)
        refine r_cons (r_pass rfl (congrArg some hb17) rfl rfl rfl ?_)
        refine r_cons (r_pass rfl (congrArg some hb17) rfl rfl rfl ?_)
        refine r_cons (s_pick_f (.bool false) (by exact congrArg Value.bool hb17) rfl rfl ?_)
        refine r_cons (s_assign (.bool false) rfl rfl ?_)
        refine r_nil ?_
        refine g_ret' [.bool false] Try.func34 Try.results34 ⟨rfl, trivial⟩ ?_
        have H21 : St W w15 F := ((((((H16.drop 0 rfl).drop 0 rfl).drop 0 rfl).drop 0 rfl).drop 0 rfl).drop 0 rfl)
        exact ⟨congrArg Value.bool (show (false) = samePB p q from by unfold samePB; simp [hc13, hc14, hb17]), H21⟩
    · skip
      refine s_eql false rfl rfl (dfalse hc14) rfl ?_
      refine r_cons (s_pick_t (.bool false) rfl rfl rfl ?_)
      refine r_cons (s_move (.bool false) rfl rfl ?_)
      refine r_cons (r_pass rfl rfl rfl rfl rfl ?_)
      refine r_cons (r_pass rfl rfl rfl rfl rfl ?_)
      refine r_cons (r_pass rfl rfl rfl rfl rfl ?_)
      refine r_cons (r_pass rfl rfl rfl rfl rfl ?_)
      refine r_cons (r_pass rfl rfl rfl rfl rfl ?_)
      refine r_cons (s_pick_f (.bool false) rfl rfl rfl ?_)
      refine r_cons (s_move (.bool false) rfl rfl ?_)
      refine r_cons (r_pass rfl rfl rfl rfl rfl ?_)
      refine r_cons (r_pass rfl rfl rfl rfl rfl ?_)
      refine r_cons (r_pass rfl rfl rfl rfl rfl ?_)
      refine r_cons (r_pass rfl rfl rfl rfl rfl ?_)
      refine r_cons (r_pass rfl rfl rfl rfl rfl ?_)
      refine r_cons (s_pick_f (.bool false) rfl rfl rfl ?_)
      refine r_cons (s_assign (.bool false) rfl rfl ?_)
      refine r_nil ?_
      refine g_ret' [.bool false] Try.func34 Try.results34 ⟨rfl, trivial⟩ ?_
      have H22 : St W w11 F := ((((((H12.drop 0 rfl).drop 0 rfl).drop 0 rfl).drop 0 rfl).drop 0 rfl).drop 0 rfl)
      exact ⟨congrArg Value.bool (show (false) = samePB p q from by unfold samePB; simp [hc13, hc14]), H22⟩
  · skip
    refine r_cons (s_seql false rfl rfl (dfalse hc13) rfl ?_)
    refine r_cons (s_move (.bool false) rfl rfl ?_)
    refine r_cons (r_pass rfl rfl rfl rfl rfl ?_)
    refine r_cons (r_pass rfl rfl rfl rfl rfl ?_)
    refine r_cons (r_pass rfl rfl rfl rfl rfl ?_)
    refine r_cons (r_pass rfl rfl rfl rfl rfl ?_)
    refine r_cons (r_pass rfl rfl rfl rfl rfl ?_)
    refine r_cons (s_pick_f (.bool false) rfl rfl rfl ?_)
    refine r_cons (s_move (.bool false) rfl rfl ?_)
    refine r_cons (r_pass rfl rfl rfl rfl rfl ?_)
    refine r_cons (r_pass rfl rfl rfl rfl rfl ?_)
    refine r_cons (r_pass rfl rfl rfl rfl rfl ?_)
    refine r_cons (r_pass rfl rfl rfl rfl rfl ?_)
    refine r_cons (r_pass rfl rfl rfl rfl rfl ?_)
    refine r_cons (s_pick_f (.bool false) rfl rfl rfl ?_)
    refine r_cons (s_move (.bool false) rfl rfl ?_)
    refine r_cons (r_pass rfl rfl rfl rfl rfl ?_)
    refine r_cons (r_pass rfl rfl rfl rfl rfl ?_)
    refine r_cons (r_pass rfl rfl rfl rfl rfl ?_)
    refine r_cons (r_pass rfl rfl rfl rfl rfl ?_)
    refine r_cons (r_pass rfl rfl rfl rfl rfl ?_)
    refine r_cons (s_pick_f (.bool false) rfl rfl rfl ?_)
    refine r_cons (s_assign (.bool false) rfl rfl ?_)
    refine r_nil ?_
    refine g_ret' [.bool false] Try.func34 Try.results34 ⟨rfl, trivial⟩ ?_
    have H23 : St W w11 F := ((((((H12.drop 0 rfl).drop 0 rfl).drop 0 rfl).drop 0 rfl).drop 0 rfl).drop 0 rfl)
    exact ⟨congrArg Value.bool (show (false) = samePB p q from by unfold samePB; simp [hc13]), H23⟩
theorem check_Same_own {W w : World} {F : List Atom} (p c : PatD) {i k a : Nat} (hi : F[i]? = some (NodeA p.root)) (hk : F[k]? = some (Im 11 (.slice p.wp p.wh.length p.wc) p.wh.length (p.wh.flatMap condCell))) (ha : F[a]? = some (PatO 43 25 c)) (hai : a ≠ i) (hak : a ≠ k) (h1 : c.name = p.name) (h2 : c.win = p.win) (h3 : c.wh = p.wh) (h4 : eraseN c.root = eraseN p.root) (H : St W w F) : Calls Try.prog 34 #[.agg #[.string p.name.v, .int .i64 p.win.v, .int .i64 p.root.kind.v, .string p.root.var.v, .string p.root.typ.v, .slice p.root.tp p.root.tests.length p.root.tc, .slice p.root.kp p.root.kids.length p.root.kc, .slice p.wp p.wh.length p.wc], .agg #[.string c.name.v, .int .i64 c.win.v, .int .i64 c.root.kind.v, .string c.root.var.v, .string c.root.typ.v, .slice c.root.tp c.root.tests.length c.root.tc, .slice c.root.kp c.root.kids.length c.root.kc, .slice c.wp c.wh.length c.wc]] w (Ret fun v w' => v = .bool true ∧ St W w' F) :=
  same_lend hi hk ha hai hak H fun F' a1 a2 a3 a4 HF => (check_Same p c a1 a2 a3 a4 HF).mono fun e w' hh => by
    cases e with
    | returned v => exact ⟨hh.1.trans (congrArg Value.bool (samePB_clone h1 h2 h3 h4)), hh.2⟩
    | _ => exact hh.elim
set_option maxHeartbeats 4000000 in
set_option maxRecDepth 100000 in
theorem ref07_Same {W w : World} {F : List Atom} (p q : PatD) {i : Nat} (hi : F[i]? = some (NodeA p.root)) {k : Nat} (hk : F[k]? = some (Im 11 (.slice p.wp p.wh.length p.wc) p.wh.length (p.wh.flatMap condCell))) {i2 : Nat} (hi2 : F[i2]? = some (NodeA q.root)) {k2 : Nat} (hk2 : F[k2]? = some (Im 11 (.slice q.wp q.wh.length q.wc) q.wh.length (q.wh.flatMap condCell))) (H : St W w F) : Calls Try.prog 35 #[.agg #[.string p.name.v, .int .i64 p.win.v, .int .i64 p.root.kind.v, .string p.root.var.v, .string p.root.typ.v, .slice p.root.tp p.root.tests.length p.root.tc, .slice p.root.kp p.root.kids.length p.root.kc, .slice p.wp p.wh.length p.wc], .agg #[.string q.name.v, .int .i64 q.win.v, .int .i64 q.root.kind.v, .string q.root.var.v, .string q.root.typ.v, .slice q.root.tp q.root.tests.length q.root.tc, .slice q.root.kp q.root.kids.length q.root.kc, .slice q.wp q.wh.length q.wc]] w (Ret fun v w' => v = .bool (samePB p q) ∧ St W w' F) := by
  have H1 := H.dup (i := i + 0) (by exact hi) (NodeA_pers _)
  have H2 := H1.dup (i := k + 1) (by exact hk) (Im_pers _ _ _ _)
  have H3 : St W w (Im 11 (.slice p.wp p.wh.length p.wc) p.wh.length (p.wh.flatMap condCell) :: NodeA p.root :: F) := H2
  have H4 := H3.dup (i := i2 + 2) (by exact hi2) (NodeA_pers _)
  have H5 := H4.dup (i := k2 + 3) (by exact hk2) (Im_pers _ _ _ _)
  have H6 : St W w (Im 11 (.slice q.wp q.wh.length q.wc) q.wh.length (q.wh.flatMap condCell) :: NodeA q.root :: Im 11 (.slice p.wp p.wh.length p.wc) p.wh.length (p.wh.flatMap condCell) :: NodeA p.root :: F) := H5
  refine calls_of_go (n := 31) Try.func35 rfl Try.ntmps35 rfl ?_
  refine g_seq ?_
  refine g_region ?_
  refine r_cons (s_box H6 27 (.agg #[.string p.name.v, .int .i64 p.win.v, .int .i64 p.root.kind.v, .string p.root.var.v, .string p.root.typ.v, .slice p.root.tp p.root.tests.length p.root.tc, .slice p.root.kp p.root.kids.length p.root.kc, .slice p.wp p.wh.length p.wc]) rfl (cs := #[.string p.name.v, .int .i64 p.win.v, .int .i64 p.root.kind.v, .string p.root.var.v, .string p.root.typ.v, .slice p.root.tp p.root.tests.length p.root.tc, .slice p.root.kp p.root.kids.length p.root.kc, .slice p.wp p.wh.length p.wc]) rfl rfl ?_); intro bk7 w8 H9
  refine r_cons (s_box H9 27 (.agg #[.string q.name.v, .int .i64 q.win.v, .int .i64 q.root.kind.v, .string q.root.var.v, .string q.root.typ.v, .slice q.root.tp q.root.tests.length q.root.tc, .slice q.root.kp q.root.kids.length q.root.kc, .slice q.wp q.wh.length q.wc]) rfl (cs := #[.string q.name.v, .int .i64 q.win.v, .int .i64 q.root.kind.v, .string q.root.var.v, .string q.root.typ.v, .slice q.root.tp q.root.tests.length q.root.tc, .slice q.root.kp q.root.kids.length q.root.kc, .slice q.wp q.wh.length q.wc]) rfl rfl ?_); intro bk10 w11 H12
  refine r_cons (s_assign (.bool false) rfl rfl ?_)
  refine r_nil ?_
  refine g_seq ?_
  refine g_region ?_
  refine r_cons (s_fieldAddr 27 0 0 0 9 rfl fi_27_0 rfl rfl ?_)
  refine r_cons (s_load (.string p.name.v) ag_9 rfl (H12.blk_at (i := 1) rfl) rfl rfl ?_)
  refine r_cons (s_fieldAddr 27 0 0 0 9 rfl fi_27_0 rfl rfl ?_)
  refine r_cons (s_load (.string q.name.v) ag_9 rfl (H12.blk_at (i := 0) rfl) rfl rfl ?_)
  by_cases hc13 : p.name.v = q.name.v
  · skip
    refine r_cons (s_seql true rfl rfl (dtrue hc13) rfl ?_)
    refine r_cons (s_move (.bool true) rfl rfl ?_)
    refine r_cons (r_take rfl rfl ?_)
    refine s_fieldAddr 27 1 1 1 2 rfl fi_27_1 rfl rfl ?_
    refine r_cons (r_take rfl rfl ?_)
    refine s_load (.int .i64 p.win.v) ag_2 rfl (H12.blk_at (i := 1) rfl) rfl rfl ?_
    refine r_cons (r_take rfl rfl ?_)
    refine s_fieldAddr 27 1 1 1 2 rfl fi_27_1 rfl rfl ?_
    refine r_cons (r_take rfl rfl ?_)
    refine s_load (.int .i64 q.win.v) ag_2 rfl (H12.blk_at (i := 0) rfl) rfl rfl ?_
    refine r_cons (r_take rfl rfl ?_)
    by_cases hc14 : p.win.v = q.win.v
    · skip
      refine s_eql true rfl rfl (dtrue hc14) rfl ?_
      refine r_cons (s_pick_t (.bool true) rfl rfl rfl ?_)
      refine r_cons (s_move (.bool true) rfl rfl ?_)
      refine r_cons (r_take rfl rfl ?_)
      refine s_fieldAddr 27 2 2 2 25 rfl fi_27_2 rfl rfl ?_
      refine r_cons (r_take rfl rfl ?_)
      refine s_loadAgg [.int .i64 p.root.kind.v, .string p.root.var.v, .string p.root.typ.v, .slice p.root.tp p.root.tests.length p.root.tc, .slice p.root.kp p.root.kids.length p.root.kc] 5 ag_25 rfl (H12.blk_at (i := 1) rfl) (Nat.le_of_ble_eq_true rfl) rfl rfl ?_
      refine r_cons (r_take rfl rfl ?_)
      refine s_fieldAddr 27 2 2 2 25 rfl fi_27_2 rfl rfl ?_
      refine r_cons (r_take rfl rfl ?_)
      refine s_loadAgg [.int .i64 q.root.kind.v, .string q.root.var.v, .string q.root.typ.v, .slice q.root.tp q.root.tests.length q.root.tc, .slice q.root.kp q.root.kids.length q.root.kc] 5 ag_25 rfl (H12.blk_at (i := 0) rfl) (Nat.le_of_ble_eq_true rfl) rfl rfl ?_
      refine r_cons (r_take rfl rfl ?_)
      refine s_call [.agg #[.int .i64 p.root.kind.v, .string p.root.var.v, .string p.root.typ.v, .slice p.root.tp p.root.tests.length p.root.tc, .slice p.root.kp p.root.kids.length p.root.kc], .agg #[.int .i64 q.root.kind.v, .string q.root.var.v, .string q.root.typ.v, .slice q.root.tp q.root.tests.length q.root.tc, .slice q.root.kp q.root.kids.length q.root.kc]] pl_55 rfl rfl (ref07_SameNode p.root q.root (i := 5) rfl (i2 := 3) rfl H12) ?_
      rintro _ w15 ⟨rfl, H16⟩
      refine r_cons (s_pick_t (.bool (sameNB p.root q.root)) rfl rfl rfl ?_)
      refine r_cons (s_move (.bool (sameNB p.root q.root)) rfl rfl ?_)
      by_cases hb17 : (sameNB p.root q.root) = true
      · skip
        refine r_cons (r_take rfl (congrArg some hb17) ?_)
        refine s_fieldAddr 27 3 7 7 22 rfl fi_27_3 rfl rfl ?_
        refine r_cons (r_take rfl (congrArg some hb17) ?_)
        refine s_load (.slice p.wp p.wh.length p.wc) ag_22 rfl (H16.blk_at (i := 1) rfl) rfl rfl ?_
        refine r_cons (r_take rfl (congrArg some hb17) ?_)
        refine s_fieldAddr 27 3 7 7 22 rfl fi_27_3 rfl rfl ?_
        refine r_cons (r_take rfl (congrArg some hb17) ?_)
        refine s_load (.slice q.wp q.wh.length q.wc) ag_22 rfl (H16.blk_at (i := 0) rfl) rfl rfl ?_
        refine r_cons (r_take rfl (congrArg some hb17) ?_)
        refine s_call [.slice p.wp p.wh.length p.wc, .slice q.wp q.wh.length q.wc] pl_56 rfl rfl (ref07_SameCs p.wh q.wh (.slice p.wp p.wh.length p.wc) (.slice q.wp q.wh.length q.wc) (m := 4) rfl (n := 2) rfl H16) ?_
        rintro _ w18 ⟨rfl, H19⟩
        refine r_cons (s_pick_t (.bool (sameCs p.wh q.wh)) (by exact congrArg Value.bool hb17) rfl rfl ?_)
        refine r_cons (s_assign (.bool (sameCs p.wh q.wh)) rfl rfl ?_)
        refine r_nil ?_
        refine g_ret' [.bool (sameCs p.wh q.wh)] Try.func35 Try.results35 ⟨rfl, trivial⟩ ?_
        have H20 : St W w18 F := ((((((H19.drop 0 rfl).drop 0 rfl).drop 0 rfl).drop 0 rfl).drop 0 rfl).drop 0 rfl)
        exact ⟨congrArg Value.bool (show (sameCs p.wh q.wh) = samePB p q from by unfold samePB; simp [hc13, hc14, hb17]), H20⟩
      · have hb17 := eq_false_of_ne_true hb17
        refine r_cons (r_pass rfl (congrArg some hb17) rfl rfl rfl ?_)
        refine r_cons (r_pass rfl (congrArg some hb17) rfl rfl rfl ?_)
        refine r_cons (r_pass rfl (congrArg some hb17) rfl rfl rfl ?_)
        refine r_cons (r_pass rfl (congrArg some hb17) rfl rfl rfl ?_)
        refine r_cons (r_pass rfl (congrArg some hb17) rfl rfl rfl ?_)
        refine r_cons (s_pick_f (.bool false) (by exact congrArg Value.bool hb17) rfl rfl ?_)
        refine r_cons (s_assign (.bool false) rfl rfl ?_)
        refine r_nil ?_
        refine g_ret' [.bool false] Try.func35 Try.results35 ⟨rfl, trivial⟩ ?_
        have H21 : St W w15 F := ((((((H16.drop 0 rfl).drop 0 rfl).drop 0 rfl).drop 0 rfl).drop 0 rfl).drop 0 rfl)
        exact ⟨congrArg Value.bool (show (false) = samePB p q from by unfold samePB; simp [hc13, hc14, hb17]), H21⟩
    · skip
      refine s_eql false rfl rfl (dfalse hc14) rfl ?_
      refine r_cons (s_pick_t (.bool false) rfl rfl rfl ?_)
      refine r_cons (s_move (.bool false) rfl rfl ?_)
      refine r_cons (r_pass rfl rfl rfl rfl rfl ?_)
      refine r_cons (r_pass rfl rfl rfl rfl rfl ?_)
      refine r_cons (r_pass rfl rfl rfl rfl rfl ?_)
      refine r_cons (r_pass rfl rfl rfl rfl rfl ?_)
      refine r_cons (r_pass rfl rfl rfl rfl rfl ?_)
      refine r_cons (s_pick_f (.bool false) rfl rfl rfl ?_)
      refine r_cons (s_move (.bool false) rfl rfl ?_)
      refine r_cons (r_pass rfl rfl rfl rfl rfl ?_)
      refine r_cons (r_pass rfl rfl rfl rfl rfl ?_)
      refine r_cons (r_pass rfl rfl rfl rfl rfl ?_)
      refine r_cons (r_pass rfl rfl rfl rfl rfl ?_)
      refine r_cons (r_pass rfl rfl rfl rfl rfl ?_)
      refine r_cons (s_pick_f (.bool false) rfl rfl rfl ?_)
      refine r_cons (s_assign (.bool false) rfl rfl ?_)
      refine r_nil ?_
      refine g_ret' [.bool false] Try.func35 Try.results35 ⟨rfl, trivial⟩ ?_
      have H22 : St W w11 F := ((((((H12.drop 0 rfl).drop 0 rfl).drop 0 rfl).drop 0 rfl).drop 0 rfl).drop 0 rfl)
      exact ⟨congrArg Value.bool (show (false) = samePB p q from by unfold samePB; simp [hc13, hc14]), H22⟩
  · skip
    refine r_cons (s_seql false rfl rfl (dfalse hc13) rfl ?_)
    refine r_cons (s_move (.bool false) rfl rfl ?_)
    refine r_cons (r_pass rfl rfl rfl rfl rfl ?_)
    refine r_cons (r_pass rfl rfl rfl rfl rfl ?_)
    refine r_cons (r_pass rfl rfl rfl rfl rfl ?_)
    refine r_cons (r_pass rfl rfl rfl rfl rfl ?_)
    refine r_cons (r_pass rfl rfl rfl rfl rfl ?_)
    refine r_cons (s_pick_f (.bool false) rfl rfl rfl ?_)
    refine r_cons (s_move (.bool false) rfl rfl ?_)
    refine r_cons (r_pass rfl rfl rfl rfl rfl ?_)
    refine r_cons (r_pass rfl rfl rfl rfl rfl ?_)
    refine r_cons (r_pass rfl rfl rfl rfl rfl ?_)
    refine r_cons (r_pass rfl rfl rfl rfl rfl ?_)
    refine r_cons (r_pass rfl rfl rfl rfl rfl ?_)
    refine r_cons (s_pick_f (.bool false) rfl rfl rfl ?_)
    refine r_cons (s_move (.bool false) rfl rfl ?_)
    refine r_cons (r_pass rfl rfl rfl rfl rfl ?_)
    refine r_cons (r_pass rfl rfl rfl rfl rfl ?_)
    refine r_cons (r_pass rfl rfl rfl rfl rfl ?_)
    refine r_cons (r_pass rfl rfl rfl rfl rfl ?_)
    refine r_cons (r_pass rfl rfl rfl rfl rfl ?_)
    refine r_cons (s_pick_f (.bool false) rfl rfl rfl ?_)
    refine r_cons (s_assign (.bool false) rfl rfl ?_)
    refine r_nil ?_
    refine g_ret' [.bool false] Try.func35 Try.results35 ⟨rfl, trivial⟩ ?_
    have H23 : St W w11 F := ((((((H12.drop 0 rfl).drop 0 rfl).drop 0 rfl).drop 0 rfl).drop 0 rfl).drop 0 rfl)
    exact ⟨congrArg Value.bool (show (false) = samePB p q from by unfold samePB; simp [hc13]), H23⟩
theorem ref07_Same_own {W w : World} {F : List Atom} (p c : PatD) {i k a : Nat} (hi : F[i]? = some (NodeA p.root)) (hk : F[k]? = some (Im 11 (.slice p.wp p.wh.length p.wc) p.wh.length (p.wh.flatMap condCell))) (ha : F[a]? = some (PatO 43 25 c)) (hai : a ≠ i) (hak : a ≠ k) (h1 : c.name = p.name) (h2 : c.win = p.win) (h3 : c.wh = p.wh) (h4 : eraseN c.root = eraseN p.root) (H : St W w F) : Calls Try.prog 35 #[.agg #[.string p.name.v, .int .i64 p.win.v, .int .i64 p.root.kind.v, .string p.root.var.v, .string p.root.typ.v, .slice p.root.tp p.root.tests.length p.root.tc, .slice p.root.kp p.root.kids.length p.root.kc, .slice p.wp p.wh.length p.wc], .agg #[.string c.name.v, .int .i64 c.win.v, .int .i64 c.root.kind.v, .string c.root.var.v, .string c.root.typ.v, .slice c.root.tp c.root.tests.length c.root.tc, .slice c.root.kp c.root.kids.length c.root.kc, .slice c.wp c.wh.length c.wc]] w (Ret fun v w' => v = .bool true ∧ St W w' F) :=
  same_lend hi hk ha hai hak H fun F' a1 a2 a3 a4 HF => (ref07_Same p c a1 a2 a3 a4 HF).mono fun e w' hh => by
    cases e with
    | returned v => exact ⟨hh.1.trans (congrArg Value.bool (samePB_clone h1 h2 h3 h4)), hh.2⟩
    | _ => exact hh.elim
set_option maxHeartbeats 4000000 in
set_option maxRecDepth 100000 in
theorem check_spoil_r (N : Nat) : ∀ (n : NodeD), sizeOf n < N → ∀ {W w : World} {F : List Atom} (g o : Nat) (cs : Array Value) (e : TypeId) (fz : Nat × Nat) {b : Nat} (hb : F[b]? = some (blk g (.cells cs e fz))) (hcs : (cs.toList.drop o).take 5 = nodeCell n) (H : St W w (TreeA 43 25 n :: F)), Calls Try.prog 36 #[.pointer (some ⟨g, o, none⟩)] w (Ret fun v w' => v = .tuple #[] ∧ ∃ n2 : NodeD, nodeCell n2 = nodeCell n ∧ St W w' (TreeA 43 25 n2 :: F)) := by
  induction N with | zero => exact fun n hN => absurd hN (Nat.not_lt_zero _) | succ N ih => ?_
  intro n hN W w F g o cs e fz b hb hcs H
  have hbd := (TreeA.open H).1
  have H1 := (TreeA.open H).2
  have H2 := H1.front (i := b + 3) (by exact hb)
  have H3 : St W w (blk g (.cells cs e fz) :: Row 43 11 (.slice n.tp n.tests.length n.tc) n.tests.length (n.tests.flatMap condCell) :: Row 25 5 (.slice n.kp n.kids.length n.kc) n.kids.length (n.kids.flatMap nodeCell) :: TreesA 43 25 n.kids :: (F.set b emp)) := H2
  refine calls_of_go (n := 43) Try.func36 rfl Try.ntmps36 rfl ?_
  refine g_seq ?_
  refine g_seq ?_
  refine g_region ?_
  refine r_cons (s_move (.pointer (some ⟨g, o, none⟩)) rfl rfl ?_)
  refine r_cons (s_nilCheck (.pointer (some ⟨g, o, none⟩)) rfl ⟨_, rfl⟩ rfl ?_)
  refine r_cons (s_fieldAddr 25 3 3 (o + 3) 22 rfl fi_25_3 rfl rfl ?_)
  refine r_cons (s_load (.slice n.tp n.tests.length n.tc) ag_22 rfl (H3.blk_at (i := 0) rfl) (node_cell hcs 3 (by decide)) rfl ?_)
  refine r_cons (s_len n.tests.length rfl ⟨_, un_22⟩ rfl ?_)
  refine r_cons (s_move (.int .i64 0) rfl rfl ?_)
  refine r_nil ?_
  refine g_block ?_
  have H4 : St W w (blk g (.cells cs e fz) :: Row 43 11 (.slice n.tp n.tests.length n.tc) n.tests.length (n.tests.flatMap condCell) :: Row 25 5 (.slice n.kp n.kids.length n.kc) n.kids.length (n.kids.flatMap nodeCell) :: TreesA 43 25 n.kids :: (F.set b emp)) := ((((H3.move 3 rfl).move 3 rfl).move 3 rfl).move 3 rfl)
  refine g_loop_inv (fun (x_ : (List CondV) × Nat) => match x_ with | (T, t) => [(0, .pointer (some ⟨g, o, none⟩)), (8, .int .i64 (n.tests.length : Int)), (9, .int .i64 (t : Int))]) (fun (x_ : (List CondV) × Nat) w => match x_ with | (T, t) => (t ≤ n.tests.length) ∧ (T.length = n.tests.length) ∧ St W w (blk g (.cells cs e fz) :: Row 43 11 (.slice n.tp n.tests.length n.tc) n.tests.length (T.flatMap condCell) :: Row 25 5 (.slice n.kp n.kids.length n.kc) n.kids.length (n.kids.flatMap nodeCell) :: TreesA 43 25 n.kids :: (F.set b emp))) (fun (x_ : (List CondV) × Nat) => match x_ with | (T, t) => n.tests.length - t) (n.tests, 0) ?_ ?_ ?_
  · exact ⟨by first | rfl | exact vint (by omega), by first | rfl | exact vint (by omega), by first | rfl | exact vint (by omega), trivial⟩
  · exact ⟨(by omega), rfl, H4⟩
  · rintro ⟨T, t⟩ ρ5 w6 ⟨htl, hT, H7⟩ nx8
    change Ends _ _ (upds ρ5 [(0, .pointer (some ⟨g, o, none⟩)), (8, .int .i64 (n.tests.length : Int)), (9, .int .i64 (t : Int))]) w6
    refine g_seq ?_
    refine g_region ?_
    by_cases hc9 : (t : Int) < (n.tests.length : Int)
    · skip
      refine r_cons (s_lss true rfl rfl (dtrue hc9) rfl ?_)
      refine r_nil ?_
      refine g_seq ?_
      refine g_true rfl ?_
      refine g_skip ?_
      refine g_seq ?_
      refine g_block ?_
      refine g_seq ?_
      refine g_region ?_
      refine r_cons (s_move (.int .i64 (t : Int)) rfl rfl ?_)
      refine r_cons (s_assign (.int .i64 (t : Int)) rfl rfl ?_)
      refine r_nil ?_
      refine g_region ?_
      refine r_cons (s_move (.pointer (some ⟨g, o, none⟩)) rfl rfl ?_)
      refine r_cons (s_nilCheck (.pointer (some ⟨g, o, none⟩)) rfl ⟨_, rfl⟩ rfl ?_)
      refine r_cons (s_fieldAddr 25 3 3 (o + 3) 22 rfl fi_25_3 rfl rfl ?_)
      refine r_cons (s_load (.slice n.tp n.tests.length n.tc) ag_22 rfl (H7.blk_at (i := 0) rfl) (node_cell hcs 3 (by decide)) rfl ?_)
      refine r_cons (s_move (.int .i64 (t : Int)) rfl rfl ?_)
      obtain ⟨bk10, cur11, hp12, h13, h14, h15, h16, h17, H18⟩ := Row.open2 H7 (i := 1) rfl (by omega)
      refine r_cons (s_indexAddr bk10 (off := 0) (t : Int) 11 (0 + t * 11) (by exact congrArg (fun z_ => Value.slice z_ n.tests.length n.tc) ((fun (_ : 0 < 1) => hp12) (by omega))) rfl el_22 (by omega) rfl rfl ?_)
      refine r_cons (s_fieldAddr 43 1 5 (0 + t * 11 + 5) 3 rfl fi_43_1 rfl rfl ?_)
      have hx21 := row_set (f := condCell) (s := 11) (L := T) (cur := cur11) condCell_len (by rw [hT]; exact h16) (show T.length * 11 ≤ cur11.size by rw [hT, h15]; exact Nat.mul_le_mul_right 11 h13) (j := t) (by have hh := hT; omega) default 5 (by decide) (.int .i64 99) (rel99 (T.getD t default)) rfl
      refine r_cons (s_store H18 1 (.int .i64 99) rfl rfl rfl sz_3 rfl (by have hh := hT; have hk := (show T.length * 11 ≤ cur11.size by rw [hT, h15]; exact Nat.mul_le_mul_right 11 h13); omega) (by simp) (cs' := (cur11.setIfInBounds (0 + t * 11 + 5) (.int .i64 99))) rfl ?_); intro w19 H20
      refine r_nil ?_
      refine g_inBlock ?_
      refine g_region ?_
      refine r_cons (s_add ((t : Int) + 1) rfl rfl (wi64 (by omega)) rfl ?_)
      refine r_cons (s_move (.int .i64 ((t : Int) + 1)) rfl rfl ?_)
      refine r_nil ?_
      have H22 := Row.shut2 (p := n.tp) (n := n.tests.length) (c := n.tc) (size := 11) (xs := (T.set t (rel99 (T.getD t default))).flatMap condCell) H20 (i := 1) rfl hp12 h13 h14 (show (cur11.setIfInBounds (0 + t * 11 + 5) (.int .i64 99)).size = n.tc * 11 from by rw [Array.size_setIfInBounds]; exact h15) (by have hh : ((cur11.setIfInBounds (0 + t * 11 + 5) (.int .i64 99)).toList.drop 0).take ((T.set t (rel99 (T.getD t default))).length * 11) = (T.set t (rel99 (T.getD t default))).flatMap condCell := hx21; have hk : (T.set t (rel99 (T.getD t default))).length = n.tests.length := (show ((T.set t (rel99 (T.getD t default)))).length = n.tests.length from by first | (rw [List.length_set]; exact hT) | rw [List.length_set]); rw [hk] at hh; exact hh) (fun x_ hx_ => by obtain ⟨a_, _, ha_⟩ := List.mem_flatMap.1 hx_; exact one_cond a_ x_ ha_)
      have H23 : St W w19 (blk g (.cells cs e fz) :: Row 43 11 (.slice n.tp n.tests.length n.tc) n.tests.length ((T.set t (rel99 (T.getD t default))).flatMap condCell) :: Row 25 5 (.slice n.kp n.kids.length n.kc) n.kids.length (n.kids.flatMap nodeCell) :: TreesA 43 25 n.kids :: (F.set b emp)) := ((((H22.move 3 rfl).move 3 rfl).move 3 rfl).move 3 rfl)
      exact nx8 ((T.set t (rel99 (T.getD t default))), t + 1) _ _ ⟨(by omega), (by rw [List.length_set]; exact hT), H23⟩ (by first | (dsimp only; omega) | omega) ⟨by first | rfl | exact vint (by omega), by first | rfl | exact vint (by omega), by first | rfl | exact vint (by omega), trivial⟩
    · skip
      refine r_cons (s_lss false rfl rfl (dfalse hc9) rfl ?_)
      refine r_nil ?_
      refine g_seq ?_
      refine g_false rfl ?_
      refine g_exit (by rfl) ?_
      refine g_seq ?_
      refine g_region ?_
      refine r_cons (s_move (.pointer (some ⟨g, o, none⟩)) rfl rfl ?_)
      refine r_cons (s_nilCheck (.pointer (some ⟨g, o, none⟩)) rfl ⟨_, rfl⟩ rfl ?_)
      refine r_cons (s_fieldAddr 25 4 4 (o + 4) 23 rfl fi_25_4 rfl rfl ?_)
      refine r_cons (s_load (.slice n.kp n.kids.length n.kc) ag_23 rfl (H7.blk_at (i := 0) rfl) (node_cell hcs 4 (by decide)) rfl ?_)
      refine r_cons (s_len n.kids.length rfl ⟨_, un_23⟩ rfl ?_)
      refine r_cons (s_move (.int .i64 0) rfl rfl ?_)
      refine r_nil ?_
      refine g_block ?_
      have H24 : St W w6 (blk g (.cells cs e fz) :: Row 43 11 (.slice n.tp n.tests.length n.tc) n.tests.length (T.flatMap condCell) :: Row 25 5 (.slice n.kp n.kids.length n.kc) n.kids.length (n.kids.flatMap nodeCell) :: TreesA 43 25 n.kids :: (F.set b emp)) := ((((H7.move 3 rfl).move 3 rfl).move 3 rfl).move 3 rfl)
      refine g_loop_inv (fun (x_ : (List NodeD) × Nat) => match x_ with | (C, j) => [(0, .pointer (some ⟨g, o, none⟩)), (24, .int .i64 (n.kids.length : Int)), (25, .int .i64 (j : Int))]) (fun (x_ : (List NodeD) × Nat) w => match x_ with | (C, j) => (j ≤ n.kids.length) ∧ (C.length = j) ∧ St W w (blk g (.cells cs e fz) :: Row 43 11 (.slice n.tp n.tests.length n.tc) n.tests.length (T.flatMap condCell) :: Row 25 5 (.slice n.kp n.kids.length n.kc) n.kids.length ((C ++ n.kids.drop j).flatMap nodeCell) :: TreesA 43 25 (C ++ n.kids.drop j) :: (F.set b emp))) (fun (x_ : (List NodeD) × Nat) => match x_ with | (C, j) => n.kids.length - j) ([], 0) ?_ ?_ ?_
      · exact ⟨by first | rfl | exact vint (by omega), by first | rfl | exact vint (by omega), by first | rfl | exact vint (by omega), trivial⟩
      · exact ⟨(by omega), rfl, H24⟩
      · rintro ⟨C, j⟩ ρ25 w26 ⟨hjl, hC, H27⟩ nx28
        change Ends _ _ (upds ρ25 [(0, .pointer (some ⟨g, o, none⟩)), (24, .int .i64 (n.kids.length : Int)), (25, .int .i64 (j : Int))]) w26
        refine g_seq ?_
        refine g_region ?_
        by_cases hc29 : (j : Int) < (n.kids.length : Int)
        · skip
          refine r_cons (s_lss true rfl rfl (dtrue hc29) rfl ?_)
          refine r_nil ?_
          refine g_seq ?_
          refine g_true rfl ?_
          refine g_skip ?_
          refine g_seq ?_
          refine g_block ?_
          refine g_seq ?_
          refine g_region ?_
          refine r_cons (s_move (.int .i64 (j : Int)) rfl rfl ?_)
          refine r_cons (s_assign (.int .i64 (j : Int)) rfl rfl ?_)
          refine r_nil ?_
          refine g_seq ?_
          refine g_region ?_
          refine r_cons (s_move (.pointer (some ⟨g, o, none⟩)) rfl rfl ?_)
          refine r_cons (s_nilCheck (.pointer (some ⟨g, o, none⟩)) rfl ⟨_, rfl⟩ rfl ?_)
          refine r_cons (s_fieldAddr 25 4 4 (o + 4) 23 rfl fi_25_4 rfl rfl ?_)
          refine r_cons (s_load (.slice n.kp n.kids.length n.kc) ag_23 rfl (H27.blk_at (i := 0) rfl) (node_cell hcs 4 (by decide)) rfl ?_)
          refine r_cons (s_move (.int .i64 (j : Int)) rfl rfl ?_)
          obtain ⟨bk30, cur31, hp32, h33, h34, h35, h36, h37, H38⟩ := Row.open2 H27 (i := 2) rfl (by omega)
          refine r_cons (s_indexAddr bk30 (off := 0) (j : Int) 5 (0 + j * 5) (by exact congrArg (fun z_ => Value.slice z_ n.kids.length n.kc) ((fun (_ : 0 < 1) => hp32) (by omega))) rfl el_23 (by omega) rfl rfl ?_)
          have H39 : St W w26 (TreesA 43 25 (C ++ n.kids.drop j) :: blk g (.cells cs e fz) :: Row 43 11 (.slice n.tp n.tests.length n.tc) n.tests.length (T.flatMap condCell) :: blk bk30 (.cells cur31 25 (0, 0)) :: (F.set b emp)) := (H38.move 3 rfl)
          have H40 : St W w26 (TreeA 43 25 (n.kids.getD j default) :: TreesA 43 25 C :: TreesA 43 25 (n.kids.drop (j + 1)) :: blk g (.cells cs e fz) :: Row 43 11 (.slice n.tp n.tests.length n.tc) n.tests.length (T.flatMap condCell) :: blk bk30 (.cells cur31 25 (0, 0)) :: (F.set b emp)) := TreesA.at H39 (by omega)
          refine r_cons (s_call [.pointer (some ⟨bk30, 0 + j * 5, none⟩)] pl_36 rfl rfl (ih (n.kids.getD j default) (by have h9 := kid_lt (n := n) (j := j) (by omega); omega) bk30 (0 + j * 5) cur31 25 (0, 0) (b := 4) rfl (by have hh := (drop_len hC (by omega)); rw [← clone_get hC (by omega)]; exact elem_take nodeCell_len (by rw [(drop_len hC (by omega))]; exact h36) (by omega) default) H40) ?_)
          rintro _ w43 ⟨rfl, nn41, hq42, H44⟩
          refine r_nil ?_
          refine g_region ?_
          refine r_cons (s_move (.pointer (some ⟨g, o, none⟩)) rfl rfl ?_)
          refine r_cons (s_nilCheck (.pointer (some ⟨g, o, none⟩)) rfl ⟨_, rfl⟩ rfl ?_)
          refine r_cons (s_fieldAddr 25 4 4 (o + 4) 23 rfl fi_25_4 rfl rfl ?_)
          refine r_cons (s_load (.slice n.kp n.kids.length n.kc) ag_23 rfl (H44.blk_at (i := 3) rfl) (node_cell hcs 4 (by decide)) rfl ?_)
          refine r_cons (s_move (.int .i64 (j : Int)) rfl rfl ?_)
          refine r_cons (s_indexAddr bk30 (off := 0) (j : Int) 5 (0 + j * 5) (by exact congrArg (fun z_ => Value.slice z_ n.kids.length n.kc) ((fun (_ : 0 < 1) => hp32) (by omega))) rfl el_23 (by omega) rfl rfl ?_)
          refine r_cons (s_fieldAddr 25 0 0 (0 + j * 5) 3 rfl fi_25_0 rfl rfl ?_)
          have hx47 := row_set (f := nodeCell) (s := 5) (L := (C ++ n.kids.drop j)) (cur := cur31) nodeCell_len (by rw [(drop_len hC (by omega))]; exact h36) (show (C ++ n.kids.drop j).length * 5 ≤ cur31.size by rw [(drop_len hC (by omega)), h35]; exact Nat.mul_le_mul_right 5 h33) (j := j) (by have hh := (drop_len hC (by omega)); omega) default 0 (by decide) (.int .i64 99) (kind99 nn41) (kind99_cell (hq42.trans (congrArg nodeCell (clone_get hC (by omega)).symm)))
          refine r_cons (s_store H44 5 (.int .i64 99) rfl rfl rfl sz_3 rfl (by have hh := (drop_len hC (by omega)); have hk := (show (C ++ n.kids.drop j).length * 5 ≤ cur31.size by rw [(drop_len hC (by omega)), h35]; exact Nat.mul_le_mul_right 5 h33); omega) (by simp) (cs' := (cur31.setIfInBounds (0 + j * 5 + 0) (.int .i64 99))) (by simp) ?_); intro w45 H46
          refine r_nil ?_
          refine g_inBlock ?_
          refine g_region ?_
          refine r_cons (s_add ((j : Int) + 1) rfl rfl (wi64 (by omega)) rfl ?_)
          refine r_cons (s_move (.int .i64 ((j : Int) + 1)) rfl rfl ?_)
          refine r_nil ?_
          have hL48 : ((C ++ n.kids.drop j).set j (kind99 nn41)) = (C ++ [kind99 nn41]) ++ n.kids.drop (j + 1) := set_clone hC (by omega) (kind99 nn41)
          have H49 := Row.shut2 (p := n.kp) (n := n.kids.length) (c := n.kc) (size := 5) (xs := ((C ++ [kind99 nn41]) ++ n.kids.drop (j + 1)).flatMap nodeCell) H46 (i := 5) rfl hp32 h33 h34 (show (cur31.setIfInBounds (0 + j * 5 + 0) (.int .i64 99)).size = n.kc * 5 from by rw [Array.size_setIfInBounds]; exact h35) (by have hh : ((cur31.setIfInBounds (0 + j * 5 + 0) (.int .i64 99)).toList.drop 0).take (((C ++ n.kids.drop j).set j (kind99 nn41)).length * 5) = ((C ++ n.kids.drop j).set j (kind99 nn41)).flatMap nodeCell := hx47; have hk : ((C ++ n.kids.drop j).set j (kind99 nn41)).length = n.kids.length := (show (((C ++ n.kids.drop j).set j (kind99 nn41))).length = n.kids.length from by first | (rw [List.length_set]; exact (drop_len hC (by omega))) | rw [List.length_set]); rw [hk] at hh; rw [hL48] at hh; exact hh) (fun x_ hx_ => by obtain ⟨a_, _, ha_⟩ := List.mem_flatMap.1 hx_; exact one_node a_ x_ ha_)
          have H50 : St W w45 (TreesA 43 25 ((C ++ [kind99 nn41]) ++ n.kids.drop (j + 1)) :: blk g (.cells cs e fz) :: Row 43 11 (.slice n.tp n.tests.length n.tc) n.tests.length (T.flatMap condCell) :: Row 25 5 (.slice n.kp n.kids.length n.kc) n.kids.length (((C ++ [kind99 nn41]) ++ n.kids.drop (j + 1)).flatMap nodeCell) :: (F.set b emp)) := TreesA.back (q := kind99 nn41) (by rw [kind99_tree]; exact H49)
          have H51 : St W w45 (blk g (.cells cs e fz) :: Row 43 11 (.slice n.tp n.tests.length n.tc) n.tests.length (T.flatMap condCell) :: Row 25 5 (.slice n.kp n.kids.length n.kc) n.kids.length (((C ++ [kind99 nn41]) ++ n.kids.drop (j + 1)).flatMap nodeCell) :: TreesA 43 25 ((C ++ [kind99 nn41]) ++ n.kids.drop (j + 1)) :: (F.set b emp)) := (((H50.move 3 rfl).move 3 rfl).move 3 rfl)
          exact nx28 ((C ++ [kind99 nn41]), j + 1) _ _ ⟨(by omega), (by rw [List.length_append, hC]; rfl), H51⟩ (by first | (dsimp only; omega) | omega) ⟨by first | rfl | exact vint (by omega), by first | rfl | exact vint (by omega), by first | rfl | exact vint (by omega), trivial⟩
        · skip
          refine r_cons (s_lss false rfl rfl (dfalse hc29) rfl ?_)
          refine r_nil ?_
          refine g_seq ?_
          refine g_false rfl ?_
          refine g_exit (by rfl) ?_
          refine g_end' [] Try.func36 Try.results36 trivial ?_
          have H52 : St W w26 (Row 43 11 (.slice n.tp n.tests.length n.tc) n.tests.length (T.flatMap condCell) :: Row 25 5 (.slice n.kp n.kids.length n.kc) n.kids.length ((C ++ n.kids.drop j).flatMap nodeCell) :: TreesA 43 25 (C ++ n.kids.drop j) :: blk g (.cells cs e fz) :: (F.set b emp)) := (((H27.move 3 rfl).move 3 rfl).move 3 rfl)
          have hCl : n.kids.length = C.length := by omega
          have hDC : C ++ n.kids.drop j = C := by rw [List.drop_of_length_le (by omega), List.append_nil]
          have H53 := H52
          rw [hDC, hCl, ← hT] at H53
          have H54 := TreeA.make (.mk n.kind n.var n.typ n.tp n.tc T n.kp n.kc C) (by exact ⟨by show T.length * 136 ≤ _; omega, by show C.length * 88 ≤ _; omega⟩) H53
          have hback := St.back_same (i := b + 1) (l := TreeA 43 25 (.mk n.kind n.var n.typ n.tp n.tc T n.kp n.kc C) :: F) (by exact hb) (H54.move 1 rfl)
          exact ⟨rfl, (.mk n.kind n.var n.typ n.tp n.tc T n.kp n.kc C), by show nodeCell (NodeD.mk n.kind n.var n.typ n.tp n.tc T n.kp n.kc C) = nodeCell n; unfold nodeCell; rw [show (NodeD.mk n.kind n.var n.typ n.tp n.tc T n.kp n.kc C).tests.length = n.tests.length from hT, show (NodeD.mk n.kind n.var n.typ n.tp n.tc T n.kp n.kc C).kids.length = n.kids.length from hCl.symm]; rfl, hback⟩
theorem check_spoil {W w : World} {F : List Atom} (n : NodeD) (g o : Nat) (cs : Array Value) (e : TypeId) (fz : Nat × Nat) {b : Nat} (hb : F[b]? = some (blk g (.cells cs e fz))) (hcs : (cs.toList.drop o).take 5 = nodeCell n) (H : St W w (TreeA 43 25 n :: F)) : Calls Try.prog 36 #[.pointer (some ⟨g, o, none⟩)] w (Ret fun v w' => v = .tuple #[] ∧ ∃ n2 : NodeD, nodeCell n2 = nodeCell n ∧ St W w' (TreeA 43 25 n2 :: F)) := check_spoil_r (sizeOf n + 1) n (Nat.lt_succ_self _) g o cs e fz hb hcs H
set_option maxHeartbeats 4000000 in
set_option maxRecDepth 100000 in
theorem law_CheckSame {W w : World} {F : List Atom} (p q : PatD) {i : Nat} (hi : F[i]? = some (NodeA p.root)) {k : Nat} (hk : F[k]? = some (Im 11 (.slice p.wp p.wh.length p.wc) p.wh.length (p.wh.flatMap condCell))) {i2 : Nat} (hi2 : F[i2]? = some (NodeA q.root)) {k2 : Nat} (hk2 : F[k2]? = some (Im 11 (.slice q.wp q.wh.length q.wc) q.wh.length (q.wh.flatMap condCell))) (hb : p.wh.length * 136 ≤ 140737488355328) (H : St W w F) : Calls Try.prog 8 #[.agg #[.string p.name.v, .int .i64 p.win.v, .int .i64 p.root.kind.v, .string p.root.var.v, .string p.root.typ.v, .slice p.root.tp p.root.tests.length p.root.tc, .slice p.root.kp p.root.kids.length p.root.kc, .slice p.wp p.wh.length p.wc], .agg #[.string q.name.v, .int .i64 q.win.v, .int .i64 q.root.kind.v, .string q.root.var.v, .string q.root.typ.v, .slice q.root.tp q.root.tests.length q.root.tc, .slice q.root.kp q.root.kids.length q.root.kc, .slice q.wp q.wh.length q.wc]] w (Ret fun v w' => v = .bool true ∧ St W w' F) := by
  have H1 := H.dup (i := i + 0) (by exact hi) (NodeA_pers _)
  have H2 := H1.dup (i := k + 1) (by exact hk) (Im_pers _ _ _ _)
  have H3 : St W w (Im 11 (.slice p.wp p.wh.length p.wc) p.wh.length (p.wh.flatMap condCell) :: NodeA p.root :: F) := H2
  have H4 := H3.dup (i := i2 + 2) (by exact hi2) (NodeA_pers _)
  have H5 := H4.dup (i := k2 + 3) (by exact hk2) (Im_pers _ _ _ _)
  have H6 : St W w (Im 11 (.slice q.wp q.wh.length q.wc) q.wh.length (q.wh.flatMap condCell) :: NodeA q.root :: Im 11 (.slice p.wp p.wh.length p.wc) p.wh.length (p.wh.flatMap condCell) :: NodeA p.root :: F) := H5
  refine calls_of_go (n := 63) Try.func8 rfl Try.ntmps8 rfl ?_
  refine g_seq ?_
  refine g_region ?_
  refine r_cons (s_box H6 27 (.agg #[.string p.name.v, .int .i64 p.win.v, .int .i64 p.root.kind.v, .string p.root.var.v, .string p.root.typ.v, .slice p.root.tp p.root.tests.length p.root.tc, .slice p.root.kp p.root.kids.length p.root.kc, .slice p.wp p.wh.length p.wc]) rfl (cs := #[.string p.name.v, .int .i64 p.win.v, .int .i64 p.root.kind.v, .string p.root.var.v, .string p.root.typ.v, .slice p.root.tp p.root.tests.length p.root.tc, .slice p.root.kp p.root.kids.length p.root.kc, .slice p.wp p.wh.length p.wc]) rfl rfl ?_); intro bk7 w8 H9
  refine r_cons (s_box H9 27 (.agg #[.string q.name.v, .int .i64 q.win.v, .int .i64 q.root.kind.v, .string q.root.var.v, .string q.root.typ.v, .slice q.root.tp q.root.tests.length q.root.tc, .slice q.root.kp q.root.kids.length q.root.kc, .slice q.wp q.wh.length q.wc]) rfl (cs := #[.string q.name.v, .int .i64 q.win.v, .int .i64 q.root.kind.v, .string q.root.var.v, .string q.root.typ.v, .slice q.root.tp q.root.tests.length q.root.tc, .slice q.root.kp q.root.kids.length q.root.kc, .slice q.wp q.wh.length q.wc]) rfl rfl ?_); intro bk10 w11 H12
  refine r_cons (s_assign (.bool false) rfl rfl ?_)
  refine r_nil ?_
  refine g_seq ?_
  refine g_seq ?_
  refine g_region ?_
  refine r_cons (s_fieldAddr 27 2 2 2 25 rfl fi_27_2 rfl rfl ?_)
  refine r_cons (s_loadAgg [.int .i64 p.root.kind.v, .string p.root.var.v, .string p.root.typ.v, .slice p.root.tp p.root.tests.length p.root.tc, .slice p.root.kp p.root.kids.length p.root.kc] 5 ag_25 rfl (H12.blk_at (i := 1) rfl) (Nat.le_of_ble_eq_true rfl) rfl rfl ?_)
  refine r_cons (s_call [.agg #[.int .i64 p.root.kind.v, .string p.root.var.v, .string p.root.typ.v, .slice p.root.tp p.root.tests.length p.root.tc, .slice p.root.kp p.root.kids.length p.root.kc]] pl_10 rfl rfl (check_fits p.root (i := 5) rfl H12) ?_)
  rintro _ w13 ⟨rfl, H14⟩
  refine r_cons (s_not (fitB p.root) rfl (!(fitB p.root)) rfl rfl ?_)
  refine r_cons (s_move (.bool (!(fitB p.root))) rfl rfl ?_)
  by_cases hb15 : (!(fitB p.root)) = true
  · skip
    refine r_cons (r_pass rfl (congrArg some hb15) rfl rfl rfl ?_)
    refine r_cons (r_pass rfl (congrArg some hb15) rfl rfl rfl ?_)
    refine r_cons (r_pass rfl (congrArg some hb15) rfl rfl rfl ?_)
    refine r_cons (r_pass rfl (congrArg some hb15) rfl rfl rfl ?_)
    refine r_cons (s_pick_t (.bool true) (by exact congrArg Value.bool hb15) rfl rfl ?_)
    refine r_cons (s_move (.bool true) rfl rfl ?_)
    refine r_cons (r_pass rfl rfl rfl rfl rfl ?_)
    refine r_cons (r_pass rfl rfl rfl rfl rfl ?_)
    refine r_cons (s_pick_t (.bool true) rfl rfl rfl ?_)
    refine r_nil ?_
    refine g_true rfl ?_
    refine g_seq ?_
    refine g_region ?_
    refine r_cons (s_call [] pl_9 rfl rfl (check_live H14) ?_)
    rintro _ w16 ⟨rfl, H17⟩
    refine r_cons (s_assign (.bool true) rfl rfl ?_)
    refine r_nil ?_
    refine g_ret' [.bool true] Try.func8 Try.results8 ⟨rfl, trivial⟩ ?_
    have H18 : St W w16 F := ((((((H17.drop 0 rfl).drop 0 rfl).drop 0 rfl).drop 0 rfl).drop 0 rfl).drop 0 rfl)
    exact ⟨rfl, H18⟩
  · have hb15 := eq_false_of_ne_true hb15
    refine r_cons (r_take rfl (congrArg some hb15) ?_)
    refine s_fieldAddr 27 2 2 2 25 rfl fi_27_2 rfl rfl ?_
    refine r_cons (r_take rfl (congrArg some hb15) ?_)
    refine s_loadAgg [.int .i64 q.root.kind.v, .string q.root.var.v, .string q.root.typ.v, .slice q.root.tp q.root.tests.length q.root.tc, .slice q.root.kp q.root.kids.length q.root.kc] 5 ag_25 rfl (H14.blk_at (i := 0) rfl) (Nat.le_of_ble_eq_true rfl) rfl rfl ?_
    refine r_cons (r_take rfl (congrArg some hb15) ?_)
    refine s_call [.agg #[.int .i64 q.root.kind.v, .string q.root.var.v, .string q.root.typ.v, .slice q.root.tp q.root.tests.length q.root.tc, .slice q.root.kp q.root.kids.length q.root.kc]] pl_10 rfl rfl (check_fits q.root (i := 3) rfl H14) ?_
    rintro _ w19 ⟨rfl, H20⟩
    refine r_cons (r_take rfl (congrArg some hb15) ?_)
    refine s_not (fitB q.root) rfl (!(fitB q.root)) rfl rfl ?_
    refine r_cons (s_pick_f (.bool (!(fitB q.root))) (by exact congrArg Value.bool hb15) rfl rfl ?_)
    refine r_cons (s_move (.bool (!(fitB q.root))) rfl rfl ?_)
    by_cases hb21 : (!(fitB q.root)) = true
    · skip
      refine r_cons (r_pass rfl (congrArg some hb21) rfl rfl rfl ?_)
      refine r_cons (r_pass rfl (congrArg some hb21) rfl rfl rfl ?_)
      refine r_cons (s_pick_t (.bool true) (by exact congrArg Value.bool hb21) rfl rfl ?_)
      refine r_nil ?_
      refine g_true rfl ?_
      refine g_seq ?_
      refine g_region ?_
      refine r_cons (s_call [] pl_9 rfl rfl (check_live H20) ?_)
      rintro _ w22 ⟨rfl, H23⟩
      refine r_cons (s_assign (.bool true) rfl rfl ?_)
      refine r_nil ?_
      refine g_ret' [.bool true] Try.func8 Try.results8 ⟨rfl, trivial⟩ ?_
      have H24 : St W w22 F := ((((((H23.drop 0 rfl).drop 0 rfl).drop 0 rfl).drop 0 rfl).drop 0 rfl).drop 0 rfl)
      exact ⟨rfl, H24⟩
    · have hb21 := eq_false_of_ne_true hb21
      refine r_cons (r_take rfl (congrArg some hb21) ?_)
      refine s_call [] pl_9 rfl rfl (check_live H20) ?_
      rintro _ w25 ⟨rfl, H26⟩
      refine r_cons (r_take rfl (congrArg some hb21) ?_)
      refine s_not true rfl false rfl rfl ?_
      refine r_cons (s_pick_f (.bool false) (by exact congrArg Value.bool hb21) rfl rfl ?_)
      refine r_nil ?_
      refine g_false rfl ?_
      refine g_skip ?_
      refine g_seq ?_
      refine g_region ?_
      refine r_cons (s_loadAgg [.string p.name.v, .int .i64 p.win.v, .int .i64 p.root.kind.v, .string p.root.var.v, .string p.root.typ.v, .slice p.root.tp p.root.tests.length p.root.tc, .slice p.root.kp p.root.kids.length p.root.kc, .slice p.wp p.wh.length p.wc] 8 ag_27 rfl (H26.blk_at (i := 1) rfl) (Nat.le_of_ble_eq_true rfl) rfl rfl ?_)
      refine r_cons (s_call [.agg #[.string p.name.v, .int .i64 p.win.v, .int .i64 p.root.kind.v, .string p.root.var.v, .string p.root.typ.v, .slice p.root.tp p.root.tests.length p.root.tc, .slice p.root.kp p.root.kids.length p.root.kc, .slice p.wp p.wh.length p.wc]] pl_32 rfl rfl (check_Clone p (i := 5) rfl (k := 4) rfl (by omega) H26) ?_)
      rintro _ w31 ⟨nn27, pp28, cc29, rfl, hq30, H32⟩
      refine r_cons (s_alloc H32 27 ze_27 rfl ?_); intro bk33 w34 H35
      refine r_cons (s_storeAgg H35 0 #[.string p.name.v, .int .i64 p.win.v, .int .i64 nn27.kind.v, .string nn27.var.v, .string nn27.typ.v, .slice nn27.tp nn27.tests.length nn27.tc, .slice nn27.kp nn27.kids.length nn27.kc, .slice pp28 p.wh.length cc29] 8 rfl rfl rfl sz_27 rfl (by simp [Value.oneCell']) (Nat.le_of_ble_eq_true rfl) (fun o h1 h2 => by first | (simp; done) | (simp; omega)) (cs' := #[.string p.name.v, .int .i64 p.win.v, .int .i64 nn27.kind.v, .string nn27.var.v, .string nn27.typ.v, .slice nn27.tp nn27.tests.length nn27.tc, .slice nn27.kp nn27.kids.length nn27.kc, .slice pp28 p.wh.length cc29]) rfl ?_); intro w36 H37
      refine r_nil ?_
      refine g_seq ?_
      refine g_seq ?_
      have H38 : St W w36 (TreeA 43 25 nn27 :: Row 43 11 (.slice pp28 p.wh.length cc29) p.wh.length (p.wh.flatMap condCell) :: blk bk33 (.cells #[.string p.name.v, .int .i64 p.win.v, .int .i64 nn27.kind.v, .string nn27.var.v, .string nn27.typ.v, .slice nn27.tp nn27.tests.length nn27.tc, .slice nn27.kp nn27.kids.length nn27.kc, .slice pp28 p.wh.length cc29] 27 (0, 0)) :: blk bk10 (.cells #[.string q.name.v, .int .i64 q.win.v, .int .i64 q.root.kind.v, .string q.root.var.v, .string q.root.typ.v, .slice q.root.tp q.root.tests.length q.root.tc, .slice q.root.kp q.root.kids.length q.root.kc, .slice q.wp q.wh.length q.wc] 27 (0, 0)) :: blk bk7 (.cells #[.string p.name.v, .int .i64 p.win.v, .int .i64 p.root.kind.v, .string p.root.var.v, .string p.root.typ.v, .slice p.root.tp p.root.tests.length p.root.tc, .slice p.root.kp p.root.kids.length p.root.kc, .slice p.wp p.wh.length p.wc] 27 (0, 0)) :: Im 11 (.slice q.wp q.wh.length q.wc) q.wh.length (q.wh.flatMap condCell) :: NodeA q.root :: Im 11 (.slice p.wp p.wh.length p.wc) p.wh.length (p.wh.flatMap condCell) :: NodeA p.root :: F) := ((H37.move 2 rfl).move 2 rfl)
      have H39 : St W w36 (PatO 43 25 (⟨p.name, p.win, nn27, pp28, cc29, p.wh⟩ : PatD) :: blk bk33 (.cells #[.string p.name.v, .int .i64 p.win.v, .int .i64 nn27.kind.v, .string nn27.var.v, .string nn27.typ.v, .slice nn27.tp nn27.tests.length nn27.tc, .slice nn27.kp nn27.kids.length nn27.kc, .slice pp28 p.wh.length cc29] 27 (0, 0)) :: blk bk10 (.cells #[.string q.name.v, .int .i64 q.win.v, .int .i64 q.root.kind.v, .string q.root.var.v, .string q.root.typ.v, .slice q.root.tp q.root.tests.length q.root.tc, .slice q.root.kp q.root.kids.length q.root.kc, .slice q.wp q.wh.length q.wc] 27 (0, 0)) :: blk bk7 (.cells #[.string p.name.v, .int .i64 p.win.v, .int .i64 p.root.kind.v, .string p.root.var.v, .string p.root.typ.v, .slice p.root.tp p.root.tests.length p.root.tc, .slice p.root.kp p.root.kids.length p.root.kc, .slice p.wp p.wh.length p.wc] 27 (0, 0)) :: Im 11 (.slice q.wp q.wh.length q.wc) q.wh.length (q.wh.flatMap condCell) :: NodeA q.root :: Im 11 (.slice p.wp p.wh.length p.wc) p.wh.length (p.wh.flatMap condCell) :: NodeA p.root :: F) := St.shut_star (ls := [_, _]) H38
      refine g_quiet (fun w' => St W w' (PatO 43 25 (⟨p.name, p.win, nn27, pp28, cc29, p.wh⟩ : PatD) :: blk bk33 (.cells #[.string p.name.v, .int .i64 p.win.v, .int .i64 nn27.kind.v, .string nn27.var.v, .string nn27.typ.v, .slice nn27.tp nn27.tests.length nn27.tc, .slice nn27.kp nn27.kids.length nn27.kc, .slice pp28 p.wh.length cc29] 27 (0, 0)) :: blk bk10 (.cells #[.string q.name.v, .int .i64 q.win.v, .int .i64 q.root.kind.v, .string q.root.var.v, .string q.root.typ.v, .slice q.root.tp q.root.tests.length q.root.tc, .slice q.root.kp q.root.kids.length q.root.kc, .slice q.wp q.wh.length q.wc] 27 (0, 0)) :: blk bk7 (.cells #[.string p.name.v, .int .i64 p.win.v, .int .i64 p.root.kind.v, .string p.root.var.v, .string p.root.typ.v, .slice p.root.tp p.root.tests.length p.root.tc, .slice p.root.kp p.root.kids.length p.root.kc, .slice p.wp p.wh.length p.wc] 27 (0, 0)) :: Im 11 (.slice q.wp q.wh.length q.wc) q.wh.length (q.wh.flatMap condCell) :: NodeA q.root :: Im 11 (.slice p.wp p.wh.length p.wc) p.wh.length (p.wh.flatMap condCell) :: NodeA p.root :: F)) mixed (by kernel_rfl) H39.drew ?_
      refine q_cons (q_val rfl rfl rfl (by intro w hw; exact x_loadAgg [.string p.name.v, .int .i64 p.win.v, .int .i64 p.root.kind.v, .string p.root.var.v, .string p.root.typ.v, .slice p.root.tp p.root.tests.length p.root.tc, .slice p.root.kp p.root.kids.length p.root.kc, .slice p.wp p.wh.length p.wc] 8 ag_27 rfl (hw.blk_at (i := 3) rfl) (Nat.le_of_ble_eq_true rfl) rfl) ?_)
      refine q_cons (q_val rfl rfl rfl (by intro w hw; exact x_loadAgg [.string q.name.v, .int .i64 q.win.v, .int .i64 q.root.kind.v, .string q.root.var.v, .string q.root.typ.v, .slice q.root.tp q.root.tests.length q.root.tc, .slice q.root.kp q.root.kids.length q.root.kc, .slice q.wp q.wh.length q.wc] 8 ag_27 rfl (hw.blk_at (i := 2) rfl) (Nat.le_of_ble_eq_true rfl) rfl) ?_)
      refine q_cons (q_enter (args := #[.agg #[.string p.name.v, .int .i64 p.win.v, .int .i64 p.root.kind.v, .string p.root.var.v, .string p.root.typ.v, .slice p.root.tp p.root.tests.length p.root.tc, .slice p.root.kp p.root.kids.length p.root.kc, .slice p.wp p.wh.length p.wc], .agg #[.string q.name.v, .int .i64 q.win.v, .int .i64 q.root.kind.v, .string q.root.var.v, .string q.root.typ.v, .slice q.root.tp q.root.tests.length q.root.tc, .slice q.root.kp q.root.kids.length q.root.kc, .slice q.wp q.wh.length q.wc]]) (v := .bool (samePB p q)) rfl rfl rfl (x_call pl_34 [.agg #[.string p.name.v, .int .i64 p.win.v, .int .i64 p.root.kind.v, .string p.root.var.v, .string p.root.typ.v, .slice p.root.tp p.root.tests.length p.root.tc, .slice p.root.kp p.root.kids.length p.root.kc, .slice p.wp p.wh.length p.wc], .agg #[.string q.name.v, .int .i64 q.win.v, .int .i64 q.root.kind.v, .string q.root.var.v, .string q.root.typ.v, .slice q.root.tp q.root.tests.length q.root.tc, .slice q.root.kp q.root.kids.length q.root.kc, .slice q.wp q.wh.length q.wc]] rfl) (fun w hw => check_Same p q (i := 7) rfl (k := 6) rfl (i2 := 5) rfl (k2 := 4) rfl hw) ?_)
      refine q_cons (q_val rfl rfl rfl (by intro w hw; exact x_loadAgg [.string p.name.v, .int .i64 p.win.v, .int .i64 p.root.kind.v, .string p.root.var.v, .string p.root.typ.v, .slice p.root.tp p.root.tests.length p.root.tc, .slice p.root.kp p.root.kids.length p.root.kc, .slice p.wp p.wh.length p.wc] 8 ag_27 rfl (hw.blk_at (i := 3) rfl) (Nat.le_of_ble_eq_true rfl) rfl) ?_)
      refine q_cons (q_val rfl rfl rfl (by intro w hw; exact x_loadAgg [.string q.name.v, .int .i64 q.win.v, .int .i64 q.root.kind.v, .string q.root.var.v, .string q.root.typ.v, .slice q.root.tp q.root.tests.length q.root.tc, .slice q.root.kp q.root.kids.length q.root.kc, .slice q.wp q.wh.length q.wc] 8 ag_27 rfl (hw.blk_at (i := 2) rfl) (Nat.le_of_ble_eq_true rfl) rfl) ?_)
      refine q_cons (q_enter (args := #[.agg #[.string p.name.v, .int .i64 p.win.v, .int .i64 p.root.kind.v, .string p.root.var.v, .string p.root.typ.v, .slice p.root.tp p.root.tests.length p.root.tc, .slice p.root.kp p.root.kids.length p.root.kc, .slice p.wp p.wh.length p.wc], .agg #[.string q.name.v, .int .i64 q.win.v, .int .i64 q.root.kind.v, .string q.root.var.v, .string q.root.typ.v, .slice q.root.tp q.root.tests.length q.root.tc, .slice q.root.kp q.root.kids.length q.root.kc, .slice q.wp q.wh.length q.wc]]) (v := .bool (samePB p q)) rfl rfl rfl (x_call pl_35 [.agg #[.string p.name.v, .int .i64 p.win.v, .int .i64 p.root.kind.v, .string p.root.var.v, .string p.root.typ.v, .slice p.root.tp p.root.tests.length p.root.tc, .slice p.root.kp p.root.kids.length p.root.kc, .slice p.wp p.wh.length p.wc], .agg #[.string q.name.v, .int .i64 q.win.v, .int .i64 q.root.kind.v, .string q.root.var.v, .string q.root.typ.v, .slice q.root.tp q.root.tests.length q.root.tc, .slice q.root.kp q.root.kids.length q.root.kc, .slice q.wp q.wh.length q.wc]] rfl) (fun w hw => ref07_Same p q (i := 7) rfl (k := 6) rfl (i2 := 5) rfl (k2 := 4) rfl hw) ?_)
      refine q_cons (q_val rfl rfl rfl (by intro w hw; exact x_bneq false un_4 rfl rfl (ntrue rfl) w) ?_)
      refine q_cons (q_val rfl rfl rfl (by intro w hw; exact x_move (.bool false) rfl w) ?_)
      refine q_cons (q_take rfl rfl ?_)
      refine q_val rfl rfl rfl (by intro w hw; exact x_loadAgg [.string p.name.v, .int .i64 p.win.v, .int .i64 p.root.kind.v, .string p.root.var.v, .string p.root.typ.v, .slice p.root.tp p.root.tests.length p.root.tc, .slice p.root.kp p.root.kids.length p.root.kc, .slice p.wp p.wh.length p.wc] 8 ag_27 rfl (hw.blk_at (i := 3) rfl) (Nat.le_of_ble_eq_true rfl) rfl) ?_
      refine q_cons (q_take rfl rfl ?_)
      refine q_val rfl rfl rfl (by intro w hw; exact x_loadAgg [.string p.name.v, .int .i64 p.win.v, .int .i64 nn27.kind.v, .string nn27.var.v, .string nn27.typ.v, .slice nn27.tp nn27.tests.length nn27.tc, .slice nn27.kp nn27.kids.length nn27.kc, .slice pp28 p.wh.length cc29] 8 ag_27 rfl (hw.blk_at (i := 1) rfl) (Nat.le_of_ble_eq_true rfl) rfl) ?_
      refine q_cons (q_take rfl rfl ?_)
      refine q_enter (args := #[.agg #[.string p.name.v, .int .i64 p.win.v, .int .i64 p.root.kind.v, .string p.root.var.v, .string p.root.typ.v, .slice p.root.tp p.root.tests.length p.root.tc, .slice p.root.kp p.root.kids.length p.root.kc, .slice p.wp p.wh.length p.wc], .agg #[.string p.name.v, .int .i64 p.win.v, .int .i64 nn27.kind.v, .string nn27.var.v, .string nn27.typ.v, .slice nn27.tp nn27.tests.length nn27.tc, .slice nn27.kp nn27.kids.length nn27.kc, .slice pp28 p.wh.length cc29]]) (v := .bool true) rfl rfl rfl (x_call pl_34 [.agg #[.string p.name.v, .int .i64 p.win.v, .int .i64 p.root.kind.v, .string p.root.var.v, .string p.root.typ.v, .slice p.root.tp p.root.tests.length p.root.tc, .slice p.root.kp p.root.kids.length p.root.kc, .slice p.wp p.wh.length p.wc], .agg #[.string p.name.v, .int .i64 p.win.v, .int .i64 nn27.kind.v, .string nn27.var.v, .string nn27.typ.v, .slice nn27.tp nn27.tests.length nn27.tc, .slice nn27.kp nn27.kids.length nn27.kc, .slice pp28 p.wh.length cc29]] rfl) (fun w hw => check_Same_own p (⟨p.name, p.win, nn27, pp28, cc29, p.wh⟩ : PatD) (i := 7) rfl (k := 6) rfl (a := 0) rfl (by decide) (by decide) rfl rfl rfl hq30 hw) ?_
      refine q_cons (q_take rfl rfl ?_)
      refine q_val rfl rfl rfl (by intro w hw; exact x_not true rfl false rfl w) ?_
      refine q_cons (q_val rfl rfl rfl (by intro w hw; exact x_pick_f (.bool false) rfl rfl w) ?_)
      refine q_cons (q_val rfl rfl rfl (by intro w hw; exact x_move (.bool false) rfl w) ?_)
      refine q_cons (q_take rfl rfl ?_)
      refine q_val rfl rfl rfl (by intro w hw; exact x_loadAgg [.string p.name.v, .int .i64 p.win.v, .int .i64 p.root.kind.v, .string p.root.var.v, .string p.root.typ.v, .slice p.root.tp p.root.tests.length p.root.tc, .slice p.root.kp p.root.kids.length p.root.kc, .slice p.wp p.wh.length p.wc] 8 ag_27 rfl (hw.blk_at (i := 3) rfl) (Nat.le_of_ble_eq_true rfl) rfl) ?_
      refine q_cons (q_take rfl rfl ?_)
      refine q_val rfl rfl rfl (by intro w hw; exact x_loadAgg [.string p.name.v, .int .i64 p.win.v, .int .i64 nn27.kind.v, .string nn27.var.v, .string nn27.typ.v, .slice nn27.tp nn27.tests.length nn27.tc, .slice nn27.kp nn27.kids.length nn27.kc, .slice pp28 p.wh.length cc29] 8 ag_27 rfl (hw.blk_at (i := 1) rfl) (Nat.le_of_ble_eq_true rfl) rfl) ?_
      refine q_cons (q_take rfl rfl ?_)
      refine q_enter (args := #[.agg #[.string p.name.v, .int .i64 p.win.v, .int .i64 p.root.kind.v, .string p.root.var.v, .string p.root.typ.v, .slice p.root.tp p.root.tests.length p.root.tc, .slice p.root.kp p.root.kids.length p.root.kc, .slice p.wp p.wh.length p.wc], .agg #[.string p.name.v, .int .i64 p.win.v, .int .i64 nn27.kind.v, .string nn27.var.v, .string nn27.typ.v, .slice nn27.tp nn27.tests.length nn27.tc, .slice nn27.kp nn27.kids.length nn27.kc, .slice pp28 p.wh.length cc29]]) (v := .bool true) rfl rfl rfl (x_call pl_35 [.agg #[.string p.name.v, .int .i64 p.win.v, .int .i64 p.root.kind.v, .string p.root.var.v, .string p.root.typ.v, .slice p.root.tp p.root.tests.length p.root.tc, .slice p.root.kp p.root.kids.length p.root.kc, .slice p.wp p.wh.length p.wc], .agg #[.string p.name.v, .int .i64 p.win.v, .int .i64 nn27.kind.v, .string nn27.var.v, .string nn27.typ.v, .slice nn27.tp nn27.tests.length nn27.tc, .slice nn27.kp nn27.kids.length nn27.kc, .slice pp28 p.wh.length cc29]] rfl) (fun w hw => ref07_Same_own p (⟨p.name, p.win, nn27, pp28, cc29, p.wh⟩ : PatD) (i := 7) rfl (k := 6) rfl (a := 0) rfl (by decide) (by decide) rfl rfl rfl hq30 hw) ?_
      refine q_cons (q_take rfl rfl ?_)
      refine q_val rfl rfl rfl (by intro w hw; exact x_not true rfl false rfl w) ?_
      refine q_cons (q_val rfl rfl rfl (by intro w hw; exact x_pick_f (.bool false) rfl rfl w) ?_)
      refine q_nil ?_
      intro w40 H41
      refine g_false rfl ?_
      refine g_skip ?_
      refine g_seq ?_
      refine g_region ?_
      refine r_cons (s_loadAgg [.string p.name.v, .int .i64 p.win.v, .int .i64 p.root.kind.v, .string p.root.var.v, .string p.root.typ.v, .slice p.root.tp p.root.tests.length p.root.tc, .slice p.root.kp p.root.kids.length p.root.kc, .slice p.wp p.wh.length p.wc] 8 ag_27 rfl (H41.blk_at (i := 3) rfl) (Nat.le_of_ble_eq_true rfl) rfl rfl ?_)
      refine r_cons (s_call [.agg #[.string p.name.v, .int .i64 p.win.v, .int .i64 p.root.kind.v, .string p.root.var.v, .string p.root.typ.v, .slice p.root.tp p.root.tests.length p.root.tc, .slice p.root.kp p.root.kids.length p.root.kc, .slice p.wp p.wh.length p.wc]] pl_32 rfl rfl (check_Clone p (i := 7) rfl (k := 6) rfl (by omega) H41) ?_)
      rintro _ w46 ⟨nn42, pp43, cc44, rfl, hq45, H47⟩
      refine r_cons (s_alloc H47 27 ze_27 rfl ?_); intro bk48 w49 H50
      refine r_cons (s_storeAgg H50 0 #[.string p.name.v, .int .i64 p.win.v, .int .i64 nn42.kind.v, .string nn42.var.v, .string nn42.typ.v, .slice nn42.tp nn42.tests.length nn42.tc, .slice nn42.kp nn42.kids.length nn42.kc, .slice pp43 p.wh.length cc44] 8 rfl rfl rfl sz_27 rfl (by simp [Value.oneCell']) (Nat.le_of_ble_eq_true rfl) (fun o h1 h2 => by first | (simp; done) | (simp; omega)) (cs' := #[.string p.name.v, .int .i64 p.win.v, .int .i64 nn42.kind.v, .string nn42.var.v, .string nn42.typ.v, .slice nn42.tp nn42.tests.length nn42.tc, .slice nn42.kp nn42.kids.length nn42.kc, .slice pp43 p.wh.length cc44]) rfl ?_); intro w51 H52
      refine r_nil ?_
      refine g_seq ?_
      refine g_seq ?_
      refine g_region ?_
      have H53 : St W w51 (blk bk48 (.cells #[.string p.name.v, .int .i64 p.win.v, .int .i64 nn42.kind.v, .string nn42.var.v, .string nn42.typ.v, .slice nn42.tp nn42.tests.length nn42.tc, .slice nn42.kp nn42.kids.length nn42.kc, .slice pp43 p.wh.length cc44] 27 (0, 0)) :: NodeA ((⟨p.name, p.win, nn42, pp43, cc44, p.wh⟩ : PatD).root) :: Row 43 11 (.slice pp43 p.wh.length cc44) p.wh.length (p.wh.flatMap condCell) :: PatO 43 25 (⟨p.name, p.win, nn27, pp28, cc29, p.wh⟩ : PatD) :: blk bk33 (.cells #[.string p.name.v, .int .i64 p.win.v, .int .i64 nn27.kind.v, .string nn27.var.v, .string nn27.typ.v, .slice nn27.tp nn27.tests.length nn27.tc, .slice nn27.kp nn27.kids.length nn27.kc, .slice pp28 p.wh.length cc29] 27 (0, 0)) :: blk bk10 (.cells #[.string q.name.v, .int .i64 q.win.v, .int .i64 q.root.kind.v, .string q.root.var.v, .string q.root.typ.v, .slice q.root.tp q.root.tests.length q.root.tc, .slice q.root.kp q.root.kids.length q.root.kc, .slice q.wp q.wh.length q.wc] 27 (0, 0)) :: blk bk7 (.cells #[.string p.name.v, .int .i64 p.win.v, .int .i64 p.root.kind.v, .string p.root.var.v, .string p.root.typ.v, .slice p.root.tp p.root.tests.length p.root.tc, .slice p.root.kp p.root.kids.length p.root.kc, .slice p.wp p.wh.length p.wc] 27 (0, 0)) :: Im 11 (.slice q.wp q.wh.length q.wc) q.wh.length (q.wh.flatMap condCell) :: NodeA q.root :: Im 11 (.slice p.wp p.wh.length p.wc) p.wh.length (p.wh.flatMap condCell) :: NodeA p.root :: F) := TreeA.freeze H52 (i := 1) rfl
      have H54 : St W w51 (blk bk48 (.cells #[.string p.name.v, .int .i64 p.win.v, .int .i64 nn42.kind.v, .string nn42.var.v, .string nn42.typ.v, .slice nn42.tp nn42.tests.length nn42.tc, .slice nn42.kp nn42.kids.length nn42.kc, .slice pp43 p.wh.length cc44] 27 (0, 0)) :: NodeA ((⟨p.name, p.win, nn42, pp43, cc44, p.wh⟩ : PatD).root) :: Im 11 (.slice ((⟨p.name, p.win, nn42, pp43, cc44, p.wh⟩ : PatD).wp) ((⟨p.name, p.win, nn42, pp43, cc44, p.wh⟩ : PatD).wh.length) ((⟨p.name, p.win, nn42, pp43, cc44, p.wh⟩ : PatD).wc)) ((⟨p.name, p.win, nn42, pp43, cc44, p.wh⟩ : PatD).wh.length) ((⟨p.name, p.win, nn42, pp43, cc44, p.wh⟩ : PatD).wh.flatMap condCell) :: PatO 43 25 (⟨p.name, p.win, nn27, pp28, cc29, p.wh⟩ : PatD) :: blk bk33 (.cells #[.string p.name.v, .int .i64 p.win.v, .int .i64 nn27.kind.v, .string nn27.var.v, .string nn27.typ.v, .slice nn27.tp nn27.tests.length nn27.tc, .slice nn27.kp nn27.kids.length nn27.kc, .slice pp28 p.wh.length cc29] 27 (0, 0)) :: blk bk10 (.cells #[.string q.name.v, .int .i64 q.win.v, .int .i64 q.root.kind.v, .string q.root.var.v, .string q.root.typ.v, .slice q.root.tp q.root.tests.length q.root.tc, .slice q.root.kp q.root.kids.length q.root.kc, .slice q.wp q.wh.length q.wc] 27 (0, 0)) :: blk bk7 (.cells #[.string p.name.v, .int .i64 p.win.v, .int .i64 p.root.kind.v, .string p.root.var.v, .string p.root.typ.v, .slice p.root.tp p.root.tests.length p.root.tc, .slice p.root.kp p.root.kids.length p.root.kc, .slice p.wp p.wh.length p.wc] 27 (0, 0)) :: Im 11 (.slice q.wp q.wh.length q.wc) q.wh.length (q.wh.flatMap condCell) :: NodeA q.root :: Im 11 (.slice p.wp p.wh.length p.wc) p.wh.length (p.wh.flatMap condCell) :: NodeA p.root :: F) := Row.im H53 (i := 2) rfl
      have H55 : St W w51 (PatO 43 25 (⟨p.name, p.win, nn27, pp28, cc29, p.wh⟩ : PatD) :: blk bk48 (.cells #[.string p.name.v, .int .i64 p.win.v, .int .i64 nn42.kind.v, .string nn42.var.v, .string nn42.typ.v, .slice nn42.tp nn42.tests.length nn42.tc, .slice nn42.kp nn42.kids.length nn42.kc, .slice pp43 p.wh.length cc44] 27 (0, 0)) :: NodeA ((⟨p.name, p.win, nn42, pp43, cc44, p.wh⟩ : PatD).root) :: Im 11 (.slice ((⟨p.name, p.win, nn42, pp43, cc44, p.wh⟩ : PatD).wp) ((⟨p.name, p.win, nn42, pp43, cc44, p.wh⟩ : PatD).wh.length) ((⟨p.name, p.win, nn42, pp43, cc44, p.wh⟩ : PatD).wc)) ((⟨p.name, p.win, nn42, pp43, cc44, p.wh⟩ : PatD).wh.length) ((⟨p.name, p.win, nn42, pp43, cc44, p.wh⟩ : PatD).wh.flatMap condCell) :: blk bk33 (.cells #[.string p.name.v, .int .i64 p.win.v, .int .i64 nn27.kind.v, .string nn27.var.v, .string nn27.typ.v, .slice nn27.tp nn27.tests.length nn27.tc, .slice nn27.kp nn27.kids.length nn27.kc, .slice pp28 p.wh.length cc29] 27 (0, 0)) :: blk bk10 (.cells #[.string q.name.v, .int .i64 q.win.v, .int .i64 q.root.kind.v, .string q.root.var.v, .string q.root.typ.v, .slice q.root.tp q.root.tests.length q.root.tc, .slice q.root.kp q.root.kids.length q.root.kc, .slice q.wp q.wh.length q.wc] 27 (0, 0)) :: blk bk7 (.cells #[.string p.name.v, .int .i64 p.win.v, .int .i64 p.root.kind.v, .string p.root.var.v, .string p.root.typ.v, .slice p.root.tp p.root.tests.length p.root.tc, .slice p.root.kp p.root.kids.length p.root.kc, .slice p.wp p.wh.length p.wc] 27 (0, 0)) :: Im 11 (.slice q.wp q.wh.length q.wc) q.wh.length (q.wh.flatMap condCell) :: NodeA q.root :: Im 11 (.slice p.wp p.wh.length p.wc) p.wh.length (p.wh.flatMap condCell) :: NodeA p.root :: F) := (H54.move 3 rfl)
      have H56 : St W w51 (TreeA 43 25 nn27 :: Row 43 11 (.slice pp28 p.wh.length cc29) p.wh.length (p.wh.flatMap condCell) :: blk bk48 (.cells #[.string p.name.v, .int .i64 p.win.v, .int .i64 nn42.kind.v, .string nn42.var.v, .string nn42.typ.v, .slice nn42.tp nn42.tests.length nn42.tc, .slice nn42.kp nn42.kids.length nn42.kc, .slice pp43 p.wh.length cc44] 27 (0, 0)) :: NodeA ((⟨p.name, p.win, nn42, pp43, cc44, p.wh⟩ : PatD).root) :: Im 11 (.slice ((⟨p.name, p.win, nn42, pp43, cc44, p.wh⟩ : PatD).wp) ((⟨p.name, p.win, nn42, pp43, cc44, p.wh⟩ : PatD).wh.length) ((⟨p.name, p.win, nn42, pp43, cc44, p.wh⟩ : PatD).wc)) ((⟨p.name, p.win, nn42, pp43, cc44, p.wh⟩ : PatD).wh.length) ((⟨p.name, p.win, nn42, pp43, cc44, p.wh⟩ : PatD).wh.flatMap condCell) :: blk bk33 (.cells #[.string p.name.v, .int .i64 p.win.v, .int .i64 nn27.kind.v, .string nn27.var.v, .string nn27.typ.v, .slice nn27.tp nn27.tests.length nn27.tc, .slice nn27.kp nn27.kids.length nn27.kc, .slice pp28 p.wh.length cc29] 27 (0, 0)) :: blk bk10 (.cells #[.string q.name.v, .int .i64 q.win.v, .int .i64 q.root.kind.v, .string q.root.var.v, .string q.root.typ.v, .slice q.root.tp q.root.tests.length q.root.tc, .slice q.root.kp q.root.kids.length q.root.kc, .slice q.wp q.wh.length q.wc] 27 (0, 0)) :: blk bk7 (.cells #[.string p.name.v, .int .i64 p.win.v, .int .i64 p.root.kind.v, .string p.root.var.v, .string p.root.typ.v, .slice p.root.tp p.root.tests.length p.root.tc, .slice p.root.kp p.root.kids.length p.root.kc, .slice p.wp p.wh.length p.wc] 27 (0, 0)) :: Im 11 (.slice q.wp q.wh.length q.wc) q.wh.length (q.wh.flatMap condCell) :: NodeA q.root :: Im 11 (.slice p.wp p.wh.length p.wc) p.wh.length (p.wh.flatMap condCell) :: NodeA p.root :: F) := St.open_star (ls := [_, _]) H55
      refine r_cons (s_fieldAddr 27 3 7 7 22 rfl fi_27_3 rfl rfl ?_)
      refine r_cons (s_load (.slice pp28 p.wh.length cc29) ag_22 rfl (H56.blk_at (i := 5) rfl) rfl rfl ?_)
      refine r_cons (s_len p.wh.length rfl ⟨_, un_22⟩ rfl ?_)
      refine r_cons (s_move (.int .i64 0) rfl rfl ?_)
      refine r_nil ?_
      refine g_block ?_
      have H57 : St W w51 (TreeA 43 25 nn27 :: Row 43 11 (.slice pp28 p.wh.length cc29) p.wh.length (p.wh.flatMap condCell) :: blk bk48 (.cells #[.string p.name.v, .int .i64 p.win.v, .int .i64 nn42.kind.v, .string nn42.var.v, .string nn42.typ.v, .slice nn42.tp nn42.tests.length nn42.tc, .slice nn42.kp nn42.kids.length nn42.kc, .slice pp43 p.wh.length cc44] 27 (0, 0)) :: NodeA ((⟨p.name, p.win, nn42, pp43, cc44, p.wh⟩ : PatD).root) :: Im 11 (.slice ((⟨p.name, p.win, nn42, pp43, cc44, p.wh⟩ : PatD).wp) ((⟨p.name, p.win, nn42, pp43, cc44, p.wh⟩ : PatD).wh.length) ((⟨p.name, p.win, nn42, pp43, cc44, p.wh⟩ : PatD).wc)) ((⟨p.name, p.win, nn42, pp43, cc44, p.wh⟩ : PatD).wh.length) ((⟨p.name, p.win, nn42, pp43, cc44, p.wh⟩ : PatD).wh.flatMap condCell) :: blk bk33 (.cells #[.string p.name.v, .int .i64 p.win.v, .int .i64 nn27.kind.v, .string nn27.var.v, .string nn27.typ.v, .slice nn27.tp nn27.tests.length nn27.tc, .slice nn27.kp nn27.kids.length nn27.kc, .slice pp28 p.wh.length cc29] 27 (0, 0)) :: blk bk7 (.cells #[.string p.name.v, .int .i64 p.win.v, .int .i64 p.root.kind.v, .string p.root.var.v, .string p.root.typ.v, .slice p.root.tp p.root.tests.length p.root.tc, .slice p.root.kp p.root.kids.length p.root.kc, .slice p.wp p.wh.length p.wc] 27 (0, 0)) :: Im 11 (.slice q.wp q.wh.length q.wc) q.wh.length (q.wh.flatMap condCell) :: NodeA q.root :: Im 11 (.slice p.wp p.wh.length p.wc) p.wh.length (p.wh.flatMap condCell) :: NodeA p.root :: F) := ((((((((((((H56.move 11 rfl).move 11 rfl).move 11 rfl).move 11 rfl).move 11 rfl).move 10 rfl).move 10 rfl).move 10 rfl).move 10 rfl).move 10 rfl).move 10 rfl).drop 11 rfl)
      refine g_loop_inv (fun (x_ : (List CondV) × Nat) => match x_ with | (T, t) => [(2, .pointer (some ⟨bk7, 0, none⟩)), (4, .bool false), (5, .pointer (some ⟨bk33, 0, none⟩)), (6, .pointer (some ⟨bk48, 0, none⟩)), (48, .int .i64 (p.wh.length : Int)), (49, .int .i64 (t : Int))]) (fun (x_ : (List CondV) × Nat) w => match x_ with | (T, t) => (t ≤ p.wh.length) ∧ (T.length = p.wh.length) ∧ St W w (TreeA 43 25 nn27 :: Row 43 11 (.slice pp28 p.wh.length cc29) p.wh.length (T.flatMap condCell) :: blk bk48 (.cells #[.string p.name.v, .int .i64 p.win.v, .int .i64 nn42.kind.v, .string nn42.var.v, .string nn42.typ.v, .slice nn42.tp nn42.tests.length nn42.tc, .slice nn42.kp nn42.kids.length nn42.kc, .slice pp43 p.wh.length cc44] 27 (0, 0)) :: NodeA ((⟨p.name, p.win, nn42, pp43, cc44, p.wh⟩ : PatD).root) :: Im 11 (.slice ((⟨p.name, p.win, nn42, pp43, cc44, p.wh⟩ : PatD).wp) ((⟨p.name, p.win, nn42, pp43, cc44, p.wh⟩ : PatD).wh.length) ((⟨p.name, p.win, nn42, pp43, cc44, p.wh⟩ : PatD).wc)) ((⟨p.name, p.win, nn42, pp43, cc44, p.wh⟩ : PatD).wh.length) ((⟨p.name, p.win, nn42, pp43, cc44, p.wh⟩ : PatD).wh.flatMap condCell) :: blk bk33 (.cells #[.string p.name.v, .int .i64 p.win.v, .int .i64 nn27.kind.v, .string nn27.var.v, .string nn27.typ.v, .slice nn27.tp nn27.tests.length nn27.tc, .slice nn27.kp nn27.kids.length nn27.kc, .slice pp28 p.wh.length cc29] 27 (0, 0)) :: blk bk7 (.cells #[.string p.name.v, .int .i64 p.win.v, .int .i64 p.root.kind.v, .string p.root.var.v, .string p.root.typ.v, .slice p.root.tp p.root.tests.length p.root.tc, .slice p.root.kp p.root.kids.length p.root.kc, .slice p.wp p.wh.length p.wc] 27 (0, 0)) :: Im 11 (.slice q.wp q.wh.length q.wc) q.wh.length (q.wh.flatMap condCell) :: NodeA q.root :: Im 11 (.slice p.wp p.wh.length p.wc) p.wh.length (p.wh.flatMap condCell) :: NodeA p.root :: F)) (fun (x_ : (List CondV) × Nat) => match x_ with | (T, t) => p.wh.length - t) (p.wh, 0) ?_ ?_ ?_
      · exact ⟨by first | rfl | exact vint (by omega), by first | rfl | exact vint (by omega), by first | rfl | exact vint (by omega), by first | rfl | exact vint (by omega), by first | rfl | exact vint (by omega), by first | rfl | exact vint (by omega), trivial⟩
      · exact ⟨(by omega), rfl, H57⟩
      · rintro ⟨T, t⟩ ρ58 w59 ⟨htl, hT, H60⟩ nx61
        change Ends _ _ (upds ρ58 [(2, .pointer (some ⟨bk7, 0, none⟩)), (4, .bool false), (5, .pointer (some ⟨bk33, 0, none⟩)), (6, .pointer (some ⟨bk48, 0, none⟩)), (48, .int .i64 (p.wh.length : Int)), (49, .int .i64 (t : Int))]) w59
        refine g_seq ?_
        refine g_region ?_
        by_cases hc62 : (t : Int) < (p.wh.length : Int)
        · skip
          refine r_cons (s_lss true rfl rfl (dtrue hc62) rfl ?_)
          refine r_nil ?_
          refine g_seq ?_
          refine g_true rfl ?_
          refine g_skip ?_
          refine g_seq ?_
          refine g_block ?_
          refine g_seq ?_
          refine g_region ?_
          refine r_cons (s_move (.int .i64 (t : Int)) rfl rfl ?_)
          refine r_cons (s_assign (.int .i64 (t : Int)) rfl rfl ?_)
          refine r_nil ?_
          refine g_region ?_
          refine r_cons (s_fieldAddr 27 3 7 7 22 rfl fi_27_3 rfl rfl ?_)
          refine r_cons (s_load (.slice pp28 p.wh.length cc29) ag_22 rfl (H60.blk_at (i := 5) rfl) rfl rfl ?_)
          obtain ⟨bk63, cur64, hp65, h66, h67, h68, h69, h70, H71⟩ := Row.open2 H60 (i := 1) rfl (by omega)
          refine r_cons (s_move (.int .i64 (t : Int)) rfl rfl ?_)
          refine r_cons (s_indexAddr bk63 (off := 0) (t : Int) 11 (0 + t * 11) (by exact congrArg (fun z_ => Value.slice z_ p.wh.length cc29) ((fun (_ : 0 < 1) => hp65) (by omega))) rfl el_22 (by omega) rfl rfl ?_)
          refine r_cons (s_fieldAddr 43 1 5 (0 + t * 11 + 5) 3 rfl fi_43_1 rfl rfl ?_)
          have hx74 := row_set (f := condCell) (s := 11) (L := T) (cur := cur64) condCell_len (by rw [hT]; exact h69) (show T.length * 11 ≤ cur64.size by rw [hT, h68]; exact Nat.mul_le_mul_right 11 h66) (j := t) (by have hh := hT; omega) default 5 (by decide) (.int .i64 99) (rel99 (T.getD t default)) rfl
          refine r_cons (s_store H71 1 (.int .i64 99) rfl rfl rfl sz_3 rfl (by have hh := hT; have hk := (show T.length * 11 ≤ cur64.size by rw [hT, h68]; exact Nat.mul_le_mul_right 11 h66); omega) (by simp) (cs' := (cur64.setIfInBounds (0 + t * 11 + 5) (.int .i64 99))) rfl ?_); intro w72 H73
          refine r_nil ?_
          refine g_inBlock ?_
          refine g_region ?_
          refine r_cons (s_add ((t : Int) + 1) rfl rfl (wi64 (by omega)) rfl ?_)
          refine r_cons (s_move (.int .i64 ((t : Int) + 1)) rfl rfl ?_)
          refine r_nil ?_
          have H75 := Row.shut2 (p := pp28) (n := p.wh.length) (c := cc29) (size := 11) (xs := (T.set t (rel99 (T.getD t default))).flatMap condCell) H73 (i := 1) rfl hp65 h66 h67 (show (cur64.setIfInBounds (0 + t * 11 + 5) (.int .i64 99)).size = cc29 * 11 from by rw [Array.size_setIfInBounds]; exact h68) (by have hh : ((cur64.setIfInBounds (0 + t * 11 + 5) (.int .i64 99)).toList.drop 0).take ((T.set t (rel99 (T.getD t default))).length * 11) = (T.set t (rel99 (T.getD t default))).flatMap condCell := hx74; have hk : (T.set t (rel99 (T.getD t default))).length = p.wh.length := (show ((T.set t (rel99 (T.getD t default)))).length = p.wh.length from by first | (rw [List.length_set]; exact hT) | rw [List.length_set]); rw [hk] at hh; exact hh) (fun x_ hx_ => by obtain ⟨a_, _, ha_⟩ := List.mem_flatMap.1 hx_; exact one_cond a_ x_ ha_)
          have H76 : St W w72 (TreeA 43 25 nn27 :: Row 43 11 (.slice pp28 p.wh.length cc29) p.wh.length ((T.set t (rel99 (T.getD t default))).flatMap condCell) :: blk bk48 (.cells #[.string p.name.v, .int .i64 p.win.v, .int .i64 nn42.kind.v, .string nn42.var.v, .string nn42.typ.v, .slice nn42.tp nn42.tests.length nn42.tc, .slice nn42.kp nn42.kids.length nn42.kc, .slice pp43 p.wh.length cc44] 27 (0, 0)) :: NodeA ((⟨p.name, p.win, nn42, pp43, cc44, p.wh⟩ : PatD).root) :: Im 11 (.slice ((⟨p.name, p.win, nn42, pp43, cc44, p.wh⟩ : PatD).wp) ((⟨p.name, p.win, nn42, pp43, cc44, p.wh⟩ : PatD).wh.length) ((⟨p.name, p.win, nn42, pp43, cc44, p.wh⟩ : PatD).wc)) ((⟨p.name, p.win, nn42, pp43, cc44, p.wh⟩ : PatD).wh.length) ((⟨p.name, p.win, nn42, pp43, cc44, p.wh⟩ : PatD).wh.flatMap condCell) :: blk bk33 (.cells #[.string p.name.v, .int .i64 p.win.v, .int .i64 nn27.kind.v, .string nn27.var.v, .string nn27.typ.v, .slice nn27.tp nn27.tests.length nn27.tc, .slice nn27.kp nn27.kids.length nn27.kc, .slice pp28 p.wh.length cc29] 27 (0, 0)) :: blk bk7 (.cells #[.string p.name.v, .int .i64 p.win.v, .int .i64 p.root.kind.v, .string p.root.var.v, .string p.root.typ.v, .slice p.root.tp p.root.tests.length p.root.tc, .slice p.root.kp p.root.kids.length p.root.kc, .slice p.wp p.wh.length p.wc] 27 (0, 0)) :: Im 11 (.slice q.wp q.wh.length q.wc) q.wh.length (q.wh.flatMap condCell) :: NodeA q.root :: Im 11 (.slice p.wp p.wh.length p.wc) p.wh.length (p.wh.flatMap condCell) :: NodeA p.root :: F) := (((((((((((H75.move 10 rfl).move 10 rfl).move 10 rfl).move 10 rfl).move 10 rfl).move 10 rfl).move 10 rfl).move 10 rfl).move 10 rfl).move 10 rfl).move 10 rfl)
          exact nx61 ((T.set t (rel99 (T.getD t default))), t + 1) _ _ ⟨(by omega), (by rw [List.length_set]; exact hT), H76⟩ (by first | (dsimp only; omega) | omega) ⟨by first | rfl | exact vint (by omega), by first | rfl | exact vint (by omega), by first | rfl | exact vint (by omega), by first | rfl | exact vint (by omega), by first | rfl | exact vint (by omega), by first | rfl | exact vint (by omega), trivial⟩
        · skip
          refine r_cons (s_lss false rfl rfl (dfalse hc62) rfl ?_)
          refine r_nil ?_
          refine g_seq ?_
          refine g_false rfl ?_
          refine g_exit (by rfl) ?_
          refine g_seq ?_
          refine g_region ?_
          refine r_cons (s_fieldAddr 27 2 2 2 25 rfl fi_27_2 rfl rfl ?_)
          refine r_cons (s_call [.pointer (some ⟨bk33, 2, none⟩)] pl_36 rfl rfl (check_spoil nn27 bk33 2 #[.string p.name.v, .int .i64 p.win.v, .int .i64 nn27.kind.v, .string nn27.var.v, .string nn27.typ.v, .slice nn27.tp nn27.tests.length nn27.tc, .slice nn27.kp nn27.kids.length nn27.kc, .slice pp28 p.wh.length cc29] 27 (0, 0) (b := 4) rfl rfl H60) ?_)
          rintro _ w79 ⟨rfl, nn77, hq78, H80⟩
          refine r_nil ?_
          refine g_seq ?_
          refine g_region ?_
          refine r_cons (s_loadAgg [.string p.name.v, .int .i64 p.win.v, .int .i64 p.root.kind.v, .string p.root.var.v, .string p.root.typ.v, .slice p.root.tp p.root.tests.length p.root.tc, .slice p.root.kp p.root.kids.length p.root.kc, .slice p.wp p.wh.length p.wc] 8 ag_27 rfl (H80.blk_at (i := 6) rfl) (Nat.le_of_ble_eq_true rfl) rfl rfl ?_)
          refine r_cons (s_loadAgg [.string p.name.v, .int .i64 p.win.v, .int .i64 nn42.kind.v, .string nn42.var.v, .string nn42.typ.v, .slice nn42.tp nn42.tests.length nn42.tc, .slice nn42.kp nn42.kids.length nn42.kc, .slice pp43 p.wh.length cc44] 8 ag_27 rfl (H80.blk_at (i := 2) rfl) (Nat.le_of_ble_eq_true rfl) rfl rfl ?_)
          refine r_cons (s_call [.agg #[.string p.name.v, .int .i64 p.win.v, .int .i64 p.root.kind.v, .string p.root.var.v, .string p.root.typ.v, .slice p.root.tp p.root.tests.length p.root.tc, .slice p.root.kp p.root.kids.length p.root.kc, .slice p.wp p.wh.length p.wc], .agg #[.string p.name.v, .int .i64 p.win.v, .int .i64 nn42.kind.v, .string nn42.var.v, .string nn42.typ.v, .slice nn42.tp nn42.tests.length nn42.tc, .slice nn42.kp nn42.kids.length nn42.kc, .slice pp43 p.wh.length cc44]] pl_35 rfl rfl (ref07_Same p (⟨p.name, p.win, nn42, pp43, cc44, p.wh⟩ : PatD) (i := 10) rfl (k := 9) rfl (i2 := 3) rfl (k2 := 4) rfl H80) ?_)
          rintro _ w81 ⟨rfl, H82⟩
          refine r_cons (s_assign (.bool (samePB p (⟨p.name, p.win, nn42, pp43, cc44, p.wh⟩ : PatD))) rfl rfl ?_)
          refine r_nil ?_
          refine g_ret' [.bool (samePB p (⟨p.name, p.win, nn42, pp43, cc44, p.wh⟩ : PatD))] Try.func8 Try.results8 ⟨rfl, trivial⟩ ?_
          have H83 : St W w81 F := (((((((((((H82.drop 0 rfl).drop 0 rfl).drop 0 rfl).drop 0 rfl).drop 0 rfl).drop 0 rfl).drop 0 rfl).drop 0 rfl).drop 0 rfl).drop 0 rfl).drop 0 rfl)
          exact ⟨congrArg Value.bool (samePB_clone rfl rfl rfl hq45), H83⟩
end Sl
