/- Walks of the program's functions. Printed by a program of this claim's author. No condition. -/
import Derived.Test.YtkclljglobeplaaSlCH
import Derived.Test.YtkclljglobeplaaSlQ
import Derived.Test.YtkclljglobeplaaProg
import Derived.Test.YtkclljglobeplaaWalkCheckParts1
namespace Sl
open _root_.Go _root_.Go.RowKit _root_.Go.Proofs
set_option linter.all false
set_option maxHeartbeats 4000000 in
set_option maxRecDepth 100000 in
theorem check_Clone {W w : World} {F : List Atom} (p : PatD) {i : Nat} (hi : F[i]? = some (NodeA p.root)) {k : Nat} (hk : F[k]? = some (Im 11 (.slice p.wp p.wh.length p.wc) p.wh.length (p.wh.flatMap condCell))) (hb : p.wh.length * 136 ≤ 140737488355328) (H : St W w F) : Calls Try.prog 32 #[.agg #[.string p.name.v, .int .i64 p.win.v, .int .i64 p.root.kind.v, .string p.root.var.v, .string p.root.typ.v, .slice p.root.tp p.root.tests.length p.root.tc, .slice p.root.kp p.root.kids.length p.root.kc, .slice p.wp p.wh.length p.wc]] w (Ret fun v w' => ∃ (r : NodeD) (wp2 : Option Addr) (wc2 : Nat), v = .agg #[.string p.name.v, .int .i64 p.win.v, .int .i64 r.kind.v, .string r.var.v, .string r.typ.v, .slice r.tp r.tests.length r.tc, .slice r.kp r.kids.length r.kc, .slice wp2 p.wh.length wc2] ∧ eraseN r = eraseN p.root ∧ St W w' (TreeA 43 25 r :: Row 43 11 (.slice wp2 p.wh.length wc2) p.wh.length (p.wh.flatMap condCell) :: F)) := by
  have H1 := H.dup (i := i + 0) (by exact hi) (NodeA_pers _)
  have H2 := H1.dup (i := k + 1) (by exact hk) (Im_pers _ _ _ _)
  have H3 : St W w (Im 11 (.slice p.wp p.wh.length p.wc) p.wh.length (p.wh.flatMap condCell) :: NodeA p.root :: F) := H2
  refine calls_of_go (n := 12) Try.func32 rfl Try.ntmps32 rfl ?_
  refine g_seq ?_
  refine g_region ?_
  refine r_cons (s_box H3 27 (.agg #[.string p.name.v, .int .i64 p.win.v, .int .i64 p.root.kind.v, .string p.root.var.v, .string p.root.typ.v, .slice p.root.tp p.root.tests.length p.root.tc, .slice p.root.kp p.root.kids.length p.root.kc, .slice p.wp p.wh.length p.wc]) rfl (cs := #[.string p.name.v, .int .i64 p.win.v, .int .i64 p.root.kind.v, .string p.root.var.v, .string p.root.typ.v, .slice p.root.tp p.root.tests.length p.root.tc, .slice p.root.kp p.root.kids.length p.root.kc, .slice p.wp p.wh.length p.wc]) rfl rfl ?_); intro bk4 w5 H6
  refine r_cons (s_alloc H6 27 ze_27 rfl ?_); intro bk7 w8 H9
  refine r_nil ?_
  refine g_seq ?_
  refine g_region ?_
  refine r_cons (s_fieldAddr 27 3 7 7 22 rfl fi_27_3 rfl rfl ?_)
  refine r_cons (s_load (.slice p.wp p.wh.length p.wc) ag_22 rfl (H9.blk_at (i := 1) rfl) rfl rfl ?_)
  refine r_cons (s_call [.slice p.wp p.wh.length p.wc] pl_50 rfl rfl (Clone_cond p.wh (.slice p.wp p.wh.length p.wc) (m := 2) rfl (by omega) H9) ?_)
  rintro _ w12 ⟨pp10, cc11, rfl, H13⟩
  refine r_cons (s_fieldAddr 27 3 7 7 22 rfl fi_27_3 rfl rfl ?_)
  refine r_cons (s_store H13 2 (.slice pp10 p.wh.length cc11) rfl rfl rfl sz_22 rfl (Nat.le_of_ble_eq_true rfl) rfl (cs' := #[.string p.name.v, .int .i64 p.win.v, .int .i64 p.root.kind.v, .string p.root.var.v, .string p.root.typ.v, .slice p.root.tp p.root.tests.length p.root.tc, .slice p.root.kp p.root.kids.length p.root.kc, .slice pp10 p.wh.length cc11]) rfl ?_); intro w14 H15
  refine r_nil ?_
  refine g_seq ?_
  refine g_region ?_
  refine r_cons (s_fieldAddr 27 2 2 2 25 rfl fi_27_2 rfl rfl ?_)
  refine r_cons (s_loadAgg [.int .i64 p.root.kind.v, .string p.root.var.v, .string p.root.typ.v, .slice p.root.tp p.root.tests.length p.root.tc, .slice p.root.kp p.root.kids.length p.root.kc] 5 ag_25 rfl (H15.blk_at (i := 2) rfl) (Nat.le_of_ble_eq_true rfl) rfl rfl ?_)
  refine r_cons (s_call [.agg #[.int .i64 p.root.kind.v, .string p.root.var.v, .string p.root.typ.v, .slice p.root.tp p.root.tests.length p.root.tc, .slice p.root.kp p.root.kids.length p.root.kc]] pl_51 rfl rfl (check_cloneNode p.root (i := 4) rfl H15) ?_)
  rintro _ w19 ⟨nn16, rfl, hq17, H20⟩
  refine r_cons (s_fieldAddr 27 2 2 2 25 rfl fi_27_2 rfl rfl ?_)
  refine r_cons (s_storeAgg H20 3 #[.int .i64 nn16.kind.v, .string nn16.var.v, .string nn16.typ.v, .slice nn16.tp nn16.tests.length nn16.tc, .slice nn16.kp nn16.kids.length nn16.kc] 5 rfl rfl rfl sz_25 rfl (by simp [Value.oneCell']) (Nat.le_of_ble_eq_true rfl) (fun o h1 h2 => by first | (simp; done) | (simp; omega)) (cs' := #[.string p.name.v, .int .i64 p.win.v, .int .i64 nn16.kind.v, .string nn16.var.v, .string nn16.typ.v, .slice nn16.tp nn16.tests.length nn16.tc, .slice nn16.kp nn16.kids.length nn16.kc, .slice pp10 p.wh.length cc11]) rfl ?_); intro w21 H22
  refine r_nil ?_
  refine g_seq ?_
  refine g_region ?_
  refine r_cons (s_loadAgg [.string p.name.v, .int .i64 p.win.v, .int .i64 nn16.kind.v, .string nn16.var.v, .string nn16.typ.v, .slice nn16.tp nn16.tests.length nn16.tc, .slice nn16.kp nn16.kids.length nn16.kc, .slice pp10 p.wh.length cc11] 8 ag_27 rfl (H22.blk_at (i := 3) rfl) (Nat.le_of_ble_eq_true rfl) rfl rfl ?_)
  refine r_cons (s_storeAgg H22 2 #[.string p.name.v, .int .i64 p.win.v, .int .i64 nn16.kind.v, .string nn16.var.v, .string nn16.typ.v, .slice nn16.tp nn16.tests.length nn16.tc, .slice nn16.kp nn16.kids.length nn16.kc, .slice pp10 p.wh.length cc11] 8 rfl rfl rfl sz_27 rfl (by simp [Value.oneCell']) (Nat.le_of_ble_eq_true rfl) (fun o h1 h2 => by first | (simp; done) | (simp; omega)) (cs' := #[.string p.name.v, .int .i64 p.win.v, .int .i64 nn16.kind.v, .string nn16.var.v, .string nn16.typ.v, .slice nn16.tp nn16.tests.length nn16.tc, .slice nn16.kp nn16.kids.length nn16.kc, .slice pp10 p.wh.length cc11]) rfl ?_); intro w23 H24
  refine r_nil ?_
  refine g_ret' [.agg #[.string p.name.v, .int .i64 p.win.v, .int .i64 nn16.kind.v, .string nn16.var.v, .string nn16.typ.v, .slice nn16.tp nn16.tests.length nn16.tc, .slice nn16.kp nn16.kids.length nn16.kc, .slice pp10 p.wh.length cc11]] Try.func32 Try.results32 ⟨(res_cellN rfl ag_27 (H24.blk_at (i := 2) rfl) (Nat.le_of_ble_eq_true rfl) rfl), trivial⟩ ?_
  have H25 : St W w23 (TreeA 43 25 nn16 :: Row 43 11 (.slice pp10 p.wh.length cc11) p.wh.length (p.wh.flatMap condCell) :: F) := ((((((H24.move 1 rfl).move 1 rfl).drop 2 rfl).drop 2 rfl).drop 2 rfl).drop 2 rfl)
  exact ⟨nn16, pp10, cc11, rfl, hq17, H25⟩
set_option maxHeartbeats 4000000 in
set_option maxRecDepth 100000 in
theorem check_parts1 {W w : World} {F : List Atom} (n : NodeD) (hf : ∀ {W w : World} {F : List Atom} {i : Nat}, F[i]? = some (NodeA n) → sizeN n ≤ 1048576 → St W w F → Calls Try.prog 33 #[.agg #[.int .i64 n.kind.v, .string n.var.v, .string n.typ.v, .slice n.tp n.tests.length n.tc, .slice n.kp n.kids.length n.kc]] w (Ret fun v w' => v = .bool (partsN n) ∧ St W w' F))  {i : Nat} (hi : F[i]? = some (NodeA n)) (hz : sizeN n ≤ 1048576) (H : St W w F) : Calls Try.prog 52 #[.agg #[.int .i64 n.kind.v, .string n.var.v, .string n.typ.v, .slice n.tp n.tests.length n.tc, .slice n.kp n.kids.length n.kc]] w (Ret fun v w' => v = .bool (!partsN n) ∧ St W w' F) := by
  have H1 := H.dup (i := i + 0) (by exact hi) (NodeA_pers _)
  have H2 : St W w (NodeA n :: F) := H1
  refine calls_of_go (n := 6) Try.func52 rfl Try.ntmps52 rfl ?_
  refine g_seq ?_
  refine g_region ?_
  refine r_cons (s_box H2 25 (.agg #[.int .i64 n.kind.v, .string n.var.v, .string n.typ.v, .slice n.tp n.tests.length n.tc, .slice n.kp n.kids.length n.kc]) rfl (cs := #[.int .i64 n.kind.v, .string n.var.v, .string n.typ.v, .slice n.tp n.tests.length n.tc, .slice n.kp n.kids.length n.kc]) rfl rfl ?_); intro bk3 w4 H5
  refine r_cons (s_assign (.bool false) rfl rfl ?_)
  refine r_nil ?_
  refine g_seq ?_
  refine g_region ?_
  refine r_cons (s_loadAgg [.int .i64 n.kind.v, .string n.var.v, .string n.typ.v, .slice n.tp n.tests.length n.tc, .slice n.kp n.kids.length n.kc] 5 ag_25 rfl (H5.blk_at (i := 0) rfl) (Nat.le_of_ble_eq_true rfl) rfl rfl ?_)
  refine r_cons (s_call [.agg #[.int .i64 n.kind.v, .string n.var.v, .string n.typ.v, .slice n.tp n.tests.length n.tc, .slice n.kp n.kids.length n.kc]] pl_33 rfl rfl (hf (i := 1) rfl hz H5) ?_)
  rintro _ w6 ⟨rfl, H7⟩
  refine r_cons (s_not (partsN n) rfl (!(partsN n)) rfl rfl ?_)
  refine r_cons (s_assign (.bool (!(partsN n))) rfl rfl ?_)
  refine r_nil ?_
  refine g_ret' [.bool (!(partsN n))] Try.func52 Try.results52 ⟨rfl, trivial⟩ ?_
  have H8 : St W w6 F := ((H7.drop 0 rfl).drop 0 rfl)
  exact ⟨rfl, H8⟩
set_option maxHeartbeats 4000000 in
set_option maxRecDepth 100000 in
theorem IndexFunc_parts {W w : World} {F : List Atom} (L : List NodeD) (lv : Value)  {m : Nat} (hm : F[m]? = some (Im 5 lv L.length (L.flatMap nodeCell))) {ns : Nat} (hns : F[ns]? = some (NodesA L)) (hf : ∀ x ∈ L, ∀ {W w : World} {F : List Atom} {i : Nat}, F[i]? = some (NodeA x) → St W w F → Calls Try.prog 52 #[.agg #[.int .i64 x.kind.v, .string x.var.v, .string x.typ.v, .slice x.tp x.tests.length x.tc, .slice x.kp x.kids.length x.kc]] w (Ret fun v w' => v = .bool (!partsN x) ∧ St W w' F)) (H : St W w F) : Calls Try.prog 63 #[lv, .func (.func 52) #[] #[]] w (Ret fun v w' => v = .int .i64 (idxB (fun x : NodeD => !partsN x) L) ∧ St W w' F) := by
  obtain ⟨pp1, cc2, rfl, hn3⟩ := Rd.shape (Im.rd H (i := m) hm)
  have H4 := H.dup hm (Im_pers _ _ _ _)
  have H5 := H4.dup (i := ns + 1) (by exact hns) (NodesA_pers _)
  obtain ⟨pA6, cA7, gA8, oA9, kA10, eA11, zA12, he18, hn13, hp14, hx15, hs16, hml, H17⟩ := Im.open_ H5 (i := 1) rfl
  obtain ⟨rfl, rfl⟩ : pp1 = pA6 ∧ cc2 = cA7 := by injection he18 with a_ b_ c_; exact ⟨a_, c_⟩
  refine calls_of_go (n := 19) Try.func63 rfl Try.ntmps63 rfl ?_
  refine g_seq ?_
  refine g_region ?_
  refine r_cons (s_assign (.int .i64 0) rfl rfl ?_)
  refine r_nil ?_
  refine g_seq ?_
  refine g_seq ?_
  refine g_region ?_
  refine r_cons (s_move (.slice pp1 L.length cc2) rfl rfl ?_)
  refine r_cons (s_len L.length rfl ⟨_, un_23⟩ rfl ?_)
  refine r_cons (s_move (.int .i64 0) rfl rfl ?_)
  refine r_nil ?_
  refine g_block ?_
  have H19 : St W w (imi (0 < L.length) gA8 (.cells kA10 eA11 zA12) :: NodesA L :: Im 5 (.slice pp1 L.length cc2) L.length (L.flatMap nodeCell) :: F) := (((H17.move 2 rfl).move 2 rfl).move 2 rfl)
  refine g_loop_inv (fun (x_ : Nat) => match x_ with | j => [(0, .slice pp1 L.length cc2), (1, .func (.func 52) #[] #[]), (4, .int .i64 0), (7, .int .i64 (L.length : Int)), (8, .int .i64 (j : Int))]) (fun (x_ : Nat) w => match x_ with | j => (j ≤ L.length) ∧ (∀ q, q < j → (fun x : NodeD => !partsN x) (L.getD q default) = false) ∧ St W w (imi (0 < L.length) gA8 (.cells kA10 eA11 zA12) :: NodesA L :: Im 5 (.slice pp1 L.length cc2) L.length (L.flatMap nodeCell) :: F)) (fun (x_ : Nat) => match x_ with | j => L.length - j) (0) ?_ ?_ ?_
  · exact ⟨by first | rfl | exact vint (by omega), by first | rfl | exact vint (by omega), by first | rfl | exact vint (by omega), by first | rfl | exact vint (by omega), by first | rfl | exact vint (by omega), trivial⟩
  · exact ⟨(by omega), (fun q hq => by omega), H19⟩
  · rintro j ρ20 w21 ⟨hjn, hz, H22⟩ nx23
    change Ends _ _ (upds ρ20 [(0, .slice pp1 L.length cc2), (1, .func (.func 52) #[] #[]), (4, .int .i64 0), (7, .int .i64 (L.length : Int)), (8, .int .i64 (j : Int))]) w21
    refine g_seq ?_
    refine g_region ?_
    by_cases hc24 : (j : Int) < (L.length : Int)
    · skip
      refine r_cons (s_lss true rfl rfl (dtrue hc24) rfl ?_)
      refine r_nil ?_
      refine g_seq ?_
      refine g_true rfl ?_
      refine g_skip ?_
      refine g_seq ?_
      refine g_block ?_
      refine g_seq ?_
      refine g_region ?_
      refine r_cons (s_move (.int .i64 (j : Int)) rfl rfl ?_)
      refine r_cons (s_assign (.int .i64 (j : Int)) rfl rfl ?_)
      refine r_nil ?_
      refine g_seq ?_
      refine g_region ?_
      refine r_cons (s_move (.func (.func 52) #[] #[]) rfl rfl ?_)
      refine r_cons (s_move (.slice pp1 L.length cc2) rfl rfl ?_)
      refine r_cons (s_move (.int .i64 (j : Int)) rfl rfl ?_)
      refine r_cons (s_indexAddr gA8 (off := oA9) (j : Int) 5 (oA9 + j * 5) (by exact congrArg (fun z_ => Value.slice z_ L.length cc2) (hp14 (by omega))) rfl el_23 (by omega) rfl rfl ?_)
      refine r_cons (s_loadAgg [.int .i64 ((L.getD j default).kind.v), .string ((L.getD j default).var.v), .string ((L.getD j default).typ.v), .slice ((L.getD j default).tp) ((L.getD j default).tests.length) ((L.getD j default).tc), .slice ((L.getD j default).kp) ((L.getD j default).kids.length) ((L.getD j default).kc)] 5 ag_25 rfl (H22.imi_at (i := 0) rfl (by omega)) (by have := elem_size (i := j) (s := 5) (hs16 (by omega)) (by omega); omega) (elem_take nodeCell_len (hx15 (by omega)) (by omega) default) rfl ?_)
      have H25 := NodesA.at H22 (i := 1) rfl (j := j) (by omega)
      refine r_cons (s_callv [] [.agg #[.int .i64 ((L.getD j default).kind.v), .string ((L.getD j default).var.v), .string ((L.getD j default).typ.v), .slice ((L.getD j default).tp) ((L.getD j default).tests.length) ((L.getD j default).tc), .slice ((L.getD j default).kp) ((L.getD j default).kids.length) ((L.getD j default).kc)]] rfl pl_52 rfl rfl (hf (L.getD j default) (getD_mem' (by omega)) (i := 0) rfl H25) ?_)
      rintro _ w26 ⟨rfl, H27⟩
      refine r_nil ?_
      by_cases hb28 : (!partsN (L.getD j default)) = true
      · skip
        refine g_true (congrArg Value.bool hb28) ?_
        refine g_seq ?_
        refine g_region ?_
        refine r_cons (s_move (.int .i64 (j : Int)) rfl rfl ?_)
        refine r_cons (s_assign (.int .i64 (j : Int)) rfl rfl ?_)
        refine r_nil ?_
        refine g_ret' [.int .i64 (j : Int)] Try.func63 Try.results63 ⟨rfl, trivial⟩ ?_
        have H29 : St W w26 F := ((((H27.drop 0 rfl).drop 0 rfl).drop 0 rfl).drop 0 rfl)
        exact ⟨vint (idxB_at (p := fun x : NodeD => !partsN x) hz (by omega) (by exact hb28)).symm, H29⟩
      · have hb28 := eq_false_of_ne_true hb28
        refine g_false (congrArg Value.bool hb28) ?_
        refine g_skip ?_
        refine g_inBlock ?_
        refine g_region ?_
        refine r_cons (s_add ((j : Int) + 1) rfl rfl (wi64 (by omega)) rfl ?_)
        refine r_cons (s_move (.int .i64 ((j : Int) + 1)) rfl rfl ?_)
        refine r_nil ?_
        have H30 : St W w26 (imi (0 < L.length) gA8 (.cells kA10 eA11 zA12) :: NodesA L :: Im 5 (.slice pp1 L.length cc2) L.length (L.flatMap nodeCell) :: F) := ((((H27.move 3 rfl).move 3 rfl).move 3 rfl).drop 3 rfl)
        exact nx23 (j + 1) _ _ ⟨(by omega), (fun q hq => (Nat.lt_or_ge q j).elim (hz q) (fun h => by rw [show q = j from by omega]; exact hb28)), H30⟩ (by first | (dsimp only; omega) | omega) ⟨by first | rfl | exact vint (by omega), by first | rfl | exact vint (by omega), by first | rfl | exact vint (by omega), by first | rfl | exact vint (by omega), by first | rfl | exact vint (by omega), trivial⟩
    · skip
      refine r_cons (s_lss false rfl rfl (dfalse hc24) rfl ?_)
      refine r_nil ?_
      refine g_seq ?_
      refine g_false rfl ?_
      refine g_exit (by rfl) ?_
      refine g_seq ?_
      refine g_region ?_
      refine r_cons (s_assign (.int .i64 (-1)) rfl rfl ?_)
      refine r_nil ?_
      refine g_ret' [.int .i64 (-1)] Try.func63 Try.results63 ⟨rfl, trivial⟩ ?_
      have H31 : St W w21 F := (((H22.drop 0 rfl).drop 0 rfl).drop 0 rfl)
      exact ⟨vint (idxB_none (p := fun x : NodeD => !partsN x) (fun q hq => hz q (by omega))).symm, H31⟩
set_option maxHeartbeats 4000000 in
set_option maxRecDepth 100000 in
theorem ContainsFunc_parts {W w : World} {F : List Atom} (L : List NodeD) (lv : Value)  {m : Nat} (hm : F[m]? = some (Im 5 lv L.length (L.flatMap nodeCell))) {ns : Nat} (hns : F[ns]? = some (NodesA L)) (hf : ∀ x ∈ L, ∀ {W w : World} {F : List Atom} {i : Nat}, F[i]? = some (NodeA x) → St W w F → Calls Try.prog 52 #[.agg #[.int .i64 x.kind.v, .string x.var.v, .string x.typ.v, .slice x.tp x.tests.length x.tc, .slice x.kp x.kids.length x.kc]] w (Ret fun v w' => v = .bool (!partsN x) ∧ St W w' F)) (H : St W w F) : Calls Try.prog 49 #[lv, .func (.func 52) #[] #[]] w (Ret fun v w' => v = .bool (L.any (fun x : NodeD => !partsN x)) ∧ St W w' F) := by
  refine calls_of_go (n := 9) Try.func49 rfl Try.ntmps49 rfl ?_
  refine g_seq ?_
  refine g_region ?_
  refine r_cons (s_assign (.bool false) rfl rfl ?_)
  refine r_nil ?_
  refine g_seq ?_
  refine g_region ?_
  refine r_cons (s_move (lv) rfl rfl ?_)
  refine r_cons (s_move (.func (.func 52) #[] #[]) rfl rfl ?_)
  refine r_cons (s_call [lv, .func (.func 52) #[] #[]] pl_63 rfl rfl (IndexFunc_parts L lv  hm hns hf H) ?_)
  rintro _ w1 ⟨rfl, H2⟩
  refine r_cons (s_geq (decide ((0 : Int) ≤ idxB (fun x : NodeD => !partsN x) L)) rfl rfl rfl rfl ?_)
  refine r_cons (s_assign (.bool (decide ((0 : Int) ≤ idxB (fun x : NodeD => !partsN x) L))) rfl rfl ?_)
  refine r_nil ?_
  refine g_ret' [.bool (decide ((0 : Int) ≤ idxB (fun x : NodeD => !partsN x) L))] Try.func49 Try.results49 ⟨rfl, trivial⟩ ?_
  exact ⟨congrArg Value.bool (idxB_any (p := fun x : NodeD => !partsN x)), H2⟩
set_option maxHeartbeats 4000000 in
set_option maxRecDepth 100000 in
theorem check_parts_r (N : Nat) : ∀ (n : NodeD), sizeOf n < N → ∀ {W w : World} {F : List Atom}  {i : Nat} (hi : F[i]? = some (NodeA n)) (hz : sizeN n ≤ 1048576) (H : St W w F), Calls Try.prog 33 #[.agg #[.int .i64 n.kind.v, .string n.var.v, .string n.typ.v, .slice n.tp n.tests.length n.tc, .slice n.kp n.kids.length n.kc]] w (Ret fun v w' => v = .bool (partsN n) ∧ St W w' F) := by
  induction N with | zero => exact fun n hN => absurd hN (Nat.not_lt_zero _) | succ N ih => ?_
  intro n hN W w F i hi hz H
  have H1 := NodeA.kids H (i := i + 0) (by exact hi)
  have H2 : St W w (Im 5 (.slice n.kp n.kids.length n.kc) n.kids.length (n.kids.flatMap nodeCell) :: NodesA n.kids :: F) := H1
  have H3 := H2.dup (i := i + 2) (by exact hi) (NodeA_pers _)
  have H4 : St W w (NodeA n :: Im 5 (.slice n.kp n.kids.length n.kc) n.kids.length (n.kids.flatMap nodeCell) :: NodesA n.kids :: F) := H3
  refine calls_of_go (n := 17) Try.func33 rfl Try.ntmps33 rfl ?_
  refine g_seq ?_
  refine g_region ?_
  refine r_cons (s_box H4 25 (.agg #[.int .i64 n.kind.v, .string n.var.v, .string n.typ.v, .slice n.tp n.tests.length n.tc, .slice n.kp n.kids.length n.kc]) rfl (cs := #[.int .i64 n.kind.v, .string n.var.v, .string n.typ.v, .slice n.tp n.tests.length n.tc, .slice n.kp n.kids.length n.kc]) rfl rfl ?_); intro bk5 w6 H7
  refine r_cons (s_assign (.bool false) rfl rfl ?_)
  refine r_nil ?_
  refine g_seq ?_
  refine g_region ?_
  refine r_cons (s_loadAgg [.int .i64 n.kind.v, .string n.var.v, .string n.typ.v, .slice n.tp n.tests.length n.tc, .slice n.kp n.kids.length n.kc] 5 ag_25 rfl (H7.blk_at (i := 0) rfl) (Nat.le_of_ble_eq_true rfl) rfl rfl ?_)
  refine r_cons (s_call [.agg #[.int .i64 n.kind.v, .string n.var.v, .string n.typ.v, .slice n.tp n.tests.length n.tc, .slice n.kp n.kids.length n.kc]] pl_19 rfl rfl (check_Shape n (i := 1) rfl H7) ?_)
  rintro _ w8 ⟨rfl, H9⟩
  by_cases hc10 : shapeE n = 0
  · skip
    refine r_cons (s_eql true rfl rfl (dtrue hc10) rfl ?_)
    refine r_cons (s_move (.bool true) rfl rfl ?_)
    refine r_cons (r_take rfl rfl ?_)
    refine s_loadAgg [.int .i64 n.kind.v, .string n.var.v, .string n.typ.v, .slice n.tp n.tests.length n.tc, .slice n.kp n.kids.length n.kc] 5 ag_25 rfl (H9.blk_at (i := 0) rfl) (Nat.le_of_ble_eq_true rfl) rfl rfl ?_
    refine r_cons (r_take rfl rfl ?_)
    refine s_call [.agg #[.int .i64 n.kind.v, .string n.var.v, .string n.typ.v, .slice n.tp n.tests.length n.tc, .slice n.kp n.kids.length n.kc]] pl_21 rfl rfl (check_Binds n (i := 1) rfl (by omega) H9) ?_
    rintro _ w11 ⟨rfl, H12⟩
    refine r_cons (r_take rfl rfl ?_)
    by_cases hc13 : bindsE n = 0
    · skip
      refine s_eql true rfl rfl (dtrue hc13) rfl ?_
      refine r_cons (s_pick_t (.bool true) rfl rfl rfl ?_)
      refine r_cons (s_move (.bool true) rfl rfl ?_)
      refine r_cons (r_take rfl rfl ?_)
      refine s_fieldAddr 25 4 4 4 23 rfl fi_25_4 rfl rfl ?_
      refine r_cons (r_take rfl rfl ?_)
      refine s_load (.slice n.kp n.kids.length n.kc) ag_23 rfl (H12.blk_at (i := 0) rfl) rfl rfl ?_
      refine r_cons (r_take rfl rfl ?_)
      refine s_call [.slice n.kp n.kids.length n.kc, .func (.func 52) #[] #[]] pl_49 rfl rfl (ContainsFunc_parts n.kids (.slice n.kp n.kids.length n.kc) (m := 2) rfl (ns := 3) rfl (fun x hx _ _ _ _ h1 h2 => check_parts1 x (fun h3 h4 h5 => ih x (by have h9 := kid_mem_lt hx; omega) h3 h4 h5) h1 (by have h9 := sizeN_mem hx; omega) h2) H12) ?_
      rintro _ w14 ⟨rfl, H15⟩
      refine r_cons (r_take rfl rfl ?_)
      refine s_not (n.kids.any fun x => !partsN x) rfl (!(n.kids.any fun x => !partsN x)) rfl rfl ?_
      refine r_cons (s_pick_t (.bool (!(n.kids.any fun x => !partsN x))) rfl rfl rfl ?_)
      refine r_cons (s_assign (.bool (!(n.kids.any fun x => !partsN x))) rfl rfl ?_)
      refine r_nil ?_
      refine g_ret' [.bool (!(n.kids.any fun x => !partsN x))] Try.func33 Try.results33 ⟨rfl, trivial⟩ ?_
      have H16 : St W w14 F := ((((H15.drop 0 rfl).drop 0 rfl).drop 0 rfl).drop 0 rfl)
      exact ⟨congrArg Value.bool (by rw [partsN_eq, decide_eq_true hc10, decide_eq_true hc13]; rfl), H16⟩
    · skip
      refine s_eql false rfl rfl (dfalse hc13) rfl ?_
      refine r_cons (s_pick_t (.bool false) rfl rfl rfl ?_)
      refine r_cons (s_move (.bool false) rfl rfl ?_)
      refine r_cons (r_pass rfl rfl rfl rfl rfl ?_)
      refine r_cons (r_pass rfl rfl rfl rfl rfl ?_)
      refine r_cons (r_pass rfl rfl rfl rfl rfl ?_)
      refine r_cons (r_pass rfl rfl rfl rfl rfl ?_)
      refine r_cons (s_pick_f (.bool false) rfl rfl rfl ?_)
      refine r_cons (s_assign (.bool false) rfl rfl ?_)
      refine r_nil ?_
      refine g_ret' [.bool false] Try.func33 Try.results33 ⟨rfl, trivial⟩ ?_
      have H17 : St W w11 F := ((((H12.drop 0 rfl).drop 0 rfl).drop 0 rfl).drop 0 rfl)
      exact ⟨congrArg Value.bool (by rw [partsN_eq, decide_eq_true hc10, decide_eq_false hc13]; rfl), H17⟩
  · skip
    refine r_cons (s_eql false rfl rfl (dfalse hc10) rfl ?_)
    refine r_cons (s_move (.bool false) rfl rfl ?_)
    refine r_cons (r_pass rfl rfl rfl rfl rfl ?_)
    refine r_cons (r_pass rfl rfl rfl rfl rfl ?_)
    refine r_cons (r_pass rfl rfl rfl rfl rfl ?_)
    refine r_cons (s_pick_f (.bool false) rfl rfl rfl ?_)
    refine r_cons (s_move (.bool false) rfl rfl ?_)
    refine r_cons (r_pass rfl rfl rfl rfl rfl ?_)
    refine r_cons (r_pass rfl rfl rfl rfl rfl ?_)
    refine r_cons (r_pass rfl rfl rfl rfl rfl ?_)
    refine r_cons (r_pass rfl rfl rfl rfl rfl ?_)
    refine r_cons (s_pick_f (.bool false) rfl rfl rfl ?_)
    refine r_cons (s_assign (.bool false) rfl rfl ?_)
    refine r_nil ?_
    refine g_ret' [.bool false] Try.func33 Try.results33 ⟨rfl, trivial⟩ ?_
    have H18 : St W w8 F := ((((H9.drop 0 rfl).drop 0 rfl).drop 0 rfl).drop 0 rfl)
    exact ⟨congrArg Value.bool (by rw [partsN_eq, decide_eq_false hc10]; rfl), H18⟩
theorem check_parts {W w : World} {F : List Atom} (n : NodeD)  {i : Nat} (hi : F[i]? = some (NodeA n)) (hz : sizeN n ≤ 1048576) (H : St W w F) : Calls Try.prog 33 #[.agg #[.int .i64 n.kind.v, .string n.var.v, .string n.typ.v, .slice n.tp n.tests.length n.tc, .slice n.kp n.kids.length n.kc]] w (Ret fun v w' => v = .bool (partsN n) ∧ St W w' F) := check_parts_r (sizeOf n + 1) n (Nat.lt_succ_self _) hi hz H
set_option maxHeartbeats 4000000 in
set_option maxRecDepth 100000 in
theorem law_CheckParts {W w : World} {F : List Atom} (p : PatD) (out : Nat) (ho : out < 65536) {i : Nat} (hi : F[i]? = some (NodeA p.root)) {k : Nat} (hk : F[k]? = some (Im 11 (.slice p.wp p.wh.length p.wc) p.wh.length (p.wh.flatMap condCell))) (hz : sizeN p.root ≤ 1048576) (hb : p.wh.length * 136 ≤ 140737488355328) (H : St W w F) : Calls Try.prog 7 #[.agg #[.string p.name.v, .int .i64 p.win.v, .int .i64 p.root.kind.v, .string p.root.var.v, .string p.root.typ.v, .slice p.root.tp p.root.tests.length p.root.tc, .slice p.root.kp p.root.kids.length p.root.kc, .slice p.wp p.wh.length p.wc], .int .u16 (out : Int)] w (Ret fun v w' => v = .bool true ∧ St W w' F) := by
  have H1 := H.dup (i := i + 0) (by exact hi) (NodeA_pers _)
  have H2 := H1.dup (i := k + 1) (by exact hk) (Im_pers _ _ _ _)
  have H3 : St W w (Im 11 (.slice p.wp p.wh.length p.wc) p.wh.length (p.wh.flatMap condCell) :: NodeA p.root :: F) := H2
  refine calls_of_go (n := 54) Try.func7 rfl Try.ntmps7 rfl ?_
  refine g_seq ?_
  refine g_region ?_
  refine r_cons (s_box H3 27 (.agg #[.string p.name.v, .int .i64 p.win.v, .int .i64 p.root.kind.v, .string p.root.var.v, .string p.root.typ.v, .slice p.root.tp p.root.tests.length p.root.tc, .slice p.root.kp p.root.kids.length p.root.kc, .slice p.wp p.wh.length p.wc]) rfl (cs := #[.string p.name.v, .int .i64 p.win.v, .int .i64 p.root.kind.v, .string p.root.var.v, .string p.root.typ.v, .slice p.root.tp p.root.tests.length p.root.tc, .slice p.root.kp p.root.kids.length p.root.kc, .slice p.wp p.wh.length p.wc]) rfl rfl ?_); intro bk4 w5 H6
  refine r_cons (s_assign (.bool false) rfl rfl ?_)
  refine r_nil ?_
  refine g_seq ?_
  refine g_seq ?_
  refine g_region ?_
  refine r_cons (s_fieldAddr 27 2 2 2 25 rfl fi_27_2 rfl rfl ?_)
  refine r_cons (s_loadAgg [.int .i64 p.root.kind.v, .string p.root.var.v, .string p.root.typ.v, .slice p.root.tp p.root.tests.length p.root.tc, .slice p.root.kp p.root.kids.length p.root.kc] 5 ag_25 rfl (H6.blk_at (i := 0) rfl) (Nat.le_of_ble_eq_true rfl) rfl rfl ?_)
  refine r_cons (s_call [.agg #[.int .i64 p.root.kind.v, .string p.root.var.v, .string p.root.typ.v, .slice p.root.tp p.root.tests.length p.root.tc, .slice p.root.kp p.root.kids.length p.root.kc]] pl_10 rfl rfl (check_fits p.root (i := 2) rfl H6) ?_)
  rintro _ w7 ⟨rfl, H8⟩
  refine r_cons (s_not (fitB p.root) rfl (!(fitB p.root)) rfl rfl ?_)
  refine r_cons (s_move (.bool (!(fitB p.root))) rfl rfl ?_)
  by_cases hb9 : (!(fitB p.root)) = true
  · skip
    refine r_cons (r_pass rfl (congrArg some hb9) rfl rfl rfl ?_)
    refine r_cons (r_pass rfl (congrArg some hb9) rfl rfl rfl ?_)
    refine r_cons (r_pass rfl (congrArg some hb9) rfl rfl rfl ?_)
    refine r_cons (s_pick_t (.bool true) (by exact congrArg Value.bool hb9) rfl rfl ?_)
    refine r_cons (s_move (.bool true) rfl rfl ?_)
    refine r_cons (r_pass rfl rfl rfl rfl rfl ?_)
    refine r_cons (r_pass rfl rfl rfl rfl rfl ?_)
    refine r_cons (s_pick_t (.bool true) rfl rfl rfl ?_)
    refine r_nil ?_
    refine g_true rfl ?_
    refine g_seq ?_
    refine g_region ?_
    refine r_cons (s_call [] pl_9 rfl rfl (check_live H8) ?_)
    rintro _ w10 ⟨rfl, H11⟩
    refine r_cons (s_assign (.bool true) rfl rfl ?_)
    refine r_nil ?_
    refine g_ret' [.bool true] Try.func7 Try.results7 ⟨rfl, trivial⟩ ?_
    have H12 : St W w10 F := (((H11.drop 0 rfl).drop 0 rfl).drop 0 rfl)
    exact ⟨rfl, H12⟩
  · have hb9 := eq_false_of_ne_true hb9
    refine r_cons (r_take rfl (congrArg some hb9) ?_)
    refine s_loadAgg [.string p.name.v, .int .i64 p.win.v, .int .i64 p.root.kind.v, .string p.root.var.v, .string p.root.typ.v, .slice p.root.tp p.root.tests.length p.root.tc, .slice p.root.kp p.root.kids.length p.root.kc, .slice p.wp p.wh.length p.wc] 8 ag_27 rfl (H8.blk_at (i := 0) rfl) (Nat.le_of_ble_eq_true rfl) rfl rfl ?_
    refine r_cons (r_take rfl (congrArg some hb9) ?_)
    refine s_call [.agg #[.string p.name.v, .int .i64 p.win.v, .int .i64 p.root.kind.v, .string p.root.var.v, .string p.root.typ.v, .slice p.root.tp p.root.tests.length p.root.tc, .slice p.root.kp p.root.kids.length p.root.kc, .slice p.wp p.wh.length p.wc]] pl_11 rfl rfl (check_Pattern p (i := 2) rfl (k := 1) rfl (by omega) H8) ?_
    rintro _ w13 ⟨rfl, H14⟩
    refine r_cons (r_take rfl (congrArg some hb9) ?_)
    by_cases hc15 : patE p = 0
    · skip
      refine s_neq false rfl rfl (ntrue hc15) rfl ?_
      refine r_cons (s_pick_f (.bool false) (by exact congrArg Value.bool hb9) rfl rfl ?_)
      refine r_cons (s_move (.bool false) rfl rfl ?_)
      refine r_cons (r_take rfl rfl ?_)
      refine s_call [] pl_9 rfl rfl (check_live H14) ?_
      rintro _ w16 ⟨rfl, H17⟩
      refine r_cons (r_take rfl rfl ?_)
      refine s_not true rfl false rfl rfl ?_
      refine r_cons (s_pick_f (.bool false) rfl rfl rfl ?_)
      refine r_nil ?_
      refine g_false rfl ?_
      refine g_skip ?_
      refine g_seq ?_
      refine g_region ?_
      refine r_cons (s_loadAgg [.string p.name.v, .int .i64 p.win.v, .int .i64 p.root.kind.v, .string p.root.var.v, .string p.root.typ.v, .slice p.root.tp p.root.tests.length p.root.tc, .slice p.root.kp p.root.kids.length p.root.kc, .slice p.wp p.wh.length p.wc] 8 ag_27 rfl (H17.blk_at (i := 0) rfl) (Nat.le_of_ble_eq_true rfl) rfl rfl ?_)
      have hpat : patE p = 0 := hc15
      refine r_cons (s_call [.agg #[.string p.name.v, .int .i64 p.win.v, .int .i64 p.root.kind.v, .string p.root.var.v, .string p.root.typ.v, .slice p.root.tp p.root.tests.length p.root.tc, .slice p.root.kp p.root.kids.length p.root.kc, .slice p.wp p.wh.length p.wc]] pl_32 rfl rfl (check_Clone p (i := 2) rfl (k := 1) rfl (by omega) H17) ?_)
      rintro _ w22 ⟨nn18, pp19, cc20, rfl, hq21, H23⟩
      refine r_cons (s_alloc H23 27 ze_27 rfl ?_); intro bk24 w25 H26
      refine r_cons (s_storeAgg H26 0 #[.string p.name.v, .int .i64 p.win.v, .int .i64 nn18.kind.v, .string nn18.var.v, .string nn18.typ.v, .slice nn18.tp nn18.tests.length nn18.tc, .slice nn18.kp nn18.kids.length nn18.kc, .slice pp19 p.wh.length cc20] 8 rfl rfl rfl sz_27 rfl (by simp [Value.oneCell']) (Nat.le_of_ble_eq_true rfl) (fun o h1 h2 => by first | (simp; done) | (simp; omega)) (cs' := #[.string p.name.v, .int .i64 p.win.v, .int .i64 nn18.kind.v, .string nn18.var.v, .string nn18.typ.v, .slice nn18.tp nn18.tests.length nn18.tc, .slice nn18.kp nn18.kids.length nn18.kc, .slice pp19 p.wh.length cc20]) rfl ?_); intro w27 H28
      refine r_nil ?_
      refine g_seq ?_
      refine g_region ?_
      refine r_cons (s_fieldAddr 27 3 7 7 22 rfl fi_27_3 rfl rfl ?_)
      refine r_cons (s_store H28 0 (.slice none 0 0) rfl rfl rfl sz_22 rfl (Nat.le_of_ble_eq_true rfl) rfl (cs' := #[.string p.name.v, .int .i64 p.win.v, .int .i64 nn18.kind.v, .string nn18.var.v, .string nn18.typ.v, .slice nn18.tp nn18.tests.length nn18.tc, .slice nn18.kp nn18.kids.length nn18.kc, .slice none 0 0]) rfl ?_); intro w29 H30
      refine r_nil ?_
      refine g_seq ?_
      refine g_seq ?_
      refine g_region ?_
      refine r_cons (s_fieldAddr 27 3 7 7 22 rfl fi_27_3 rfl rfl ?_)
      refine r_cons (s_load (.slice p.wp p.wh.length p.wc) ag_22 rfl (H30.blk_at (i := 3) rfl) rfl rfl ?_)
      refine r_cons (s_len p.wh.length rfl ⟨_, un_22⟩ rfl ?_)
      refine r_cons (s_move (.int .i64 0) rfl rfl ?_)
      refine r_nil ?_
      refine g_block ?_
      have H31 := Row.nil_intro H30 43 11
      obtain ⟨pA32, cA33, gA34, oA35, kA36, eA37, zA38, he44, hn39, hp40, hx41, hs42, hml, H43⟩ := Im.open_ H31 (i := 5) rfl
      obtain ⟨rfl, rfl⟩ : p.wp = pA32 ∧ p.wc = cA33 := by injection he44 with a_ b_ c_; exact ⟨a_, c_⟩
      have H45 : St W w29 (imi (0 < p.wh.length) gA34 (.cells kA36 eA37 zA38) :: Row 43 11 (.slice none 0 0) 0 [] :: blk bk24 (.cells #[.string p.name.v, .int .i64 p.win.v, .int .i64 nn18.kind.v, .string nn18.var.v, .string nn18.typ.v, .slice nn18.tp nn18.tests.length nn18.tc, .slice nn18.kp nn18.kids.length nn18.kc, .slice none 0 0] 27 (0, 0)) :: NodeA nn18 :: Row 43 11 (.slice pp19 p.wh.length cc20) p.wh.length (p.wh.flatMap condCell) :: blk bk4 (.cells #[.string p.name.v, .int .i64 p.win.v, .int .i64 p.root.kind.v, .string p.root.var.v, .string p.root.typ.v, .slice p.root.tp p.root.tests.length p.root.tc, .slice p.root.kp p.root.kids.length p.root.kc, .slice p.wp p.wh.length p.wc] 27 (0, 0)) :: Im 11 (.slice p.wp p.wh.length p.wc) p.wh.length (p.wh.flatMap condCell) :: NodeA p.root :: F) := TreeA.freeze H43 (i := 3) rfl
      have H46 : St W w29 (imi (0 < p.wh.length) gA34 (.cells kA36 eA37 zA38) :: Row 43 11 (.slice none 0 0) 0 [] :: blk bk24 (.cells #[.string p.name.v, .int .i64 p.win.v, .int .i64 nn18.kind.v, .string nn18.var.v, .string nn18.typ.v, .slice nn18.tp nn18.tests.length nn18.tc, .slice nn18.kp nn18.kids.length nn18.kc, .slice none 0 0] 27 (0, 0)) :: NodeA nn18 :: Row 43 11 (.slice pp19 p.wh.length cc20) p.wh.length (p.wh.flatMap condCell) :: blk bk4 (.cells #[.string p.name.v, .int .i64 p.win.v, .int .i64 p.root.kind.v, .string p.root.var.v, .string p.root.typ.v, .slice p.root.tp p.root.tests.length p.root.tc, .slice p.root.kp p.root.kids.length p.root.kc, .slice p.wp p.wh.length p.wc] 27 (0, 0)) :: Im 11 (.slice p.wp p.wh.length p.wc) p.wh.length (p.wh.flatMap condCell) :: NodeA p.root :: F) := ((((((((H45.move 7 rfl).move 7 rfl).move 7 rfl).move 7 rfl).move 7 rfl).move 7 rfl).move 7 rfl).move 7 rfl)
      refine g_loop_inv (fun (x_ : (Option Addr) × Nat × (List CondV) × Nat) => match x_ with | (sp, sc, S, j) => [(1, .int .u16 (out : Int)), (2, .pointer (some ⟨bk4, 0, none⟩)), (4, .bool false), (5, .pointer (some ⟨bk24, 0, none⟩)), (26, .slice p.wp p.wh.length p.wc), (27, .int .i64 (p.wh.length : Int)), (28, .int .i64 (j : Int))]) (fun (x_ : (Option Addr) × Nat × (List CondV) × Nat) w => match x_ with | (sp, sc, S, j) => (j ≤ p.wh.length) ∧ (S.length ≤ j) ∧ (∀ x ∈ S, x ∈ p.wh) ∧ St W w (imi (0 < p.wh.length) gA34 (.cells kA36 eA37 zA38) :: Row 43 11 (.slice sp S.length sc) S.length (S.flatMap condCell) :: blk bk24 (.cells #[.string p.name.v, .int .i64 p.win.v, .int .i64 nn18.kind.v, .string nn18.var.v, .string nn18.typ.v, .slice nn18.tp nn18.tests.length nn18.tc, .slice nn18.kp nn18.kids.length nn18.kc, .slice sp S.length sc] 27 (0, 0)) :: NodeA nn18 :: Row 43 11 (.slice pp19 p.wh.length cc20) p.wh.length (p.wh.flatMap condCell) :: blk bk4 (.cells #[.string p.name.v, .int .i64 p.win.v, .int .i64 p.root.kind.v, .string p.root.var.v, .string p.root.typ.v, .slice p.root.tp p.root.tests.length p.root.tc, .slice p.root.kp p.root.kids.length p.root.kc, .slice p.wp p.wh.length p.wc] 27 (0, 0)) :: Im 11 (.slice p.wp p.wh.length p.wc) p.wh.length (p.wh.flatMap condCell) :: NodeA p.root :: F)) (fun (x_ : (Option Addr) × Nat × (List CondV) × Nat) => match x_ with | (sp, sc, S, j) => p.wh.length - j) (none, 0, [], 0) ?_ ?_ ?_
      · exact ⟨by first | rfl | exact vint (by omega), by first | rfl | exact vint (by omega), by first | rfl | exact vint (by omega), by first | rfl | exact vint (by omega), by first | rfl | exact vint (by omega), by first | rfl | exact vint (by omega), by first | rfl | exact vint (by omega), trivial⟩
      · exact ⟨(by omega), (Nat.le_refl 0), (fun x hx => by cases hx), H46⟩
      · rintro ⟨sp, sc, S, j⟩ ρ47 w48 ⟨hjl, hS, hS2, H49⟩ nx50
        change Ends _ _ (upds ρ47 [(1, .int .u16 (out : Int)), (2, .pointer (some ⟨bk4, 0, none⟩)), (4, .bool false), (5, .pointer (some ⟨bk24, 0, none⟩)), (26, .slice p.wp p.wh.length p.wc), (27, .int .i64 (p.wh.length : Int)), (28, .int .i64 (j : Int))]) w48
        refine g_seq ?_
        refine g_region ?_
        by_cases hc51 : (j : Int) < (p.wh.length : Int)
        · skip
          refine r_cons (s_lss true rfl rfl (dtrue hc51) rfl ?_)
          refine r_nil ?_
          refine g_seq ?_
          refine g_true rfl ?_
          refine g_skip ?_
          refine g_seq ?_
          refine g_block ?_
          refine g_seq ?_
          refine g_region ?_
          refine r_cons (s_move (.int .i64 (j : Int)) rfl rfl ?_)
          refine r_cons (s_indexAddr gA34 (off := oA35) (j : Int) 11 (oA35 + j * 11) (by exact congrArg (fun z_ => Value.slice z_ p.wh.length p.wc) (hp40 (by omega))) rfl el_22 (by omega) rfl rfl ?_)
          refine r_cons (s_loadAgg [.string ((p.wh.getD j default).left.var.v), .string ((p.wh.getD j default).left.attr.v), .int .i64 ((p.wh.getD j default).left.val.kind.v), .int .i64 ((p.wh.getD j default).left.val.n.v), .string ((p.wh.getD j default).left.val.s.v), .int .i64 ((p.wh.getD j default).rel.v), .string ((p.wh.getD j default).right.var.v), .string ((p.wh.getD j default).right.attr.v), .int .i64 ((p.wh.getD j default).right.val.kind.v), .int .i64 ((p.wh.getD j default).right.val.n.v), .string ((p.wh.getD j default).right.val.s.v)] 11 ag_43 rfl (H49.imi_at (i := 0) rfl (by omega)) (by have := elem_size (i := j) (s := 11) (hs42 (by omega)) (by omega); omega) (elem_take condCell_len (hx41 (by omega)) (by omega) default) rfl ?_)
          refine r_cons (s_alloc H49 43 ze_43 rfl ?_); intro bk52 w53 H54
          refine r_cons (s_assign (.int .i64 (j : Int)) rfl rfl ?_)
          refine r_cons (s_storeAgg H54 0 #[.string ((p.wh.getD j default).left.var.v), .string ((p.wh.getD j default).left.attr.v), .int .i64 ((p.wh.getD j default).left.val.kind.v), .int .i64 ((p.wh.getD j default).left.val.n.v), .string ((p.wh.getD j default).left.val.s.v), .int .i64 ((p.wh.getD j default).rel.v), .string ((p.wh.getD j default).right.var.v), .string ((p.wh.getD j default).right.attr.v), .int .i64 ((p.wh.getD j default).right.val.kind.v), .int .i64 ((p.wh.getD j default).right.val.n.v), .string ((p.wh.getD j default).right.val.s.v)] 11 rfl rfl rfl sz_43 rfl (by simp [Value.oneCell']) (Nat.le_of_ble_eq_true rfl) (fun o h1 h2 => by first | (simp; done) | (simp; omega)) (cs' := #[.string ((p.wh.getD j default).left.var.v), .string ((p.wh.getD j default).left.attr.v), .int .i64 ((p.wh.getD j default).left.val.kind.v), .int .i64 ((p.wh.getD j default).left.val.n.v), .string ((p.wh.getD j default).left.val.s.v), .int .i64 ((p.wh.getD j default).rel.v), .string ((p.wh.getD j default).right.var.v), .string ((p.wh.getD j default).right.attr.v), .int .i64 ((p.wh.getD j default).right.val.kind.v), .int .i64 ((p.wh.getD j default).right.val.n.v), .string ((p.wh.getD j default).right.val.s.v)]) (by kernel_rfl) ?_); intro w55 H56
          refine r_nil ?_
          refine g_seq ?_
          refine g_region ?_
          refine r_cons (s_move (.int .u16 (out : Int)) rfl rfl ?_)
          refine r_cons (s_move (.int .i64 (j : Int)) rfl rfl ?_)
          refine r_cons (s_and ((j % 16 : Nat) : Int) rfl rfl (and15 j (by omega)) rfl ?_)
          refine r_cons (s_shr ((out / 2 ^ (j % 16) : Nat) : Int) rfl rfl (by omega) (shr_out out _ (by omega)) rfl ?_)
          refine r_cons (s_and ((out / 2 ^ (j % 16) % 2 : Nat) : Int) rfl rfl (and_out _ (out_lt _ _ ho)) rfl ?_)
          by_cases hc57 : ((out / 2 ^ (j % 16) % 2 : Nat) : Int) = 0
          · skip
            refine r_cons (s_eql true rfl rfl (dtrue hc57) rfl ?_)
            refine r_nil ?_
            refine g_true rfl ?_
            refine g_region ?_
            refine r_cons (s_fieldAddr 27 3 7 7 22 rfl fi_27_3 rfl rfl ?_)
            refine r_cons (s_load (.slice sp S.length sc) ag_22 rfl (H56.blk_at (i := 3) rfl) rfl rfl ?_)
            refine r_cons (s_loadAgg [.string ((p.wh.getD j default).left.var.v), .string ((p.wh.getD j default).left.attr.v), .int .i64 ((p.wh.getD j default).left.val.kind.v), .int .i64 ((p.wh.getD j default).left.val.n.v), .string ((p.wh.getD j default).left.val.s.v), .int .i64 ((p.wh.getD j default).rel.v), .string ((p.wh.getD j default).right.var.v), .string ((p.wh.getD j default).right.attr.v), .int .i64 ((p.wh.getD j default).right.val.kind.v), .int .i64 ((p.wh.getD j default).right.val.n.v), .string ((p.wh.getD j default).right.val.s.v)] 11 ag_43 rfl (H56.blk_at (i := 0) rfl) (Nat.le_of_ble_eq_true rfl) rfl rfl ?_)
            refine r_cons (s_buildSlice H56 11 1 (cs := #[.string ((p.wh.getD j default).left.var.v), .string ((p.wh.getD j default).left.attr.v), .int .i64 ((p.wh.getD j default).left.val.kind.v), .int .i64 ((p.wh.getD j default).left.val.n.v), .string ((p.wh.getD j default).left.val.s.v), .int .i64 ((p.wh.getD j default).rel.v), .string ((p.wh.getD j default).right.var.v), .string ((p.wh.getD j default).right.attr.v), .int .i64 ((p.wh.getD j default).right.val.kind.v), .int .i64 ((p.wh.getD j default).right.val.n.v), .string ((p.wh.getD j default).right.val.s.v)]) #[.string ByteArray.empty, .string ByteArray.empty, .int .i64 0, .int .i64 0, .string ByteArray.empty, .int .i64 0, .string ByteArray.empty, .string ByteArray.empty, .int .i64 0, .int .i64 0, .string ByteArray.empty] el_22 ze_43 (by decide) (by decide) (by kernel_rfl) rfl ?_); intro bk58 w59 H60
            refine r_cons (s_append H60 3 rfl rfl rfl (rd_blk (H60.blk_at (i := 0) rfl) rfl (Nat.le_of_ble_eq_true rfl) (by simp [Value.oneCell'])) ap_22 (by decide) (by unfold maxLen; omega) (by omega) (n' := S.length + 1) (xs' := S.flatMap condCell ++ ([.string ((p.wh.getD j default).left.var.v), .string ((p.wh.getD j default).left.attr.v), .int .i64 ((p.wh.getD j default).left.val.kind.v), .int .i64 ((p.wh.getD j default).left.val.n.v), .string ((p.wh.getD j default).left.val.s.v), .int .i64 ((p.wh.getD j default).rel.v), .string ((p.wh.getD j default).right.var.v), .string ((p.wh.getD j default).right.attr.v), .int .i64 ((p.wh.getD j default).right.val.kind.v), .int .i64 ((p.wh.getD j default).right.val.n.v), .string ((p.wh.getD j default).right.val.s.v)] : List Value)) (by omega) (by first | rfl | simp) rfl ?_); intro vv61 w62 H63 hn64
            obtain ⟨pp65, cc66, rfl⟩ := Row.slice H63 (i := 3) rfl
            refine r_cons (s_fieldAddr 27 3 7 7 22 rfl fi_27_3 rfl rfl ?_)
            refine r_cons (s_store H63 4 (.slice pp65 (S.length + 1) cc66) rfl rfl rfl sz_22 rfl (Nat.le_of_ble_eq_true rfl) rfl (cs' := #[.string p.name.v, .int .i64 p.win.v, .int .i64 nn18.kind.v, .string nn18.var.v, .string nn18.typ.v, .slice nn18.tp nn18.tests.length nn18.tc, .slice nn18.kp nn18.kids.length nn18.kc, .slice pp65 (S.length + 1) cc66]) rfl ?_); intro w67 H68
            refine r_nil ?_
            refine g_inBlock ?_
            refine g_region ?_
            refine r_cons (s_add ((j : Int) + 1) rfl rfl (wi64 (by omega)) rfl ?_)
            refine r_cons (s_move (.int .i64 ((j : Int) + 1)) rfl rfl ?_)
            refine r_nil ?_
            have hS69 : (S ++ [p.wh.getD j default]).length = S.length + 1 := by simp
            have H70 : St W w67 (blk bk58 (.cells #[.string ((p.wh.getD j default).left.var.v), .string ((p.wh.getD j default).left.attr.v), .int .i64 ((p.wh.getD j default).left.val.kind.v), .int .i64 ((p.wh.getD j default).left.val.n.v), .string ((p.wh.getD j default).left.val.s.v), .int .i64 ((p.wh.getD j default).rel.v), .string ((p.wh.getD j default).right.var.v), .string ((p.wh.getD j default).right.attr.v), .int .i64 ((p.wh.getD j default).right.val.kind.v), .int .i64 ((p.wh.getD j default).right.val.n.v), .string ((p.wh.getD j default).right.val.s.v)] 43 (0, 0)) :: blk bk52 (.cells #[.string ((p.wh.getD j default).left.var.v), .string ((p.wh.getD j default).left.attr.v), .int .i64 ((p.wh.getD j default).left.val.kind.v), .int .i64 ((p.wh.getD j default).left.val.n.v), .string ((p.wh.getD j default).left.val.s.v), .int .i64 ((p.wh.getD j default).rel.v), .string ((p.wh.getD j default).right.var.v), .string ((p.wh.getD j default).right.attr.v), .int .i64 ((p.wh.getD j default).right.val.kind.v), .int .i64 ((p.wh.getD j default).right.val.n.v), .string ((p.wh.getD j default).right.val.s.v)] 43 (0, 0)) :: imi (0 < p.wh.length) gA34 (.cells kA36 eA37 zA38) :: Row 43 11 (.slice pp65 ((S ++ [p.wh.getD j default]).length) cc66) ((S ++ [p.wh.getD j default]).length) ((S ++ [p.wh.getD j default]).flatMap condCell) :: blk bk24 (.cells #[.string p.name.v, .int .i64 p.win.v, .int .i64 nn18.kind.v, .string nn18.var.v, .string nn18.typ.v, .slice nn18.tp nn18.tests.length nn18.tc, .slice nn18.kp nn18.kids.length nn18.kc, .slice pp65 ((S ++ [p.wh.getD j default]).length) cc66] 27 (0, 0)) :: NodeA nn18 :: Row 43 11 (.slice pp19 p.wh.length cc20) p.wh.length (p.wh.flatMap condCell) :: blk bk4 (.cells #[.string p.name.v, .int .i64 p.win.v, .int .i64 p.root.kind.v, .string p.root.var.v, .string p.root.typ.v, .slice p.root.tp p.root.tests.length p.root.tc, .slice p.root.kp p.root.kids.length p.root.kc, .slice p.wp p.wh.length p.wc] 27 (0, 0)) :: Im 11 (.slice p.wp p.wh.length p.wc) p.wh.length (p.wh.flatMap condCell) :: NodeA p.root :: F) := by rw [hS69, List.flatMap_append]; exact H68
            have H71 : St W w67 (imi (0 < p.wh.length) gA34 (.cells kA36 eA37 zA38) :: Row 43 11 (.slice pp65 ((S ++ [p.wh.getD j default]).length) cc66) ((S ++ [p.wh.getD j default]).length) ((S ++ [p.wh.getD j default]).flatMap condCell) :: blk bk24 (.cells #[.string p.name.v, .int .i64 p.win.v, .int .i64 nn18.kind.v, .string nn18.var.v, .string nn18.typ.v, .slice nn18.tp nn18.tests.length nn18.tc, .slice nn18.kp nn18.kids.length nn18.kc, .slice pp65 ((S ++ [p.wh.getD j default]).length) cc66] 27 (0, 0)) :: NodeA nn18 :: Row 43 11 (.slice pp19 p.wh.length cc20) p.wh.length (p.wh.flatMap condCell) :: blk bk4 (.cells #[.string p.name.v, .int .i64 p.win.v, .int .i64 p.root.kind.v, .string p.root.var.v, .string p.root.typ.v, .slice p.root.tp p.root.tests.length p.root.tc, .slice p.root.kp p.root.kids.length p.root.kc, .slice p.wp p.wh.length p.wc] 27 (0, 0)) :: Im 11 (.slice p.wp p.wh.length p.wc) p.wh.length (p.wh.flatMap condCell) :: NodeA p.root :: F) := ((((((((((H70.move 9 rfl).move 9 rfl).move 9 rfl).move 9 rfl).move 9 rfl).move 9 rfl).move 9 rfl).move 9 rfl).drop 8 rfl).drop 8 rfl)
            exact nx50 (pp65, cc66, (S ++ [p.wh.getD j default]), j + 1) _ _ ⟨(by omega), (by omega), (sub_snoc hS2 (by omega)), H71⟩ (by first | (dsimp only; omega) | omega) ⟨by first | rfl | exact vint (by omega), by first | rfl | exact vint (by omega), by first | rfl | exact vint (by omega), by first | rfl | exact vint (by omega), by first | rfl | exact vint (by omega), by first | rfl | exact vint (by omega), by first | rfl | exact vint (by omega), trivial⟩
          · skip
            refine r_cons (s_eql false rfl rfl (dfalse hc57) rfl ?_)
            refine r_nil ?_
            refine g_false rfl ?_
            refine g_skip ?_
            refine g_inBlock ?_
            refine g_region ?_
            refine r_cons (s_add ((j : Int) + 1) rfl rfl (wi64 (by omega)) rfl ?_)
            refine r_cons (s_move (.int .i64 ((j : Int) + 1)) rfl rfl ?_)
            refine r_nil ?_
            have H72 : St W w55 (imi (0 < p.wh.length) gA34 (.cells kA36 eA37 zA38) :: Row 43 11 (.slice sp S.length sc) S.length (S.flatMap condCell) :: blk bk24 (.cells #[.string p.name.v, .int .i64 p.win.v, .int .i64 nn18.kind.v, .string nn18.var.v, .string nn18.typ.v, .slice nn18.tp nn18.tests.length nn18.tc, .slice nn18.kp nn18.kids.length nn18.kc, .slice sp S.length sc] 27 (0, 0)) :: NodeA nn18 :: Row 43 11 (.slice pp19 p.wh.length cc20) p.wh.length (p.wh.flatMap condCell) :: blk bk4 (.cells #[.string p.name.v, .int .i64 p.win.v, .int .i64 p.root.kind.v, .string p.root.var.v, .string p.root.typ.v, .slice p.root.tp p.root.tests.length p.root.tc, .slice p.root.kp p.root.kids.length p.root.kc, .slice p.wp p.wh.length p.wc] 27 (0, 0)) :: Im 11 (.slice p.wp p.wh.length p.wc) p.wh.length (p.wh.flatMap condCell) :: NodeA p.root :: F) := (((((((((H56.move 8 rfl).move 8 rfl).move 8 rfl).move 8 rfl).move 8 rfl).move 8 rfl).move 8 rfl).move 8 rfl).drop 8 rfl)
            exact nx50 (sp, sc, S, j + 1) _ _ ⟨(by omega), (by omega), hS2, H72⟩ (by first | (dsimp only; omega) | omega) ⟨by first | rfl | exact vint (by omega), by first | rfl | exact vint (by omega), by first | rfl | exact vint (by omega), by first | rfl | exact vint (by omega), by first | rfl | exact vint (by omega), by first | rfl | exact vint (by omega), by first | rfl | exact vint (by omega), trivial⟩
        · skip
          refine r_cons (s_lss false rfl rfl (dfalse hc51) rfl ?_)
          refine r_nil ?_
          refine g_seq ?_
          refine g_false rfl ?_
          refine g_exit (by rfl) ?_
          refine g_seq ?_
          refine g_region ?_
          have H73 : St W w48 (imi (0 < p.wh.length) gA34 (.cells kA36 eA37 zA38) :: Im 11 (.slice ((⟨p.name, p.win, nn18, sp, sc, S⟩ : PatD).wp) ((⟨p.name, p.win, nn18, sp, sc, S⟩ : PatD).wh.length) ((⟨p.name, p.win, nn18, sp, sc, S⟩ : PatD).wc)) ((⟨p.name, p.win, nn18, sp, sc, S⟩ : PatD).wh.length) ((⟨p.name, p.win, nn18, sp, sc, S⟩ : PatD).wh.flatMap condCell) :: blk bk24 (.cells #[.string p.name.v, .int .i64 p.win.v, .int .i64 nn18.kind.v, .string nn18.var.v, .string nn18.typ.v, .slice nn18.tp nn18.tests.length nn18.tc, .slice nn18.kp nn18.kids.length nn18.kc, .slice sp S.length sc] 27 (0, 0)) :: NodeA nn18 :: Row 43 11 (.slice pp19 p.wh.length cc20) p.wh.length (p.wh.flatMap condCell) :: blk bk4 (.cells #[.string p.name.v, .int .i64 p.win.v, .int .i64 p.root.kind.v, .string p.root.var.v, .string p.root.typ.v, .slice p.root.tp p.root.tests.length p.root.tc, .slice p.root.kp p.root.kids.length p.root.kc, .slice p.wp p.wh.length p.wc] 27 (0, 0)) :: Im 11 (.slice p.wp p.wh.length p.wc) p.wh.length (p.wh.flatMap condCell) :: NodeA p.root :: F) := Row.im H49 (i := 1) rfl
          have H74 : St W w48 (imi (0 < p.wh.length) gA34 (.cells kA36 eA37 zA38) :: Im 11 (.slice ((⟨p.name, p.win, nn18, sp, sc, S⟩ : PatD).wp) ((⟨p.name, p.win, nn18, sp, sc, S⟩ : PatD).wh.length) ((⟨p.name, p.win, nn18, sp, sc, S⟩ : PatD).wc)) ((⟨p.name, p.win, nn18, sp, sc, S⟩ : PatD).wh.length) ((⟨p.name, p.win, nn18, sp, sc, S⟩ : PatD).wh.flatMap condCell) :: blk bk24 (.cells #[.string p.name.v, .int .i64 p.win.v, .int .i64 nn18.kind.v, .string nn18.var.v, .string nn18.typ.v, .slice nn18.tp nn18.tests.length nn18.tc, .slice nn18.kp nn18.kids.length nn18.kc, .slice sp S.length sc] 27 (0, 0)) :: NodeA ((⟨p.name, p.win, nn18, sp, sc, S⟩ : PatD).root) :: Row 43 11 (.slice pp19 p.wh.length cc20) p.wh.length (p.wh.flatMap condCell) :: blk bk4 (.cells #[.string p.name.v, .int .i64 p.win.v, .int .i64 p.root.kind.v, .string p.root.var.v, .string p.root.typ.v, .slice p.root.tp p.root.tests.length p.root.tc, .slice p.root.kp p.root.kids.length p.root.kc, .slice p.wp p.wh.length p.wc] 27 (0, 0)) :: Im 11 (.slice p.wp p.wh.length p.wc) p.wh.length (p.wh.flatMap condCell) :: NodeA p.root :: F) := H73
          have hzq : sizeN (⟨p.name, p.win, nn18, sp, sc, S⟩ : PatD).root ≤ 1048576 := by rw [← erase_size, hq21, erase_size]; omega
          have hpq : patE (⟨p.name, p.win, nn18, sp, sc, S⟩ : PatD) = 0 := pat_sub (q := (⟨p.name, p.win, nn18, sp, sc, S⟩ : PatD)) hpat rfl rfl hq21 (show S.length ≤ p.wh.length from by omega) hS2
          refine r_cons (s_loadAgg [.string p.name.v, .int .i64 p.win.v, .int .i64 nn18.kind.v, .string nn18.var.v, .string nn18.typ.v, .slice nn18.tp nn18.tests.length nn18.tc, .slice nn18.kp nn18.kids.length nn18.kc, .slice sp S.length sc] 8 ag_27 rfl (H74.blk_at (i := 2) rfl) (Nat.le_of_ble_eq_true rfl) rfl rfl ?_)
          refine r_cons (s_call [.agg #[.string p.name.v, .int .i64 p.win.v, .int .i64 nn18.kind.v, .string nn18.var.v, .string nn18.typ.v, .slice nn18.tp nn18.tests.length nn18.tc, .slice nn18.kp nn18.kids.length nn18.kc, .slice sp S.length sc]] pl_11 rfl rfl (check_Pattern (⟨p.name, p.win, nn18, sp, sc, S⟩ : PatD) (i := 3) rfl (k := 1) rfl (by omega) H74) ?_)
          rintro _ w75 ⟨rfl, H76⟩
          refine r_cons (s_eql true rfl rfl (dtrue hpq) rfl ?_)
          refine r_cons (s_move (.bool true) rfl rfl ?_)
          refine r_cons (r_take rfl rfl ?_)
          refine s_fieldAddr 27 2 2 2 25 rfl fi_27_2 rfl rfl ?_
          refine r_cons (r_take rfl rfl ?_)
          refine s_loadAgg [.int .i64 p.root.kind.v, .string p.root.var.v, .string p.root.typ.v, .slice p.root.tp p.root.tests.length p.root.tc, .slice p.root.kp p.root.kids.length p.root.kc] 5 ag_25 rfl (H76.blk_at (i := 5) rfl) (Nat.le_of_ble_eq_true rfl) rfl rfl ?_
          refine r_cons (r_take rfl rfl ?_)
          refine s_call [.agg #[.int .i64 p.root.kind.v, .string p.root.var.v, .string p.root.typ.v, .slice p.root.tp p.root.tests.length p.root.tc, .slice p.root.kp p.root.kids.length p.root.kc]] pl_33 rfl rfl (check_parts p.root (i := 7) rfl (by omega) H76) ?_
          rintro _ w77 ⟨rfl, H78⟩
          refine r_cons (s_pick_t (.bool (partsN p.root)) rfl rfl rfl ?_)
          refine r_cons (s_assign (.bool (partsN p.root)) rfl rfl ?_)
          refine r_nil ?_
          refine g_ret' [.bool (partsN p.root)] Try.func7 Try.results7 ⟨rfl, trivial⟩ ?_
          have H79 : St W w77 F := ((((((((H78.drop 0 rfl).drop 0 rfl).drop 0 rfl).drop 0 rfl).drop 0 rfl).drop 0 rfl).drop 0 rfl).drop 0 rfl)
          exact ⟨congrArg Value.bool (parts_pat hpat hz), H79⟩
    · skip
      refine s_neq true rfl rfl (nfalse hc15) rfl ?_
      refine r_cons (s_pick_f (.bool true) (by exact congrArg Value.bool hb9) rfl rfl ?_)
      refine r_cons (s_move (.bool true) rfl rfl ?_)
      refine r_cons (r_pass rfl rfl rfl rfl rfl ?_)
      refine r_cons (r_pass rfl rfl rfl rfl rfl ?_)
      refine r_cons (s_pick_t (.bool true) rfl rfl rfl ?_)
      refine r_nil ?_
      refine g_true rfl ?_
      refine g_seq ?_
      refine g_region ?_
      refine r_cons (s_call [] pl_9 rfl rfl (check_live H14) ?_)
      rintro _ w80 ⟨rfl, H81⟩
      refine r_cons (s_assign (.bool true) rfl rfl ?_)
      refine r_nil ?_
      refine g_ret' [.bool true] Try.func7 Try.results7 ⟨rfl, trivial⟩ ?_
      have H82 : St W w80 F := (((H81.drop 0 rfl).drop 0 rfl).drop 0 rfl)
      exact ⟨rfl, H82⟩
end Sl
