/- Walks of the program's functions. Printed by a program of this claim's author. No condition. -/
import Derived.Test.YtkclljglobeplaaSlCH
import Derived.Test.YtkclljglobeplaaSlQ
import Derived.Test.YtkclljglobeplaaProg
import Derived.Test.YtkclljglobeplaaWalkCheckSame0
namespace Sl
open _root_.Go _root_.Go.RowKit _root_.Go.Proofs
set_option linter.all false
set_option maxHeartbeats 4000000 in
set_option maxRecDepth 100000 in
theorem check_Binds_r (N : Nat) : ∀ (n : NodeD), sizeOf n < N → ∀ {W w : World} {F : List Atom}  {i : Nat} (hi : F[i]? = some (NodeA n)) (hz : sizeN n ≤ 1048576) (H : St W w F), Calls Try.prog 21 #[.agg #[.int .i64 n.kind.v, .string n.var.v, .string n.typ.v, .slice n.tp n.tests.length n.tc, .slice n.kp n.kids.length n.kc]] w (Ret fun v w' => v = .int .i64 (bindsE n) ∧ St W w' F) := by
  induction N with | zero => exact fun n hN => absurd hN (Nat.not_lt_zero _) | succ N ih => ?_
  intro n hN W w F i hi hz H
  have H1 := NodeA.kids H (i := i + 0) (by exact hi)
  have H2 : St W w (Im 5 (.slice n.kp n.kids.length n.kc) n.kids.length (n.kids.flatMap nodeCell) :: NodesA n.kids :: F) := H1
  refine calls_of_go (n := 44) Try.func21 rfl Try.ntmps21 rfl ?_
  refine g_seq ?_
  refine g_region ?_
  refine r_cons (s_box H2 25 (.agg #[.int .i64 n.kind.v, .string n.var.v, .string n.typ.v, .slice n.tp n.tests.length n.tc, .slice n.kp n.kids.length n.kc]) rfl (cs := #[.int .i64 n.kind.v, .string n.var.v, .string n.typ.v, .slice n.tp n.tests.length n.tc, .slice n.kp n.kids.length n.kc]) rfl rfl ?_); intro bk3 w4 H5
  refine r_cons (s_assign (.int .i64 0) rfl rfl ?_)
  refine r_nil ?_
  refine g_seq ?_
  refine g_region ?_
  refine r_cons (s_makeMap H5 rfl ?_); intro mp6 w7 H8
  have H9 : St W w7 (MapA mp6 (ents kS vB (setOf ([] : List Str))) :: blk bk3 (.cells #[.int .i64 n.kind.v, .string n.var.v, .string n.typ.v, .slice n.tp n.tests.length n.tc, .slice n.kp n.kids.length n.kc] 25 (0, 0)) :: Im 5 (.slice n.kp n.kids.length n.kc) n.kids.length (n.kids.flatMap nodeCell) :: NodesA n.kids :: F) := H8
  refine r_cons (s_assign (.map (some mp6)) rfl rfl ?_)
  refine r_nil ?_
  refine g_seq ?_
  refine g_seq ?_
  refine g_region ?_
  refine r_cons (s_fieldAddr 25 4 4 4 23 rfl fi_25_4 rfl rfl ?_)
  refine r_cons (s_load (.slice n.kp n.kids.length n.kc) ag_23 rfl (H9.blk_at (i := 1) rfl) rfl rfl ?_)
  refine r_cons (s_len n.kids.length rfl ⟨_, un_23⟩ rfl ?_)
  refine r_cons (s_move (.int .i64 0) rfl rfl ?_)
  refine r_nil ?_
  refine g_block ?_
  obtain ⟨pA10, cA11, gA12, oA13, kA14, eA15, zA16, he22, hn17, hp18, hx19, hs20, hml, H21⟩ := Im.open_ H9 (i := 2) rfl
  obtain ⟨rfl, rfl⟩ : n.kp = pA10 ∧ n.kc = cA11 := by injection he22 with a_ b_ c_; exact ⟨a_, c_⟩
  have hM23 : ([] : List Str) = (hadF n 0) := hadF_zero n
  have H24 : St W w7 (imi (0 < n.kids.length) gA12 (.cells kA14 eA15 zA16) :: MapA mp6 (ents kS vB (setOf (hadF n 0))) :: blk bk3 (.cells #[.int .i64 n.kind.v, .string n.var.v, .string n.typ.v, .slice n.tp n.tests.length n.tc, .slice n.kp n.kids.length n.kc] 25 (0, 0)) :: Im 5 (.slice n.kp n.kids.length n.kc) n.kids.length (n.kids.flatMap nodeCell) :: NodesA n.kids :: F) := by rw [← hM23]; exact H21
  have H25 : St W w7 (imi (0 < n.kids.length) gA12 (.cells kA14 eA15 zA16) :: MapA mp6 (ents kS vB (setOf (hadF n 0))) :: blk bk3 (.cells #[.int .i64 n.kind.v, .string n.var.v, .string n.typ.v, .slice n.tp n.tests.length n.tc, .slice n.kp n.kids.length n.kc] 25 (0, 0)) :: Im 5 (.slice n.kp n.kids.length n.kc) n.kids.length (n.kids.flatMap nodeCell) :: NodesA n.kids :: F) := (((((H24.move 4 rfl).move 4 rfl).move 4 rfl).move 4 rfl).move 4 rfl)
  refine g_loop_inv (fun (x_ : Nat) => match x_ with | j => [(1, .pointer (some ⟨bk3, 0, none⟩)), (2, .int .i64 0), (3, .map (some mp6)), (11, .slice n.kp n.kids.length n.kc), (12, .int .i64 (n.kids.length : Int)), (13, .int .i64 (j : Int))]) (fun (x_ : Nat) w => match x_ with | j => (j ≤ n.kids.length) ∧ (Hres n j) ∧ St W w (imi (0 < n.kids.length) gA12 (.cells kA14 eA15 zA16) :: MapA mp6 (ents kS vB (setOf (hadF n j))) :: blk bk3 (.cells #[.int .i64 n.kind.v, .string n.var.v, .string n.typ.v, .slice n.tp n.tests.length n.tc, .slice n.kp n.kids.length n.kc] 25 (0, 0)) :: Im 5 (.slice n.kp n.kids.length n.kc) n.kids.length (n.kids.flatMap nodeCell) :: NodesA n.kids :: F)) (fun (x_ : Nat) => match x_ with | j => n.kids.length - j) (0) ?_ ?_ ?_
  · exact ⟨by first | rfl | exact vint (by omega), by first | rfl | exact vint (by omega), by first | rfl | exact vint (by omega), by first | rfl | exact vint (by omega), by first | rfl | exact vint (by omega), by first | rfl | exact vint (by omega), trivial⟩
  · exact ⟨(by omega), (Hres_zero n), H25⟩
  · rintro j ρ26 w27 ⟨hjl, hres, H28⟩ nx29
    change Ends _ _ (upds ρ26 [(1, .pointer (some ⟨bk3, 0, none⟩)), (2, .int .i64 0), (3, .map (some mp6)), (11, .slice n.kp n.kids.length n.kc), (12, .int .i64 (n.kids.length : Int)), (13, .int .i64 (j : Int))]) w27
    refine g_seq ?_
    refine g_region ?_
    by_cases hc30 : (j : Int) < (n.kids.length : Int)
    · skip
      refine r_cons (s_lss true rfl rfl (dtrue hc30) rfl ?_)
      refine r_nil ?_
      refine g_seq ?_
      refine g_true rfl ?_
      refine g_skip ?_
      refine g_seq ?_
      refine g_block ?_
      refine g_seq ?_
      refine g_region ?_
      refine r_cons (s_indexAddr gA12 (off := oA13) (j : Int) 5 (oA13 + j * 5) (by exact congrArg (fun z_ => Value.slice z_ n.kids.length n.kc) (hp18 (by omega))) rfl el_23 (by omega) rfl rfl ?_)
      refine r_cons (s_loadAgg [.int .i64 ((n.kids.getD j default).kind.v), .string ((n.kids.getD j default).var.v), .string ((n.kids.getD j default).typ.v), .slice ((n.kids.getD j default).tp) ((n.kids.getD j default).tests.length) ((n.kids.getD j default).tc), .slice ((n.kids.getD j default).kp) ((n.kids.getD j default).kids.length) ((n.kids.getD j default).kc)] 5 ag_25 rfl (H28.imi_at (i := 0) rfl (by omega)) (by have := elem_size (i := j) (s := 5) (hs20 (by omega)) (by omega); omega) (elem_take nodeCell_len (hx19 (by omega)) (by omega) default) rfl ?_)
      refine r_cons (s_alloc H28 25 ze_25 rfl ?_); intro bk31 w32 H33
      refine r_cons (s_storeAgg H33 0 #[.int .i64 ((n.kids.getD j default).kind.v), .string ((n.kids.getD j default).var.v), .string ((n.kids.getD j default).typ.v), .slice ((n.kids.getD j default).tp) ((n.kids.getD j default).tests.length) ((n.kids.getD j default).tc), .slice ((n.kids.getD j default).kp) ((n.kids.getD j default).kids.length) ((n.kids.getD j default).kc)] 5 rfl rfl rfl sz_25 rfl (by simp [Value.oneCell']) (Nat.le_of_ble_eq_true rfl) (fun o h1 h2 => by first | (simp; done) | (simp; omega)) (cs' := #[.int .i64 ((n.kids.getD j default).kind.v), .string ((n.kids.getD j default).var.v), .string ((n.kids.getD j default).typ.v), .slice ((n.kids.getD j default).tp) ((n.kids.getD j default).tests.length) ((n.kids.getD j default).tc), .slice ((n.kids.getD j default).kp) ((n.kids.getD j default).kids.length) ((n.kids.getD j default).kc)]) rfl ?_); intro w34 H35
      refine r_nil ?_
      refine g_seq ?_
      refine g_seq ?_
      refine g_region ?_
      refine r_cons (s_loadAgg [.int .i64 ((n.kids.getD j default).kind.v), .string ((n.kids.getD j default).var.v), .string ((n.kids.getD j default).typ.v), .slice ((n.kids.getD j default).tp) ((n.kids.getD j default).tests.length) ((n.kids.getD j default).tc), .slice ((n.kids.getD j default).kp) ((n.kids.getD j default).kids.length) ((n.kids.getD j default).kc)] 5 ag_25 rfl (H35.blk_at (i := 0) rfl) (Nat.le_of_ble_eq_true rfl) rfl rfl ?_)
      have H36 := NodesA.at H35 (i := 5) rfl (j := j) (by omega)
      refine r_cons (s_call [.agg #[.int .i64 ((n.kids.getD j default).kind.v), .string ((n.kids.getD j default).var.v), .string ((n.kids.getD j default).typ.v), .slice ((n.kids.getD j default).tp) ((n.kids.getD j default).tests.length) ((n.kids.getD j default).tc), .slice ((n.kids.getD j default).kp) ((n.kids.getD j default).kids.length) ((n.kids.getD j default).kc)]] pl_21 rfl rfl (ih (n.kids.getD j default) (by have h9 := kid_lt (n := n) (j := j) (by omega); omega) (i := 0) rfl (by have h9 := sizeN_kid (n := n) (j := j) (by omega); omega) H36) ?_)
      rintro _ w37 ⟨rfl, H38⟩
      refine r_cons (s_assign (.int .i64 (bindsE (n.kids.getD j default))) rfl rfl ?_)
      refine r_nil ?_
      refine g_seq ?_
      refine g_region ?_
      refine r_cons (s_move (.int .i64 (bindsE (n.kids.getD j default))) rfl rfl ?_)
      by_cases hc39 : bindsE (n.kids.getD j default) = 0
      · skip
        refine r_cons (s_neq false rfl rfl (ntrue hc39) rfl ?_)
        refine r_nil ?_
        refine g_false rfl ?_
        refine g_skip ?_
        refine g_seq ?_
        refine g_seq ?_
        refine g_region ?_
        refine r_cons (s_fieldAddr 25 0 0 0 3 rfl fi_25_0 rfl rfl ?_)
        refine r_cons (s_load (.int .i64 n.kind.v) ag_3 rfl (H38.blk_at (i := 4) rfl) rfl rfl ?_)
        by_cases hc40 : n.kind.v = 2
        · skip
          refine r_cons (s_neq false rfl rfl (ntrue hc40) rfl ?_)
          refine r_cons (s_move (.bool false) rfl rfl ?_)
          refine r_cons (r_pass rfl rfl rfl rfl rfl ?_)
          refine r_cons (r_pass rfl rfl rfl rfl rfl ?_)
          refine r_cons (r_pass rfl rfl rfl rfl rfl ?_)
          refine r_cons (s_pick_f (.bool false) rfl rfl rfl ?_)
          refine r_nil ?_
          refine g_false rfl ?_
          refine g_skip ?_
          refine g_seq ?_
          refine g_region ?_
          refine r_cons (s_loadAgg [.int .i64 ((n.kids.getD j default).kind.v), .string ((n.kids.getD j default).var.v), .string ((n.kids.getD j default).typ.v), .slice ((n.kids.getD j default).tp) ((n.kids.getD j default).tests.length) ((n.kids.getD j default).tc), .slice ((n.kids.getD j default).kp) ((n.kids.getD j default).kids.length) ((n.kids.getD j default).kc)] 5 ag_25 rfl (H38.blk_at (i := 1) rfl) (Nat.le_of_ble_eq_true rfl) rfl rfl ?_)
          refine r_cons (s_call [.agg #[.int .i64 ((n.kids.getD j default).kind.v), .string ((n.kids.getD j default).var.v), .string ((n.kids.getD j default).typ.v), .slice ((n.kids.getD j default).tp) ((n.kids.getD j default).tests.length) ((n.kids.getD j default).tc), .slice ((n.kids.getD j default).kp) ((n.kids.getD j default).kids.length) ((n.kids.getD j default).kc)]] pl_24 rfl rfl (check_Vars (n.kids.getD j default) (i := 0) rfl (by have h9 := sizeN_kid (n := n) (j := j) (by omega); omega) H38) ?_)
          rintro _ w43 ⟨pp41, cc42, rfl, H44⟩
          refine r_cons (s_len ((varsS (n.kids.getD j default)).length) rfl ⟨_, un_36⟩ rfl ?_)
          refine r_cons (s_move (.int .i64 0) rfl rfl ?_)
          refine r_nil ?_
          refine g_block ?_
          obtain ⟨pA45, cA46, gA47, oA48, kA49, eA50, zA51, he57, hn52, hp53, hx54, hs55, hml, H56⟩ := Im.open_ H44 (i := 0) rfl
          obtain ⟨rfl, rfl⟩ : pp41 = pA45 ∧ cc42 = cA46 := by injection he57 with a_ b_ c_; exact ⟨a_, c_⟩
          have hM58 : (hadF n j) = (((varsS (n.kids.getD j default)).take 0).foldl addS (hadF n j)) := rfl
          have H59 : St W w43 (imi (0 < (varsS (n.kids.getD j default)).length) gA47 (.cells kA49 eA50 zA51) :: Im 1 (.slice pp41 ((varsS (n.kids.getD j default)).length) cc42) ((varsS (n.kids.getD j default)).length) ((varsS (n.kids.getD j default)).flatMap strCell) :: NodeA (n.kids.getD j default) :: blk bk31 (.cells #[.int .i64 ((n.kids.getD j default).kind.v), .string ((n.kids.getD j default).var.v), .string ((n.kids.getD j default).typ.v), .slice ((n.kids.getD j default).tp) ((n.kids.getD j default).tests.length) ((n.kids.getD j default).tc), .slice ((n.kids.getD j default).kp) ((n.kids.getD j default).kids.length) ((n.kids.getD j default).kc)] 25 (0, 0)) :: imi (0 < n.kids.length) gA12 (.cells kA14 eA15 zA16) :: MapA mp6 (ents kS vB (setOf (((varsS (n.kids.getD j default)).take 0).foldl addS (hadF n j)))) :: blk bk3 (.cells #[.int .i64 n.kind.v, .string n.var.v, .string n.typ.v, .slice n.tp n.tests.length n.tc, .slice n.kp n.kids.length n.kc] 25 (0, 0)) :: Im 5 (.slice n.kp n.kids.length n.kc) n.kids.length (n.kids.flatMap nodeCell) :: NodesA n.kids :: F) := by rw [← hM58]; exact H56
          have H60 : St W w43 (imi (0 < (varsS (n.kids.getD j default)).length) gA47 (.cells kA49 eA50 zA51) :: Im 1 (.slice pp41 ((varsS (n.kids.getD j default)).length) cc42) ((varsS (n.kids.getD j default)).length) ((varsS (n.kids.getD j default)).flatMap strCell) :: NodeA (n.kids.getD j default) :: imi (0 < n.kids.length) gA12 (.cells kA14 eA15 zA16) :: MapA mp6 (ents kS vB (setOf (((varsS (n.kids.getD j default)).take 0).foldl addS (hadF n j)))) :: blk bk3 (.cells #[.int .i64 n.kind.v, .string n.var.v, .string n.typ.v, .slice n.tp n.tests.length n.tc, .slice n.kp n.kids.length n.kc] 25 (0, 0)) :: Im 5 (.slice n.kp n.kids.length n.kc) n.kids.length (n.kids.flatMap nodeCell) :: NodesA n.kids :: F) := (((((((((H59.move 8 rfl).move 8 rfl).move 8 rfl).move 8 rfl).move 8 rfl).move 7 rfl).move 7 rfl).move 7 rfl).drop 8 rfl)
          refine g_loop_inv (fun (x_ : Nat) => match x_ with | q => [(1, .pointer (some ⟨bk3, 0, none⟩)), (2, .int .i64 0), (3, .map (some mp6)), (11, .slice n.kp n.kids.length n.kc), (12, .int .i64 (n.kids.length : Int)), (13, .int .i64 (j : Int)), (31, .slice pp41 ((varsS (n.kids.getD j default)).length) cc42), (32, .int .i64 ((varsS (n.kids.getD j default)).length : Int)), (33, .int .i64 (q : Int))]) (fun (x_ : Nat) w => match x_ with | q => (q ≤ (varsS (n.kids.getD j default)).length) ∧ (∀ i, i < q → decide ((varsS (n.kids.getD j default)).getD i default ∈ hadF n j) = false) ∧ St W w (imi (0 < (varsS (n.kids.getD j default)).length) gA47 (.cells kA49 eA50 zA51) :: Im 1 (.slice pp41 ((varsS (n.kids.getD j default)).length) cc42) ((varsS (n.kids.getD j default)).length) ((varsS (n.kids.getD j default)).flatMap strCell) :: NodeA (n.kids.getD j default) :: imi (0 < n.kids.length) gA12 (.cells kA14 eA15 zA16) :: MapA mp6 (ents kS vB (setOf (((varsS (n.kids.getD j default)).take q).foldl addS (hadF n j)))) :: blk bk3 (.cells #[.int .i64 n.kind.v, .string n.var.v, .string n.typ.v, .slice n.tp n.tests.length n.tc, .slice n.kp n.kids.length n.kc] 25 (0, 0)) :: Im 5 (.slice n.kp n.kids.length n.kc) n.kids.length (n.kids.flatMap nodeCell) :: NodesA n.kids :: F)) (fun (x_ : Nat) => match x_ with | q => (varsS (n.kids.getD j default)).length - q) (0) ?_ ?_ ?_
          · exact ⟨by first | rfl | exact vint (by omega), by first | rfl | exact vint (by omega), by first | rfl | exact vint (by omega), by first | rfl | exact vint (by omega), by first | rfl | exact vint (by omega), by first | rfl | exact vint (by omega), by first | rfl | exact vint (by omega), by first | rfl | exact vint (by omega), by first | rfl | exact vint (by omega), trivial⟩
          · exact ⟨(by omega), (fun i hi => by omega), H60⟩
          · rintro q ρ61 w62 ⟨hql, hz2, H63⟩ nx64
            change Ends _ _ (upds ρ61 [(1, .pointer (some ⟨bk3, 0, none⟩)), (2, .int .i64 0), (3, .map (some mp6)), (11, .slice n.kp n.kids.length n.kc), (12, .int .i64 (n.kids.length : Int)), (13, .int .i64 (j : Int)), (31, .slice pp41 ((varsS (n.kids.getD j default)).length) cc42), (32, .int .i64 ((varsS (n.kids.getD j default)).length : Int)), (33, .int .i64 (q : Int))]) w62
            refine g_seq ?_
            refine g_region ?_
            by_cases hc65 : (q : Int) < ((varsS (n.kids.getD j default)).length : Int)
            · skip
              refine r_cons (s_lss true rfl rfl (dtrue hc65) rfl ?_)
              refine r_nil ?_
              refine g_seq ?_
              refine g_true rfl ?_
              refine g_skip ?_
              refine g_seq ?_
              refine g_block ?_
              refine g_seq ?_
              refine g_region ?_
              refine r_cons (s_indexAddr gA47 (off := oA48) (q : Int) 1 (oA48 + q * 1) (by exact congrArg (fun z_ => Value.slice z_ ((varsS (n.kids.getD j default)).length) cc42) (hp53 (by omega))) rfl el_36 (by omega) rfl rfl ?_)
              refine r_cons (s_load (.string (((varsS (n.kids.getD j default)).getD q default).v)) ag_9 rfl (H63.imi_at (i := 0) rfl (by omega)) (elem_cell (L := (varsS (n.kids.getD j default))) (i := q) strCell_len (hx54 (by omega)) (by omega) default 0 (by decide) _ rfl) rfl ?_)
              refine r_cons (s_assign (.string (((varsS (n.kids.getD j default)).getD q default).v)) rfl rfl ?_)
              refine r_nil ?_
              refine g_seq ?_
              refine g_seq ?_
              refine g_region ?_
              refine r_cons (s_move (.map (some mp6)) rfl rfl ?_)
              refine r_cons (s_move (.string (((varsS (n.kids.getD j default)).getD q default).v)) rfl rfl ?_)
              refine r_cons (s_lookup (ek := kS) (ev := vB) (L := setOf (((varsS (n.kids.getD j default)).take q).foldl addS (hadF n j))) ((varsS (n.kids.getD j default)).getD q default) (.bool (decide (((varsS (n.kids.getD j default)).getD q default) ∈ (((varsS (n.kids.getD j default)).take q).foldl addS (hadF n j))))) (MapA.at H63 (i := 4) rfl) (KeyLaw.S un_9) un_57 zv_4 rfl rfl (setOf_look _ _) rfl ?_)
              refine r_nil ?_
              by_cases hb66 : (decide (((varsS (n.kids.getD j default)).getD q default) ∈ (((varsS (n.kids.getD j default)).take q).foldl addS (hadF n j)))) = true
              · skip
                refine g_true (congrArg Value.bool hb66) ?_
                refine g_seq ?_
                refine g_region ?_
                refine r_cons (s_assign (.int .i64 73) rfl rfl ?_)
                refine r_nil ?_
                refine g_ret' [.int .i64 73] Try.func21 Try.results21 ⟨rfl, trivial⟩ ?_
                have H67 : St W w62 F := ((((((((H63.drop 0 rfl).drop 0 rfl).drop 0 rfl).drop 0 rfl).drop 0 rfl).drop 0 rfl).drop 0 rfl).drop 0 rfl)
                exact ⟨vint (Hres_twice hres (by omega) (by omega) (decide_eq_true (by omega)) (by omega) hb66), H67⟩
              · have hb66 := eq_false_of_ne_true hb66
                refine g_false (congrArg Value.bool hb66) ?_
                refine g_skip ?_
                refine g_region ?_
                refine r_cons (s_move (.map (some mp6)) rfl rfl ?_)
                refine r_cons (s_move (.string (((varsS (n.kids.getD j default)).getD q default).v)) rfl rfl ?_)
                refine r_cons (s_mapUpdate (ek := kS) (ev := vB) (L := setOf (((varsS (n.kids.getD j default)).take q).foldl addS (hadF n j))) ((varsS (n.kids.getD j default)).getD q default) true H63 (i := 4) rfl (KeyLaw.S un_9) un_57 rfl rfl rfl ?_); intro w68 H69
                have H70 : St W w68 (imi (0 < (varsS (n.kids.getD j default)).length) gA47 (.cells kA49 eA50 zA51) :: Im 1 (.slice pp41 ((varsS (n.kids.getD j default)).length) cc42) ((varsS (n.kids.getD j default)).length) ((varsS (n.kids.getD j default)).flatMap strCell) :: NodeA (n.kids.getD j default) :: imi (0 < n.kids.length) gA12 (.cells kA14 eA15 zA16) :: MapA mp6 (ents kS vB (setOf (addS (((varsS (n.kids.getD j default)).take q).foldl addS (hadF n j)) ((varsS (n.kids.getD j default)).getD q default)))) :: blk bk3 (.cells #[.int .i64 n.kind.v, .string n.var.v, .string n.typ.v, .slice n.tp n.tests.length n.tc, .slice n.kp n.kids.length n.kc] 25 (0, 0)) :: Im 5 (.slice n.kp n.kids.length n.kc) n.kids.length (n.kids.flatMap nodeCell) :: NodesA n.kids :: F) := by have h9 := H69; rw [setOf_set] at h9; exact h9
                refine r_nil ?_
                refine g_inBlock ?_
                refine g_region ?_
                refine r_cons (s_add ((q : Int) + 1) rfl rfl (wi64 (by omega)) rfl ?_)
                refine r_cons (s_move (.int .i64 ((q : Int) + 1)) rfl rfl ?_)
                refine r_nil ?_
                have hM71 : (addS (((varsS (n.kids.getD j default)).take q).foldl addS (hadF n j)) ((varsS (n.kids.getD j default)).getD q default)) = (((varsS (n.kids.getD j default)).take (q + 1)).foldl addS (hadF n j)) := (fold_stepS addS _ (by omega)).symm
                have H72 : St W w68 (imi (0 < (varsS (n.kids.getD j default)).length) gA47 (.cells kA49 eA50 zA51) :: Im 1 (.slice pp41 ((varsS (n.kids.getD j default)).length) cc42) ((varsS (n.kids.getD j default)).length) ((varsS (n.kids.getD j default)).flatMap strCell) :: NodeA (n.kids.getD j default) :: imi (0 < n.kids.length) gA12 (.cells kA14 eA15 zA16) :: MapA mp6 (ents kS vB (setOf (((varsS (n.kids.getD j default)).take (q + 1)).foldl addS (hadF n j)))) :: blk bk3 (.cells #[.int .i64 n.kind.v, .string n.var.v, .string n.typ.v, .slice n.tp n.tests.length n.tc, .slice n.kp n.kids.length n.kc] 25 (0, 0)) :: Im 5 (.slice n.kp n.kids.length n.kc) n.kids.length (n.kids.flatMap nodeCell) :: NodesA n.kids :: F) := by rw [← hM71]; exact H70
                have H73 : St W w68 (imi (0 < (varsS (n.kids.getD j default)).length) gA47 (.cells kA49 eA50 zA51) :: Im 1 (.slice pp41 ((varsS (n.kids.getD j default)).length) cc42) ((varsS (n.kids.getD j default)).length) ((varsS (n.kids.getD j default)).flatMap strCell) :: NodeA (n.kids.getD j default) :: imi (0 < n.kids.length) gA12 (.cells kA14 eA15 zA16) :: MapA mp6 (ents kS vB (setOf (((varsS (n.kids.getD j default)).take (q + 1)).foldl addS (hadF n j)))) :: blk bk3 (.cells #[.int .i64 n.kind.v, .string n.var.v, .string n.typ.v, .slice n.tp n.tests.length n.tc, .slice n.kp n.kids.length n.kc] 25 (0, 0)) :: Im 5 (.slice n.kp n.kids.length n.kc) n.kids.length (n.kids.flatMap nodeCell) :: NodesA n.kids :: F) := ((((((((H72.move 7 rfl).move 7 rfl).move 7 rfl).move 7 rfl).move 7 rfl).move 7 rfl).move 7 rfl).move 7 rfl)
                exact nx64 (q + 1) _ _ ⟨(by omega), (fun i hi => (Nat.lt_or_ge i q).elim (hz2 i) (fun h => by rw [show i = q from by omega]; exact Hres_new (by omega) hb66)), H73⟩ (by first | (dsimp only; omega) | omega) ⟨by first | rfl | exact vint (by omega), by first | rfl | exact vint (by omega), by first | rfl | exact vint (by omega), by first | rfl | exact vint (by omega), by first | rfl | exact vint (by omega), by first | rfl | exact vint (by omega), by first | rfl | exact vint (by omega), by first | rfl | exact vint (by omega), by first | rfl | exact vint (by omega), trivial⟩
            · skip
              refine r_cons (s_lss false rfl rfl (dfalse hc65) rfl ?_)
              refine r_nil ?_
              refine g_seq ?_
              refine g_false rfl ?_
              refine g_exit (by rfl) ?_
              refine g_inBlock ?_
              refine g_region ?_
              refine r_cons (s_add ((j : Int) + 1) rfl rfl (wi64 (by omega)) rfl ?_)
              refine r_cons (s_move (.int .i64 ((j : Int) + 1)) rfl rfl ?_)
              refine r_nil ?_
              have hM74 : (((varsS (n.kids.getD j default)).take q).foldl addS (hadF n j)) = (hadF n (j + 1)) := hadF_next (decide_eq_true (by omega)) (by omega) (by omega)
              have H75 : St W w62 (imi (0 < (varsS (n.kids.getD j default)).length) gA47 (.cells kA49 eA50 zA51) :: Im 1 (.slice pp41 ((varsS (n.kids.getD j default)).length) cc42) ((varsS (n.kids.getD j default)).length) ((varsS (n.kids.getD j default)).flatMap strCell) :: NodeA (n.kids.getD j default) :: imi (0 < n.kids.length) gA12 (.cells kA14 eA15 zA16) :: MapA mp6 (ents kS vB (setOf (hadF n (j + 1)))) :: blk bk3 (.cells #[.int .i64 n.kind.v, .string n.var.v, .string n.typ.v, .slice n.tp n.tests.length n.tc, .slice n.kp n.kids.length n.kc] 25 (0, 0)) :: Im 5 (.slice n.kp n.kids.length n.kc) n.kids.length (n.kids.flatMap nodeCell) :: NodesA n.kids :: F) := by rw [← hM74]; exact H63
              have H76 : St W w62 (imi (0 < n.kids.length) gA12 (.cells kA14 eA15 zA16) :: MapA mp6 (ents kS vB (setOf (hadF n (j + 1)))) :: blk bk3 (.cells #[.int .i64 n.kind.v, .string n.var.v, .string n.typ.v, .slice n.tp n.tests.length n.tc, .slice n.kp n.kids.length n.kc] 25 (0, 0)) :: Im 5 (.slice n.kp n.kids.length n.kc) n.kids.length (n.kids.flatMap nodeCell) :: NodesA n.kids :: F) := ((((((((H75.move 7 rfl).move 7 rfl).move 7 rfl).move 7 rfl).move 7 rfl).drop 5 rfl).drop 5 rfl).drop 5 rfl)
              exact nx29 (j + 1) _ _ ⟨(by omega), (Hres_next hres (by omega) (by omega) (decide_eq_true (by omega)) (fun i hi => hz2 i (by omega))), H76⟩ (by first | (dsimp only; omega) | omega) ⟨by first | rfl | exact vint (by omega), by first | rfl | exact vint (by omega), by first | rfl | exact vint (by omega), by first | rfl | exact vint (by omega), by first | rfl | exact vint (by omega), by first | rfl | exact vint (by omega), trivial⟩
        · skip
          refine r_cons (s_neq true rfl rfl (nfalse hc40) rfl ?_)
          refine r_cons (s_move (.bool true) rfl rfl ?_)
          refine r_cons (r_take rfl rfl ?_)
          refine s_fieldAddr 25 0 0 0 3 rfl fi_25_0 rfl rfl ?_
          refine r_cons (r_take rfl rfl ?_)
          refine s_load (.int .i64 n.kind.v) ag_3 rfl (H38.blk_at (i := 4) rfl) rfl rfl ?_
          refine r_cons (r_take rfl rfl ?_)
          by_cases hc77 : n.kind.v = 3
          · skip
            refine s_neq false rfl rfl (ntrue hc77) rfl ?_
            refine r_cons (s_pick_t (.bool false) rfl rfl rfl ?_)
            refine r_nil ?_
            refine g_false rfl ?_
            refine g_skip ?_
            refine g_seq ?_
            refine g_region ?_
            refine r_cons (s_loadAgg [.int .i64 ((n.kids.getD j default).kind.v), .string ((n.kids.getD j default).var.v), .string ((n.kids.getD j default).typ.v), .slice ((n.kids.getD j default).tp) ((n.kids.getD j default).tests.length) ((n.kids.getD j default).tc), .slice ((n.kids.getD j default).kp) ((n.kids.getD j default).kids.length) ((n.kids.getD j default).kc)] 5 ag_25 rfl (H38.blk_at (i := 1) rfl) (Nat.le_of_ble_eq_true rfl) rfl rfl ?_)
            refine r_cons (s_call [.agg #[.int .i64 ((n.kids.getD j default).kind.v), .string ((n.kids.getD j default).var.v), .string ((n.kids.getD j default).typ.v), .slice ((n.kids.getD j default).tp) ((n.kids.getD j default).tests.length) ((n.kids.getD j default).tc), .slice ((n.kids.getD j default).kp) ((n.kids.getD j default).kids.length) ((n.kids.getD j default).kc)]] pl_24 rfl rfl (check_Vars (n.kids.getD j default) (i := 0) rfl (by have h9 := sizeN_kid (n := n) (j := j) (by omega); omega) H38) ?_)
            rintro _ w80 ⟨pp78, cc79, rfl, H81⟩
            refine r_cons (s_len ((varsS (n.kids.getD j default)).length) rfl ⟨_, un_36⟩ rfl ?_)
            refine r_cons (s_move (.int .i64 0) rfl rfl ?_)
            refine r_nil ?_
            refine g_block ?_
            obtain ⟨pA82, cA83, gA84, oA85, kA86, eA87, zA88, he94, hn89, hp90, hx91, hs92, hml, H93⟩ := Im.open_ H81 (i := 0) rfl
            obtain ⟨rfl, rfl⟩ : pp78 = pA82 ∧ cc79 = cA83 := by injection he94 with a_ b_ c_; exact ⟨a_, c_⟩
            have hM95 : (hadF n j) = (((varsS (n.kids.getD j default)).take 0).foldl addS (hadF n j)) := rfl
            have H96 : St W w80 (imi (0 < (varsS (n.kids.getD j default)).length) gA84 (.cells kA86 eA87 zA88) :: Im 1 (.slice pp78 ((varsS (n.kids.getD j default)).length) cc79) ((varsS (n.kids.getD j default)).length) ((varsS (n.kids.getD j default)).flatMap strCell) :: NodeA (n.kids.getD j default) :: blk bk31 (.cells #[.int .i64 ((n.kids.getD j default).kind.v), .string ((n.kids.getD j default).var.v), .string ((n.kids.getD j default).typ.v), .slice ((n.kids.getD j default).tp) ((n.kids.getD j default).tests.length) ((n.kids.getD j default).tc), .slice ((n.kids.getD j default).kp) ((n.kids.getD j default).kids.length) ((n.kids.getD j default).kc)] 25 (0, 0)) :: imi (0 < n.kids.length) gA12 (.cells kA14 eA15 zA16) :: MapA mp6 (ents kS vB (setOf (((varsS (n.kids.getD j default)).take 0).foldl addS (hadF n j)))) :: blk bk3 (.cells #[.int .i64 n.kind.v, .string n.var.v, .string n.typ.v, .slice n.tp n.tests.length n.tc, .slice n.kp n.kids.length n.kc] 25 (0, 0)) :: Im 5 (.slice n.kp n.kids.length n.kc) n.kids.length (n.kids.flatMap nodeCell) :: NodesA n.kids :: F) := by rw [← hM95]; exact H93
            have H97 : St W w80 (imi (0 < (varsS (n.kids.getD j default)).length) gA84 (.cells kA86 eA87 zA88) :: Im 1 (.slice pp78 ((varsS (n.kids.getD j default)).length) cc79) ((varsS (n.kids.getD j default)).length) ((varsS (n.kids.getD j default)).flatMap strCell) :: NodeA (n.kids.getD j default) :: imi (0 < n.kids.length) gA12 (.cells kA14 eA15 zA16) :: MapA mp6 (ents kS vB (setOf (((varsS (n.kids.getD j default)).take 0).foldl addS (hadF n j)))) :: blk bk3 (.cells #[.int .i64 n.kind.v, .string n.var.v, .string n.typ.v, .slice n.tp n.tests.length n.tc, .slice n.kp n.kids.length n.kc] 25 (0, 0)) :: Im 5 (.slice n.kp n.kids.length n.kc) n.kids.length (n.kids.flatMap nodeCell) :: NodesA n.kids :: F) := (((((((((H96.move 8 rfl).move 8 rfl).move 8 rfl).move 8 rfl).move 8 rfl).move 7 rfl).move 7 rfl).move 7 rfl).drop 8 rfl)
            refine g_loop_inv (fun (x_ : Nat) => match x_ with | q => [(1, .pointer (some ⟨bk3, 0, none⟩)), (2, .int .i64 0), (3, .map (some mp6)), (11, .slice n.kp n.kids.length n.kc), (12, .int .i64 (n.kids.length : Int)), (13, .int .i64 (j : Int)), (31, .slice pp78 ((varsS (n.kids.getD j default)).length) cc79), (32, .int .i64 ((varsS (n.kids.getD j default)).length : Int)), (33, .int .i64 (q : Int))]) (fun (x_ : Nat) w => match x_ with | q => (q ≤ (varsS (n.kids.getD j default)).length) ∧ (∀ i, i < q → decide ((varsS (n.kids.getD j default)).getD i default ∈ hadF n j) = false) ∧ St W w (imi (0 < (varsS (n.kids.getD j default)).length) gA84 (.cells kA86 eA87 zA88) :: Im 1 (.slice pp78 ((varsS (n.kids.getD j default)).length) cc79) ((varsS (n.kids.getD j default)).length) ((varsS (n.kids.getD j default)).flatMap strCell) :: NodeA (n.kids.getD j default) :: imi (0 < n.kids.length) gA12 (.cells kA14 eA15 zA16) :: MapA mp6 (ents kS vB (setOf (((varsS (n.kids.getD j default)).take q).foldl addS (hadF n j)))) :: blk bk3 (.cells #[.int .i64 n.kind.v, .string n.var.v, .string n.typ.v, .slice n.tp n.tests.length n.tc, .slice n.kp n.kids.length n.kc] 25 (0, 0)) :: Im 5 (.slice n.kp n.kids.length n.kc) n.kids.length (n.kids.flatMap nodeCell) :: NodesA n.kids :: F)) (fun (x_ : Nat) => match x_ with | q => (varsS (n.kids.getD j default)).length - q) (0) ?_ ?_ ?_
            · exact ⟨by first | rfl | exact vint (by omega), by first | rfl | exact vint (by omega), by first | rfl | exact vint (by omega), by first | rfl | exact vint (by omega), by first | rfl | exact vint (by omega), by first | rfl | exact vint (by omega), by first | rfl | exact vint (by omega), by first | rfl | exact vint (by omega), by first | rfl | exact vint (by omega), trivial⟩
            · exact ⟨(by omega), (fun i hi => by omega), H97⟩
            · rintro q ρ98 w99 ⟨hql, hz2, H100⟩ nx101
              change Ends _ _ (upds ρ98 [(1, .pointer (some ⟨bk3, 0, none⟩)), (2, .int .i64 0), (3, .map (some mp6)), (11, .slice n.kp n.kids.length n.kc), (12, .int .i64 (n.kids.length : Int)), (13, .int .i64 (j : Int)), (31, .slice pp78 ((varsS (n.kids.getD j default)).length) cc79), (32, .int .i64 ((varsS (n.kids.getD j default)).length : Int)), (33, .int .i64 (q : Int))]) w99
              refine g_seq ?_
              refine g_region ?_
              by_cases hc102 : (q : Int) < ((varsS (n.kids.getD j default)).length : Int)
              · skip
                refine r_cons (s_lss true rfl rfl (dtrue hc102) rfl ?_)
                refine r_nil ?_
                refine g_seq ?_
                refine g_true rfl ?_
                refine g_skip ?_
                refine g_seq ?_
                refine g_block ?_
                refine g_seq ?_
                refine g_region ?_
                refine r_cons (s_indexAddr gA84 (off := oA85) (q : Int) 1 (oA85 + q * 1) (by exact congrArg (fun z_ => Value.slice z_ ((varsS (n.kids.getD j default)).length) cc79) (hp90 (by omega))) rfl el_36 (by omega) rfl rfl ?_)
                refine r_cons (s_load (.string (((varsS (n.kids.getD j default)).getD q default).v)) ag_9 rfl (H100.imi_at (i := 0) rfl (by omega)) (elem_cell (L := (varsS (n.kids.getD j default))) (i := q) strCell_len (hx91 (by omega)) (by omega) default 0 (by decide) _ rfl) rfl ?_)
                refine r_cons (s_assign (.string (((varsS (n.kids.getD j default)).getD q default).v)) rfl rfl ?_)
                refine r_nil ?_
                refine g_seq ?_
                refine g_seq ?_
                refine g_region ?_
                refine r_cons (s_move (.map (some mp6)) rfl rfl ?_)
                refine r_cons (s_move (.string (((varsS (n.kids.getD j default)).getD q default).v)) rfl rfl ?_)
                refine r_cons (s_lookup (ek := kS) (ev := vB) (L := setOf (((varsS (n.kids.getD j default)).take q).foldl addS (hadF n j))) ((varsS (n.kids.getD j default)).getD q default) (.bool (decide (((varsS (n.kids.getD j default)).getD q default) ∈ (((varsS (n.kids.getD j default)).take q).foldl addS (hadF n j))))) (MapA.at H100 (i := 4) rfl) (KeyLaw.S un_9) un_57 zv_4 rfl rfl (setOf_look _ _) rfl ?_)
                refine r_nil ?_
                by_cases hb103 : (decide (((varsS (n.kids.getD j default)).getD q default) ∈ (((varsS (n.kids.getD j default)).take q).foldl addS (hadF n j)))) = true
                · skip
                  refine g_true (congrArg Value.bool hb103) ?_
                  refine g_seq ?_
                  refine g_region ?_
                  refine r_cons (s_assign (.int .i64 73) rfl rfl ?_)
                  refine r_nil ?_
                  refine g_ret' [.int .i64 73] Try.func21 Try.results21 ⟨rfl, trivial⟩ ?_
                  have H104 : St W w99 F := ((((((((H100.drop 0 rfl).drop 0 rfl).drop 0 rfl).drop 0 rfl).drop 0 rfl).drop 0 rfl).drop 0 rfl).drop 0 rfl)
                  exact ⟨vint (Hres_twice hres (by omega) (by omega) (decide_eq_true (by omega)) (by omega) hb103), H104⟩
                · have hb103 := eq_false_of_ne_true hb103
                  refine g_false (congrArg Value.bool hb103) ?_
                  refine g_skip ?_
                  refine g_region ?_
                  refine r_cons (s_move (.map (some mp6)) rfl rfl ?_)
                  refine r_cons (s_move (.string (((varsS (n.kids.getD j default)).getD q default).v)) rfl rfl ?_)
                  refine r_cons (s_mapUpdate (ek := kS) (ev := vB) (L := setOf (((varsS (n.kids.getD j default)).take q).foldl addS (hadF n j))) ((varsS (n.kids.getD j default)).getD q default) true H100 (i := 4) rfl (KeyLaw.S un_9) un_57 rfl rfl rfl ?_); intro w105 H106
                  have H107 : St W w105 (imi (0 < (varsS (n.kids.getD j default)).length) gA84 (.cells kA86 eA87 zA88) :: Im 1 (.slice pp78 ((varsS (n.kids.getD j default)).length) cc79) ((varsS (n.kids.getD j default)).length) ((varsS (n.kids.getD j default)).flatMap strCell) :: NodeA (n.kids.getD j default) :: imi (0 < n.kids.length) gA12 (.cells kA14 eA15 zA16) :: MapA mp6 (ents kS vB (setOf (addS (((varsS (n.kids.getD j default)).take q).foldl addS (hadF n j)) ((varsS (n.kids.getD j default)).getD q default)))) :: blk bk3 (.cells #[.int .i64 n.kind.v, .string n.var.v, .string n.typ.v, .slice n.tp n.tests.length n.tc, .slice n.kp n.kids.length n.kc] 25 (0, 0)) :: Im 5 (.slice n.kp n.kids.length n.kc) n.kids.length (n.kids.flatMap nodeCell) :: NodesA n.kids :: F) := by have h9 := H106; rw [setOf_set] at h9; exact h9
                  refine r_nil ?_
                  refine g_inBlock ?_
                  refine g_region ?_
                  refine r_cons (s_add ((q : Int) + 1) rfl rfl (wi64 (by omega)) rfl ?_)
                  refine r_cons (s_move (.int .i64 ((q : Int) + 1)) rfl rfl ?_)
                  refine r_nil ?_
                  have hM108 : (addS (((varsS (n.kids.getD j default)).take q).foldl addS (hadF n j)) ((varsS (n.kids.getD j default)).getD q default)) = (((varsS (n.kids.getD j default)).take (q + 1)).foldl addS (hadF n j)) := (fold_stepS addS _ (by omega)).symm
                  have H109 : St W w105 (imi (0 < (varsS (n.kids.getD j default)).length) gA84 (.cells kA86 eA87 zA88) :: Im 1 (.slice pp78 ((varsS (n.kids.getD j default)).length) cc79) ((varsS (n.kids.getD j default)).length) ((varsS (n.kids.getD j default)).flatMap strCell) :: NodeA (n.kids.getD j default) :: imi (0 < n.kids.length) gA12 (.cells kA14 eA15 zA16) :: MapA mp6 (ents kS vB (setOf (((varsS (n.kids.getD j default)).take (q + 1)).foldl addS (hadF n j)))) :: blk bk3 (.cells #[.int .i64 n.kind.v, .string n.var.v, .string n.typ.v, .slice n.tp n.tests.length n.tc, .slice n.kp n.kids.length n.kc] 25 (0, 0)) :: Im 5 (.slice n.kp n.kids.length n.kc) n.kids.length (n.kids.flatMap nodeCell) :: NodesA n.kids :: F) := by rw [← hM108]; exact H107
                  have H110 : St W w105 (imi (0 < (varsS (n.kids.getD j default)).length) gA84 (.cells kA86 eA87 zA88) :: Im 1 (.slice pp78 ((varsS (n.kids.getD j default)).length) cc79) ((varsS (n.kids.getD j default)).length) ((varsS (n.kids.getD j default)).flatMap strCell) :: NodeA (n.kids.getD j default) :: imi (0 < n.kids.length) gA12 (.cells kA14 eA15 zA16) :: MapA mp6 (ents kS vB (setOf (((varsS (n.kids.getD j default)).take (q + 1)).foldl addS (hadF n j)))) :: blk bk3 (.cells #[.int .i64 n.kind.v, .string n.var.v, .string n.typ.v, .slice n.tp n.tests.length n.tc, .slice n.kp n.kids.length n.kc] 25 (0, 0)) :: Im 5 (.slice n.kp n.kids.length n.kc) n.kids.length (n.kids.flatMap nodeCell) :: NodesA n.kids :: F) := ((((((((H109.move 7 rfl).move 7 rfl).move 7 rfl).move 7 rfl).move 7 rfl).move 7 rfl).move 7 rfl).move 7 rfl)
                  exact nx101 (q + 1) _ _ ⟨(by omega), (fun i hi => (Nat.lt_or_ge i q).elim (hz2 i) (fun h => by rw [show i = q from by omega]; exact Hres_new (by omega) hb103)), H110⟩ (by first | (dsimp only; omega) | omega) ⟨by first | rfl | exact vint (by omega), by first | rfl | exact vint (by omega), by first | rfl | exact vint (by omega), by first | rfl | exact vint (by omega), by first | rfl | exact vint (by omega), by first | rfl | exact vint (by omega), by first | rfl | exact vint (by omega), by first | rfl | exact vint (by omega), by first | rfl | exact vint (by omega), trivial⟩
              · skip
                refine r_cons (s_lss false rfl rfl (dfalse hc102) rfl ?_)
                refine r_nil ?_
                refine g_seq ?_
                refine g_false rfl ?_
                refine g_exit (by rfl) ?_
                refine g_inBlock ?_
                refine g_region ?_
                refine r_cons (s_add ((j : Int) + 1) rfl rfl (wi64 (by omega)) rfl ?_)
                refine r_cons (s_move (.int .i64 ((j : Int) + 1)) rfl rfl ?_)
                refine r_nil ?_
                have hM111 : (((varsS (n.kids.getD j default)).take q).foldl addS (hadF n j)) = (hadF n (j + 1)) := hadF_next (decide_eq_true (by omega)) (by omega) (by omega)
                have H112 : St W w99 (imi (0 < (varsS (n.kids.getD j default)).length) gA84 (.cells kA86 eA87 zA88) :: Im 1 (.slice pp78 ((varsS (n.kids.getD j default)).length) cc79) ((varsS (n.kids.getD j default)).length) ((varsS (n.kids.getD j default)).flatMap strCell) :: NodeA (n.kids.getD j default) :: imi (0 < n.kids.length) gA12 (.cells kA14 eA15 zA16) :: MapA mp6 (ents kS vB (setOf (hadF n (j + 1)))) :: blk bk3 (.cells #[.int .i64 n.kind.v, .string n.var.v, .string n.typ.v, .slice n.tp n.tests.length n.tc, .slice n.kp n.kids.length n.kc] 25 (0, 0)) :: Im 5 (.slice n.kp n.kids.length n.kc) n.kids.length (n.kids.flatMap nodeCell) :: NodesA n.kids :: F) := by rw [← hM111]; exact H100
                have H113 : St W w99 (imi (0 < n.kids.length) gA12 (.cells kA14 eA15 zA16) :: MapA mp6 (ents kS vB (setOf (hadF n (j + 1)))) :: blk bk3 (.cells #[.int .i64 n.kind.v, .string n.var.v, .string n.typ.v, .slice n.tp n.tests.length n.tc, .slice n.kp n.kids.length n.kc] 25 (0, 0)) :: Im 5 (.slice n.kp n.kids.length n.kc) n.kids.length (n.kids.flatMap nodeCell) :: NodesA n.kids :: F) := ((((((((H112.move 7 rfl).move 7 rfl).move 7 rfl).move 7 rfl).move 7 rfl).drop 5 rfl).drop 5 rfl).drop 5 rfl)
                exact nx29 (j + 1) _ _ ⟨(by omega), (Hres_next hres (by omega) (by omega) (decide_eq_true (by omega)) (fun i hi => hz2 i (by omega))), H113⟩ (by first | (dsimp only; omega) | omega) ⟨by first | rfl | exact vint (by omega), by first | rfl | exact vint (by omega), by first | rfl | exact vint (by omega), by first | rfl | exact vint (by omega), by first | rfl | exact vint (by omega), by first | rfl | exact vint (by omega), trivial⟩
          · skip
            refine s_neq true rfl rfl (nfalse hc77) rfl ?_
            refine r_cons (s_pick_t (.bool true) rfl rfl rfl ?_)
            refine r_nil ?_
            refine g_true rfl ?_
            refine g_exit (by rfl) ?_
            refine g_region ?_
            refine r_cons (s_add ((j : Int) + 1) rfl rfl (wi64 (by omega)) rfl ?_)
            refine r_cons (s_move (.int .i64 ((j : Int) + 1)) rfl rfl ?_)
            refine r_nil ?_
            have hM114 : (hadF n j) = (hadF n (j + 1)) := hadF_off (decide_eq_false (by omega))
            have H115 : St W w37 (NodeA (n.kids.getD j default) :: blk bk31 (.cells #[.int .i64 ((n.kids.getD j default).kind.v), .string ((n.kids.getD j default).var.v), .string ((n.kids.getD j default).typ.v), .slice ((n.kids.getD j default).tp) ((n.kids.getD j default).tests.length) ((n.kids.getD j default).tc), .slice ((n.kids.getD j default).kp) ((n.kids.getD j default).kids.length) ((n.kids.getD j default).kc)] 25 (0, 0)) :: imi (0 < n.kids.length) gA12 (.cells kA14 eA15 zA16) :: MapA mp6 (ents kS vB (setOf (hadF n (j + 1)))) :: blk bk3 (.cells #[.int .i64 n.kind.v, .string n.var.v, .string n.typ.v, .slice n.tp n.tests.length n.tc, .slice n.kp n.kids.length n.kc] 25 (0, 0)) :: Im 5 (.slice n.kp n.kids.length n.kc) n.kids.length (n.kids.flatMap nodeCell) :: NodesA n.kids :: F) := by rw [← hM114]; exact H38
            have H116 : St W w37 (imi (0 < n.kids.length) gA12 (.cells kA14 eA15 zA16) :: MapA mp6 (ents kS vB (setOf (hadF n (j + 1)))) :: blk bk3 (.cells #[.int .i64 n.kind.v, .string n.var.v, .string n.typ.v, .slice n.tp n.tests.length n.tc, .slice n.kp n.kids.length n.kc] 25 (0, 0)) :: Im 5 (.slice n.kp n.kids.length n.kc) n.kids.length (n.kids.flatMap nodeCell) :: NodesA n.kids :: F) := (((((((H115.move 6 rfl).move 6 rfl).move 6 rfl).move 6 rfl).move 6 rfl).drop 5 rfl).drop 5 rfl)
            exact nx29 (j + 1) _ _ ⟨(by omega), (Hres_off hres (by omega) (by omega) (decide_eq_false (by omega))), H116⟩ (by first | (dsimp only; omega) | omega) ⟨by first | rfl | exact vint (by omega), by first | rfl | exact vint (by omega), by first | rfl | exact vint (by omega), by first | rfl | exact vint (by omega), by first | rfl | exact vint (by omega), by first | rfl | exact vint (by omega), trivial⟩
      · skip
        refine r_cons (s_neq true rfl rfl (nfalse hc39) rfl ?_)
        refine r_nil ?_
        refine g_true rfl ?_
        refine g_seq ?_
        refine g_region ?_
        refine r_cons (s_move (.int .i64 (bindsE (n.kids.getD j default))) rfl rfl ?_)
        refine r_cons (s_assign (.int .i64 (bindsE (n.kids.getD j default))) rfl rfl ?_)
        refine r_nil ?_
        refine g_ret' [.int .i64 (bindsE (n.kids.getD j default))] Try.func21 Try.results21 ⟨rfl, trivial⟩ ?_
        have H117 : St W w37 F := (((((((H38.drop 0 rfl).drop 0 rfl).drop 0 rfl).drop 0 rfl).drop 0 rfl).drop 0 rfl).drop 0 rfl)
        exact ⟨vint (Hres_bad hres (by omega) (by omega)), H117⟩
    · skip
      refine r_cons (s_lss false rfl rfl (dfalse hc30) rfl ?_)
      refine r_nil ?_
      refine g_seq ?_
      refine g_false rfl ?_
      refine g_exit (by rfl) ?_
      refine g_seq ?_
      refine g_region ?_
      refine r_cons (s_assign (.int .i64 0) rfl rfl ?_)
      refine r_nil ?_
      refine g_ret' [.int .i64 0] Try.func21 Try.results21 ⟨rfl, trivial⟩ ?_
      have H118 : St W w27 F := (((((H28.drop 0 rfl).drop 0 rfl).drop 0 rfl).drop 0 rfl).drop 0 rfl)
      exact ⟨vint (Hres_end hres (by omega)), H118⟩
theorem check_Binds {W w : World} {F : List Atom} (n : NodeD)  {i : Nat} (hi : F[i]? = some (NodeA n)) (hz : sizeN n ≤ 1048576) (H : St W w F) : Calls Try.prog 21 #[.agg #[.int .i64 n.kind.v, .string n.var.v, .string n.typ.v, .slice n.tp n.tests.length n.tc, .slice n.kp n.kids.length n.kc]] w (Ret fun v w' => v = .int .i64 (bindsE n) ∧ St W w' F) := check_Binds_r (sizeOf n + 1) n (Nat.lt_succ_self _) hi hz H
set_option maxHeartbeats 4000000 in
set_option maxRecDepth 100000 in
theorem check_operand {W w : World} {F : List Atom} (o : OpdV) (vars : List Str) (vv : Value) {jv : Nat} (hv : F[jv]? = some (Im 1 vv vars.length (vars.flatMap strCell))) (H : St W w F) : Calls Try.prog 46 #[.agg #[.string o.var.v, .string o.attr.v, .int .i64 o.val.kind.v, .int .i64 o.val.n.v, .string o.val.s.v], vv] w (Ret fun v w' => v = .bool (opE o vars) ∧ St W w' F) := by
  obtain ⟨pp1, cc2, rfl, hn3⟩ := Rd.shape (Im.rd H (i := jv) hv)
  have H4 := H.dup (i := jv + 0) (by exact hv) (Im_pers _ _ _ _)
  have H5 : St W w (Im 1 (.slice pp1 vars.length cc2) vars.length (vars.flatMap strCell) :: F) := H4
  refine calls_of_go (n := 37) Try.func46 rfl Try.ntmps46 rfl ?_
  refine g_seq ?_
  refine g_region ?_
  refine r_cons (s_box H5 41 (.agg #[.string o.var.v, .string o.attr.v, .int .i64 o.val.kind.v, .int .i64 o.val.n.v, .string o.val.s.v]) rfl (cs := #[.string o.var.v, .string o.attr.v, .int .i64 o.val.kind.v, .int .i64 o.val.n.v, .string o.val.s.v]) rfl rfl ?_); intro bk6 w7 H8
  refine r_cons (s_assign (.bool false) rfl rfl ?_)
  refine r_nil ?_
  refine g_seq ?_
  refine g_seq ?_
  refine g_region ?_
  refine r_cons (s_fieldAddr 41 1 1 1 9 rfl fi_41_1 rfl rfl ?_)
  refine r_cons (s_load (.string o.attr.v) ag_9 rfl (H8.blk_at (i := 0) rfl) rfl rfl ?_)
  by_cases hc9 : o.attr.v = ByteArray.empty
  · skip
    refine r_cons (s_seql true rfl rfl (dtrue hc9) rfl ?_)
    refine r_nil ?_
    refine g_true rfl ?_
    refine g_seq ?_
    refine g_region ?_
    refine r_cons (s_fieldAddr 41 0 0 0 9 rfl fi_41_0 rfl rfl ?_)
    refine r_cons (s_load (.string o.var.v) ag_9 rfl (H8.blk_at (i := 0) rfl) rfl rfl ?_)
    by_cases hc10 : o.var.v = ByteArray.empty
    · skip
      refine r_cons (s_seql true rfl rfl (dtrue hc10) rfl ?_)
      refine r_cons (s_move (.bool true) rfl rfl ?_)
      refine r_cons (r_take rfl rfl ?_)
      refine s_fieldAddr 41 2 2 2 39 rfl fi_41_2 rfl rfl ?_
      refine r_cons (r_take rfl rfl ?_)
      refine s_loadAgg [.int .i64 o.val.kind.v, .int .i64 o.val.n.v, .string o.val.s.v] 3 ag_39 rfl (H8.blk_at (i := 0) rfl) (Nat.le_of_ble_eq_true rfl) rfl rfl ?_
      refine r_cons (r_take rfl rfl ?_)
      refine s_call [.agg #[.int .i64 o.val.kind.v, .int .i64 o.val.n.v, .string o.val.s.v]] pl_60 rfl rfl (value_Check o.val.kind.v o.val.n.v o.val.s.v H8) ?_
      rintro _ w11 ⟨rfl, H12⟩
      refine r_cons (r_take rfl rfl ?_)
      by_cases hc13 : valE o.val.kind.v o.val.n.v o.val.s.v = 0
      · skip
        refine s_eql true rfl rfl (dtrue hc13) rfl ?_
        refine r_cons (s_pick_t (.bool true) rfl rfl rfl ?_)
        refine r_cons (s_assign (.bool true) rfl rfl ?_)
        refine r_nil ?_
        refine g_ret' [.bool true] Try.func46 Try.results46 ⟨rfl, trivial⟩ ?_
        have H14 : St W w11 F := ((H12.drop 0 rfl).drop 0 rfl)
        exact ⟨congrArg Value.bool (show (true) = opE o vars from by unfold opE; rw [if_pos hc9]; rw [decide_eq_true hc10]; rw [decide_eq_true hc13]; rfl), H14⟩
      · skip
        refine s_eql false rfl rfl (dfalse hc13) rfl ?_
        refine r_cons (s_pick_t (.bool false) rfl rfl rfl ?_)
        refine r_cons (s_assign (.bool false) rfl rfl ?_)
        refine r_nil ?_
        refine g_ret' [.bool false] Try.func46 Try.results46 ⟨rfl, trivial⟩ ?_
        have H15 : St W w11 F := ((H12.drop 0 rfl).drop 0 rfl)
        exact ⟨congrArg Value.bool (show (false) = opE o vars from by unfold opE; rw [if_pos hc9]; rw [decide_eq_true hc10]; rw [decide_eq_false hc13]; rfl), H15⟩
    · skip
      refine r_cons (s_seql false rfl rfl (dfalse hc10) rfl ?_)
      refine r_cons (s_move (.bool false) rfl rfl ?_)
      refine r_cons (r_pass rfl rfl rfl rfl rfl ?_)
      refine r_cons (r_pass rfl rfl rfl rfl rfl ?_)
      refine r_cons (r_pass rfl rfl rfl rfl rfl ?_)
      refine r_cons (r_pass rfl rfl rfl rfl rfl ?_)
      refine r_cons (s_pick_f (.bool false) rfl rfl rfl ?_)
      refine r_cons (s_assign (.bool false) rfl rfl ?_)
      refine r_nil ?_
      refine g_ret' [.bool false] Try.func46 Try.results46 ⟨rfl, trivial⟩ ?_
      have H16 : St W w7 F := ((H8.drop 0 rfl).drop 0 rfl)
      exact ⟨congrArg Value.bool (show (false) = opE o vars from by unfold opE; rw [if_pos hc9]; rw [decide_eq_false hc10]; rfl), H16⟩
  · skip
    refine r_cons (s_seql false rfl rfl (dfalse hc9) rfl ?_)
    refine r_nil ?_
    refine g_false rfl ?_
    refine g_skip ?_
    refine g_seq ?_
    refine g_seq ?_
    refine g_region ?_
    refine r_cons (s_fieldAddr 41 2 2 2 39 rfl fi_41_2 rfl rfl ?_)
    refine r_cons (s_loadAgg [.int .i64 o.val.kind.v, .int .i64 o.val.n.v, .string o.val.s.v] 3 ag_39 rfl (H8.blk_at (i := 0) rfl) (Nat.le_of_ble_eq_true rfl) rfl rfl ?_)
    refine r_cons (s_build (cs := #[.int .i64 0, .int .i64 0, .string ByteArray.empty]) (by kernel_rfl) rfl ?_)
    refine r_cons (s_aneq (!(sameVal o.val default)) gd_39 ev_39 rfl rfl rfl rfl ?_)
    refine r_cons (s_move (.bool (!(sameVal o.val default))) rfl rfl ?_)
    by_cases hb17 : (!(sameVal o.val default)) = true
    · skip
      refine r_cons (r_pass rfl (congrArg some hb17) rfl rfl rfl ?_)
      refine r_cons (r_pass rfl (congrArg some hb17) rfl rfl rfl ?_)
      refine r_cons (r_pass rfl (congrArg some hb17) rfl rfl rfl ?_)
      refine r_cons (r_pass rfl (congrArg some hb17) rfl rfl rfl ?_)
      refine r_cons (s_pick_t (.bool true) (by exact congrArg Value.bool hb17) rfl rfl ?_)
      refine r_nil ?_
      refine g_true rfl ?_
      refine g_seq ?_
      refine g_region ?_
      refine r_cons (s_assign (.bool false) rfl rfl ?_)
      refine r_nil ?_
      refine g_ret' [.bool false] Try.func46 Try.results46 ⟨rfl, trivial⟩ ?_
      have H18 : St W w7 F := ((H8.drop 0 rfl).drop 0 rfl)
      exact ⟨congrArg Value.bool (show (false) = opE o vars from by unfold opE; rw [if_neg hc9]; first | (simp only [hb17]; rfl) | (simp [hb17]; done) | (simp_all; done)), H18⟩
    · have hb17 := eq_false_of_ne_true hb17
      refine r_cons (r_take rfl (congrArg some hb17) ?_)
      refine s_fieldAddr 41 1 1 1 9 rfl fi_41_1 rfl rfl ?_
      refine r_cons (r_take rfl (congrArg some hb17) ?_)
      refine s_load (.string o.attr.v) ag_9 rfl (H8.blk_at (i := 0) rfl) rfl rfl ?_
      refine r_cons (r_take rfl (congrArg some hb17) ?_)
      refine s_call [.string o.attr.v] pl_37 rfl rfl (value_Name o.attr.v o.attr.ok H8) ?_
      rintro _ w19 ⟨rfl, H20⟩
      refine r_cons (r_take rfl (congrArg some hb17) ?_)
      refine s_not (nameB o.attr.v) rfl (!(nameB o.attr.v)) rfl rfl ?_
      refine r_cons (s_pick_f (.bool (!(nameB o.attr.v))) (by exact congrArg Value.bool hb17) rfl rfl ?_)
      refine r_nil ?_
      by_cases hb21 : (!(nameB o.attr.v)) = true
      · skip
        refine g_true (congrArg Value.bool hb21) ?_
        refine g_seq ?_
        refine g_region ?_
        refine r_cons (s_assign (.bool false) rfl rfl ?_)
        refine r_nil ?_
        refine g_ret' [.bool false] Try.func46 Try.results46 ⟨rfl, trivial⟩ ?_
        have H22 : St W w19 F := ((H20.drop 0 rfl).drop 0 rfl)
        exact ⟨congrArg Value.bool (show (false) = opE o vars from by unfold opE; rw [if_neg hc9]; first | (simp only [hb17, hb21]; rfl) | (simp [hb17, hb21]; done) | (simp_all; done)), H22⟩
      · have hb21 := eq_false_of_ne_true hb21
        refine g_false (congrArg Value.bool hb21) ?_
        refine g_skip ?_
        refine g_seq ?_
        refine g_seq ?_
        refine g_region ?_
        refine r_cons (s_move (.slice pp1 vars.length cc2) rfl rfl ?_)
        refine r_cons (s_len vars.length rfl ⟨_, un_36⟩ rfl ?_)
        by_cases hc23 : (vars.length : Int) = 0
        · skip
          refine r_cons (s_eql true rfl rfl (dtrue hc23) rfl ?_)
          refine r_nil ?_
          refine g_true rfl ?_
          refine g_seq ?_
          refine g_region ?_
          refine r_cons (s_fieldAddr 41 0 0 0 9 rfl fi_41_0 rfl rfl ?_)
          refine r_cons (s_load (.string o.var.v) ag_9 rfl (H20.blk_at (i := 0) rfl) rfl rfl ?_)
          by_cases hc24 : o.var.v = ByteArray.empty
          · skip
            refine r_cons (s_seql true rfl rfl (dtrue hc24) rfl ?_)
            refine r_cons (s_assign (.bool true) rfl rfl ?_)
            refine r_nil ?_
            refine g_ret' [.bool true] Try.func46 Try.results46 ⟨rfl, trivial⟩ ?_
            have H25 : St W w19 F := ((H20.drop 0 rfl).drop 0 rfl)
            exact ⟨congrArg Value.bool (show (true) = opE o vars from by unfold opE; rw [if_neg hc9]; rw [if_pos (show vars.length = 0 from by omega)]; first | (simp only [hb17, hb21]; rfl) | (simp [hb17, hb21, hc24, hc23]; done) | (simp_all; done)), H25⟩
          · skip
            refine r_cons (s_seql false rfl rfl (dfalse hc24) rfl ?_)
            refine r_cons (s_assign (.bool false) rfl rfl ?_)
            refine r_nil ?_
            refine g_ret' [.bool false] Try.func46 Try.results46 ⟨rfl, trivial⟩ ?_
            have H26 : St W w19 F := ((H20.drop 0 rfl).drop 0 rfl)
            exact ⟨congrArg Value.bool (show (false) = opE o vars from by unfold opE; rw [if_neg hc9]; rw [if_pos (show vars.length = 0 from by omega)]; first | (simp only [hb17, hb21]; rfl) | (simp [hb17, hb21, hc24, hc23]; done) | (simp_all; done)), H26⟩
        · skip
          refine r_cons (s_eql false rfl rfl (dfalse hc23) rfl ?_)
          refine r_nil ?_
          refine g_false rfl ?_
          refine g_skip ?_
          refine g_seq ?_
          refine g_region ?_
          refine r_cons (s_move (.slice pp1 vars.length cc2) rfl rfl ?_)
          refine r_cons (s_fieldAddr 41 0 0 0 9 rfl fi_41_0 rfl rfl ?_)
          refine r_cons (s_load (.string o.var.v) ag_9 rfl (H20.blk_at (i := 0) rfl) rfl rfl ?_)
          refine r_cons (s_call [.slice pp1 vars.length cc2, .string o.var.v] pl_48 rfl rfl (Contains_str vars (.slice pp1 vars.length cc2) o.var.v (m := 1) rfl H20) ?_)
          rintro _ w27 ⟨rfl, H28⟩
          refine r_cons (s_assign (.bool (hasS vars o.var.v)) rfl rfl ?_)
          refine r_nil ?_
          refine g_ret' [.bool (hasS vars o.var.v)] Try.func46 Try.results46 ⟨rfl, trivial⟩ ?_
          have H29 : St W w27 F := ((H28.drop 0 rfl).drop 0 rfl)
          exact ⟨congrArg Value.bool (show (hasS vars o.var.v) = opE o vars from by unfold opE; rw [if_neg hc9]; rw [if_neg (show ¬ vars.length = 0 from by omega)]; first | (simp only [hb17, hb21]; rfl) | (simp [hb17, hb21, hc23]; done) | (simp_all; done)), H29⟩
set_option maxHeartbeats 4000000 in
set_option maxRecDepth 100000 in
theorem check_Cond {W w : World} {F : List Atom} (c : CondV) (vars : List Str) (vv : Value) {jv : Nat} (hv : F[jv]? = some (Im 1 vv vars.length (vars.flatMap strCell))) (H : St W w F) : Calls Try.prog 28 #[.agg #[.string c.left.var.v, .string c.left.attr.v, .int .i64 c.left.val.kind.v, .int .i64 c.left.val.n.v, .string c.left.val.s.v, .int .i64 c.rel.v, .string c.right.var.v, .string c.right.attr.v, .int .i64 c.right.val.kind.v, .int .i64 c.right.val.n.v, .string c.right.val.s.v], vv] w (Ret fun v w' => v = .int .i64 (condE c vars) ∧ St W w' F) := by
  obtain ⟨pp1, cc2, rfl, hn3⟩ := Rd.shape (Im.rd H (i := jv) hv)
  have H4 := H.dup (i := jv + 0) (by exact hv) (Im_pers _ _ _ _)
  have H5 : St W w (Im 1 (.slice pp1 vars.length cc2) vars.length (vars.flatMap strCell) :: F) := H4
  refine calls_of_go (n := 39) Try.func28 rfl Try.ntmps28 rfl ?_
  refine g_seq ?_
  refine g_region ?_
  refine r_cons (s_box H5 43 (.agg #[.string c.left.var.v, .string c.left.attr.v, .int .i64 c.left.val.kind.v, .int .i64 c.left.val.n.v, .string c.left.val.s.v, .int .i64 c.rel.v, .string c.right.var.v, .string c.right.attr.v, .int .i64 c.right.val.kind.v, .int .i64 c.right.val.n.v, .string c.right.val.s.v]) rfl (cs := #[.string c.left.var.v, .string c.left.attr.v, .int .i64 c.left.val.kind.v, .int .i64 c.left.val.n.v, .string c.left.val.s.v, .int .i64 c.rel.v, .string c.right.var.v, .string c.right.attr.v, .int .i64 c.right.val.kind.v, .int .i64 c.right.val.n.v, .string c.right.val.s.v]) rfl rfl ?_); intro bk6 w7 H8
  refine r_cons (s_assign (.int .i64 0) rfl rfl ?_)
  refine r_nil ?_
  refine g_seq ?_
  refine g_seq ?_
  refine g_region ?_
  refine r_cons (s_fieldAddr 43 1 5 5 3 rfl fi_43_1 rfl rfl ?_)
  refine r_cons (s_load (.int .i64 c.rel.v) ag_3 rfl (H8.blk_at (i := 0) rfl) rfl rfl ?_)
  by_cases hc9 : c.rel.v < 1
  · skip
    refine r_cons (s_lss true rfl rfl (dtrue hc9) rfl ?_)
    refine r_cons (s_move (.bool true) rfl rfl ?_)
    refine r_cons (r_pass rfl rfl rfl rfl rfl ?_)
    refine r_cons (r_pass rfl rfl rfl rfl rfl ?_)
    refine r_cons (r_pass rfl rfl rfl rfl rfl ?_)
    refine r_cons (s_pick_t (.bool true) rfl rfl rfl ?_)
    refine r_cons (s_move (.bool true) rfl rfl ?_)
    refine r_cons (r_pass rfl rfl rfl rfl rfl ?_)
    refine r_cons (r_pass rfl rfl rfl rfl rfl ?_)
    refine r_cons (r_pass rfl rfl rfl rfl rfl ?_)
    refine r_cons (r_pass rfl rfl rfl rfl rfl ?_)
    refine r_cons (r_pass rfl rfl rfl rfl rfl ?_)
    refine r_cons (s_pick_t (.bool true) rfl rfl rfl ?_)
    refine r_cons (s_move (.bool true) rfl rfl ?_)
    refine r_cons (r_pass rfl rfl rfl rfl rfl ?_)
    refine r_cons (r_pass rfl rfl rfl rfl rfl ?_)
    refine r_cons (r_pass rfl rfl rfl rfl rfl ?_)
    refine r_cons (r_pass rfl rfl rfl rfl rfl ?_)
    refine r_cons (r_pass rfl rfl rfl rfl rfl ?_)
    refine r_cons (s_pick_t (.bool true) rfl rfl rfl ?_)
    refine r_cons (s_move (.bool true) rfl rfl ?_)
    refine r_cons (r_pass rfl rfl rfl rfl rfl ?_)
    refine r_cons (r_pass rfl rfl rfl rfl rfl ?_)
    refine r_cons (r_pass rfl rfl rfl rfl rfl ?_)
    refine r_cons (r_pass rfl rfl rfl rfl rfl ?_)
    refine r_cons (r_pass rfl rfl rfl rfl rfl ?_)
    refine r_cons (r_passN rfl rfl rfl rfl ?_)
    refine r_cons (r_passN rfl rfl rfl rfl ?_)
    refine r_cons (r_passN rfl rfl rfl rfl ?_)
    refine r_cons (r_passN rfl rfl rfl rfl ?_)
    refine r_cons (r_pass rfl rfl rfl rfl rfl ?_)
    refine r_cons (s_pick_t (.bool true) rfl rfl rfl ?_)
    refine r_nil ?_
    refine g_true rfl ?_
    refine g_seq ?_
    refine g_region ?_
    refine r_cons (s_assign (.int .i64 74) rfl rfl ?_)
    refine r_nil ?_
    refine g_ret' [.int .i64 74] Try.func28 Try.results28 ⟨rfl, trivial⟩ ?_
    have H10 : St W w7 F := ((H8.drop 0 rfl).drop 0 rfl)
    exact ⟨vint (by unfold condE; rw [if_pos (by simp [hc9])]), H10⟩
  · skip
    refine r_cons (s_lss false rfl rfl (dfalse hc9) rfl ?_)
    refine r_cons (s_move (.bool false) rfl rfl ?_)
    refine r_cons (r_take rfl rfl ?_)
    refine s_fieldAddr 43 1 5 5 3 rfl fi_43_1 rfl rfl ?_
    refine r_cons (r_take rfl rfl ?_)
    refine s_load (.int .i64 c.rel.v) ag_3 rfl (H8.blk_at (i := 0) rfl) rfl rfl ?_
    refine r_cons (r_take rfl rfl ?_)
    by_cases hc11 : (6 : Int) < c.rel.v
    · skip
      refine s_gtr true rfl rfl (dtrue hc11) rfl ?_
      refine r_cons (s_pick_f (.bool true) rfl rfl rfl ?_)
      refine r_cons (s_move (.bool true) rfl rfl ?_)
      refine r_cons (r_pass rfl rfl rfl rfl rfl ?_)
      refine r_cons (r_pass rfl rfl rfl rfl rfl ?_)
      refine r_cons (r_pass rfl rfl rfl rfl rfl ?_)
      refine r_cons (r_pass rfl rfl rfl rfl rfl ?_)
      refine r_cons (r_pass rfl rfl rfl rfl rfl ?_)
      refine r_cons (s_pick_t (.bool true) rfl rfl rfl ?_)
      refine r_cons (s_move (.bool true) rfl rfl ?_)
      refine r_cons (r_pass rfl rfl rfl rfl rfl ?_)
      refine r_cons (r_pass rfl rfl rfl rfl rfl ?_)
      refine r_cons (r_pass rfl rfl rfl rfl rfl ?_)
      refine r_cons (r_pass rfl rfl rfl rfl rfl ?_)
      refine r_cons (r_pass rfl rfl rfl rfl rfl ?_)
      refine r_cons (s_pick_t (.bool true) rfl rfl rfl ?_)
      refine r_cons (s_move (.bool true) rfl rfl ?_)
      refine r_cons (r_pass rfl rfl rfl rfl rfl ?_)
      refine r_cons (r_pass rfl rfl rfl rfl rfl ?_)
      refine r_cons (r_pass rfl rfl rfl rfl rfl ?_)
      refine r_cons (r_pass rfl rfl rfl rfl rfl ?_)
      refine r_cons (r_pass rfl rfl rfl rfl rfl ?_)
      refine r_cons (r_passN rfl rfl rfl rfl ?_)
      refine r_cons (r_passN rfl rfl rfl rfl ?_)
      refine r_cons (r_passN rfl rfl rfl rfl ?_)
      refine r_cons (r_passN rfl rfl rfl rfl ?_)
      refine r_cons (r_pass rfl rfl rfl rfl rfl ?_)
      refine r_cons (s_pick_t (.bool true) rfl rfl rfl ?_)
      refine r_nil ?_
      refine g_true rfl ?_
      refine g_seq ?_
      refine g_region ?_
      refine r_cons (s_assign (.int .i64 74) rfl rfl ?_)
      refine r_nil ?_
      refine g_ret' [.int .i64 74] Try.func28 Try.results28 ⟨rfl, trivial⟩ ?_
      have H12 : St W w7 F := ((H8.drop 0 rfl).drop 0 rfl)
      exact ⟨vint (by unfold condE; rw [if_pos (by simp [hc9, hc11])]), H12⟩
    · skip
      refine s_gtr false rfl rfl (dfalse hc11) rfl ?_
      refine r_cons (s_pick_f (.bool false) rfl rfl rfl ?_)
      refine r_cons (s_move (.bool false) rfl rfl ?_)
      refine r_cons (r_take rfl rfl ?_)
      refine s_fieldAddr 43 0 0 0 41 rfl fi_43_0 rfl rfl ?_
      refine r_cons (r_take rfl rfl ?_)
      refine s_loadAgg [.string c.left.var.v, .string c.left.attr.v, .int .i64 c.left.val.kind.v, .int .i64 c.left.val.n.v, .string c.left.val.s.v] 5 ag_41 rfl (H8.blk_at (i := 0) rfl) (Nat.le_of_ble_eq_true rfl) rfl rfl ?_
      refine r_cons (r_take rfl rfl ?_)
      refine s_move (.slice pp1 vars.length cc2) rfl rfl ?_
      refine r_cons (r_take rfl rfl ?_)
      refine s_call [.agg #[.string c.left.var.v, .string c.left.attr.v, .int .i64 c.left.val.kind.v, .int .i64 c.left.val.n.v, .string c.left.val.s.v], .slice pp1 vars.length cc2] pl_46 rfl rfl (check_operand c.left vars (.slice pp1 vars.length cc2) (jv := 1) rfl H8) ?_
      rintro _ w13 ⟨rfl, H14⟩
      refine r_cons (r_take rfl rfl ?_)
      refine s_not (opE c.left vars) rfl (!(opE c.left vars)) rfl rfl ?_
      refine r_cons (s_pick_f (.bool (!(opE c.left vars))) rfl rfl rfl ?_)
      refine r_cons (s_move (.bool (!(opE c.left vars))) rfl rfl ?_)
      by_cases hb15 : (!(opE c.left vars)) = true
      · skip
        refine r_cons (r_pass rfl (congrArg some hb15) rfl rfl rfl ?_)
        refine r_cons (r_pass rfl (congrArg some hb15) rfl rfl rfl ?_)
        refine r_cons (r_pass rfl (congrArg some hb15) rfl rfl rfl ?_)
        refine r_cons (r_pass rfl (congrArg some hb15) rfl rfl rfl ?_)
        refine r_cons (r_pass rfl (congrArg some hb15) rfl rfl rfl ?_)
        refine r_cons (s_pick_t (.bool true) (by exact congrArg Value.bool hb15) rfl rfl ?_)
        refine r_cons (s_move (.bool true) rfl rfl ?_)
        refine r_cons (r_pass rfl rfl rfl rfl rfl ?_)
        refine r_cons (r_pass rfl rfl rfl rfl rfl ?_)
        refine r_cons (r_pass rfl rfl rfl rfl rfl ?_)
        refine r_cons (r_pass rfl rfl rfl rfl rfl ?_)
        refine r_cons (r_pass rfl rfl rfl rfl rfl ?_)
        refine r_cons (r_passN rfl rfl rfl rfl ?_)
        refine r_cons (r_passN rfl rfl rfl rfl ?_)
        refine r_cons (r_passN rfl rfl rfl rfl ?_)
        refine r_cons (r_passN rfl rfl rfl rfl ?_)
        refine r_cons (r_pass rfl rfl rfl rfl rfl ?_)
        refine r_cons (s_pick_t (.bool true) rfl rfl rfl ?_)
        refine r_nil ?_
        refine g_true rfl ?_
        refine g_seq ?_
        refine g_region ?_
        refine r_cons (s_assign (.int .i64 74) rfl rfl ?_)
        refine r_nil ?_
        refine g_ret' [.int .i64 74] Try.func28 Try.results28 ⟨rfl, trivial⟩ ?_
        have hb16 : ((opE c.left vars)) = false := by simpa using hb15
        have H17 : St W w13 F := ((H14.drop 0 rfl).drop 0 rfl)
        exact ⟨vint (by unfold condE; rw [if_pos (by simp [hc9, hc11, hb16])]), H17⟩
      · have hb15 := eq_false_of_ne_true hb15
        refine r_cons (r_take rfl (congrArg some hb15) ?_)
        refine s_fieldAddr 43 2 6 6 41 rfl fi_43_2 rfl rfl ?_
        refine r_cons (r_take rfl (congrArg some hb15) ?_)
        refine s_loadAgg [.string c.right.var.v, .string c.right.attr.v, .int .i64 c.right.val.kind.v, .int .i64 c.right.val.n.v, .string c.right.val.s.v] 5 ag_41 rfl (H14.blk_at (i := 0) rfl) (Nat.le_of_ble_eq_true rfl) rfl rfl ?_
        refine r_cons (r_take rfl (congrArg some hb15) ?_)
        refine s_move (.slice pp1 vars.length cc2) rfl rfl ?_
        refine r_cons (r_take rfl (congrArg some hb15) ?_)
        refine s_call [.agg #[.string c.right.var.v, .string c.right.attr.v, .int .i64 c.right.val.kind.v, .int .i64 c.right.val.n.v, .string c.right.val.s.v], .slice pp1 vars.length cc2] pl_46 rfl rfl (check_operand c.right vars (.slice pp1 vars.length cc2) (jv := 1) rfl H14) ?_
        rintro _ w18 ⟨rfl, H19⟩
        refine r_cons (r_take rfl (congrArg some hb15) ?_)
        refine s_not (opE c.right vars) rfl (!(opE c.right vars)) rfl rfl ?_
        refine r_cons (s_pick_f (.bool (!(opE c.right vars))) (by exact congrArg Value.bool hb15) rfl rfl ?_)
        refine r_cons (s_move (.bool (!(opE c.right vars))) rfl rfl ?_)
        by_cases hb20 : (!(opE c.right vars)) = true
        · skip
          refine r_cons (r_pass rfl (congrArg some hb20) rfl rfl rfl ?_)
          refine r_cons (r_pass rfl (congrArg some hb20) rfl rfl rfl ?_)
          refine r_cons (r_pass rfl (congrArg some hb20) rfl rfl rfl ?_)
          refine r_cons (r_pass rfl (congrArg some hb20) rfl rfl rfl ?_)
          refine r_cons (r_pass rfl (congrArg some hb20) rfl rfl rfl ?_)
          refine r_cons (r_passN rfl rfl rfl rfl ?_)
          refine r_cons (r_passN rfl rfl rfl rfl ?_)
          refine r_cons (r_passN rfl rfl rfl rfl ?_)
          refine r_cons (r_passN rfl rfl rfl rfl ?_)
          refine r_cons (r_pass rfl (congrArg some hb20) rfl rfl rfl ?_)
          refine r_cons (s_pick_t (.bool true) (by exact congrArg Value.bool hb20) rfl rfl ?_)
          refine r_nil ?_
          refine g_true rfl ?_
          refine g_seq ?_
          refine g_region ?_
          refine r_cons (s_assign (.int .i64 74) rfl rfl ?_)
          refine r_nil ?_
          refine g_ret' [.int .i64 74] Try.func28 Try.results28 ⟨rfl, trivial⟩ ?_
          have hb21 : ((opE c.left vars)) = true := by simpa using hb15
          have hb22 : ((opE c.right vars)) = false := by simpa using hb20
          have H23 : St W w18 F := ((H19.drop 0 rfl).drop 0 rfl)
          exact ⟨vint (by unfold condE; rw [if_pos (by simp [hc9, hc11, hb21, hb22])]), H23⟩
        · have hb20 := eq_false_of_ne_true hb20
          refine r_cons (r_take rfl (congrArg some hb20) ?_)
          refine s_fieldAddr 43 0 0 0 41 rfl fi_43_0 rfl rfl ?_
          refine r_cons (r_take rfl (congrArg some hb20) ?_)
          refine s_fieldAddr 41 1 1 1 9 rfl fi_41_1 rfl rfl ?_
          refine r_cons (r_take rfl (congrArg some hb20) ?_)
          refine s_load (.string c.left.attr.v) ag_9 rfl (H19.blk_at (i := 0) rfl) rfl rfl ?_
          refine r_cons (r_take rfl (congrArg some hb20) ?_)
          by_cases hc24 : c.left.attr.v = ByteArray.empty
          · skip
            refine s_seql true rfl rfl (dtrue hc24) rfl ?_
            refine r_cons (r_take rfl (congrArg some hb20) ?_)
            refine s_move (.bool true) rfl rfl ?_
            refine r_cons (r_take rfl rfl ?_)
            refine s_fieldAddr 43 2 6 6 41 rfl fi_43_2 rfl rfl ?_
            refine r_cons (r_take rfl rfl ?_)
            refine s_fieldAddr 41 1 1 7 9 rfl fi_41_1 rfl rfl ?_
            refine r_cons (r_take rfl rfl ?_)
            refine s_load (.string c.right.attr.v) ag_9 rfl (H19.blk_at (i := 0) rfl) rfl rfl ?_
            refine r_cons (r_take rfl rfl ?_)
            by_cases hc25 : c.right.attr.v = ByteArray.empty
            · skip
              refine s_seql true rfl rfl (dtrue hc25) rfl ?_
              refine r_cons (r_take rfl (congrArg some hb20) ?_)
              refine s_pick_t (.bool true) rfl rfl rfl ?_
              refine r_cons (s_pick_f (.bool true) (by exact congrArg Value.bool hb20) rfl rfl ?_)
              refine r_nil ?_
              refine g_true rfl ?_
              refine g_seq ?_
              refine g_region ?_
              refine r_cons (s_assign (.int .i64 74) rfl rfl ?_)
              refine r_nil ?_
              refine g_ret' [.int .i64 74] Try.func28 Try.results28 ⟨rfl, trivial⟩ ?_
              have hb26 : ((opE c.left vars)) = true := by simpa using hb15
              have hb27 : ((opE c.right vars)) = true := by simpa using hb20
              have H28 : St W w18 F := ((H19.drop 0 rfl).drop 0 rfl)
              exact ⟨vint (by unfold condE; rw [if_pos (by simp [hc9, hc11, hc24, hc25, hb26, hb27])]), H28⟩
            · skip
              refine s_seql false rfl rfl (dfalse hc25) rfl ?_
              refine r_cons (r_take rfl (congrArg some hb20) ?_)
              refine s_pick_t (.bool false) rfl rfl rfl ?_
              refine r_cons (s_pick_f (.bool false) (by exact congrArg Value.bool hb20) rfl rfl ?_)
              refine r_nil ?_
              refine g_false rfl ?_
              refine g_skip ?_
              refine g_seq ?_
              refine g_region ?_
              refine r_cons (s_assign (.int .i64 0) rfl rfl ?_)
              refine r_nil ?_
              refine g_ret' [.int .i64 0] Try.func28 Try.results28 ⟨rfl, trivial⟩ ?_
              have hb29 : ((opE c.left vars)) = true := by simpa using hb15
              have hb30 : ((opE c.right vars)) = true := by simpa using hb20
              have H31 : St W w18 F := ((H19.drop 0 rfl).drop 0 rfl)
              exact ⟨vint (by unfold condE; rw [if_neg (by simp [hc9, hc11, hc24, hc25, hb29, hb30])]), H31⟩
          · skip
            refine s_seql false rfl rfl (dfalse hc24) rfl ?_
            refine r_cons (r_take rfl (congrArg some hb20) ?_)
            refine s_move (.bool false) rfl rfl ?_
            refine r_cons (r_pass rfl rfl rfl rfl rfl ?_)
            refine r_cons (r_pass rfl rfl rfl rfl rfl ?_)
            refine r_cons (r_pass rfl rfl rfl rfl rfl ?_)
            refine r_cons (r_pass rfl rfl rfl rfl rfl ?_)
            refine r_cons (r_take rfl (congrArg some hb20) ?_)
            refine s_pick_f (.bool false) rfl rfl rfl ?_
            refine r_cons (s_pick_f (.bool false) (by exact congrArg Value.bool hb20) rfl rfl ?_)
            refine r_nil ?_
            refine g_false rfl ?_
            refine g_skip ?_
            refine g_seq ?_
            refine g_region ?_
            refine r_cons (s_assign (.int .i64 0) rfl rfl ?_)
            refine r_nil ?_
            refine g_ret' [.int .i64 0] Try.func28 Try.results28 ⟨rfl, trivial⟩ ?_
            have hb32 : ((opE c.left vars)) = true := by simpa using hb15
            have hb33 : ((opE c.right vars)) = true := by simpa using hb20
            have H34 : St W w18 F := ((H19.drop 0 rfl).drop 0 rfl)
            exact ⟨vint (by unfold condE; rw [if_neg (by simp [hc9, hc11, hc24, hb32, hb33])]), H34⟩
set_option maxHeartbeats 4000000 in
set_option maxRecDepth 100000 in
theorem check_conds {W w : World} {F : List Atom} (l : List CondV) (lv : Value) (vars : List Str) (vv : Value) {m : Nat} (hm : F[m]? = some (Im 11 lv l.length (l.flatMap condCell))) {jv : Nat} (hv : F[jv]? = some (Im 1 vv vars.length (vars.flatMap strCell))) (H : St W w F) : Calls Try.prog 38 #[lv, vv] w (Ret fun v w' => v = .int .i64 (condsE l vars) ∧ St W w' F) := by
  obtain ⟨pp1, cc2, rfl, hn3⟩ := Rd.shape (Im.rd H (i := m) hm)
  have H4 := H.dup (i := m + 0) (by exact hm) (Im_pers _ _ _ _)
  have H5 : St W w (Im 11 (.slice pp1 l.length cc2) l.length (l.flatMap condCell) :: F) := H4
  obtain ⟨pp6, cc7, rfl, hn8⟩ := Rd.shape (Im.rd H (i := jv) hv)
  have H9 := H5.dup (i := jv + 1) (by exact hv) (Im_pers _ _ _ _)
  have H10 : St W w (Im 1 (.slice pp6 vars.length cc7) vars.length (vars.flatMap strCell) :: Im 11 (.slice pp1 l.length cc2) l.length (l.flatMap condCell) :: F) := H9
  obtain ⟨pA11, cA12, gA13, oA14, kA15, eA16, zA17, he23, hn18, hp19, hx20, hs21, hml, H22⟩ := Im.open_ H10 (i := 1) rfl
  obtain ⟨rfl, rfl⟩ : pp1 = pA11 ∧ cc2 = cA12 := by injection he23 with a_ b_ c_; exact ⟨a_, c_⟩
  refine calls_of_go (n := 24) Try.func38 rfl Try.ntmps38 rfl ?_
  refine g_seq ?_
  refine g_region ?_
  refine r_cons (s_assign (.int .i64 0) rfl rfl ?_)
  refine r_nil ?_
  refine g_seq ?_
  refine g_seq ?_
  refine g_region ?_
  refine r_cons (s_move (.slice pp1 l.length cc2) rfl rfl ?_)
  refine r_cons (s_len l.length rfl ⟨_, un_22⟩ rfl ?_)
  by_cases hc24 : (16 : Int) < (l.length : Int)
  · skip
    refine r_cons (s_gtr true rfl rfl (dtrue hc24) rfl ?_)
    refine r_nil ?_
    refine g_true rfl ?_
    refine g_seq ?_
    refine g_region ?_
    refine r_cons (s_assign (.int .i64 74) rfl rfl ?_)
    refine r_nil ?_
    refine g_ret' [.int .i64 74] Try.func38 Try.results38 ⟨rfl, trivial⟩ ?_
    have H25 : St W w F := (((H22.drop 0 rfl).drop 0 rfl).drop 0 rfl)
    exact ⟨vint (by unfold condsE; rw [if_pos (by omega)]), H25⟩
  · skip
    refine r_cons (s_gtr false rfl rfl (dfalse hc24) rfl ?_)
    refine r_nil ?_
    refine g_false rfl ?_
    refine g_skip ?_
    refine g_seq ?_
    refine g_seq ?_
    refine g_region ?_
    refine r_cons (s_move (.slice pp1 l.length cc2) rfl rfl ?_)
    refine r_cons (s_len l.length rfl ⟨_, un_22⟩ rfl ?_)
    refine r_cons (s_move (.int .i64 0) rfl rfl ?_)
    refine r_nil ?_
    refine g_block ?_
    have H26 : St W w (imi (0 < l.length) gA13 (.cells kA15 eA16 zA17) :: Im 1 (.slice pp6 vars.length cc7) vars.length (vars.flatMap strCell) :: Im 11 (.slice pp1 l.length cc2) l.length (l.flatMap condCell) :: F) := (((H22.move 2 rfl).move 2 rfl).move 2 rfl)
    refine g_loop_inv (fun (x_ : Nat) => match x_ with | j => [(1, .slice pp6 vars.length cc7), (4, .int .i64 0), (11, .slice pp1 l.length cc2), (12, .int .i64 (l.length : Int)), (13, .int .i64 (j : Int))]) (fun (x_ : Nat) w => match x_ with | j => (j ≤ l.length) ∧ (∀ q, q < j → condE (l.getD q default) vars = 0) ∧ St W w (imi (0 < l.length) gA13 (.cells kA15 eA16 zA17) :: Im 1 (.slice pp6 vars.length cc7) vars.length (vars.flatMap strCell) :: Im 11 (.slice pp1 l.length cc2) l.length (l.flatMap condCell) :: F)) (fun (x_ : Nat) => match x_ with | j => l.length - j) (0) ?_ ?_ ?_
    · exact ⟨by first | rfl | exact vint (by omega), by first | rfl | exact vint (by omega), by first | rfl | exact vint (by omega), by first | rfl | exact vint (by omega), by first | rfl | exact vint (by omega), trivial⟩
    · exact ⟨(by omega), (fun q hq => by omega), H26⟩
    · rintro j ρ27 w28 ⟨hjn, hz, H29⟩ nx30
      change Ends _ _ (upds ρ27 [(1, .slice pp6 vars.length cc7), (4, .int .i64 0), (11, .slice pp1 l.length cc2), (12, .int .i64 (l.length : Int)), (13, .int .i64 (j : Int))]) w28
      refine g_seq ?_
      refine g_region ?_
      by_cases hc31 : (j : Int) < (l.length : Int)
      · skip
        refine r_cons (s_lss true rfl rfl (dtrue hc31) rfl ?_)
        refine r_nil ?_
        refine g_seq ?_
        refine g_true rfl ?_
        refine g_skip ?_
        refine g_seq ?_
        refine g_block ?_
        refine g_seq ?_
        refine g_region ?_
        refine r_cons (s_indexAddr gA13 (off := oA14) (j : Int) 11 (oA14 + j * 11) (by exact congrArg (fun z_ => Value.slice z_ l.length cc2) (hp19 (by omega))) rfl el_22 (by omega) rfl rfl ?_)
        refine r_cons (s_loadAgg [.string ((l.getD j default).left.var.v), .string ((l.getD j default).left.attr.v), .int .i64 ((l.getD j default).left.val.kind.v), .int .i64 ((l.getD j default).left.val.n.v), .string ((l.getD j default).left.val.s.v), .int .i64 ((l.getD j default).rel.v), .string ((l.getD j default).right.var.v), .string ((l.getD j default).right.attr.v), .int .i64 ((l.getD j default).right.val.kind.v), .int .i64 ((l.getD j default).right.val.n.v), .string ((l.getD j default).right.val.s.v)] 11 ag_43 rfl (H29.imi_at (i := 0) rfl (by omega)) (by have := elem_size (i := j) (s := 11) (hs21 (by omega)) (by omega); omega) (elem_take condCell_len (hx20 (by omega)) (by omega) default) rfl ?_)
        refine r_cons (s_alloc H29 43 ze_43 rfl ?_); intro bk32 w33 H34
        refine r_cons (s_storeAgg H34 0 #[.string ((l.getD j default).left.var.v), .string ((l.getD j default).left.attr.v), .int .i64 ((l.getD j default).left.val.kind.v), .int .i64 ((l.getD j default).left.val.n.v), .string ((l.getD j default).left.val.s.v), .int .i64 ((l.getD j default).rel.v), .string ((l.getD j default).right.var.v), .string ((l.getD j default).right.attr.v), .int .i64 ((l.getD j default).right.val.kind.v), .int .i64 ((l.getD j default).right.val.n.v), .string ((l.getD j default).right.val.s.v)] 11 rfl rfl rfl sz_43 rfl (by simp [Value.oneCell']) (Nat.le_of_ble_eq_true rfl) (fun o h1 h2 => by first | (simp; done) | (simp; omega)) (cs' := #[.string ((l.getD j default).left.var.v), .string ((l.getD j default).left.attr.v), .int .i64 ((l.getD j default).left.val.kind.v), .int .i64 ((l.getD j default).left.val.n.v), .string ((l.getD j default).left.val.s.v), .int .i64 ((l.getD j default).rel.v), .string ((l.getD j default).right.var.v), .string ((l.getD j default).right.attr.v), .int .i64 ((l.getD j default).right.val.kind.v), .int .i64 ((l.getD j default).right.val.n.v), .string ((l.getD j default).right.val.s.v)]) (by kernel_rfl) ?_); intro w35 H36
        refine r_nil ?_
        refine g_seq ?_
        refine g_region ?_
        refine r_cons (s_loadAgg [.string ((l.getD j default).left.var.v), .string ((l.getD j default).left.attr.v), .int .i64 ((l.getD j default).left.val.kind.v), .int .i64 ((l.getD j default).left.val.n.v), .string ((l.getD j default).left.val.s.v), .int .i64 ((l.getD j default).rel.v), .string ((l.getD j default).right.var.v), .string ((l.getD j default).right.attr.v), .int .i64 ((l.getD j default).right.val.kind.v), .int .i64 ((l.getD j default).right.val.n.v), .string ((l.getD j default).right.val.s.v)] 11 ag_43 rfl (H36.blk_at (i := 0) rfl) (Nat.le_of_ble_eq_true rfl) rfl rfl ?_)
        refine r_cons (s_move (.slice pp6 vars.length cc7) rfl rfl ?_)
        refine r_cons (s_call [.agg #[.string ((l.getD j default).left.var.v), .string ((l.getD j default).left.attr.v), .int .i64 ((l.getD j default).left.val.kind.v), .int .i64 ((l.getD j default).left.val.n.v), .string ((l.getD j default).left.val.s.v), .int .i64 ((l.getD j default).rel.v), .string ((l.getD j default).right.var.v), .string ((l.getD j default).right.attr.v), .int .i64 ((l.getD j default).right.val.kind.v), .int .i64 ((l.getD j default).right.val.n.v), .string ((l.getD j default).right.val.s.v)], .slice pp6 vars.length cc7] pl_28 rfl rfl (check_Cond (l.getD j default) vars (.slice pp6 vars.length cc7) (jv := 2) rfl H36) ?_)
        rintro _ w37 ⟨rfl, H38⟩
        refine r_cons (s_assign (.int .i64 (condE (l.getD j default) vars)) rfl rfl ?_)
        refine r_nil ?_
        refine g_seq ?_
        refine g_region ?_
        refine r_cons (s_move (.int .i64 (condE (l.getD j default) vars)) rfl rfl ?_)
        by_cases hc39 : condE (l.getD j default) vars = 0
        · skip
          refine r_cons (s_neq false rfl rfl (ntrue hc39) rfl ?_)
          refine r_nil ?_
          refine g_false rfl ?_
          refine g_skip ?_
          refine g_inBlock ?_
          refine g_region ?_
          refine r_cons (s_add ((j : Int) + 1) rfl rfl (wi64 (by omega)) rfl ?_)
          refine r_cons (s_move (.int .i64 ((j : Int) + 1)) rfl rfl ?_)
          refine r_nil ?_
          have H40 : St W w37 (imi (0 < l.length) gA13 (.cells kA15 eA16 zA17) :: Im 1 (.slice pp6 vars.length cc7) vars.length (vars.flatMap strCell) :: Im 11 (.slice pp1 l.length cc2) l.length (l.flatMap condCell) :: F) := ((((H38.move 3 rfl).move 3 rfl).move 3 rfl).drop 3 rfl)
          exact nx30 (j + 1) _ _ ⟨(by omega), (fun q hq => (Nat.lt_or_ge q j).elim (hz q) (fun h => by rw [show q = j from by omega]; exact hc39)), H40⟩ (by first | (dsimp only; omega) | omega) ⟨by first | rfl | exact vint (by omega), by first | rfl | exact vint (by omega), by first | rfl | exact vint (by omega), by first | rfl | exact vint (by omega), by first | rfl | exact vint (by omega), trivial⟩
        · skip
          refine r_cons (s_neq true rfl rfl (nfalse hc39) rfl ?_)
          refine r_nil ?_
          refine g_true rfl ?_
          refine g_seq ?_
          refine g_region ?_
          refine r_cons (s_move (.int .i64 (condE (l.getD j default) vars)) rfl rfl ?_)
          refine r_cons (s_assign (.int .i64 (condE (l.getD j default) vars)) rfl rfl ?_)
          refine r_nil ?_
          refine g_ret' [.int .i64 (condE (l.getD j default) vars)] Try.func38 Try.results38 ⟨rfl, trivial⟩ ?_
          have H41 : St W w37 F := ((((H38.drop 0 rfl).drop 0 rfl).drop 0 rfl).drop 0 rfl)
          exact ⟨vint (by unfold condsE; rw [if_neg (by omega)]; exact firstE_at (f := (fun c => condE c vars)) hz (by omega) (by omega)), H41⟩
      · skip
        refine r_cons (s_lss false rfl rfl (dfalse hc31) rfl ?_)
        refine r_nil ?_
        refine g_seq ?_
        refine g_false rfl ?_
        refine g_exit (by rfl) ?_
        refine g_seq ?_
        refine g_region ?_
        refine r_cons (s_assign (.int .i64 0) rfl rfl ?_)
        refine r_nil ?_
        refine g_ret' [.int .i64 0] Try.func38 Try.results38 ⟨rfl, trivial⟩ ?_
        have H42 : St W w28 F := (((H29.drop 0 rfl).drop 0 rfl).drop 0 rfl)
        exact ⟨vint (by unfold condsE; rw [if_neg (by omega)]; exact firstE_end (f := (fun c => condE c vars)) hz (by omega)), H42⟩
set_option maxHeartbeats 4000000 in
set_option maxRecDepth 100000 in
theorem check_node_r (N : Nat) : ∀ (n : NodeD), sizeOf n < N → ∀ {W w : World} {F : List Atom}  {i : Nat} (hi : F[i]? = some (NodeA n)) (H : St W w F), Calls Try.prog 40 #[.agg #[.int .i64 n.kind.v, .string n.var.v, .string n.typ.v, .slice n.tp n.tests.length n.tc, .slice n.kp n.kids.length n.kc]] w (Ret fun v w' => v = .int .i64 (nodeE n) ∧ St W w' F) := by
  induction N with | zero => exact fun n hN => absurd hN (Nat.not_lt_zero _) | succ N ih => ?_
  intro n hN W w F i hi H
  have H1 := NodeA.kids H (i := i + 0) (by exact hi)
  have H2 := NodeA.tests H1 (i := i + 2) (by exact hi)
  have H3 : St W w (Im 11 (.slice n.tp n.tests.length n.tc) n.tests.length (n.tests.flatMap condCell) :: Im 5 (.slice n.kp n.kids.length n.kc) n.kids.length (n.kids.flatMap nodeCell) :: NodesA n.kids :: F) := H2
  refine calls_of_go (n := 70) Try.func40 rfl Try.ntmps40 rfl ?_
  refine g_seq ?_
  refine g_region ?_
  refine r_cons (s_box H3 25 (.agg #[.int .i64 n.kind.v, .string n.var.v, .string n.typ.v, .slice n.tp n.tests.length n.tc, .slice n.kp n.kids.length n.kc]) rfl (cs := #[.int .i64 n.kind.v, .string n.var.v, .string n.typ.v, .slice n.tp n.tests.length n.tc, .slice n.kp n.kids.length n.kc]) rfl rfl ?_); intro bk4 w5 H6
  refine r_cons (s_assign (.int .i64 0) rfl rfl ?_)
  refine r_nil ?_
  refine g_seq ?_
  refine g_seq ?_
  refine g_region ?_
  refine r_cons (s_fieldAddr 25 0 0 0 3 rfl fi_25_0 rfl rfl ?_)
  refine r_cons (s_load (.int .i64 n.kind.v) ag_3 rfl (H6.blk_at (i := 0) rfl) rfl rfl ?_)
  refine r_nil ?_
  refine g_block ?_
  refine g_seq ?_
  refine g_region ?_
  by_cases hc7 : n.kind.v = 1
  · skip
    refine r_cons (s_eql true rfl rfl (dtrue hc7) rfl ?_)
    refine r_cons (s_assign (.bool true) rfl rfl ?_)
    refine r_nil ?_
    refine g_true rfl ?_
    refine g_seq ?_
    refine g_seq ?_
    refine g_region ?_
    refine r_cons (s_fieldAddr 25 4 4 4 23 rfl fi_25_4 rfl rfl ?_)
    refine r_cons (s_load (.slice n.kp n.kids.length n.kc) ag_23 rfl (H6.blk_at (i := 0) rfl) rfl rfl ?_)
    refine r_cons (s_len n.kids.length rfl ⟨_, un_23⟩ rfl ?_)
    by_cases hc8 : (0 : Int) < (n.kids.length : Int)
    · skip
      refine r_cons (s_gtr true rfl rfl (dtrue hc8) rfl ?_)
      refine r_cons (s_move (.bool true) rfl rfl ?_)
      refine r_cons (r_pass rfl rfl rfl rfl rfl ?_)
      refine r_cons (r_pass rfl rfl rfl rfl rfl ?_)
      refine r_cons (r_pass rfl rfl rfl rfl rfl ?_)
      refine r_cons (r_pass rfl rfl rfl rfl rfl ?_)
      refine r_cons (s_pick_t (.bool true) rfl rfl rfl ?_)
      refine r_cons (s_move (.bool true) rfl rfl ?_)
      refine r_cons (r_pass rfl rfl rfl rfl rfl ?_)
      refine r_cons (r_pass rfl rfl rfl rfl rfl ?_)
      refine r_cons (r_pass rfl rfl rfl rfl rfl ?_)
      refine r_cons (r_pass rfl rfl rfl rfl rfl ?_)
      refine r_cons (s_pick_t (.bool true) rfl rfl rfl ?_)
      refine r_nil ?_
      refine g_true rfl ?_
      refine g_seq ?_
      refine g_region ?_
      refine r_cons (s_assign (.int .i64 71) rfl rfl ?_)
      refine r_nil ?_
      refine g_ret' [.int .i64 71] Try.func40 Try.results40 ⟨rfl, trivial⟩ ?_
      have hN9 : (0 < n.kids.length) := by omega
      have ho10 : ownE n.kind.v n.var.v n.typ.v n.tests n.kids.length = 71 := by unfold ownE; simp [hc7, hN9]
      have H11 : St W w5 F := ((((H6.drop 0 rfl).drop 0 rfl).drop 0 rfl).drop 0 rfl)
      exact ⟨vint (nodeE_own ho10 (by omega)), H11⟩
    · skip
      refine r_cons (s_gtr false rfl rfl (dfalse hc8) rfl ?_)
      refine r_cons (s_move (.bool false) rfl rfl ?_)
      refine r_cons (r_take rfl rfl ?_)
      refine s_fieldAddr 25 1 1 1 9 rfl fi_25_1 rfl rfl ?_
      refine r_cons (r_take rfl rfl ?_)
      refine s_load (.string n.var.v) ag_9 rfl (H6.blk_at (i := 0) rfl) rfl rfl ?_
      refine r_cons (r_take rfl rfl ?_)
      refine s_call [.string n.var.v] pl_37 rfl rfl (value_Name n.var.v n.var.ok H6) ?_
      rintro _ w12 ⟨rfl, H13⟩
      refine r_cons (r_take rfl rfl ?_)
      refine s_not (nameB n.var.v) rfl (!(nameB n.var.v)) rfl rfl ?_
      refine r_cons (s_pick_f (.bool (!(nameB n.var.v))) rfl rfl rfl ?_)
      refine r_cons (s_move (.bool (!(nameB n.var.v))) rfl rfl ?_)
      by_cases hb14 : (!(nameB n.var.v)) = true
      · skip
        refine r_cons (r_pass rfl (congrArg some hb14) rfl rfl rfl ?_)
        refine r_cons (r_pass rfl (congrArg some hb14) rfl rfl rfl ?_)
        refine r_cons (r_pass rfl (congrArg some hb14) rfl rfl rfl ?_)
        refine r_cons (r_pass rfl (congrArg some hb14) rfl rfl rfl ?_)
        refine r_cons (s_pick_t (.bool true) (by exact congrArg Value.bool hb14) rfl rfl ?_)
        refine r_nil ?_
        refine g_true rfl ?_
        refine g_seq ?_
        refine g_region ?_
        refine r_cons (s_assign (.int .i64 71) rfl rfl ?_)
        refine r_nil ?_
        refine g_ret' [.int .i64 71] Try.func40 Try.results40 ⟨rfl, trivial⟩ ?_
        have hN15 : ¬ (0 < n.kids.length) := by omega
        have hb16 : ((nameB n.var.v)) = false := by simpa using hb14
        have ho17 : ownE n.kind.v n.var.v n.typ.v n.tests n.kids.length = 71 := by unfold ownE; simp [hc7, hN15, hb16]
        have H18 : St W w12 F := ((((H13.drop 0 rfl).drop 0 rfl).drop 0 rfl).drop 0 rfl)
        exact ⟨vint (nodeE_own ho17 (by omega)), H18⟩
      · have hb14 := eq_false_of_ne_true hb14
        refine r_cons (r_take rfl (congrArg some hb14) ?_)
        refine s_fieldAddr 25 2 2 2 9 rfl fi_25_2 rfl rfl ?_
        refine r_cons (r_take rfl (congrArg some hb14) ?_)
        refine s_load (.string n.typ.v) ag_9 rfl (H13.blk_at (i := 0) rfl) rfl rfl ?_
        refine r_cons (r_take rfl (congrArg some hb14) ?_)
        refine s_call [.string n.typ.v] pl_37 rfl rfl (value_Name n.typ.v n.typ.ok H13) ?_
        rintro _ w19 ⟨rfl, H20⟩
        refine r_cons (r_take rfl (congrArg some hb14) ?_)
        refine s_not (nameB n.typ.v) rfl (!(nameB n.typ.v)) rfl rfl ?_
        refine r_cons (s_pick_f (.bool (!(nameB n.typ.v))) (by exact congrArg Value.bool hb14) rfl rfl ?_)
        refine r_nil ?_
        by_cases hb21 : (!(nameB n.typ.v)) = true
        · skip
          refine g_true (congrArg Value.bool hb21) ?_
          refine g_seq ?_
          refine g_region ?_
          refine r_cons (s_assign (.int .i64 71) rfl rfl ?_)
          refine r_nil ?_
          refine g_ret' [.int .i64 71] Try.func40 Try.results40 ⟨rfl, trivial⟩ ?_
          have hN22 : ¬ (0 < n.kids.length) := by omega
          have hb23 : ((nameB n.var.v)) = true := by simpa using hb14
          have hb24 : ((nameB n.typ.v)) = false := by simpa using hb21
          have ho25 : ownE n.kind.v n.var.v n.typ.v n.tests n.kids.length = 71 := by unfold ownE; simp [hc7, hN22, hb23, hb24]
          have H26 : St W w19 F := ((((H20.drop 0 rfl).drop 0 rfl).drop 0 rfl).drop 0 rfl)
          exact ⟨vint (nodeE_own ho25 (by omega)), H26⟩
        · have hb21 := eq_false_of_ne_true hb21
          refine g_false (congrArg Value.bool hb21) ?_
          refine g_skip ?_
          refine g_seq ?_
          refine g_region ?_
          refine r_cons (s_fieldAddr 25 3 3 3 22 rfl fi_25_3 rfl rfl ?_)
          refine r_cons (s_load (.slice n.tp n.tests.length n.tc) ag_22 rfl (H20.blk_at (i := 0) rfl) rfl rfl ?_)
          have H27 : St W w19 (Im 1 (.slice none 0 0) (([] : List Str).length) (([] : List Str).flatMap strCell) :: blk bk4 (.cells #[.int .i64 n.kind.v, .string n.var.v, .string n.typ.v, .slice n.tp n.tests.length n.tc, .slice n.kp n.kids.length n.kc] 25 (0, 0)) :: Im 11 (.slice n.tp n.tests.length n.tc) n.tests.length (n.tests.flatMap condCell) :: Im 5 (.slice n.kp n.kids.length n.kc) n.kids.length (n.kids.flatMap nodeCell) :: NodesA n.kids :: F) := Row.im (Row.nil_intro H20 9 1) (i := 0) rfl
          refine r_cons (s_call [.slice n.tp n.tests.length n.tc, .slice none 0 0] pl_38 rfl rfl (check_conds n.tests (.slice n.tp n.tests.length n.tc) ([] : List Str) (.slice none 0 0) (m := 2) rfl (jv := 0) rfl H27) ?_)
          rintro _ w28 ⟨rfl, H29⟩
          refine r_cons (s_assign (.int .i64 (condsE n.tests ([] : List Str))) rfl rfl ?_)
          refine r_nil ?_
          refine g_seq ?_
          refine g_region ?_
          refine r_cons (s_move (.int .i64 (condsE n.tests ([] : List Str))) rfl rfl ?_)
          by_cases hc30 : condsE n.tests ([] : List Str) = 0
          · skip
            refine r_cons (s_neq false rfl rfl (ntrue hc30) rfl ?_)
            refine r_nil ?_
            refine g_false rfl ?_
            refine g_skip ?_
            refine g_inBlock ?_
            refine g_seq ?_
            refine g_seq ?_
            refine g_region ?_
            refine r_cons (s_fieldAddr 25 4 4 4 23 rfl fi_25_4 rfl rfl ?_)
            refine r_cons (s_load (.slice n.kp n.kids.length n.kc) ag_23 rfl (H29.blk_at (i := 1) rfl) rfl rfl ?_)
            refine r_cons (s_len n.kids.length rfl ⟨_, un_23⟩ rfl ?_)
            refine r_cons (s_move (.int .i64 0) rfl rfl ?_)
            refine r_nil ?_
            refine g_block ?_
            have hN31 : ¬ (0 < n.kids.length) := by omega
            have hb32 : ((nameB n.var.v)) = true := by simpa using hb14
            have hb33 : ((nameB n.typ.v)) = true := by simpa using hb21
            have ho34 : ownE n.kind.v n.var.v n.typ.v n.tests n.kids.length = 0 := by unfold ownE; simp [hc7, hN31, hc30, hb32, hb33]
            obtain ⟨pA35, cA36, gA37, oA38, kA39, eA40, zA41, he47, hn42, hp43, hx44, hs45, hml, H46⟩ := Im.open_ H29 (i := 3) rfl
            obtain ⟨rfl, rfl⟩ : n.kp = pA35 ∧ n.kc = cA36 := by injection he47 with a_ b_ c_; exact ⟨a_, c_⟩
            have H48 : St W w28 (imi (0 < n.kids.length) gA37 (.cells kA39 eA40 zA41) :: Im 1 (.slice none 0 0) (([] : List Str).length) (([] : List Str).flatMap strCell) :: Im 11 (.slice n.tp n.tests.length n.tc) n.tests.length (n.tests.flatMap condCell) :: Im 5 (.slice n.kp n.kids.length n.kc) n.kids.length (n.kids.flatMap nodeCell) :: NodesA n.kids :: F) := ((((((H46.move 5 rfl).move 5 rfl).move 5 rfl).move 4 rfl).move 4 rfl).drop 5 rfl)
            refine g_loop_inv (fun (x_ : Nat) => match x_ with | j => [(2, .int .i64 0), (58, .slice n.kp n.kids.length n.kc), (59, .int .i64 (n.kids.length : Int)), (60, .int .i64 (j : Int))]) (fun (x_ : Nat) w => match x_ with | j => (j ≤ n.kids.length) ∧ (∀ q, q < j → nodeE (n.kids.getD q default) = 0) ∧ St W w (imi (0 < n.kids.length) gA37 (.cells kA39 eA40 zA41) :: Im 1 (.slice none 0 0) (([] : List Str).length) (([] : List Str).flatMap strCell) :: Im 11 (.slice n.tp n.tests.length n.tc) n.tests.length (n.tests.flatMap condCell) :: Im 5 (.slice n.kp n.kids.length n.kc) n.kids.length (n.kids.flatMap nodeCell) :: NodesA n.kids :: F)) (fun (x_ : Nat) => match x_ with | j => n.kids.length - j) (0) ?_ ?_ ?_
            · exact ⟨by first | rfl | exact vint (by omega), by first | rfl | exact vint (by omega), by first | rfl | exact vint (by omega), by first | rfl | exact vint (by omega), trivial⟩
            · exact ⟨(by omega), (fun q hq => by omega), H48⟩
            · rintro j ρ49 w50 ⟨hjl, hz, H51⟩ nx52
              change Ends _ _ (upds ρ49 [(2, .int .i64 0), (58, .slice n.kp n.kids.length n.kc), (59, .int .i64 (n.kids.length : Int)), (60, .int .i64 (j : Int))]) w50
              refine g_seq ?_
              refine g_region ?_
              by_cases hc53 : (j : Int) < (n.kids.length : Int)
              · skip
                refine r_cons (s_lss true rfl rfl (dtrue hc53) rfl ?_)
                refine r_nil ?_
                refine g_seq ?_
                refine g_true rfl ?_
                refine g_skip ?_
                refine g_seq ?_
                refine g_block ?_
                refine g_seq ?_
                refine g_region ?_
                refine r_cons (s_indexAddr gA37 (off := oA38) (j : Int) 5 (oA38 + j * 5) (by exact congrArg (fun z_ => Value.slice z_ n.kids.length n.kc) (hp43 (by omega))) rfl el_23 (by omega) rfl rfl ?_)
                refine r_cons (s_loadAgg [.int .i64 ((n.kids.getD j default).kind.v), .string ((n.kids.getD j default).var.v), .string ((n.kids.getD j default).typ.v), .slice ((n.kids.getD j default).tp) ((n.kids.getD j default).tests.length) ((n.kids.getD j default).tc), .slice ((n.kids.getD j default).kp) ((n.kids.getD j default).kids.length) ((n.kids.getD j default).kc)] 5 ag_25 rfl (H51.imi_at (i := 0) rfl (by omega)) (by have := elem_size (i := j) (s := 5) (hs45 (by omega)) (by omega); omega) (elem_take nodeCell_len (hx44 (by omega)) (by omega) default) rfl ?_)
                refine r_cons (s_alloc H51 25 ze_25 rfl ?_); intro bk54 w55 H56
                refine r_cons (s_storeAgg H56 0 #[.int .i64 ((n.kids.getD j default).kind.v), .string ((n.kids.getD j default).var.v), .string ((n.kids.getD j default).typ.v), .slice ((n.kids.getD j default).tp) ((n.kids.getD j default).tests.length) ((n.kids.getD j default).tc), .slice ((n.kids.getD j default).kp) ((n.kids.getD j default).kids.length) ((n.kids.getD j default).kc)] 5 rfl rfl rfl sz_25 rfl (by simp [Value.oneCell']) (Nat.le_of_ble_eq_true rfl) (fun o h1 h2 => by first | (simp; done) | (simp; omega)) (cs' := #[.int .i64 ((n.kids.getD j default).kind.v), .string ((n.kids.getD j default).var.v), .string ((n.kids.getD j default).typ.v), .slice ((n.kids.getD j default).tp) ((n.kids.getD j default).tests.length) ((n.kids.getD j default).tc), .slice ((n.kids.getD j default).kp) ((n.kids.getD j default).kids.length) ((n.kids.getD j default).kc)]) rfl ?_); intro w57 H58
                refine r_nil ?_
                refine g_seq ?_
                refine g_region ?_
                refine r_cons (s_loadAgg [.int .i64 ((n.kids.getD j default).kind.v), .string ((n.kids.getD j default).var.v), .string ((n.kids.getD j default).typ.v), .slice ((n.kids.getD j default).tp) ((n.kids.getD j default).tests.length) ((n.kids.getD j default).tc), .slice ((n.kids.getD j default).kp) ((n.kids.getD j default).kids.length) ((n.kids.getD j default).kc)] 5 ag_25 rfl (H58.blk_at (i := 0) rfl) (Nat.le_of_ble_eq_true rfl) rfl rfl ?_)
                have H59 := NodesA.at H58 (i := 5) rfl (j := j) (by omega)
                refine r_cons (s_call [.agg #[.int .i64 ((n.kids.getD j default).kind.v), .string ((n.kids.getD j default).var.v), .string ((n.kids.getD j default).typ.v), .slice ((n.kids.getD j default).tp) ((n.kids.getD j default).tests.length) ((n.kids.getD j default).tc), .slice ((n.kids.getD j default).kp) ((n.kids.getD j default).kids.length) ((n.kids.getD j default).kc)]] pl_40 rfl rfl (ih (n.kids.getD j default) (by have h9 := kid_lt (n := n) (j := j) (by omega); omega) (i := 0) rfl H59) ?_)
                rintro _ w60 ⟨rfl, H61⟩
                refine r_cons (s_assign (.int .i64 (nodeE (n.kids.getD j default))) rfl rfl ?_)
                refine r_nil ?_
                refine g_seq ?_
                refine g_region ?_
                refine r_cons (s_move (.int .i64 (nodeE (n.kids.getD j default))) rfl rfl ?_)
                by_cases hc62 : nodeE (n.kids.getD j default) = 0
                · skip
                  refine r_cons (s_neq false rfl rfl (ntrue hc62) rfl ?_)
                  refine r_nil ?_
                  refine g_false rfl ?_
                  refine g_skip ?_
                  refine g_inBlock ?_
                  refine g_region ?_
                  refine r_cons (s_add ((j : Int) + 1) rfl rfl (wi64 (by omega)) rfl ?_)
                  refine r_cons (s_move (.int .i64 ((j : Int) + 1)) rfl rfl ?_)
                  refine r_nil ?_
                  have H63 : St W w60 (imi (0 < n.kids.length) gA37 (.cells kA39 eA40 zA41) :: Im 1 (.slice none 0 0) (([] : List Str).length) (([] : List Str).flatMap strCell) :: Im 11 (.slice n.tp n.tests.length n.tc) n.tests.length (n.tests.flatMap condCell) :: Im 5 (.slice n.kp n.kids.length n.kc) n.kids.length (n.kids.flatMap nodeCell) :: NodesA n.kids :: F) := (((((((H61.move 6 rfl).move 6 rfl).move 6 rfl).move 6 rfl).move 6 rfl).drop 5 rfl).drop 5 rfl)
                  exact nx52 (j + 1) _ _ ⟨(by omega), (fun q hq => (Nat.lt_or_ge q j).elim (hz q) (fun h => by rw [show q = j from by omega]; exact hc62)), H63⟩ (by first | (dsimp only; omega) | omega) ⟨by first | rfl | exact vint (by omega), by first | rfl | exact vint (by omega), by first | rfl | exact vint (by omega), by first | rfl | exact vint (by omega), trivial⟩
                · skip
                  refine r_cons (s_neq true rfl rfl (nfalse hc62) rfl ?_)
                  refine r_nil ?_
                  refine g_true rfl ?_
                  refine g_seq ?_
                  refine g_region ?_
                  refine r_cons (s_move (.int .i64 (nodeE (n.kids.getD j default))) rfl rfl ?_)
                  refine r_cons (s_assign (.int .i64 (nodeE (n.kids.getD j default))) rfl rfl ?_)
                  refine r_nil ?_
                  refine g_ret' [.int .i64 (nodeE (n.kids.getD j default))] Try.func40 Try.results40 ⟨rfl, trivial⟩ ?_
                  have H64 : St W w60 F := (((((((H61.drop 0 rfl).drop 0 rfl).drop 0 rfl).drop 0 rfl).drop 0 rfl).drop 0 rfl).drop 0 rfl)
                  exact ⟨vint ((firstE_at (f := nodeE) hz (by omega) (by omega)).trans (nodeE_kids ho34).symm), H64⟩
              · skip
                refine r_cons (s_lss false rfl rfl (dfalse hc53) rfl ?_)
                refine r_nil ?_
                refine g_seq ?_
                refine g_false rfl ?_
                refine g_exit (by rfl) ?_
                refine g_seq ?_
                refine g_region ?_
                refine r_cons (s_assign (.int .i64 0) rfl rfl ?_)
                refine r_nil ?_
                refine g_ret' [.int .i64 0] Try.func40 Try.results40 ⟨rfl, trivial⟩ ?_
                have H65 : St W w50 F := (((((H51.drop 0 rfl).drop 0 rfl).drop 0 rfl).drop 0 rfl).drop 0 rfl)
                exact ⟨vint ((firstE_end (f := nodeE) hz (by omega)).trans (nodeE_kids ho34).symm), H65⟩
          · skip
            refine r_cons (s_neq true rfl rfl (nfalse hc30) rfl ?_)
            refine r_nil ?_
            refine g_true rfl ?_
            refine g_seq ?_
            refine g_region ?_
            refine r_cons (s_move (.int .i64 (condsE n.tests ([] : List Str))) rfl rfl ?_)
            refine r_cons (s_assign (.int .i64 (condsE n.tests ([] : List Str))) rfl rfl ?_)
            refine r_nil ?_
            refine g_ret' [.int .i64 (condsE n.tests ([] : List Str))] Try.func40 Try.results40 ⟨rfl, trivial⟩ ?_
            have hN66 : ¬ (0 < n.kids.length) := by omega
            have hb67 : ((nameB n.var.v)) = true := by simpa using hb14
            have hb68 : ((nameB n.typ.v)) = true := by simpa using hb21
            have ho69 : ownE n.kind.v n.var.v n.typ.v n.tests n.kids.length = condsE n.tests ([] : List Str) := by unfold ownE; simp [hc7, hN66, hc30, hb67, hb68]
            have H70 : St W w28 F := (((((H29.drop 0 rfl).drop 0 rfl).drop 0 rfl).drop 0 rfl).drop 0 rfl)
            exact ⟨vint (nodeE_own ho69 (by omega)), H70⟩
  · skip
    refine r_cons (s_eql false rfl rfl (dfalse hc7) rfl ?_)
    refine r_cons (s_assign (.bool false) rfl rfl ?_)
    refine r_nil ?_
    refine g_false rfl ?_
    refine g_seq ?_
    refine g_seq ?_
    refine g_region ?_
    by_cases hc71 : n.kind.v = 2
    · skip
      refine r_cons (s_eql true rfl rfl (dtrue hc71) rfl ?_)
      refine r_cons (s_assign (.bool true) rfl rfl ?_)
      refine r_nil ?_
      refine g_true rfl ?_
      refine g_skip ?_
      refine g_true rfl ?_
      refine g_seq ?_
      refine g_region ?_
      refine r_cons (s_fieldAddr 25 4 4 4 23 rfl fi_25_4 rfl rfl ?_)
      refine r_cons (s_load (.slice n.kp n.kids.length n.kc) ag_23 rfl (H6.blk_at (i := 0) rfl) rfl rfl ?_)
      refine r_cons (s_len n.kids.length rfl ⟨_, un_23⟩ rfl ?_)
      by_cases hc72 : (n.kids.length : Int) < 2
      · skip
        refine r_cons (s_lss true rfl rfl (dtrue hc72) rfl ?_)
        refine r_cons (s_move (.bool true) rfl rfl ?_)
        refine r_cons (r_pass rfl rfl rfl rfl rfl ?_)
        refine r_cons (r_pass rfl rfl rfl rfl rfl ?_)
        refine r_cons (r_pass rfl rfl rfl rfl rfl ?_)
        refine r_cons (s_pick_t (.bool true) rfl rfl rfl ?_)
        refine r_cons (s_move (.bool true) rfl rfl ?_)
        refine r_cons (r_pass rfl rfl rfl rfl rfl ?_)
        refine r_cons (r_pass rfl rfl rfl rfl rfl ?_)
        refine r_cons (r_pass rfl rfl rfl rfl rfl ?_)
        refine r_cons (s_pick_t (.bool true) rfl rfl rfl ?_)
        refine r_cons (s_move (.bool true) rfl rfl ?_)
        refine r_cons (r_pass rfl rfl rfl rfl rfl ?_)
        refine r_cons (r_pass rfl rfl rfl rfl rfl ?_)
        refine r_cons (r_pass rfl rfl rfl rfl rfl ?_)
        refine r_cons (r_pass rfl rfl rfl rfl rfl ?_)
        refine r_cons (s_pick_t (.bool true) rfl rfl rfl ?_)
        refine r_nil ?_
        refine g_true rfl ?_
        refine g_seq ?_
        refine g_region ?_
        refine r_cons (s_assign (.int .i64 71) rfl rfl ?_)
        refine r_nil ?_
        refine g_ret' [.int .i64 71] Try.func40 Try.results40 ⟨rfl, trivial⟩ ?_
        have hN73 : (n.kids.length < 2) := by omega
        have ho74 : ownE n.kind.v n.var.v n.typ.v n.tests n.kids.length = 71 := by unfold ownE; simp [hc7, hc71, hN73]
        have H75 : St W w5 F := ((((H6.drop 0 rfl).drop 0 rfl).drop 0 rfl).drop 0 rfl)
        exact ⟨vint (nodeE_own ho74 (by omega)), H75⟩
      · skip
        refine r_cons (s_lss false rfl rfl (dfalse hc72) rfl ?_)
        refine r_cons (s_move (.bool false) rfl rfl ?_)
        refine r_cons (r_take rfl rfl ?_)
        refine s_fieldAddr 25 1 1 1 9 rfl fi_25_1 rfl rfl ?_
        refine r_cons (r_take rfl rfl ?_)
        refine s_load (.string n.var.v) ag_9 rfl (H6.blk_at (i := 0) rfl) rfl rfl ?_
        refine r_cons (r_take rfl rfl ?_)
        by_cases hc76 : n.var.v = ByteArray.empty
        · skip
          refine s_sneq false rfl rfl (ntrue hc76) rfl ?_
          refine r_cons (s_pick_f (.bool false) rfl rfl rfl ?_)
          refine r_cons (s_move (.bool false) rfl rfl ?_)
          refine r_cons (r_take rfl rfl ?_)
          refine s_fieldAddr 25 2 2 2 9 rfl fi_25_2 rfl rfl ?_
          refine r_cons (r_take rfl rfl ?_)
          refine s_load (.string n.typ.v) ag_9 rfl (H6.blk_at (i := 0) rfl) rfl rfl ?_
          refine r_cons (r_take rfl rfl ?_)
          by_cases hc77 : n.typ.v = ByteArray.empty
          · skip
            refine s_sneq false rfl rfl (ntrue hc77) rfl ?_
            refine r_cons (s_pick_f (.bool false) rfl rfl rfl ?_)
            refine r_cons (s_move (.bool false) rfl rfl ?_)
            refine r_cons (r_take rfl rfl ?_)
            refine s_fieldAddr 25 3 3 3 22 rfl fi_25_3 rfl rfl ?_
            refine r_cons (r_take rfl rfl ?_)
            refine s_load (.slice n.tp n.tests.length n.tc) ag_22 rfl (H6.blk_at (i := 0) rfl) rfl rfl ?_
            refine r_cons (r_take rfl rfl ?_)
            refine s_len n.tests.length rfl ⟨_, un_22⟩ rfl ?_
            refine r_cons (r_take rfl rfl ?_)
            by_cases hc78 : (0 : Int) < (n.tests.length : Int)
            · skip
              refine s_gtr true rfl rfl (dtrue hc78) rfl ?_
              refine r_cons (s_pick_f (.bool true) rfl rfl rfl ?_)
              refine r_nil ?_
              refine g_true rfl ?_
              refine g_seq ?_
              refine g_region ?_
              refine r_cons (s_assign (.int .i64 71) rfl rfl ?_)
              refine r_nil ?_
              refine g_ret' [.int .i64 71] Try.func40 Try.results40 ⟨rfl, trivial⟩ ?_
              have hN79 : ¬ (n.kids.length < 2) := by omega
              have hN80 : (0 < n.tests.length) := by omega
              have ho81 : ownE n.kind.v n.var.v n.typ.v n.tests n.kids.length = 71 := by unfold ownE; simp [hc7, hc71, hN79, hN80, hc76, hc77]
              have H82 : St W w5 F := ((((H6.drop 0 rfl).drop 0 rfl).drop 0 rfl).drop 0 rfl)
              exact ⟨vint (nodeE_own ho81 (by omega)), H82⟩
            · skip
              refine s_gtr false rfl rfl (dfalse hc78) rfl ?_
              refine r_cons (s_pick_f (.bool false) rfl rfl rfl ?_)
              refine r_nil ?_
              refine g_false rfl ?_
              refine g_skip ?_
              refine g_inBlock ?_
              refine g_seq ?_
              refine g_seq ?_
              refine g_region ?_
              refine r_cons (s_fieldAddr 25 4 4 4 23 rfl fi_25_4 rfl rfl ?_)
              refine r_cons (s_load (.slice n.kp n.kids.length n.kc) ag_23 rfl (H6.blk_at (i := 0) rfl) rfl rfl ?_)
              refine r_cons (s_len n.kids.length rfl ⟨_, un_23⟩ rfl ?_)
              refine r_cons (s_move (.int .i64 0) rfl rfl ?_)
              refine r_nil ?_
              refine g_block ?_
              have hN83 : ¬ (n.kids.length < 2) := by omega
              have hN84 : ¬ (0 < n.tests.length) := by omega
              have ho85 : ownE n.kind.v n.var.v n.typ.v n.tests n.kids.length = 0 := by unfold ownE; simp [hc7, hc71, hN83, hN84, hc76, hc77]
              obtain ⟨pA86, cA87, gA88, oA89, kA90, eA91, zA92, he98, hn93, hp94, hx95, hs96, hml, H97⟩ := Im.open_ H6 (i := 2) rfl
              obtain ⟨rfl, rfl⟩ : n.kp = pA86 ∧ n.kc = cA87 := by injection he98 with a_ b_ c_; exact ⟨a_, c_⟩
              have H99 : St W w5 (imi (0 < n.kids.length) gA88 (.cells kA90 eA91 zA92) :: Im 11 (.slice n.tp n.tests.length n.tc) n.tests.length (n.tests.flatMap condCell) :: Im 5 (.slice n.kp n.kids.length n.kc) n.kids.length (n.kids.flatMap nodeCell) :: NodesA n.kids :: F) := (((((H97.move 4 rfl).move 4 rfl).move 4 rfl).move 3 rfl).drop 4 rfl)
              refine g_loop_inv (fun (x_ : Nat) => match x_ with | j => [(2, .int .i64 0), (58, .slice n.kp n.kids.length n.kc), (59, .int .i64 (n.kids.length : Int)), (60, .int .i64 (j : Int))]) (fun (x_ : Nat) w => match x_ with | j => (j ≤ n.kids.length) ∧ (∀ q, q < j → nodeE (n.kids.getD q default) = 0) ∧ St W w (imi (0 < n.kids.length) gA88 (.cells kA90 eA91 zA92) :: Im 11 (.slice n.tp n.tests.length n.tc) n.tests.length (n.tests.flatMap condCell) :: Im 5 (.slice n.kp n.kids.length n.kc) n.kids.length (n.kids.flatMap nodeCell) :: NodesA n.kids :: F)) (fun (x_ : Nat) => match x_ with | j => n.kids.length - j) (0) ?_ ?_ ?_
              · exact ⟨by first | rfl | exact vint (by omega), by first | rfl | exact vint (by omega), by first | rfl | exact vint (by omega), by first | rfl | exact vint (by omega), trivial⟩
              · exact ⟨(by omega), (fun q hq => by omega), H99⟩
              · rintro j ρ100 w101 ⟨hjl, hz, H102⟩ nx103
                change Ends _ _ (upds ρ100 [(2, .int .i64 0), (58, .slice n.kp n.kids.length n.kc), (59, .int .i64 (n.kids.length : Int)), (60, .int .i64 (j : Int))]) w101
                refine g_seq ?_
                refine g_region ?_
                by_cases hc104 : (j : Int) < (n.kids.length : Int)
                · skip
                  refine r_cons (s_lss true rfl rfl (dtrue hc104) rfl ?_)
                  refine r_nil ?_
                  refine g_seq ?_
                  refine g_true rfl ?_
                  refine g_skip ?_
                  refine g_seq ?_
                  refine g_block ?_
                  refine g_seq ?_
                  refine g_region ?_
                  refine r_cons (s_indexAddr gA88 (off := oA89) (j : Int) 5 (oA89 + j * 5) (by exact congrArg (fun z_ => Value.slice z_ n.kids.length n.kc) (hp94 (by omega))) rfl el_23 (by omega) rfl rfl ?_)
                  refine r_cons (s_loadAgg [.int .i64 ((n.kids.getD j default).kind.v), .string ((n.kids.getD j default).var.v), .string ((n.kids.getD j default).typ.v), .slice ((n.kids.getD j default).tp) ((n.kids.getD j default).tests.length) ((n.kids.getD j default).tc), .slice ((n.kids.getD j default).kp) ((n.kids.getD j default).kids.length) ((n.kids.getD j default).kc)] 5 ag_25 rfl (H102.imi_at (i := 0) rfl (by omega)) (by have := elem_size (i := j) (s := 5) (hs96 (by omega)) (by omega); omega) (elem_take nodeCell_len (hx95 (by omega)) (by omega) default) rfl ?_)
                  refine r_cons (s_alloc H102 25 ze_25 rfl ?_); intro bk105 w106 H107
                  refine r_cons (s_storeAgg H107 0 #[.int .i64 ((n.kids.getD j default).kind.v), .string ((n.kids.getD j default).var.v), .string ((n.kids.getD j default).typ.v), .slice ((n.kids.getD j default).tp) ((n.kids.getD j default).tests.length) ((n.kids.getD j default).tc), .slice ((n.kids.getD j default).kp) ((n.kids.getD j default).kids.length) ((n.kids.getD j default).kc)] 5 rfl rfl rfl sz_25 rfl (by simp [Value.oneCell']) (Nat.le_of_ble_eq_true rfl) (fun o h1 h2 => by first | (simp; done) | (simp; omega)) (cs' := #[.int .i64 ((n.kids.getD j default).kind.v), .string ((n.kids.getD j default).var.v), .string ((n.kids.getD j default).typ.v), .slice ((n.kids.getD j default).tp) ((n.kids.getD j default).tests.length) ((n.kids.getD j default).tc), .slice ((n.kids.getD j default).kp) ((n.kids.getD j default).kids.length) ((n.kids.getD j default).kc)]) rfl ?_); intro w108 H109
                  refine r_nil ?_
                  refine g_seq ?_
                  refine g_region ?_
                  refine r_cons (s_loadAgg [.int .i64 ((n.kids.getD j default).kind.v), .string ((n.kids.getD j default).var.v), .string ((n.kids.getD j default).typ.v), .slice ((n.kids.getD j default).tp) ((n.kids.getD j default).tests.length) ((n.kids.getD j default).tc), .slice ((n.kids.getD j default).kp) ((n.kids.getD j default).kids.length) ((n.kids.getD j default).kc)] 5 ag_25 rfl (H109.blk_at (i := 0) rfl) (Nat.le_of_ble_eq_true rfl) rfl rfl ?_)
                  have H110 := NodesA.at H109 (i := 4) rfl (j := j) (by omega)
                  refine r_cons (s_call [.agg #[.int .i64 ((n.kids.getD j default).kind.v), .string ((n.kids.getD j default).var.v), .string ((n.kids.getD j default).typ.v), .slice ((n.kids.getD j default).tp) ((n.kids.getD j default).tests.length) ((n.kids.getD j default).tc), .slice ((n.kids.getD j default).kp) ((n.kids.getD j default).kids.length) ((n.kids.getD j default).kc)]] pl_40 rfl rfl (ih (n.kids.getD j default) (by have h9 := kid_lt (n := n) (j := j) (by omega); omega) (i := 0) rfl H110) ?_)
                  rintro _ w111 ⟨rfl, H112⟩
                  refine r_cons (s_assign (.int .i64 (nodeE (n.kids.getD j default))) rfl rfl ?_)
                  refine r_nil ?_
                  refine g_seq ?_
                  refine g_region ?_
                  refine r_cons (s_move (.int .i64 (nodeE (n.kids.getD j default))) rfl rfl ?_)
                  by_cases hc113 : nodeE (n.kids.getD j default) = 0
                  · skip
                    refine r_cons (s_neq false rfl rfl (ntrue hc113) rfl ?_)
                    refine r_nil ?_
                    refine g_false rfl ?_
                    refine g_skip ?_
                    refine g_inBlock ?_
                    refine g_region ?_
                    refine r_cons (s_add ((j : Int) + 1) rfl rfl (wi64 (by omega)) rfl ?_)
                    refine r_cons (s_move (.int .i64 ((j : Int) + 1)) rfl rfl ?_)
                    refine r_nil ?_
                    have H114 : St W w111 (imi (0 < n.kids.length) gA88 (.cells kA90 eA91 zA92) :: Im 11 (.slice n.tp n.tests.length n.tc) n.tests.length (n.tests.flatMap condCell) :: Im 5 (.slice n.kp n.kids.length n.kc) n.kids.length (n.kids.flatMap nodeCell) :: NodesA n.kids :: F) := ((((((H112.move 5 rfl).move 5 rfl).move 5 rfl).move 5 rfl).drop 4 rfl).drop 4 rfl)
                    exact nx103 (j + 1) _ _ ⟨(by omega), (fun q hq => (Nat.lt_or_ge q j).elim (hz q) (fun h => by rw [show q = j from by omega]; exact hc113)), H114⟩ (by first | (dsimp only; omega) | omega) ⟨by first | rfl | exact vint (by omega), by first | rfl | exact vint (by omega), by first | rfl | exact vint (by omega), by first | rfl | exact vint (by omega), trivial⟩
                  · skip
                    refine r_cons (s_neq true rfl rfl (nfalse hc113) rfl ?_)
                    refine r_nil ?_
                    refine g_true rfl ?_
                    refine g_seq ?_
                    refine g_region ?_
                    refine r_cons (s_move (.int .i64 (nodeE (n.kids.getD j default))) rfl rfl ?_)
                    refine r_cons (s_assign (.int .i64 (nodeE (n.kids.getD j default))) rfl rfl ?_)
                    refine r_nil ?_
                    refine g_ret' [.int .i64 (nodeE (n.kids.getD j default))] Try.func40 Try.results40 ⟨rfl, trivial⟩ ?_
                    have H115 : St W w111 F := ((((((H112.drop 0 rfl).drop 0 rfl).drop 0 rfl).drop 0 rfl).drop 0 rfl).drop 0 rfl)
                    exact ⟨vint ((firstE_at (f := nodeE) hz (by omega) (by omega)).trans (nodeE_kids ho85).symm), H115⟩
                · skip
                  refine r_cons (s_lss false rfl rfl (dfalse hc104) rfl ?_)
                  refine r_nil ?_
                  refine g_seq ?_
                  refine g_false rfl ?_
                  refine g_exit (by rfl) ?_
                  refine g_seq ?_
                  refine g_region ?_
                  refine r_cons (s_assign (.int .i64 0) rfl rfl ?_)
                  refine r_nil ?_
                  refine g_ret' [.int .i64 0] Try.func40 Try.results40 ⟨rfl, trivial⟩ ?_
                  have H116 : St W w101 F := ((((H102.drop 0 rfl).drop 0 rfl).drop 0 rfl).drop 0 rfl)
                  exact ⟨vint ((firstE_end (f := nodeE) hz (by omega)).trans (nodeE_kids ho85).symm), H116⟩
          · skip
            refine s_sneq true rfl rfl (nfalse hc77) rfl ?_
            refine r_cons (s_pick_f (.bool true) rfl rfl rfl ?_)
            refine r_cons (s_move (.bool true) rfl rfl ?_)
            refine r_cons (r_pass rfl rfl rfl rfl rfl ?_)
            refine r_cons (r_pass rfl rfl rfl rfl rfl ?_)
            refine r_cons (r_pass rfl rfl rfl rfl rfl ?_)
            refine r_cons (r_pass rfl rfl rfl rfl rfl ?_)
            refine r_cons (s_pick_t (.bool true) rfl rfl rfl ?_)
            refine r_nil ?_
            refine g_true rfl ?_
            refine g_seq ?_
            refine g_region ?_
            refine r_cons (s_assign (.int .i64 71) rfl rfl ?_)
            refine r_nil ?_
            refine g_ret' [.int .i64 71] Try.func40 Try.results40 ⟨rfl, trivial⟩ ?_
            have hN117 : ¬ (n.kids.length < 2) := by omega
            have ho118 : ownE n.kind.v n.var.v n.typ.v n.tests n.kids.length = 71 := by unfold ownE; simp [hc7, hc71, hN117, hc76, hc77]
            have H119 : St W w5 F := ((((H6.drop 0 rfl).drop 0 rfl).drop 0 rfl).drop 0 rfl)
            exact ⟨vint (nodeE_own ho118 (by omega)), H119⟩
        · skip
          refine s_sneq true rfl rfl (nfalse hc76) rfl ?_
          refine r_cons (s_pick_f (.bool true) rfl rfl rfl ?_)
          refine r_cons (s_move (.bool true) rfl rfl ?_)
          refine r_cons (r_pass rfl rfl rfl rfl rfl ?_)
          refine r_cons (r_pass rfl rfl rfl rfl rfl ?_)
          refine r_cons (r_pass rfl rfl rfl rfl rfl ?_)
          refine r_cons (s_pick_t (.bool true) rfl rfl rfl ?_)
          refine r_cons (s_move (.bool true) rfl rfl ?_)
          refine r_cons (r_pass rfl rfl rfl rfl rfl ?_)
          refine r_cons (r_pass rfl rfl rfl rfl rfl ?_)
          refine r_cons (r_pass rfl rfl rfl rfl rfl ?_)
          refine r_cons (r_pass rfl rfl rfl rfl rfl ?_)
          refine r_cons (s_pick_t (.bool true) rfl rfl rfl ?_)
          refine r_nil ?_
          refine g_true rfl ?_
          refine g_seq ?_
          refine g_region ?_
          refine r_cons (s_assign (.int .i64 71) rfl rfl ?_)
          refine r_nil ?_
          refine g_ret' [.int .i64 71] Try.func40 Try.results40 ⟨rfl, trivial⟩ ?_
          have hN120 : ¬ (n.kids.length < 2) := by omega
          have ho121 : ownE n.kind.v n.var.v n.typ.v n.tests n.kids.length = 71 := by unfold ownE; simp [hc7, hc71, hN120, hc76]
          have H122 : St W w5 F := ((((H6.drop 0 rfl).drop 0 rfl).drop 0 rfl).drop 0 rfl)
          exact ⟨vint (nodeE_own ho121 (by omega)), H122⟩
    · skip
      refine r_cons (s_eql false rfl rfl (dfalse hc71) rfl ?_)
      refine r_cons (s_assign (.bool false) rfl rfl ?_)
      refine r_nil ?_
      refine g_false rfl ?_
      refine g_seq ?_
      refine g_region ?_
      by_cases hc123 : n.kind.v = 3
      · skip
        refine r_cons (s_eql true rfl rfl (dtrue hc123) rfl ?_)
        refine r_cons (s_assign (.bool true) rfl rfl ?_)
        refine r_nil ?_
        refine g_true rfl ?_
        refine g_skip ?_
        refine g_true rfl ?_
        refine g_seq ?_
        refine g_region ?_
        refine r_cons (s_fieldAddr 25 4 4 4 23 rfl fi_25_4 rfl rfl ?_)
        refine r_cons (s_load (.slice n.kp n.kids.length n.kc) ag_23 rfl (H6.blk_at (i := 0) rfl) rfl rfl ?_)
        refine r_cons (s_len n.kids.length rfl ⟨_, un_23⟩ rfl ?_)
        by_cases hc124 : (n.kids.length : Int) < 2
        · skip
          refine r_cons (s_lss true rfl rfl (dtrue hc124) rfl ?_)
          refine r_cons (s_move (.bool true) rfl rfl ?_)
          refine r_cons (r_pass rfl rfl rfl rfl rfl ?_)
          refine r_cons (r_pass rfl rfl rfl rfl rfl ?_)
          refine r_cons (r_pass rfl rfl rfl rfl rfl ?_)
          refine r_cons (s_pick_t (.bool true) rfl rfl rfl ?_)
          refine r_cons (s_move (.bool true) rfl rfl ?_)
          refine r_cons (r_pass rfl rfl rfl rfl rfl ?_)
          refine r_cons (r_pass rfl rfl rfl rfl rfl ?_)
          refine r_cons (r_pass rfl rfl rfl rfl rfl ?_)
          refine r_cons (s_pick_t (.bool true) rfl rfl rfl ?_)
          refine r_cons (s_move (.bool true) rfl rfl ?_)
          refine r_cons (r_pass rfl rfl rfl rfl rfl ?_)
          refine r_cons (r_pass rfl rfl rfl rfl rfl ?_)
          refine r_cons (r_pass rfl rfl rfl rfl rfl ?_)
          refine r_cons (r_pass rfl rfl rfl rfl rfl ?_)
          refine r_cons (s_pick_t (.bool true) rfl rfl rfl ?_)
          refine r_nil ?_
          refine g_true rfl ?_
          refine g_seq ?_
          refine g_region ?_
          refine r_cons (s_assign (.int .i64 71) rfl rfl ?_)
          refine r_nil ?_
          refine g_ret' [.int .i64 71] Try.func40 Try.results40 ⟨rfl, trivial⟩ ?_
          have hN125 : (n.kids.length < 2) := by omega
          have ho126 : ownE n.kind.v n.var.v n.typ.v n.tests n.kids.length = 71 := by unfold ownE; simp [hc7, hc71, hc123, hN125]
          have H127 : St W w5 F := ((((H6.drop 0 rfl).drop 0 rfl).drop 0 rfl).drop 0 rfl)
          exact ⟨vint (nodeE_own ho126 (by omega)), H127⟩
        · skip
          refine r_cons (s_lss false rfl rfl (dfalse hc124) rfl ?_)
          refine r_cons (s_move (.bool false) rfl rfl ?_)
          refine r_cons (r_take rfl rfl ?_)
          refine s_fieldAddr 25 1 1 1 9 rfl fi_25_1 rfl rfl ?_
          refine r_cons (r_take rfl rfl ?_)
          refine s_load (.string n.var.v) ag_9 rfl (H6.blk_at (i := 0) rfl) rfl rfl ?_
          refine r_cons (r_take rfl rfl ?_)
          by_cases hc128 : n.var.v = ByteArray.empty
          · skip
            refine s_sneq false rfl rfl (ntrue hc128) rfl ?_
            refine r_cons (s_pick_f (.bool false) rfl rfl rfl ?_)
            refine r_cons (s_move (.bool false) rfl rfl ?_)
            refine r_cons (r_take rfl rfl ?_)
            refine s_fieldAddr 25 2 2 2 9 rfl fi_25_2 rfl rfl ?_
            refine r_cons (r_take rfl rfl ?_)
            refine s_load (.string n.typ.v) ag_9 rfl (H6.blk_at (i := 0) rfl) rfl rfl ?_
            refine r_cons (r_take rfl rfl ?_)
            by_cases hc129 : n.typ.v = ByteArray.empty
            · skip
              refine s_sneq false rfl rfl (ntrue hc129) rfl ?_
              refine r_cons (s_pick_f (.bool false) rfl rfl rfl ?_)
              refine r_cons (s_move (.bool false) rfl rfl ?_)
              refine r_cons (r_take rfl rfl ?_)
              refine s_fieldAddr 25 3 3 3 22 rfl fi_25_3 rfl rfl ?_
              refine r_cons (r_take rfl rfl ?_)
              refine s_load (.slice n.tp n.tests.length n.tc) ag_22 rfl (H6.blk_at (i := 0) rfl) rfl rfl ?_
              refine r_cons (r_take rfl rfl ?_)
              refine s_len n.tests.length rfl ⟨_, un_22⟩ rfl ?_
              refine r_cons (r_take rfl rfl ?_)
              by_cases hc130 : (0 : Int) < (n.tests.length : Int)
              · skip
                refine s_gtr true rfl rfl (dtrue hc130) rfl ?_
                refine r_cons (s_pick_f (.bool true) rfl rfl rfl ?_)
                refine r_nil ?_
                refine g_true rfl ?_
                refine g_seq ?_
                refine g_region ?_
                refine r_cons (s_assign (.int .i64 71) rfl rfl ?_)
                refine r_nil ?_
                refine g_ret' [.int .i64 71] Try.func40 Try.results40 ⟨rfl, trivial⟩ ?_
                have hN131 : ¬ (n.kids.length < 2) := by omega
                have hN132 : (0 < n.tests.length) := by omega
                have ho133 : ownE n.kind.v n.var.v n.typ.v n.tests n.kids.length = 71 := by unfold ownE; simp [hc7, hc71, hc123, hN131, hN132, hc128, hc129]
                have H134 : St W w5 F := ((((H6.drop 0 rfl).drop 0 rfl).drop 0 rfl).drop 0 rfl)
                exact ⟨vint (nodeE_own ho133 (by omega)), H134⟩
              · skip
                refine s_gtr false rfl rfl (dfalse hc130) rfl ?_
                refine r_cons (s_pick_f (.bool false) rfl rfl rfl ?_)
                refine r_nil ?_
                refine g_false rfl ?_
                refine g_skip ?_
                refine g_inBlock ?_
                refine g_seq ?_
                refine g_seq ?_
                refine g_region ?_
                refine r_cons (s_fieldAddr 25 4 4 4 23 rfl fi_25_4 rfl rfl ?_)
                refine r_cons (s_load (.slice n.kp n.kids.length n.kc) ag_23 rfl (H6.blk_at (i := 0) rfl) rfl rfl ?_)
                refine r_cons (s_len n.kids.length rfl ⟨_, un_23⟩ rfl ?_)
                refine r_cons (s_move (.int .i64 0) rfl rfl ?_)
                refine r_nil ?_
                refine g_block ?_
                have hN135 : ¬ (n.kids.length < 2) := by omega
                have hN136 : ¬ (0 < n.tests.length) := by omega
                have ho137 : ownE n.kind.v n.var.v n.typ.v n.tests n.kids.length = 0 := by unfold ownE; simp [hc7, hc71, hc123, hN135, hN136, hc128, hc129]
                obtain ⟨pA138, cA139, gA140, oA141, kA142, eA143, zA144, he150, hn145, hp146, hx147, hs148, hml, H149⟩ := Im.open_ H6 (i := 2) rfl
                obtain ⟨rfl, rfl⟩ : n.kp = pA138 ∧ n.kc = cA139 := by injection he150 with a_ b_ c_; exact ⟨a_, c_⟩
                have H151 : St W w5 (imi (0 < n.kids.length) gA140 (.cells kA142 eA143 zA144) :: Im 11 (.slice n.tp n.tests.length n.tc) n.tests.length (n.tests.flatMap condCell) :: Im 5 (.slice n.kp n.kids.length n.kc) n.kids.length (n.kids.flatMap nodeCell) :: NodesA n.kids :: F) := (((((H149.move 4 rfl).move 4 rfl).move 4 rfl).move 3 rfl).drop 4 rfl)
                refine g_loop_inv (fun (x_ : Nat) => match x_ with | j => [(2, .int .i64 0), (58, .slice n.kp n.kids.length n.kc), (59, .int .i64 (n.kids.length : Int)), (60, .int .i64 (j : Int))]) (fun (x_ : Nat) w => match x_ with | j => (j ≤ n.kids.length) ∧ (∀ q, q < j → nodeE (n.kids.getD q default) = 0) ∧ St W w (imi (0 < n.kids.length) gA140 (.cells kA142 eA143 zA144) :: Im 11 (.slice n.tp n.tests.length n.tc) n.tests.length (n.tests.flatMap condCell) :: Im 5 (.slice n.kp n.kids.length n.kc) n.kids.length (n.kids.flatMap nodeCell) :: NodesA n.kids :: F)) (fun (x_ : Nat) => match x_ with | j => n.kids.length - j) (0) ?_ ?_ ?_
                · exact ⟨by first | rfl | exact vint (by omega), by first | rfl | exact vint (by omega), by first | rfl | exact vint (by omega), by first | rfl | exact vint (by omega), trivial⟩
                · exact ⟨(by omega), (fun q hq => by omega), H151⟩
                · rintro j ρ152 w153 ⟨hjl, hz, H154⟩ nx155
                  change Ends _ _ (upds ρ152 [(2, .int .i64 0), (58, .slice n.kp n.kids.length n.kc), (59, .int .i64 (n.kids.length : Int)), (60, .int .i64 (j : Int))]) w153
                  refine g_seq ?_
                  refine g_region ?_
                  by_cases hc156 : (j : Int) < (n.kids.length : Int)
                  · skip
                    refine r_cons (s_lss true rfl rfl (dtrue hc156) rfl ?_)
                    refine r_nil ?_
                    refine g_seq ?_
                    refine g_true rfl ?_
                    refine g_skip ?_
                    refine g_seq ?_
                    refine g_block ?_
                    refine g_seq ?_
                    refine g_region ?_
                    refine r_cons (s_indexAddr gA140 (off := oA141) (j : Int) 5 (oA141 + j * 5) (by exact congrArg (fun z_ => Value.slice z_ n.kids.length n.kc) (hp146 (by omega))) rfl el_23 (by omega) rfl rfl ?_)
                    refine r_cons (s_loadAgg [.int .i64 ((n.kids.getD j default).kind.v), .string ((n.kids.getD j default).var.v), .string ((n.kids.getD j default).typ.v), .slice ((n.kids.getD j default).tp) ((n.kids.getD j default).tests.length) ((n.kids.getD j default).tc), .slice ((n.kids.getD j default).kp) ((n.kids.getD j default).kids.length) ((n.kids.getD j default).kc)] 5 ag_25 rfl (H154.imi_at (i := 0) rfl (by omega)) (by have := elem_size (i := j) (s := 5) (hs148 (by omega)) (by omega); omega) (elem_take nodeCell_len (hx147 (by omega)) (by omega) default) rfl ?_)
                    refine r_cons (s_alloc H154 25 ze_25 rfl ?_); intro bk157 w158 H159
                    refine r_cons (s_storeAgg H159 0 #[.int .i64 ((n.kids.getD j default).kind.v), .string ((n.kids.getD j default).var.v), .string ((n.kids.getD j default).typ.v), .slice ((n.kids.getD j default).tp) ((n.kids.getD j default).tests.length) ((n.kids.getD j default).tc), .slice ((n.kids.getD j default).kp) ((n.kids.getD j default).kids.length) ((n.kids.getD j default).kc)] 5 rfl rfl rfl sz_25 rfl (by simp [Value.oneCell']) (Nat.le_of_ble_eq_true rfl) (fun o h1 h2 => by first | (simp; done) | (simp; omega)) (cs' := #[.int .i64 ((n.kids.getD j default).kind.v), .string ((n.kids.getD j default).var.v), .string ((n.kids.getD j default).typ.v), .slice ((n.kids.getD j default).tp) ((n.kids.getD j default).tests.length) ((n.kids.getD j default).tc), .slice ((n.kids.getD j default).kp) ((n.kids.getD j default).kids.length) ((n.kids.getD j default).kc)]) rfl ?_); intro w160 H161
                    refine r_nil ?_
                    refine g_seq ?_
                    refine g_region ?_
                    refine r_cons (s_loadAgg [.int .i64 ((n.kids.getD j default).kind.v), .string ((n.kids.getD j default).var.v), .string ((n.kids.getD j default).typ.v), .slice ((n.kids.getD j default).tp) ((n.kids.getD j default).tests.length) ((n.kids.getD j default).tc), .slice ((n.kids.getD j default).kp) ((n.kids.getD j default).kids.length) ((n.kids.getD j default).kc)] 5 ag_25 rfl (H161.blk_at (i := 0) rfl) (Nat.le_of_ble_eq_true rfl) rfl rfl ?_)
                    have H162 := NodesA.at H161 (i := 4) rfl (j := j) (by omega)
                    refine r_cons (s_call [.agg #[.int .i64 ((n.kids.getD j default).kind.v), .string ((n.kids.getD j default).var.v), .string ((n.kids.getD j default).typ.v), .slice ((n.kids.getD j default).tp) ((n.kids.getD j default).tests.length) ((n.kids.getD j default).tc), .slice ((n.kids.getD j default).kp) ((n.kids.getD j default).kids.length) ((n.kids.getD j default).kc)]] pl_40 rfl rfl (ih (n.kids.getD j default) (by have h9 := kid_lt (n := n) (j := j) (by omega); omega) (i := 0) rfl H162) ?_)
                    rintro _ w163 ⟨rfl, H164⟩
                    refine r_cons (s_assign (.int .i64 (nodeE (n.kids.getD j default))) rfl rfl ?_)
                    refine r_nil ?_
                    refine g_seq ?_
                    refine g_region ?_
                    refine r_cons (s_move (.int .i64 (nodeE (n.kids.getD j default))) rfl rfl ?_)
                    by_cases hc165 : nodeE (n.kids.getD j default) = 0
                    · skip
                      refine r_cons (s_neq false rfl rfl (ntrue hc165) rfl ?_)
                      refine r_nil ?_
                      refine g_false rfl ?_
                      refine g_skip ?_
                      refine g_inBlock ?_
                      refine g_region ?_
                      refine r_cons (s_add ((j : Int) + 1) rfl rfl (wi64 (by omega)) rfl ?_)
                      refine r_cons (s_move (.int .i64 ((j : Int) + 1)) rfl rfl ?_)
                      refine r_nil ?_
                      have H166 : St W w163 (imi (0 < n.kids.length) gA140 (.cells kA142 eA143 zA144) :: Im 11 (.slice n.tp n.tests.length n.tc) n.tests.length (n.tests.flatMap condCell) :: Im 5 (.slice n.kp n.kids.length n.kc) n.kids.length (n.kids.flatMap nodeCell) :: NodesA n.kids :: F) := ((((((H164.move 5 rfl).move 5 rfl).move 5 rfl).move 5 rfl).drop 4 rfl).drop 4 rfl)
                      exact nx155 (j + 1) _ _ ⟨(by omega), (fun q hq => (Nat.lt_or_ge q j).elim (hz q) (fun h => by rw [show q = j from by omega]; exact hc165)), H166⟩ (by first | (dsimp only; omega) | omega) ⟨by first | rfl | exact vint (by omega), by first | rfl | exact vint (by omega), by first | rfl | exact vint (by omega), by first | rfl | exact vint (by omega), trivial⟩
                    · skip
                      refine r_cons (s_neq true rfl rfl (nfalse hc165) rfl ?_)
                      refine r_nil ?_
                      refine g_true rfl ?_
                      refine g_seq ?_
                      refine g_region ?_
                      refine r_cons (s_move (.int .i64 (nodeE (n.kids.getD j default))) rfl rfl ?_)
                      refine r_cons (s_assign (.int .i64 (nodeE (n.kids.getD j default))) rfl rfl ?_)
                      refine r_nil ?_
                      refine g_ret' [.int .i64 (nodeE (n.kids.getD j default))] Try.func40 Try.results40 ⟨rfl, trivial⟩ ?_
                      have H167 : St W w163 F := ((((((H164.drop 0 rfl).drop 0 rfl).drop 0 rfl).drop 0 rfl).drop 0 rfl).drop 0 rfl)
                      exact ⟨vint ((firstE_at (f := nodeE) hz (by omega) (by omega)).trans (nodeE_kids ho137).symm), H167⟩
                  · skip
                    refine r_cons (s_lss false rfl rfl (dfalse hc156) rfl ?_)
                    refine r_nil ?_
                    refine g_seq ?_
                    refine g_false rfl ?_
                    refine g_exit (by rfl) ?_
                    refine g_seq ?_
                    refine g_region ?_
                    refine r_cons (s_assign (.int .i64 0) rfl rfl ?_)
                    refine r_nil ?_
                    refine g_ret' [.int .i64 0] Try.func40 Try.results40 ⟨rfl, trivial⟩ ?_
                    have H168 : St W w153 F := ((((H154.drop 0 rfl).drop 0 rfl).drop 0 rfl).drop 0 rfl)
                    exact ⟨vint ((firstE_end (f := nodeE) hz (by omega)).trans (nodeE_kids ho137).symm), H168⟩
            · skip
              refine s_sneq true rfl rfl (nfalse hc129) rfl ?_
              refine r_cons (s_pick_f (.bool true) rfl rfl rfl ?_)
              refine r_cons (s_move (.bool true) rfl rfl ?_)
              refine r_cons (r_pass rfl rfl rfl rfl rfl ?_)
              refine r_cons (r_pass rfl rfl rfl rfl rfl ?_)
              refine r_cons (r_pass rfl rfl rfl rfl rfl ?_)
              refine r_cons (r_pass rfl rfl rfl rfl rfl ?_)
              refine r_cons (s_pick_t (.bool true) rfl rfl rfl ?_)
              refine r_nil ?_
              refine g_true rfl ?_
              refine g_seq ?_
              refine g_region ?_
              refine r_cons (s_assign (.int .i64 71) rfl rfl ?_)
              refine r_nil ?_
              refine g_ret' [.int .i64 71] Try.func40 Try.results40 ⟨rfl, trivial⟩ ?_
              have hN169 : ¬ (n.kids.length < 2) := by omega
              have ho170 : ownE n.kind.v n.var.v n.typ.v n.tests n.kids.length = 71 := by unfold ownE; simp [hc7, hc71, hc123, hN169, hc128, hc129]
              have H171 : St W w5 F := ((((H6.drop 0 rfl).drop 0 rfl).drop 0 rfl).drop 0 rfl)
              exact ⟨vint (nodeE_own ho170 (by omega)), H171⟩
          · skip
            refine s_sneq true rfl rfl (nfalse hc128) rfl ?_
            refine r_cons (s_pick_f (.bool true) rfl rfl rfl ?_)
            refine r_cons (s_move (.bool true) rfl rfl ?_)
            refine r_cons (r_pass rfl rfl rfl rfl rfl ?_)
            refine r_cons (r_pass rfl rfl rfl rfl rfl ?_)
            refine r_cons (r_pass rfl rfl rfl rfl rfl ?_)
            refine r_cons (s_pick_t (.bool true) rfl rfl rfl ?_)
            refine r_cons (s_move (.bool true) rfl rfl ?_)
            refine r_cons (r_pass rfl rfl rfl rfl rfl ?_)
            refine r_cons (r_pass rfl rfl rfl rfl rfl ?_)
            refine r_cons (r_pass rfl rfl rfl rfl rfl ?_)
            refine r_cons (r_pass rfl rfl rfl rfl rfl ?_)
            refine r_cons (s_pick_t (.bool true) rfl rfl rfl ?_)
            refine r_nil ?_
            refine g_true rfl ?_
            refine g_seq ?_
            refine g_region ?_
            refine r_cons (s_assign (.int .i64 71) rfl rfl ?_)
            refine r_nil ?_
            refine g_ret' [.int .i64 71] Try.func40 Try.results40 ⟨rfl, trivial⟩ ?_
            have hN172 : ¬ (n.kids.length < 2) := by omega
            have ho173 : ownE n.kind.v n.var.v n.typ.v n.tests n.kids.length = 71 := by unfold ownE; simp [hc7, hc71, hc123, hN172, hc128]
            have H174 : St W w5 F := ((((H6.drop 0 rfl).drop 0 rfl).drop 0 rfl).drop 0 rfl)
            exact ⟨vint (nodeE_own ho173 (by omega)), H174⟩
      · skip
        refine r_cons (s_eql false rfl rfl (dfalse hc123) rfl ?_)
        refine r_cons (s_assign (.bool false) rfl rfl ?_)
        refine r_nil ?_
        refine g_false rfl ?_
        refine g_region ?_
        by_cases hc175 : n.kind.v = 4
        · skip
          refine r_cons (s_eql true rfl rfl (dtrue hc175) rfl ?_)
          refine r_cons (s_assign (.bool true) rfl rfl ?_)
          refine r_nil ?_
          refine g_true rfl ?_
          refine g_seq ?_
          refine g_region ?_
          refine r_cons (s_fieldAddr 25 4 4 4 23 rfl fi_25_4 rfl rfl ?_)
          refine r_cons (s_load (.slice n.kp n.kids.length n.kc) ag_23 rfl (H6.blk_at (i := 0) rfl) rfl rfl ?_)
          refine r_cons (s_len n.kids.length rfl ⟨_, un_23⟩ rfl ?_)
          by_cases hc176 : (n.kids.length : Int) < 2
          · skip
            refine r_cons (s_lss true rfl rfl (dtrue hc176) rfl ?_)
            refine r_cons (s_move (.bool true) rfl rfl ?_)
            refine r_cons (r_pass rfl rfl rfl rfl rfl ?_)
            refine r_cons (r_pass rfl rfl rfl rfl rfl ?_)
            refine r_cons (r_pass rfl rfl rfl rfl rfl ?_)
            refine r_cons (s_pick_t (.bool true) rfl rfl rfl ?_)
            refine r_cons (s_move (.bool true) rfl rfl ?_)
            refine r_cons (r_pass rfl rfl rfl rfl rfl ?_)
            refine r_cons (r_pass rfl rfl rfl rfl rfl ?_)
            refine r_cons (r_pass rfl rfl rfl rfl rfl ?_)
            refine r_cons (s_pick_t (.bool true) rfl rfl rfl ?_)
            refine r_cons (s_move (.bool true) rfl rfl ?_)
            refine r_cons (r_pass rfl rfl rfl rfl rfl ?_)
            refine r_cons (r_pass rfl rfl rfl rfl rfl ?_)
            refine r_cons (r_pass rfl rfl rfl rfl rfl ?_)
            refine r_cons (r_pass rfl rfl rfl rfl rfl ?_)
            refine r_cons (s_pick_t (.bool true) rfl rfl rfl ?_)
            refine r_nil ?_
            refine g_true rfl ?_
            refine g_seq ?_
            refine g_region ?_
            refine r_cons (s_assign (.int .i64 71) rfl rfl ?_)
            refine r_nil ?_
            refine g_ret' [.int .i64 71] Try.func40 Try.results40 ⟨rfl, trivial⟩ ?_
            have hN177 : (n.kids.length < 2) := by omega
            have ho178 : ownE n.kind.v n.var.v n.typ.v n.tests n.kids.length = 71 := by unfold ownE; simp [hc7, hc71, hc123, hc175, hN177]
            have H179 : St W w5 F := ((((H6.drop 0 rfl).drop 0 rfl).drop 0 rfl).drop 0 rfl)
            exact ⟨vint (nodeE_own ho178 (by omega)), H179⟩
          · skip
            refine r_cons (s_lss false rfl rfl (dfalse hc176) rfl ?_)
            refine r_cons (s_move (.bool false) rfl rfl ?_)
            refine r_cons (r_take rfl rfl ?_)
            refine s_fieldAddr 25 1 1 1 9 rfl fi_25_1 rfl rfl ?_
            refine r_cons (r_take rfl rfl ?_)
            refine s_load (.string n.var.v) ag_9 rfl (H6.blk_at (i := 0) rfl) rfl rfl ?_
            refine r_cons (r_take rfl rfl ?_)
            by_cases hc180 : n.var.v = ByteArray.empty
            · skip
              refine s_sneq false rfl rfl (ntrue hc180) rfl ?_
              refine r_cons (s_pick_f (.bool false) rfl rfl rfl ?_)
              refine r_cons (s_move (.bool false) rfl rfl ?_)
              refine r_cons (r_take rfl rfl ?_)
              refine s_fieldAddr 25 2 2 2 9 rfl fi_25_2 rfl rfl ?_
              refine r_cons (r_take rfl rfl ?_)
              refine s_load (.string n.typ.v) ag_9 rfl (H6.blk_at (i := 0) rfl) rfl rfl ?_
              refine r_cons (r_take rfl rfl ?_)
              by_cases hc181 : n.typ.v = ByteArray.empty
              · skip
                refine s_sneq false rfl rfl (ntrue hc181) rfl ?_
                refine r_cons (s_pick_f (.bool false) rfl rfl rfl ?_)
                refine r_cons (s_move (.bool false) rfl rfl ?_)
                refine r_cons (r_take rfl rfl ?_)
                refine s_fieldAddr 25 3 3 3 22 rfl fi_25_3 rfl rfl ?_
                refine r_cons (r_take rfl rfl ?_)
                refine s_load (.slice n.tp n.tests.length n.tc) ag_22 rfl (H6.blk_at (i := 0) rfl) rfl rfl ?_
                refine r_cons (r_take rfl rfl ?_)
                refine s_len n.tests.length rfl ⟨_, un_22⟩ rfl ?_
                refine r_cons (r_take rfl rfl ?_)
                by_cases hc182 : (0 : Int) < (n.tests.length : Int)
                · skip
                  refine s_gtr true rfl rfl (dtrue hc182) rfl ?_
                  refine r_cons (s_pick_f (.bool true) rfl rfl rfl ?_)
                  refine r_nil ?_
                  refine g_true rfl ?_
                  refine g_seq ?_
                  refine g_region ?_
                  refine r_cons (s_assign (.int .i64 71) rfl rfl ?_)
                  refine r_nil ?_
                  refine g_ret' [.int .i64 71] Try.func40 Try.results40 ⟨rfl, trivial⟩ ?_
                  have hN183 : ¬ (n.kids.length < 2) := by omega
                  have hN184 : (0 < n.tests.length) := by omega
                  have ho185 : ownE n.kind.v n.var.v n.typ.v n.tests n.kids.length = 71 := by unfold ownE; simp [hc7, hc71, hc123, hc175, hN183, hN184, hc180, hc181]
                  have H186 : St W w5 F := ((((H6.drop 0 rfl).drop 0 rfl).drop 0 rfl).drop 0 rfl)
                  exact ⟨vint (nodeE_own ho185 (by omega)), H186⟩
                · skip
                  refine s_gtr false rfl rfl (dfalse hc182) rfl ?_
                  refine r_cons (s_pick_f (.bool false) rfl rfl rfl ?_)
                  refine r_nil ?_
                  refine g_false rfl ?_
                  refine g_skip ?_
                  refine g_inBlock ?_
                  refine g_seq ?_
                  refine g_seq ?_
                  refine g_region ?_
                  refine r_cons (s_fieldAddr 25 4 4 4 23 rfl fi_25_4 rfl rfl ?_)
                  refine r_cons (s_load (.slice n.kp n.kids.length n.kc) ag_23 rfl (H6.blk_at (i := 0) rfl) rfl rfl ?_)
                  refine r_cons (s_len n.kids.length rfl ⟨_, un_23⟩ rfl ?_)
                  refine r_cons (s_move (.int .i64 0) rfl rfl ?_)
                  refine r_nil ?_
                  refine g_block ?_
                  have hN187 : ¬ (n.kids.length < 2) := by omega
                  have hN188 : ¬ (0 < n.tests.length) := by omega
                  have ho189 : ownE n.kind.v n.var.v n.typ.v n.tests n.kids.length = 0 := by unfold ownE; simp [hc7, hc71, hc123, hc175, hN187, hN188, hc180, hc181]
                  obtain ⟨pA190, cA191, gA192, oA193, kA194, eA195, zA196, he202, hn197, hp198, hx199, hs200, hml, H201⟩ := Im.open_ H6 (i := 2) rfl
                  obtain ⟨rfl, rfl⟩ : n.kp = pA190 ∧ n.kc = cA191 := by injection he202 with a_ b_ c_; exact ⟨a_, c_⟩
                  have H203 : St W w5 (imi (0 < n.kids.length) gA192 (.cells kA194 eA195 zA196) :: Im 11 (.slice n.tp n.tests.length n.tc) n.tests.length (n.tests.flatMap condCell) :: Im 5 (.slice n.kp n.kids.length n.kc) n.kids.length (n.kids.flatMap nodeCell) :: NodesA n.kids :: F) := (((((H201.move 4 rfl).move 4 rfl).move 4 rfl).move 3 rfl).drop 4 rfl)
                  refine g_loop_inv (fun (x_ : Nat) => match x_ with | j => [(2, .int .i64 0), (58, .slice n.kp n.kids.length n.kc), (59, .int .i64 (n.kids.length : Int)), (60, .int .i64 (j : Int))]) (fun (x_ : Nat) w => match x_ with | j => (j ≤ n.kids.length) ∧ (∀ q, q < j → nodeE (n.kids.getD q default) = 0) ∧ St W w (imi (0 < n.kids.length) gA192 (.cells kA194 eA195 zA196) :: Im 11 (.slice n.tp n.tests.length n.tc) n.tests.length (n.tests.flatMap condCell) :: Im 5 (.slice n.kp n.kids.length n.kc) n.kids.length (n.kids.flatMap nodeCell) :: NodesA n.kids :: F)) (fun (x_ : Nat) => match x_ with | j => n.kids.length - j) (0) ?_ ?_ ?_
                  · exact ⟨by first | rfl | exact vint (by omega), by first | rfl | exact vint (by omega), by first | rfl | exact vint (by omega), by first | rfl | exact vint (by omega), trivial⟩
                  · exact ⟨(by omega), (fun q hq => by omega), H203⟩
                  · rintro j ρ204 w205 ⟨hjl, hz, H206⟩ nx207
                    change Ends _ _ (upds ρ204 [(2, .int .i64 0), (58, .slice n.kp n.kids.length n.kc), (59, .int .i64 (n.kids.length : Int)), (60, .int .i64 (j : Int))]) w205
                    refine g_seq ?_
                    refine g_region ?_
                    by_cases hc208 : (j : Int) < (n.kids.length : Int)
                    · skip
                      refine r_cons (s_lss true rfl rfl (dtrue hc208) rfl ?_)
                      refine r_nil ?_
                      refine g_seq ?_
                      refine g_true rfl ?_
                      refine g_skip ?_
                      refine g_seq ?_
                      refine g_block ?_
                      refine g_seq ?_
                      refine g_region ?_
                      refine r_cons (s_indexAddr gA192 (off := oA193) (j : Int) 5 (oA193 + j * 5) (by exact congrArg (fun z_ => Value.slice z_ n.kids.length n.kc) (hp198 (by omega))) rfl el_23 (by omega) rfl rfl ?_)
                      refine r_cons (s_loadAgg [.int .i64 ((n.kids.getD j default).kind.v), .string ((n.kids.getD j default).var.v), .string ((n.kids.getD j default).typ.v), .slice ((n.kids.getD j default).tp) ((n.kids.getD j default).tests.length) ((n.kids.getD j default).tc), .slice ((n.kids.getD j default).kp) ((n.kids.getD j default).kids.length) ((n.kids.getD j default).kc)] 5 ag_25 rfl (H206.imi_at (i := 0) rfl (by omega)) (by have := elem_size (i := j) (s := 5) (hs200 (by omega)) (by omega); omega) (elem_take nodeCell_len (hx199 (by omega)) (by omega) default) rfl ?_)
                      refine r_cons (s_alloc H206 25 ze_25 rfl ?_); intro bk209 w210 H211
                      refine r_cons (s_storeAgg H211 0 #[.int .i64 ((n.kids.getD j default).kind.v), .string ((n.kids.getD j default).var.v), .string ((n.kids.getD j default).typ.v), .slice ((n.kids.getD j default).tp) ((n.kids.getD j default).tests.length) ((n.kids.getD j default).tc), .slice ((n.kids.getD j default).kp) ((n.kids.getD j default).kids.length) ((n.kids.getD j default).kc)] 5 rfl rfl rfl sz_25 rfl (by simp [Value.oneCell']) (Nat.le_of_ble_eq_true rfl) (fun o h1 h2 => by first | (simp; done) | (simp; omega)) (cs' := #[.int .i64 ((n.kids.getD j default).kind.v), .string ((n.kids.getD j default).var.v), .string ((n.kids.getD j default).typ.v), .slice ((n.kids.getD j default).tp) ((n.kids.getD j default).tests.length) ((n.kids.getD j default).tc), .slice ((n.kids.getD j default).kp) ((n.kids.getD j default).kids.length) ((n.kids.getD j default).kc)]) rfl ?_); intro w212 H213
                      refine r_nil ?_
                      refine g_seq ?_
                      refine g_region ?_
                      refine r_cons (s_loadAgg [.int .i64 ((n.kids.getD j default).kind.v), .string ((n.kids.getD j default).var.v), .string ((n.kids.getD j default).typ.v), .slice ((n.kids.getD j default).tp) ((n.kids.getD j default).tests.length) ((n.kids.getD j default).tc), .slice ((n.kids.getD j default).kp) ((n.kids.getD j default).kids.length) ((n.kids.getD j default).kc)] 5 ag_25 rfl (H213.blk_at (i := 0) rfl) (Nat.le_of_ble_eq_true rfl) rfl rfl ?_)
                      have H214 := NodesA.at H213 (i := 4) rfl (j := j) (by omega)
                      refine r_cons (s_call [.agg #[.int .i64 ((n.kids.getD j default).kind.v), .string ((n.kids.getD j default).var.v), .string ((n.kids.getD j default).typ.v), .slice ((n.kids.getD j default).tp) ((n.kids.getD j default).tests.length) ((n.kids.getD j default).tc), .slice ((n.kids.getD j default).kp) ((n.kids.getD j default).kids.length) ((n.kids.getD j default).kc)]] pl_40 rfl rfl (ih (n.kids.getD j default) (by have h9 := kid_lt (n := n) (j := j) (by omega); omega) (i := 0) rfl H214) ?_)
                      rintro _ w215 ⟨rfl, H216⟩
                      refine r_cons (s_assign (.int .i64 (nodeE (n.kids.getD j default))) rfl rfl ?_)
                      refine r_nil ?_
                      refine g_seq ?_
                      refine g_region ?_
                      refine r_cons (s_move (.int .i64 (nodeE (n.kids.getD j default))) rfl rfl ?_)
                      by_cases hc217 : nodeE (n.kids.getD j default) = 0
                      · skip
                        refine r_cons (s_neq false rfl rfl (ntrue hc217) rfl ?_)
                        refine r_nil ?_
                        refine g_false rfl ?_
                        refine g_skip ?_
                        refine g_inBlock ?_
                        refine g_region ?_
                        refine r_cons (s_add ((j : Int) + 1) rfl rfl (wi64 (by omega)) rfl ?_)
                        refine r_cons (s_move (.int .i64 ((j : Int) + 1)) rfl rfl ?_)
                        refine r_nil ?_
                        have H218 : St W w215 (imi (0 < n.kids.length) gA192 (.cells kA194 eA195 zA196) :: Im 11 (.slice n.tp n.tests.length n.tc) n.tests.length (n.tests.flatMap condCell) :: Im 5 (.slice n.kp n.kids.length n.kc) n.kids.length (n.kids.flatMap nodeCell) :: NodesA n.kids :: F) := ((((((H216.move 5 rfl).move 5 rfl).move 5 rfl).move 5 rfl).drop 4 rfl).drop 4 rfl)
                        exact nx207 (j + 1) _ _ ⟨(by omega), (fun q hq => (Nat.lt_or_ge q j).elim (hz q) (fun h => by rw [show q = j from by omega]; exact hc217)), H218⟩ (by first | (dsimp only; omega) | omega) ⟨by first | rfl | exact vint (by omega), by first | rfl | exact vint (by omega), by first | rfl | exact vint (by omega), by first | rfl | exact vint (by omega), trivial⟩
                      · skip
                        refine r_cons (s_neq true rfl rfl (nfalse hc217) rfl ?_)
                        refine r_nil ?_
                        refine g_true rfl ?_
                        refine g_seq ?_
                        refine g_region ?_
                        refine r_cons (s_move (.int .i64 (nodeE (n.kids.getD j default))) rfl rfl ?_)
                        refine r_cons (s_assign (.int .i64 (nodeE (n.kids.getD j default))) rfl rfl ?_)
                        refine r_nil ?_
                        refine g_ret' [.int .i64 (nodeE (n.kids.getD j default))] Try.func40 Try.results40 ⟨rfl, trivial⟩ ?_
                        have H219 : St W w215 F := ((((((H216.drop 0 rfl).drop 0 rfl).drop 0 rfl).drop 0 rfl).drop 0 rfl).drop 0 rfl)
                        exact ⟨vint ((firstE_at (f := nodeE) hz (by omega) (by omega)).trans (nodeE_kids ho189).symm), H219⟩
                    · skip
                      refine r_cons (s_lss false rfl rfl (dfalse hc208) rfl ?_)
                      refine r_nil ?_
                      refine g_seq ?_
                      refine g_false rfl ?_
                      refine g_exit (by rfl) ?_
                      refine g_seq ?_
                      refine g_region ?_
                      refine r_cons (s_assign (.int .i64 0) rfl rfl ?_)
                      refine r_nil ?_
                      refine g_ret' [.int .i64 0] Try.func40 Try.results40 ⟨rfl, trivial⟩ ?_
                      have H220 : St W w205 F := ((((H206.drop 0 rfl).drop 0 rfl).drop 0 rfl).drop 0 rfl)
                      exact ⟨vint ((firstE_end (f := nodeE) hz (by omega)).trans (nodeE_kids ho189).symm), H220⟩
              · skip
                refine s_sneq true rfl rfl (nfalse hc181) rfl ?_
                refine r_cons (s_pick_f (.bool true) rfl rfl rfl ?_)
                refine r_cons (s_move (.bool true) rfl rfl ?_)
                refine r_cons (r_pass rfl rfl rfl rfl rfl ?_)
                refine r_cons (r_pass rfl rfl rfl rfl rfl ?_)
                refine r_cons (r_pass rfl rfl rfl rfl rfl ?_)
                refine r_cons (r_pass rfl rfl rfl rfl rfl ?_)
                refine r_cons (s_pick_t (.bool true) rfl rfl rfl ?_)
                refine r_nil ?_
                refine g_true rfl ?_
                refine g_seq ?_
                refine g_region ?_
                refine r_cons (s_assign (.int .i64 71) rfl rfl ?_)
                refine r_nil ?_
                refine g_ret' [.int .i64 71] Try.func40 Try.results40 ⟨rfl, trivial⟩ ?_
                have hN221 : ¬ (n.kids.length < 2) := by omega
                have ho222 : ownE n.kind.v n.var.v n.typ.v n.tests n.kids.length = 71 := by unfold ownE; simp [hc7, hc71, hc123, hc175, hN221, hc180, hc181]
                have H223 : St W w5 F := ((((H6.drop 0 rfl).drop 0 rfl).drop 0 rfl).drop 0 rfl)
                exact ⟨vint (nodeE_own ho222 (by omega)), H223⟩
            · skip
              refine s_sneq true rfl rfl (nfalse hc180) rfl ?_
              refine r_cons (s_pick_f (.bool true) rfl rfl rfl ?_)
              refine r_cons (s_move (.bool true) rfl rfl ?_)
              refine r_cons (r_pass rfl rfl rfl rfl rfl ?_)
              refine r_cons (r_pass rfl rfl rfl rfl rfl ?_)
              refine r_cons (r_pass rfl rfl rfl rfl rfl ?_)
              refine r_cons (s_pick_t (.bool true) rfl rfl rfl ?_)
              refine r_cons (s_move (.bool true) rfl rfl ?_)
              refine r_cons (r_pass rfl rfl rfl rfl rfl ?_)
              refine r_cons (r_pass rfl rfl rfl rfl rfl ?_)
              refine r_cons (r_pass rfl rfl rfl rfl rfl ?_)
              refine r_cons (r_pass rfl rfl rfl rfl rfl ?_)
              refine r_cons (s_pick_t (.bool true) rfl rfl rfl ?_)
              refine r_nil ?_
              refine g_true rfl ?_
              refine g_seq ?_
              refine g_region ?_
              refine r_cons (s_assign (.int .i64 71) rfl rfl ?_)
              refine r_nil ?_
              refine g_ret' [.int .i64 71] Try.func40 Try.results40 ⟨rfl, trivial⟩ ?_
              have hN224 : ¬ (n.kids.length < 2) := by omega
              have ho225 : ownE n.kind.v n.var.v n.typ.v n.tests n.kids.length = 71 := by unfold ownE; simp [hc7, hc71, hc123, hc175, hN224, hc180]
              have H226 : St W w5 F := ((((H6.drop 0 rfl).drop 0 rfl).drop 0 rfl).drop 0 rfl)
              exact ⟨vint (nodeE_own ho225 (by omega)), H226⟩
        · skip
          refine r_cons (s_eql false rfl rfl (dfalse hc175) rfl ?_)
          refine r_cons (s_assign (.bool false) rfl rfl ?_)
          refine r_nil ?_
          refine g_false rfl ?_
          refine g_seq ?_
          refine g_region ?_
          refine r_cons (s_assign (.int .i64 71) rfl rfl ?_)
          refine r_nil ?_
          refine g_ret' [.int .i64 71] Try.func40 Try.results40 ⟨rfl, trivial⟩ ?_
          have ho227 : ownE n.kind.v n.var.v n.typ.v n.tests n.kids.length = 71 := by unfold ownE; simp [hc7, hc71, hc123, hc175]
          have H228 : St W w5 F := ((((H6.drop 0 rfl).drop 0 rfl).drop 0 rfl).drop 0 rfl)
          exact ⟨vint (nodeE_own ho227 (by omega)), H228⟩
theorem check_node {W w : World} {F : List Atom} (n : NodeD)  {i : Nat} (hi : F[i]? = some (NodeA n)) (H : St W w F) : Calls Try.prog 40 #[.agg #[.int .i64 n.kind.v, .string n.var.v, .string n.typ.v, .slice n.tp n.tests.length n.tc, .slice n.kp n.kids.length n.kc]] w (Ret fun v w' => v = .int .i64 (nodeE n) ∧ St W w' F) := check_node_r (sizeOf n + 1) n (Nat.lt_succ_self _) hi H
set_option maxHeartbeats 4000000 in
set_option maxRecDepth 100000 in
theorem check_Shape {W w : World} {F : List Atom} (n : NodeD) {i : Nat} (hi : F[i]? = some (NodeA n)) (H : St W w F) : Calls Try.prog 19 #[.agg #[.int .i64 n.kind.v, .string n.var.v, .string n.typ.v, .slice n.tp n.tests.length n.tc, .slice n.kp n.kids.length n.kc]] w (Ret fun v w' => v = .int .i64 (shapeE n) ∧ St W w' F) := by
  have H1 := H.dup (i := i) (by exact hi) (NodeA_pers _)
  have H2 : St W w (NodeA n :: F) := H1
  refine calls_of_go (n := 20) Try.func19 rfl Try.ntmps19 rfl ?_
  refine g_seq ?_
  refine g_region ?_
  refine r_cons (s_box H2 25 (.agg #[.int .i64 n.kind.v, .string n.var.v, .string n.typ.v, .slice n.tp n.tests.length n.tc, .slice n.kp n.kids.length n.kc]) rfl (cs := #[.int .i64 n.kind.v, .string n.var.v, .string n.typ.v, .slice n.tp n.tests.length n.tc, .slice n.kp n.kids.length n.kc]) rfl rfl ?_); intro bk3 w4 H5
  refine r_cons (s_assign (.int .i64 0) rfl rfl ?_)
  refine r_nil ?_
  refine g_seq ?_
  refine g_seq ?_
  refine g_region ?_
  refine r_cons (s_loadAgg [.int .i64 n.kind.v, .string n.var.v, .string n.typ.v, .slice n.tp n.tests.length n.tc, .slice n.kp n.kids.length n.kc] 5 ag_25 rfl (H5.blk_at (i := 0) rfl) (Nat.le_of_ble_eq_true rfl) rfl rfl ?_)
  refine r_cons (s_call [.agg #[.int .i64 n.kind.v, .string n.var.v, .string n.typ.v, .slice n.tp n.tests.length n.tc, .slice n.kp n.kids.length n.kc]] pl_15 rfl rfl (check_Deep n (i := 1) rfl H5) ?_)
  rintro _ w6 ⟨rfl, H7⟩
  by_cases hc8 : (8 : Int) < deepN n
  · skip
    refine r_cons (s_gtr true rfl rfl (dtrue hc8) rfl ?_)
    refine r_cons (s_move (.bool true) rfl rfl ?_)
    refine r_cons (r_pass rfl rfl rfl rfl rfl ?_)
    refine r_cons (r_pass rfl rfl rfl rfl rfl ?_)
    refine r_cons (r_pass rfl rfl rfl rfl rfl ?_)
    refine r_cons (s_pick_t (.bool true) rfl rfl rfl ?_)
    refine r_nil ?_
    refine g_true rfl ?_
    refine g_seq ?_
    refine g_region ?_
    refine r_cons (s_assign (.int .i64 72) rfl rfl ?_)
    refine r_nil ?_
    refine g_ret' [.int .i64 72] Try.func19 Try.results19 ⟨rfl, trivial⟩ ?_
    have H9 : St W w6 F := ((H7.drop 0 rfl).drop 0 rfl)
    exact ⟨vint (by unfold shapeE; split <;> (try omega) <;> split <;> (try omega) <;> split <;> omega), H9⟩
  · skip
    refine r_cons (s_gtr false rfl rfl (dfalse hc8) rfl ?_)
    refine r_cons (s_move (.bool false) rfl rfl ?_)
    refine r_cons (r_take rfl rfl ?_)
    refine s_loadAgg [.int .i64 n.kind.v, .string n.var.v, .string n.typ.v, .slice n.tp n.tests.length n.tc, .slice n.kp n.kids.length n.kc] 5 ag_25 rfl (H7.blk_at (i := 0) rfl) (Nat.le_of_ble_eq_true rfl) rfl rfl ?_
    refine r_cons (r_take rfl rfl ?_)
    refine s_call [.agg #[.int .i64 n.kind.v, .string n.var.v, .string n.typ.v, .slice n.tp n.tests.length n.tc, .slice n.kp n.kids.length n.kc]] pl_13 rfl rfl (check_Terms n (i := 1) rfl H7) ?_
    rintro _ w10 ⟨rfl, H11⟩
    refine r_cons (r_take rfl rfl ?_)
    by_cases hc12 : (12 : Int) < termsN n
    · skip
      refine s_gtr true rfl rfl (dtrue hc12) rfl ?_
      refine r_cons (s_pick_f (.bool true) rfl rfl rfl ?_)
      refine r_nil ?_
      refine g_true rfl ?_
      refine g_seq ?_
      refine g_region ?_
      refine r_cons (s_assign (.int .i64 72) rfl rfl ?_)
      refine r_nil ?_
      refine g_ret' [.int .i64 72] Try.func19 Try.results19 ⟨rfl, trivial⟩ ?_
      have H13 : St W w10 F := ((H11.drop 0 rfl).drop 0 rfl)
      exact ⟨vint (by unfold shapeE; split <;> (try omega) <;> split <;> (try omega) <;> split <;> omega), H13⟩
    · skip
      refine s_gtr false rfl rfl (dfalse hc12) rfl ?_
      refine r_cons (s_pick_f (.bool false) rfl rfl rfl ?_)
      refine r_nil ?_
      refine g_false rfl ?_
      refine g_skip ?_
      refine g_seq ?_
      refine g_seq ?_
      refine g_region ?_
      refine r_cons (s_loadAgg [.int .i64 n.kind.v, .string n.var.v, .string n.typ.v, .slice n.tp n.tests.length n.tc, .slice n.kp n.kids.length n.kc] 5 ag_25 rfl (H11.blk_at (i := 0) rfl) (Nat.le_of_ble_eq_true rfl) rfl rfl ?_)
      refine r_cons (s_call [.agg #[.int .i64 n.kind.v, .string n.var.v, .string n.typ.v, .slice n.tp n.tests.length n.tc, .slice n.kp n.kids.length n.kc]] pl_40 rfl rfl (check_node n (i := 1) rfl H11) ?_)
      rintro _ w14 ⟨rfl, H15⟩
      refine r_cons (s_assign (.int .i64 (nodeE n)) rfl rfl ?_)
      refine r_nil ?_
      refine g_seq ?_
      refine g_region ?_
      refine r_cons (s_move (.int .i64 (nodeE n)) rfl rfl ?_)
      by_cases hc16 : nodeE n = 0
      · skip
        refine r_cons (s_neq false rfl rfl (ntrue hc16) rfl ?_)
        refine r_nil ?_
        refine g_false rfl ?_
        refine g_skip ?_
        refine g_seq ?_
        refine g_seq ?_
        refine g_region ?_
        refine r_cons (s_loadAgg [.int .i64 n.kind.v, .string n.var.v, .string n.typ.v, .slice n.tp n.tests.length n.tc, .slice n.kp n.kids.length n.kc] 5 ag_25 rfl (H15.blk_at (i := 0) rfl) (Nat.le_of_ble_eq_true rfl) rfl rfl ?_)
        refine r_cons (s_call [.agg #[.int .i64 n.kind.v, .string n.var.v, .string n.typ.v, .slice n.tp n.tests.length n.tc, .slice n.kp n.kids.length n.kc]] pl_17 rfl rfl (check_Alts n (i := 1) rfl H15) ?_)
        rintro _ w17 ⟨rfl, H18⟩
        by_cases hc19 : (64 : Int) < altsN n
        · skip
          refine r_cons (s_gtr true rfl rfl (dtrue hc19) rfl ?_)
          refine r_nil ?_
          refine g_true rfl ?_
          refine g_seq ?_
          refine g_region ?_
          refine r_cons (s_assign (.int .i64 72) rfl rfl ?_)
          refine r_nil ?_
          refine g_ret' [.int .i64 72] Try.func19 Try.results19 ⟨rfl, trivial⟩ ?_
          have H20 : St W w17 F := ((H18.drop 0 rfl).drop 0 rfl)
          exact ⟨vint (by unfold shapeE; split <;> (try omega) <;> split <;> (try omega) <;> split <;> omega), H20⟩
        · skip
          refine r_cons (s_gtr false rfl rfl (dfalse hc19) rfl ?_)
          refine r_nil ?_
          refine g_false rfl ?_
          refine g_skip ?_
          refine g_seq ?_
          refine g_region ?_
          refine r_cons (s_assign (.int .i64 0) rfl rfl ?_)
          refine r_nil ?_
          refine g_ret' [.int .i64 0] Try.func19 Try.results19 ⟨rfl, trivial⟩ ?_
          have H21 : St W w17 F := ((H18.drop 0 rfl).drop 0 rfl)
          exact ⟨vint (by unfold shapeE; split <;> (try omega) <;> split <;> (try omega) <;> split <;> omega), H21⟩
      · skip
        refine r_cons (s_neq true rfl rfl (nfalse hc16) rfl ?_)
        refine r_nil ?_
        refine g_true rfl ?_
        refine g_seq ?_
        refine g_region ?_
        refine r_cons (s_move (.int .i64 (nodeE n)) rfl rfl ?_)
        refine r_cons (s_assign (.int .i64 (nodeE n)) rfl rfl ?_)
        refine r_nil ?_
        refine g_ret' [.int .i64 (nodeE n)] Try.func19 Try.results19 ⟨rfl, trivial⟩ ?_
        have H22 : St W w14 F := ((H15.drop 0 rfl).drop 0 rfl)
        exact ⟨vint (by unfold shapeE; split <;> (try omega) <;> split <;> (try omega) <;> split <;> omega), H22⟩
set_option maxHeartbeats 4000000 in
set_option maxRecDepth 100000 in
theorem check_Pattern {W w : World} {F : List Atom} (p : PatD) {i : Nat} (hi : F[i]? = some (NodeA p.root)) {k : Nat} (hk : F[k]? = some (Im 11 (.slice p.wp p.wh.length p.wc) p.wh.length (p.wh.flatMap condCell))) (hz : sizeN p.root ≤ 1048576) (H : St W w F) : Calls Try.prog 11 #[.agg #[.string p.name.v, .int .i64 p.win.v, .int .i64 p.root.kind.v, .string p.root.var.v, .string p.root.typ.v, .slice p.root.tp p.root.tests.length p.root.tc, .slice p.root.kp p.root.kids.length p.root.kc, .slice p.wp p.wh.length p.wc]] w (Ret fun v w' => v = .int .i64 (patE p) ∧ St W w' F) := by
  have H1 := H.dup (i := i + 0) (by exact hi) (NodeA_pers _)
  have H2 := H1.dup (i := k + 1) (by exact hk) (Im_pers _ _ _ _)
  have H3 : St W w (Im 11 (.slice p.wp p.wh.length p.wc) p.wh.length (p.wh.flatMap condCell) :: NodeA p.root :: F) := H2
  refine calls_of_go (n := 40) Try.func11 rfl Try.ntmps11 rfl ?_
  refine g_seq ?_
  refine g_region ?_
  refine r_cons (s_box H3 27 (.agg #[.string p.name.v, .int .i64 p.win.v, .int .i64 p.root.kind.v, .string p.root.var.v, .string p.root.typ.v, .slice p.root.tp p.root.tests.length p.root.tc, .slice p.root.kp p.root.kids.length p.root.kc, .slice p.wp p.wh.length p.wc]) rfl (cs := #[.string p.name.v, .int .i64 p.win.v, .int .i64 p.root.kind.v, .string p.root.var.v, .string p.root.typ.v, .slice p.root.tp p.root.tests.length p.root.tc, .slice p.root.kp p.root.kids.length p.root.kc, .slice p.wp p.wh.length p.wc]) rfl rfl ?_); intro bk4 w5 H6
  refine r_cons (s_assign (.int .i64 0) rfl rfl ?_)
  refine r_nil ?_
  refine g_seq ?_
  refine g_seq ?_
  refine g_region ?_
  refine r_cons (s_fieldAddr 27 0 0 0 9 rfl fi_27_0 rfl rfl ?_)
  refine r_cons (s_load (.string p.name.v) ag_9 rfl (H6.blk_at (i := 0) rfl) rfl rfl ?_)
  refine r_cons (s_call [.string p.name.v] pl_37 rfl rfl (value_Name p.name.v p.name.ok H6) ?_)
  rintro _ w7 ⟨rfl, H8⟩
  refine r_cons (s_not (nameB p.name.v) rfl (!(nameB p.name.v)) rfl rfl ?_)
  refine r_cons (s_move (.bool (!(nameB p.name.v))) rfl rfl ?_)
  by_cases hb9 : (!(nameB p.name.v)) = true
  · skip
    refine r_cons (r_pass rfl (congrArg some hb9) rfl rfl rfl ?_)
    refine r_cons (r_pass rfl (congrArg some hb9) rfl rfl rfl ?_)
    refine r_cons (r_pass rfl (congrArg some hb9) rfl rfl rfl ?_)
    refine r_cons (s_pick_t (.bool true) (by exact congrArg Value.bool hb9) rfl rfl ?_)
    refine r_cons (s_move (.bool true) rfl rfl ?_)
    refine r_cons (r_pass rfl rfl rfl rfl rfl ?_)
    refine r_cons (r_pass rfl rfl rfl rfl rfl ?_)
    refine r_cons (r_pass rfl rfl rfl rfl rfl ?_)
    refine r_cons (s_pick_t (.bool true) rfl rfl rfl ?_)
    refine r_nil ?_
    refine g_true rfl ?_
    refine g_seq ?_
    refine g_region ?_
    refine r_cons (s_assign (.int .i64 70) rfl rfl ?_)
    refine r_nil ?_
    refine g_ret' [.int .i64 70] Try.func11 Try.results11 ⟨rfl, trivial⟩ ?_
    have hb10 : ((nameB p.name.v)) = false := by simpa using hb9
    have H11 : St W w7 F := (((H8.drop 0 rfl).drop 0 rfl).drop 0 rfl)
    exact ⟨vint (by unfold patE; rw [if_pos (by simp [hb10])]), H11⟩
  · have hb9 := eq_false_of_ne_true hb9
    refine r_cons (r_take rfl (congrArg some hb9) ?_)
    refine s_fieldAddr 27 1 1 1 2 rfl fi_27_1 rfl rfl ?_
    refine r_cons (r_take rfl (congrArg some hb9) ?_)
    refine s_load (.int .i64 p.win.v) ag_2 rfl (H8.blk_at (i := 0) rfl) rfl rfl ?_
    refine r_cons (r_take rfl (congrArg some hb9) ?_)
    by_cases hc12 : p.win.v < 1
    · skip
      refine s_lss true rfl rfl (dtrue hc12) rfl ?_
      refine r_cons (s_pick_f (.bool true) (by exact congrArg Value.bool hb9) rfl rfl ?_)
      refine r_cons (s_move (.bool true) rfl rfl ?_)
      refine r_cons (r_pass rfl rfl rfl rfl rfl ?_)
      refine r_cons (r_pass rfl rfl rfl rfl rfl ?_)
      refine r_cons (r_pass rfl rfl rfl rfl rfl ?_)
      refine r_cons (s_pick_t (.bool true) rfl rfl rfl ?_)
      refine r_nil ?_
      refine g_true rfl ?_
      refine g_seq ?_
      refine g_region ?_
      refine r_cons (s_assign (.int .i64 70) rfl rfl ?_)
      refine r_nil ?_
      refine g_ret' [.int .i64 70] Try.func11 Try.results11 ⟨rfl, trivial⟩ ?_
      have hb13 : ((nameB p.name.v)) = true := by simpa using hb9
      have H14 : St W w7 F := (((H8.drop 0 rfl).drop 0 rfl).drop 0 rfl)
      exact ⟨vint (by unfold patE; rw [if_pos (by simp [hc12, hb13])]), H14⟩
    · skip
      refine s_lss false rfl rfl (dfalse hc12) rfl ?_
      refine r_cons (s_pick_f (.bool false) (by exact congrArg Value.bool hb9) rfl rfl ?_)
      refine r_cons (s_move (.bool false) rfl rfl ?_)
      refine r_cons (r_take rfl rfl ?_)
      refine s_fieldAddr 27 1 1 1 2 rfl fi_27_1 rfl rfl ?_
      refine r_cons (r_take rfl rfl ?_)
      refine s_load (.int .i64 p.win.v) ag_2 rfl (H8.blk_at (i := 0) rfl) rfl rfl ?_
      refine r_cons (r_take rfl rfl ?_)
      by_cases hc15 : (1099511627776 : Int) < p.win.v
      · skip
        refine s_gtr true rfl rfl (dtrue hc15) rfl ?_
        refine r_cons (s_pick_f (.bool true) rfl rfl rfl ?_)
        refine r_nil ?_
        refine g_true rfl ?_
        refine g_seq ?_
        refine g_region ?_
        refine r_cons (s_assign (.int .i64 70) rfl rfl ?_)
        refine r_nil ?_
        refine g_ret' [.int .i64 70] Try.func11 Try.results11 ⟨rfl, trivial⟩ ?_
        have hb16 : ((nameB p.name.v)) = true := by simpa using hb9
        have H17 : St W w7 F := (((H8.drop 0 rfl).drop 0 rfl).drop 0 rfl)
        exact ⟨vint (by unfold patE; rw [if_pos (by simp [hc12, hc15, hb16])]), H17⟩
      · skip
        refine s_gtr false rfl rfl (dfalse hc15) rfl ?_
        refine r_cons (s_pick_f (.bool false) rfl rfl rfl ?_)
        refine r_nil ?_
        refine g_false rfl ?_
        refine g_skip ?_
        refine g_seq ?_
        refine g_seq ?_
        refine g_region ?_
        refine r_cons (s_buildSlice H8 1 2 (cs := #[.func (.func 19) #[] #[], .func (.func 21) #[] #[]]) #[.nilFunc] el_54 ze_34 (by decide) (by decide) (by kernel_rfl) rfl ?_); intro bk18 w19 H20
        refine r_cons (s_len 2 rfl ⟨_, un_54⟩ rfl ?_)
        refine r_cons (s_move (.int .i64 0) rfl rfl ?_)
        refine r_nil ?_
        refine g_block ?_
        refine g_loop ?_
        refine g_seq ?_
        refine g_region ?_
        refine r_cons (s_lss true rfl rfl (dtrue (by decide)) rfl ?_)
        refine r_nil ?_
        refine g_seq ?_
        refine g_true rfl ?_
        refine g_skip ?_
        refine g_seq ?_
        refine g_block ?_
        refine g_seq ?_
        refine g_region ?_
        refine r_cons (s_indexAddr bk18 0 1 0 rfl rfl el_54 (by omega) rfl rfl ?_)
        refine r_cons (s_load (.func (.func 19) #[] #[]) ag_34 rfl (H20.blk_at (i := 0) rfl) rfl rfl ?_)
        refine r_cons (s_assign (.func (.func 19) #[] #[]) rfl rfl ?_)
        refine r_nil ?_
        refine g_seq ?_
        refine g_region ?_
        refine r_cons (s_move (.func (.func 19) #[] #[]) rfl rfl ?_)
        refine r_cons (s_fieldAddr 27 2 2 2 25 rfl fi_27_2 rfl rfl ?_)
        refine r_cons (s_loadAgg [.int .i64 p.root.kind.v, .string p.root.var.v, .string p.root.typ.v, .slice p.root.tp p.root.tests.length p.root.tc, .slice p.root.kp p.root.kids.length p.root.kc] 5 ag_25 rfl (H20.blk_at (i := 1) rfl) (Nat.le_of_ble_eq_true rfl) rfl rfl ?_)
        refine r_cons (s_callv [] [.agg #[.int .i64 p.root.kind.v, .string p.root.var.v, .string p.root.typ.v, .slice p.root.tp p.root.tests.length p.root.tc, .slice p.root.kp p.root.kids.length p.root.kc]] rfl pl_19 rfl rfl (check_Shape p.root (i := 3) rfl H20) ?_)
        rintro _ w21 ⟨rfl, H22⟩
        refine r_cons (s_assign (.int .i64 (shapeE p.root)) rfl rfl ?_)
        refine r_nil ?_
        refine g_seq ?_
        refine g_region ?_
        refine r_cons (s_move (.int .i64 (shapeE p.root)) rfl rfl ?_)
        by_cases hc23 : shapeE p.root = 0
        · skip
          refine r_cons (s_neq false rfl rfl (ntrue hc23) rfl ?_)
          refine r_nil ?_
          refine g_false rfl ?_
          refine g_skip ?_
          refine g_inBlock ?_
          refine g_region ?_
          refine r_cons (s_add 1 rfl rfl (wi64 (by omega)) rfl ?_)
          refine r_cons (s_move (.int .i64 1) rfl rfl ?_)
          refine r_nil ?_
          refine g_inLoop ?_
          refine g_seq ?_
          refine g_region ?_
          refine r_cons (s_lss true rfl rfl (dtrue (by decide)) rfl ?_)
          refine r_nil ?_
          refine g_seq ?_
          refine g_true rfl ?_
          refine g_skip ?_
          refine g_seq ?_
          refine g_block ?_
          refine g_seq ?_
          refine g_region ?_
          refine r_cons (s_indexAddr bk18 1 1 1 rfl rfl el_54 (by omega) rfl rfl ?_)
          refine r_cons (s_load (.func (.func 21) #[] #[]) ag_34 rfl (H22.blk_at (i := 0) rfl) rfl rfl ?_)
          refine r_cons (s_assign (.func (.func 21) #[] #[]) rfl rfl ?_)
          refine r_nil ?_
          refine g_seq ?_
          refine g_region ?_
          refine r_cons (s_move (.func (.func 21) #[] #[]) rfl rfl ?_)
          refine r_cons (s_fieldAddr 27 2 2 2 25 rfl fi_27_2 rfl rfl ?_)
          refine r_cons (s_loadAgg [.int .i64 p.root.kind.v, .string p.root.var.v, .string p.root.typ.v, .slice p.root.tp p.root.tests.length p.root.tc, .slice p.root.kp p.root.kids.length p.root.kc] 5 ag_25 rfl (H22.blk_at (i := 1) rfl) (Nat.le_of_ble_eq_true rfl) rfl rfl ?_)
          refine r_cons (s_callv [] [.agg #[.int .i64 p.root.kind.v, .string p.root.var.v, .string p.root.typ.v, .slice p.root.tp p.root.tests.length p.root.tc, .slice p.root.kp p.root.kids.length p.root.kc]] rfl pl_21 rfl rfl (check_Binds p.root (i := 3) rfl (by omega) H22) ?_)
          rintro _ w24 ⟨rfl, H25⟩
          refine r_cons (s_assign (.int .i64 (bindsE p.root)) rfl rfl ?_)
          refine r_nil ?_
          refine g_seq ?_
          refine g_region ?_
          refine r_cons (s_move (.int .i64 (bindsE p.root)) rfl rfl ?_)
          by_cases hc26 : bindsE p.root = 0
          · skip
            refine r_cons (s_neq false rfl rfl (ntrue hc26) rfl ?_)
            refine r_nil ?_
            refine g_false rfl ?_
            refine g_skip ?_
            refine g_inBlock ?_
            refine g_region ?_
            refine r_cons (s_add 2 rfl rfl (wi64 (by omega)) rfl ?_)
            refine r_cons (s_move (.int .i64 2) rfl rfl ?_)
            refine r_nil ?_
            refine g_inLoop ?_
            refine g_seq ?_
            refine g_region ?_
            refine r_cons (s_lss false rfl rfl (dfalse (by decide)) rfl ?_)
            refine r_nil ?_
            refine g_seq ?_
            refine g_false rfl ?_
            refine g_exit (by rfl) ?_
            refine g_seq ?_
            refine g_mix (fun t_ w => St W w (blk bk18 (.cells #[.func (.func 19) #[] #[], .func (.func 21) #[] #[]] 34 (0, 0)) :: blk bk4 (.cells #[.string p.name.v, .int .i64 p.win.v, .int .i64 p.root.kind.v, .string p.root.var.v, .string p.root.typ.v, .slice p.root.tp p.root.tests.length p.root.tc, .slice p.root.kp p.root.kids.length p.root.kc, .slice p.wp p.wh.length p.wc] 27 (0, 0)) :: Im 11 (.slice p.wp p.wh.length p.wc) p.wh.length (p.wh.flatMap condCell) :: NodeA p.root :: t_)) F mixed 7 rfl H25.drew ?_
            refine f_first 0 (listed' := #[true, false, false, false, false, false, false]) rfl (by kernel_rfl) (by kernel_rfl) (by kernel_rfl) rfl ?_
            refine f_val rfl rfl rfl (by intro t_ w hw; exact x_fieldAddr 27 3 7 7 22 rfl fi_27_3 rfl w) ?_
            refine f_first 1 (listed' := #[true, true, false, false, false, false, false]) rfl (by kernel_rfl) (by kernel_rfl) (by kernel_rfl) rfl ?_
            refine f_val rfl rfl rfl (by intro t_ w hw; exact x_load (.slice p.wp p.wh.length p.wc) ag_22 rfl (hw.blk_at (i := 1) rfl) rfl) ?_
            refine f_first 2 (listed' := #[true, true, true, false, false, false, false]) rfl (by kernel_rfl) (by kernel_rfl) (by kernel_rfl) rfl ?_
            refine f_val rfl rfl rfl (by intro t_ w hw; exact x_fieldAddr 27 2 2 2 25 rfl fi_27_2 rfl w) ?_
            refine f_first 3 (listed' := #[true, true, true, true, false, false, false]) rfl (by kernel_rfl) (by kernel_rfl) (by kernel_rfl) rfl ?_
            refine f_val rfl rfl rfl (by intro t_ w hw; exact x_loadAgg [.int .i64 p.root.kind.v, .string p.root.var.v, .string p.root.typ.v, .slice p.root.tp p.root.tests.length p.root.tc, .slice p.root.kp p.root.kids.length p.root.kc] 5 ag_25 rfl (hw.blk_at (i := 1) rfl) (Nat.le_of_ble_eq_true rfl) rfl) ?_
            refine f_all (rs := [4]) (by kernel_rfl) (by simp) ?_
            refine a_cons ⟨_, rfl, ?_⟩ (fun x hx => absurd hx (by simp))
            intro w27 H28
            try dsimp only at H28
            refine s_call [.agg #[.int .i64 p.root.kind.v, .string p.root.var.v, .string p.root.typ.v, .slice p.root.tp p.root.tests.length p.root.tc, .slice p.root.kp p.root.kids.length p.root.kc]] pl_24 rfl rfl (check_Vars p.root (i := 3) rfl (by omega) H28) ?_
            rintro _ w31 ⟨pp29, cc30, rfl, H32⟩
            have H33 : St W w31 (blk bk18 (.cells #[.func (.func 19) #[] #[], .func (.func 21) #[] #[]] 34 (0, 0)) :: blk bk4 (.cells #[.string p.name.v, .int .i64 p.win.v, .int .i64 p.root.kind.v, .string p.root.var.v, .string p.root.typ.v, .slice p.root.tp p.root.tests.length p.root.tc, .slice p.root.kp p.root.kids.length p.root.kc, .slice p.wp p.wh.length p.wc] 27 (0, 0)) :: Im 11 (.slice p.wp p.wh.length p.wc) p.wh.length (p.wh.flatMap condCell) :: NodeA p.root :: Im 1 (.slice pp29 ((varsS p.root).length) cc30) ((varsS p.root).length) ((varsS p.root).flatMap strCell) :: F) := ((((H32.move 4 rfl).move 4 rfl).move 4 rfl).move 4 rfl)
            refine ⟨Im 1 (.slice pp29 ((varsS p.root).length) cc30) ((varsS p.root).length) ((varsS p.root).flatMap strCell) :: F, ?_, H33⟩
            change FReg _ _ _ _ _ #[true, true, true, true, true, false, false] _ _
            refine f_all (rs := [5]) (by kernel_rfl) (by simp) ?_
            refine a_cons ⟨_, rfl, ?_⟩ (fun x hx => absurd hx (by simp))
            intro w34 H35
            try dsimp only at H35
            refine s_call [.slice p.wp p.wh.length p.wc, .slice pp29 ((varsS p.root).length) cc30] pl_38 rfl rfl (check_conds p.wh (.slice p.wp p.wh.length p.wc) (varsS p.root) (.slice pp29 ((varsS p.root).length) cc30) (m := 2) rfl (jv := 4) rfl H35) ?_
            rintro _ w36 ⟨rfl, H37⟩
            refine ⟨Im 1 (.slice pp29 ((varsS p.root).length) cc30) ((varsS p.root).length) ((varsS p.root).flatMap strCell) :: F, ?_, H37⟩
            change FReg _ _ _ _ _ #[true, true, true, true, true, true, false] _ _
            refine f_first 6 (listed' := #[true, true, true, true, true, true, true]) rfl (by kernel_rfl) (by kernel_rfl) (by kernel_rfl) rfl ?_
            refine f_val rfl rfl rfl (by intro t_ w hw; exact x_assign (.int .i64 (condsE p.wh (varsS p.root))) rfl w) ?_
            refine f_done (by kernel_rfl) ?_
            intro w38 H39
            refine g_ret' [.int .i64 (condsE p.wh (varsS p.root))] Try.func11 Try.results11 ⟨rfl, trivial⟩ ?_
            have hb40 : ((nameB p.name.v)) = true := by simpa using hb9
            have H41 : St W w38 F := (((((H39.drop 0 rfl).drop 0 rfl).drop 0 rfl).drop 0 rfl).drop 0 rfl)
            exact ⟨vint (by unfold patE; rw [if_neg (by simp [hc12, hc15, hb40])]; rw [if_neg (by omega), if_neg (by omega)]), H41⟩
          · skip
            refine r_cons (s_neq true rfl rfl (nfalse hc26) rfl ?_)
            refine r_nil ?_
            refine g_true rfl ?_
            refine g_seq ?_
            refine g_region ?_
            refine r_cons (s_move (.int .i64 (bindsE p.root)) rfl rfl ?_)
            refine r_cons (s_assign (.int .i64 (bindsE p.root)) rfl rfl ?_)
            refine r_nil ?_
            refine g_ret' [.int .i64 (bindsE p.root)] Try.func11 Try.results11 ⟨rfl, trivial⟩ ?_
            have hb42 : ((nameB p.name.v)) = true := by simpa using hb9
            have H43 : St W w24 F := ((((H25.drop 0 rfl).drop 0 rfl).drop 0 rfl).drop 0 rfl)
            exact ⟨vint (by unfold patE; rw [if_neg (by simp [hc12, hc15, hb42])]; rw [if_neg (by omega), if_pos (by omega)]), H43⟩
        · skip
          refine r_cons (s_neq true rfl rfl (nfalse hc23) rfl ?_)
          refine r_nil ?_
          refine g_true rfl ?_
          refine g_seq ?_
          refine g_region ?_
          refine r_cons (s_move (.int .i64 (shapeE p.root)) rfl rfl ?_)
          refine r_cons (s_assign (.int .i64 (shapeE p.root)) rfl rfl ?_)
          refine r_nil ?_
          refine g_ret' [.int .i64 (shapeE p.root)] Try.func11 Try.results11 ⟨rfl, trivial⟩ ?_
          have hb44 : ((nameB p.name.v)) = true := by simpa using hb9
          have H45 : St W w21 F := ((((H22.drop 0 rfl).drop 0 rfl).drop 0 rfl).drop 0 rfl)
          exact ⟨vint (by unfold patE; rw [if_neg (by simp [hc12, hc15, hb44])]; rw [if_pos (by omega)]), H45⟩
set_option maxHeartbeats 4000000 in
set_option maxRecDepth 100000 in
theorem check_live {W w : World} {F : List Atom}  (H : St W w F) : Calls Try.prog 9 #[] w (Ret fun v w' => v = .bool true ∧ St W w' F) := by
  refine calls_of_go (n := 34) Try.func9 rfl Try.ntmps9 rfl ?_
  refine g_seq ?_
  refine g_region ?_
  refine r_cons (s_assign (.bool false) rfl rfl ?_)
  refine r_nil ?_
  refine g_seq ?_
  refine g_region ?_
  refine r_cons (s_build (cs := #[.int .i64 1, .string (⟨#[97]⟩), .string (⟨#[65]⟩), .slice none 0 0, .slice none 0 0]) (by kernel_rfl) rfl ?_)
  refine r_cons (s_alloc H 25 ze_25 rfl ?_); intro bk1 w2 H3
  refine r_cons (s_storeAgg H3 0 #[.int .i64 1, .string (⟨#[97]⟩), .string (⟨#[65]⟩), .slice none 0 0, .slice none 0 0] 5 rfl rfl rfl sz_25 rfl (by simp [Value.oneCell']) (Nat.le_of_ble_eq_true rfl) (fun o h1 h2 => by first | (simp; done) | (simp; omega)) (cs' := #[.int .i64 1, .string (⟨#[97]⟩), .string (⟨#[65]⟩), .slice none 0 0, .slice none 0 0]) rfl ?_); intro w4 H5
  refine r_nil ?_
  refine g_seq ?_
  refine g_region ?_
  refine r_cons (s_loadAgg [.int .i64 1, .string (⟨#[97]⟩), .string (⟨#[65]⟩), .slice none 0 0, .slice none 0 0] 5 ag_25 rfl (H5.blk_at (i := 0) rfl) (Nat.le_of_ble_eq_true rfl) rfl rfl ?_)
  refine r_cons (s_loadAgg [.int .i64 1, .string (⟨#[97]⟩), .string (⟨#[65]⟩), .slice none 0 0, .slice none 0 0] 5 ag_25 rfl (H5.blk_at (i := 0) rfl) (Nat.le_of_ble_eq_true rfl) rfl rfl ?_)
  refine r_cons (s_buildSlice H5 5 2 (cs := #[.int .i64 1, .string (⟨#[97]⟩), .string (⟨#[65]⟩), .slice none 0 0, .slice none 0 0, .int .i64 1, .string (⟨#[97]⟩), .string (⟨#[65]⟩), .slice none 0 0, .slice none 0 0]) #[.int .i64 0, .string ByteArray.empty, .string ByteArray.empty, .slice none 0 0, .slice none 0 0] el_23 ze_25 (by decide) (by decide) (by kernel_rfl) rfl ?_); intro bk6 w7 H8
  have H9 := Row.cut (n := 0) (m := 2) (c := 2) (size := 5) (xs := [.int .i64 1, .string (⟨#[97]⟩), .string (⟨#[65]⟩), .slice none 0 0, .slice none 0 0, .int .i64 1, .string (⟨#[97]⟩), .string (⟨#[65]⟩), .slice none 0 0, .slice none 0 0]) H8 (i := 0) rfl (by decide) (by decide +kernel) rfl rfl (by simp [Value.oneCell'])
  have H10 : St W w7 (Row 25 5 (.slice (some ⟨bk6, 0, none⟩) 2 2) 2 [.int .i64 1, .string (⟨#[97]⟩), .string (⟨#[65]⟩), .slice none 0 0, .slice none 0 0, .int .i64 1, .string (⟨#[97]⟩), .string (⟨#[65]⟩), .slice none 0 0, .slice none 0 0] :: blk bk1 (.cells #[.int .i64 1, .string (⟨#[97]⟩), .string (⟨#[65]⟩), .slice none 0 0, .slice none 0 0] 25 (0, 0)) :: F) := H9
  have H11 : St W w7 (Im 5 (.slice (some ⟨bk6, 0, none⟩) 2 2) 2 ([lvA, lvA].flatMap nodeCell) :: blk bk1 (.cells #[.int .i64 1, .string (⟨#[97]⟩), .string (⟨#[65]⟩), .slice none 0 0, .slice none 0 0] 25 (0, 0)) :: F) := Row.im H10 (i := 0) rfl
  refine r_cons (s_build (cs := #[.int .i64 2, .string ByteArray.empty, .string ByteArray.empty, .slice none 0 0, .slice (some ⟨bk6, 0, none⟩) 2 2]) (by kernel_rfl) rfl ?_)
  refine r_cons (s_build (cs := #[.string (⟨#[112]⟩), .int .i64 5, .int .i64 2, .string ByteArray.empty, .string ByteArray.empty, .slice none 0 0, .slice (some ⟨bk6, 0, none⟩) 2 2, .slice none 0 0]) (by kernel_rfl) rfl ?_)
  refine r_cons (s_alloc H11 27 ze_27 rfl ?_); intro bk12 w13 H14
  refine r_cons (s_storeAgg H14 0 #[.string (⟨#[112]⟩), .int .i64 5, .int .i64 2, .string ByteArray.empty, .string ByteArray.empty, .slice none 0 0, .slice (some ⟨bk6, 0, none⟩) 2 2, .slice none 0 0] 8 rfl rfl rfl sz_27 rfl (by simp [Value.oneCell']) (Nat.le_of_ble_eq_true rfl) (fun o h1 h2 => by first | (simp; done) | (simp; omega)) (cs' := #[.string (⟨#[112]⟩), .int .i64 5, .int .i64 2, .string ByteArray.empty, .string ByteArray.empty, .slice none 0 0, .slice (some ⟨bk6, 0, none⟩) 2 2, .slice none 0 0]) rfl ?_); intro w15 H16
  refine r_nil ?_
  refine g_seq ?_
  refine g_region ?_
  refine r_cons (s_loadAgg [.string (⟨#[112]⟩), .int .i64 5, .int .i64 2, .string ByteArray.empty, .string ByteArray.empty, .slice none 0 0, .slice (some ⟨bk6, 0, none⟩) 2 2, .slice none 0 0] 8 ag_27 rfl (H16.blk_at (i := 0) rfl) (Nat.le_of_ble_eq_true rfl) rfl rfl ?_)
  refine r_cons (s_alloc H16 27 ze_27 rfl ?_); intro bk17 w18 H19
  refine r_cons (s_storeAgg H19 0 #[.string (⟨#[112]⟩), .int .i64 5, .int .i64 2, .string ByteArray.empty, .string ByteArray.empty, .slice none 0 0, .slice (some ⟨bk6, 0, none⟩) 2 2, .slice none 0 0] 8 rfl rfl rfl sz_27 rfl (by simp [Value.oneCell']) (Nat.le_of_ble_eq_true rfl) (fun o h1 h2 => by first | (simp; done) | (simp; omega)) (cs' := #[.string (⟨#[112]⟩), .int .i64 5, .int .i64 2, .string ByteArray.empty, .string ByteArray.empty, .slice none 0 0, .slice (some ⟨bk6, 0, none⟩) 2 2, .slice none 0 0]) rfl ?_); intro w20 H21
  refine r_nil ?_
  refine g_seq ?_
  refine g_region ?_
  refine r_cons (s_fieldAddr 27 2 2 2 25 rfl fi_27_2 rfl rfl ?_)
  refine r_cons (s_fieldAddr 25 0 0 2 3 rfl fi_25_0 rfl rfl ?_)
  refine r_cons (s_store H21 0 (.int .i64 4) rfl rfl rfl sz_3 rfl (Nat.le_of_ble_eq_true rfl) rfl (cs' := #[.string (⟨#[112]⟩), .int .i64 5, .int .i64 4, .string ByteArray.empty, .string ByteArray.empty, .slice none 0 0, .slice (some ⟨bk6, 0, none⟩) 2 2, .slice none 0 0]) rfl ?_); intro w22 H23
  refine r_nil ?_
  refine g_seq ?_
  refine g_region ?_
  have H24 : St W w22 (Im 11 (.slice none 0 0) (([] : List CondV).length) (([] : List CondV).flatMap condCell) :: blk bk17 (.cells #[.string (⟨#[112]⟩), .int .i64 5, .int .i64 4, .string ByteArray.empty, .string ByteArray.empty, .slice none 0 0, .slice (some ⟨bk6, 0, none⟩) 2 2, .slice none 0 0] 27 (0, 0)) :: blk bk12 (.cells #[.string (⟨#[112]⟩), .int .i64 5, .int .i64 2, .string ByteArray.empty, .string ByteArray.empty, .slice none 0 0, .slice (some ⟨bk6, 0, none⟩) 2 2, .slice none 0 0] 27 (0, 0)) :: Im 5 (.slice (some ⟨bk6, 0, none⟩) 2 2) 2 ([lvA, lvA].flatMap nodeCell) :: blk bk1 (.cells #[.int .i64 1, .string (⟨#[97]⟩), .string (⟨#[65]⟩), .slice none 0 0, .slice none 0 0] 25 (0, 0)) :: F) := Row.im (Row.nil_intro H23 43 11) (i := 0) rfl
  have H25 : St W w22 (Im 5 (.slice none 0 0) (([] : List NodeD).length) (([] : List NodeD).flatMap nodeCell) :: Im 11 (.slice none 0 0) (([] : List CondV).length) (([] : List CondV).flatMap condCell) :: blk bk17 (.cells #[.string (⟨#[112]⟩), .int .i64 5, .int .i64 4, .string ByteArray.empty, .string ByteArray.empty, .slice none 0 0, .slice (some ⟨bk6, 0, none⟩) 2 2, .slice none 0 0] 27 (0, 0)) :: blk bk12 (.cells #[.string (⟨#[112]⟩), .int .i64 5, .int .i64 2, .string ByteArray.empty, .string ByteArray.empty, .slice none 0 0, .slice (some ⟨bk6, 0, none⟩) 2 2, .slice none 0 0] 27 (0, 0)) :: Im 5 (.slice (some ⟨bk6, 0, none⟩) 2 2) 2 ([lvA, lvA].flatMap nodeCell) :: blk bk1 (.cells #[.int .i64 1, .string (⟨#[97]⟩), .string (⟨#[65]⟩), .slice none 0 0, .slice none 0 0] 25 (0, 0)) :: F) := Row.im (Row.nil_intro H24 25 5) (i := 0) rfl
  have H26 : St W w22 (NodesA [] :: Im 5 (.slice none 0 0) (([] : List NodeD).length) (([] : List NodeD).flatMap nodeCell) :: Im 11 (.slice none 0 0) (([] : List CondV).length) (([] : List CondV).flatMap condCell) :: blk bk17 (.cells #[.string (⟨#[112]⟩), .int .i64 5, .int .i64 4, .string ByteArray.empty, .string ByteArray.empty, .slice none 0 0, .slice (some ⟨bk6, 0, none⟩) 2 2, .slice none 0 0] 27 (0, 0)) :: blk bk12 (.cells #[.string (⟨#[112]⟩), .int .i64 5, .int .i64 2, .string ByteArray.empty, .string ByteArray.empty, .slice none 0 0, .slice (some ⟨bk6, 0, none⟩) 2 2, .slice none 0 0] 27 (0, 0)) :: Im 5 (.slice (some ⟨bk6, 0, none⟩) 2 2) 2 ([lvA, lvA].flatMap nodeCell) :: blk bk1 (.cells #[.int .i64 1, .string (⟨#[97]⟩), .string (⟨#[65]⟩), .slice none 0 0, .slice none 0 0] 25 (0, 0)) :: F) := NodesA.nil H25
  have H27 : St W w22 (NodeA lvA :: NodesA [] :: Im 5 (.slice none 0 0) (([] : List NodeD).length) (([] : List NodeD).flatMap nodeCell) :: Im 11 (.slice none 0 0) (([] : List CondV).length) (([] : List CondV).flatMap condCell) :: blk bk17 (.cells #[.string (⟨#[112]⟩), .int .i64 5, .int .i64 4, .string ByteArray.empty, .string ByteArray.empty, .slice none 0 0, .slice (some ⟨bk6, 0, none⟩) 2 2, .slice none 0 0] 27 (0, 0)) :: blk bk12 (.cells #[.string (⟨#[112]⟩), .int .i64 5, .int .i64 2, .string ByteArray.empty, .string ByteArray.empty, .slice none 0 0, .slice (some ⟨bk6, 0, none⟩) 2 2, .slice none 0 0] 27 (0, 0)) :: Im 5 (.slice (some ⟨bk6, 0, none⟩) 2 2) 2 ([lvA, lvA].flatMap nodeCell) :: blk bk1 (.cells #[.int .i64 1, .string (⟨#[97]⟩), .string (⟨#[65]⟩), .slice none 0 0, .slice none 0 0] 25 (0, 0)) :: F) := NodeA.make (a := 2) (b := 1) (c := 0) lvA H26 rfl rfl rfl (by decide)
  have H28 : St W w22 (NodesA [lvA] :: NodeA lvA :: NodesA [] :: Im 5 (.slice none 0 0) (([] : List NodeD).length) (([] : List NodeD).flatMap nodeCell) :: Im 11 (.slice none 0 0) (([] : List CondV).length) (([] : List CondV).flatMap condCell) :: blk bk17 (.cells #[.string (⟨#[112]⟩), .int .i64 5, .int .i64 4, .string ByteArray.empty, .string ByteArray.empty, .slice none 0 0, .slice (some ⟨bk6, 0, none⟩) 2 2, .slice none 0 0] 27 (0, 0)) :: blk bk12 (.cells #[.string (⟨#[112]⟩), .int .i64 5, .int .i64 2, .string ByteArray.empty, .string ByteArray.empty, .slice none 0 0, .slice (some ⟨bk6, 0, none⟩) 2 2, .slice none 0 0] 27 (0, 0)) :: Im 5 (.slice (some ⟨bk6, 0, none⟩) 2 2) 2 ([lvA, lvA].flatMap nodeCell) :: blk bk1 (.cells #[.int .i64 1, .string (⟨#[97]⟩), .string (⟨#[65]⟩), .slice none 0 0, .slice none 0 0] 25 (0, 0)) :: F) := NodesA.cons (a := 0) (b := 1) H27 rfl rfl
  have H29 : St W w22 (NodesA [lvA, lvA] :: NodesA [lvA] :: NodeA lvA :: NodesA [] :: Im 5 (.slice none 0 0) (([] : List NodeD).length) (([] : List NodeD).flatMap nodeCell) :: Im 11 (.slice none 0 0) (([] : List CondV).length) (([] : List CondV).flatMap condCell) :: blk bk17 (.cells #[.string (⟨#[112]⟩), .int .i64 5, .int .i64 4, .string ByteArray.empty, .string ByteArray.empty, .slice none 0 0, .slice (some ⟨bk6, 0, none⟩) 2 2, .slice none 0 0] 27 (0, 0)) :: blk bk12 (.cells #[.string (⟨#[112]⟩), .int .i64 5, .int .i64 2, .string ByteArray.empty, .string ByteArray.empty, .slice none 0 0, .slice (some ⟨bk6, 0, none⟩) 2 2, .slice none 0 0] 27 (0, 0)) :: Im 5 (.slice (some ⟨bk6, 0, none⟩) 2 2) 2 ([lvA, lvA].flatMap nodeCell) :: blk bk1 (.cells #[.int .i64 1, .string (⟨#[97]⟩), .string (⟨#[65]⟩), .slice none 0 0, .slice none 0 0] 25 (0, 0)) :: F) := NodesA.cons (a := 1) (b := 0) H28 rfl rfl
  have H30 : St W w22 (NodeA ((lvP (lvR2 bk6)).root) :: NodesA [lvA, lvA] :: NodesA [lvA] :: NodeA lvA :: NodesA [] :: Im 5 (.slice none 0 0) (([] : List NodeD).length) (([] : List NodeD).flatMap nodeCell) :: Im 11 (.slice none 0 0) (([] : List CondV).length) (([] : List CondV).flatMap condCell) :: blk bk17 (.cells #[.string (⟨#[112]⟩), .int .i64 5, .int .i64 4, .string ByteArray.empty, .string ByteArray.empty, .slice none 0 0, .slice (some ⟨bk6, 0, none⟩) 2 2, .slice none 0 0] 27 (0, 0)) :: blk bk12 (.cells #[.string (⟨#[112]⟩), .int .i64 5, .int .i64 2, .string ByteArray.empty, .string ByteArray.empty, .slice none 0 0, .slice (some ⟨bk6, 0, none⟩) 2 2, .slice none 0 0] 27 (0, 0)) :: Im 5 (.slice (some ⟨bk6, 0, none⟩) 2 2) 2 ([lvA, lvA].flatMap nodeCell) :: blk bk1 (.cells #[.int .i64 1, .string (⟨#[97]⟩), .string (⟨#[65]⟩), .slice none 0 0, .slice none 0 0] 25 (0, 0)) :: F) := NodeA.make (a := 5) (b := 8) (c := 0) (lvR2 bk6) H29 rfl rfl rfl ⟨Nat.le_of_ble_eq_true rfl, Nat.le_of_ble_eq_true rfl⟩
  have H31 : St W w22 (Im 11 (.slice ((lvP (lvR2 bk6)).wp) ((lvP (lvR2 bk6)).wh.length) ((lvP (lvR2 bk6)).wc)) ((lvP (lvR2 bk6)).wh.length) ((lvP (lvR2 bk6)).wh.flatMap condCell) :: NodeA ((lvP (lvR2 bk6)).root) :: NodesA [lvA, lvA] :: NodesA [lvA] :: NodeA lvA :: NodesA [] :: Im 5 (.slice none 0 0) (([] : List NodeD).length) (([] : List NodeD).flatMap nodeCell) :: Im 11 (.slice none 0 0) (([] : List CondV).length) (([] : List CondV).flatMap condCell) :: blk bk17 (.cells #[.string (⟨#[112]⟩), .int .i64 5, .int .i64 4, .string ByteArray.empty, .string ByteArray.empty, .slice none 0 0, .slice (some ⟨bk6, 0, none⟩) 2 2, .slice none 0 0] 27 (0, 0)) :: blk bk12 (.cells #[.string (⟨#[112]⟩), .int .i64 5, .int .i64 2, .string ByteArray.empty, .string ByteArray.empty, .slice none 0 0, .slice (some ⟨bk6, 0, none⟩) 2 2, .slice none 0 0] 27 (0, 0)) :: Im 5 (.slice (some ⟨bk6, 0, none⟩) 2 2) 2 ([lvA, lvA].flatMap nodeCell) :: blk bk1 (.cells #[.int .i64 1, .string (⟨#[97]⟩), .string (⟨#[65]⟩), .slice none 0 0, .slice none 0 0] 25 (0, 0)) :: F) := H30.dup (i := 6) rfl (Im_pers _ _ _ _)
  have H32 : St W w22 (NodeA ((lvP (lvR4 bk6)).root) :: Im 11 (.slice ((lvP (lvR2 bk6)).wp) ((lvP (lvR2 bk6)).wh.length) ((lvP (lvR2 bk6)).wc)) ((lvP (lvR2 bk6)).wh.length) ((lvP (lvR2 bk6)).wh.flatMap condCell) :: NodeA ((lvP (lvR2 bk6)).root) :: NodesA [lvA, lvA] :: NodesA [lvA] :: NodeA lvA :: NodesA [] :: Im 5 (.slice none 0 0) (([] : List NodeD).length) (([] : List NodeD).flatMap nodeCell) :: Im 11 (.slice none 0 0) (([] : List CondV).length) (([] : List CondV).flatMap condCell) :: blk bk17 (.cells #[.string (⟨#[112]⟩), .int .i64 5, .int .i64 4, .string ByteArray.empty, .string ByteArray.empty, .slice none 0 0, .slice (some ⟨bk6, 0, none⟩) 2 2, .slice none 0 0] 27 (0, 0)) :: blk bk12 (.cells #[.string (⟨#[112]⟩), .int .i64 5, .int .i64 2, .string ByteArray.empty, .string ByteArray.empty, .slice none 0 0, .slice (some ⟨bk6, 0, none⟩) 2 2, .slice none 0 0] 27 (0, 0)) :: Im 5 (.slice (some ⟨bk6, 0, none⟩) 2 2) 2 ([lvA, lvA].flatMap nodeCell) :: blk bk1 (.cells #[.int .i64 1, .string (⟨#[97]⟩), .string (⟨#[65]⟩), .slice none 0 0, .slice none 0 0] 25 (0, 0)) :: F) := NodeA.make (a := 0) (b := 10) (c := 2) (lvR4 bk6) H31 rfl rfl rfl ⟨Nat.le_of_ble_eq_true rfl, Nat.le_of_ble_eq_true rfl⟩
  have H33 : St W w22 (Im 11 (.slice ((lvP (lvR4 bk6)).wp) ((lvP (lvR4 bk6)).wh.length) ((lvP (lvR4 bk6)).wc)) ((lvP (lvR4 bk6)).wh.length) ((lvP (lvR4 bk6)).wh.flatMap condCell) :: NodeA ((lvP (lvR4 bk6)).root) :: Im 11 (.slice ((lvP (lvR2 bk6)).wp) ((lvP (lvR2 bk6)).wh.length) ((lvP (lvR2 bk6)).wc)) ((lvP (lvR2 bk6)).wh.length) ((lvP (lvR2 bk6)).wh.flatMap condCell) :: NodeA ((lvP (lvR2 bk6)).root) :: NodesA [lvA, lvA] :: NodesA [lvA] :: NodeA lvA :: NodesA [] :: Im 5 (.slice none 0 0) (([] : List NodeD).length) (([] : List NodeD).flatMap nodeCell) :: Im 11 (.slice none 0 0) (([] : List CondV).length) (([] : List CondV).flatMap condCell) :: blk bk17 (.cells #[.string (⟨#[112]⟩), .int .i64 5, .int .i64 4, .string ByteArray.empty, .string ByteArray.empty, .slice none 0 0, .slice (some ⟨bk6, 0, none⟩) 2 2, .slice none 0 0] 27 (0, 0)) :: blk bk12 (.cells #[.string (⟨#[112]⟩), .int .i64 5, .int .i64 2, .string ByteArray.empty, .string ByteArray.empty, .slice none 0 0, .slice (some ⟨bk6, 0, none⟩) 2 2, .slice none 0 0] 27 (0, 0)) :: Im 5 (.slice (some ⟨bk6, 0, none⟩) 2 2) 2 ([lvA, lvA].flatMap nodeCell) :: blk bk1 (.cells #[.int .i64 1, .string (⟨#[97]⟩), .string (⟨#[65]⟩), .slice none 0 0, .slice none 0 0] 25 (0, 0)) :: F) := H32.dup (i := 1) rfl (Im_pers _ _ _ _)
  refine r_cons (s_loadAgg [.string (⟨#[112]⟩), .int .i64 5, .int .i64 2, .string ByteArray.empty, .string ByteArray.empty, .slice none 0 0, .slice (some ⟨bk6, 0, none⟩) 2 2, .slice none 0 0] 8 ag_27 rfl (H33.blk_at (i := 11) rfl) (Nat.le_of_ble_eq_true rfl) rfl rfl ?_)
  refine r_cons (s_call [.agg #[.string (⟨#[112]⟩), .int .i64 5, .int .i64 2, .string ByteArray.empty, .string ByteArray.empty, .slice none 0 0, .slice (some ⟨bk6, 0, none⟩) 2 2, .slice none 0 0]] pl_11 rfl rfl (check_Pattern (lvP (lvR2 bk6)) (i := 3) rfl (k := 2) rfl (Nat.le_of_ble_eq_true rfl) H33) ?_)
  rintro _ w34 ⟨rfl, H35⟩
  refine r_cons (s_eql true rfl rfl (dtrue (lv_pat2 _)) rfl ?_)
  refine r_cons (s_move (.bool true) rfl rfl ?_)
  refine r_cons (r_take rfl rfl ?_)
  refine s_loadAgg [.string (⟨#[112]⟩), .int .i64 5, .int .i64 4, .string ByteArray.empty, .string ByteArray.empty, .slice none 0 0, .slice (some ⟨bk6, 0, none⟩) 2 2, .slice none 0 0] 8 ag_27 rfl (H35.blk_at (i := 10) rfl) (Nat.le_of_ble_eq_true rfl) rfl rfl ?_
  refine r_cons (r_take rfl rfl ?_)
  refine s_call [.agg #[.string (⟨#[112]⟩), .int .i64 5, .int .i64 4, .string ByteArray.empty, .string ByteArray.empty, .slice none 0 0, .slice (some ⟨bk6, 0, none⟩) 2 2, .slice none 0 0]] pl_11 rfl rfl (check_Pattern (lvP (lvR4 bk6)) (i := 1) rfl (k := 0) rfl (Nat.le_of_ble_eq_true rfl) H35) ?_
  rintro _ w36 ⟨rfl, H37⟩
  refine r_cons (r_take rfl rfl ?_)
  refine s_eql true rfl rfl (dtrue (lv_pat4 _)) rfl ?_
  refine r_cons (s_pick_t (.bool true) rfl rfl rfl ?_)
  refine r_cons (s_move (.bool true) rfl rfl ?_)
  refine r_cons (r_take rfl rfl ?_)
  refine s_fieldAddr 27 2 2 2 25 rfl fi_27_2 rfl rfl ?_
  refine r_cons (r_take rfl rfl ?_)
  refine s_loadAgg [.int .i64 4, .string ByteArray.empty, .string ByteArray.empty, .slice none 0 0, .slice (some ⟨bk6, 0, none⟩) 2 2] 5 ag_25 rfl (H37.blk_at (i := 10) rfl) (Nat.le_of_ble_eq_true rfl) rfl rfl ?_
  refine r_cons (r_take rfl rfl ?_)
  refine s_call [.agg #[.int .i64 4, .string ByteArray.empty, .string ByteArray.empty, .slice none 0 0, .slice (some ⟨bk6, 0, none⟩) 2 2]] pl_26 rfl rfl (check_Sure ((lvP (lvR4 bk6)).root) (i := 1) rfl (Nat.le_of_ble_eq_true rfl) H37) ?_
  rintro _ w40 ⟨pp38, cc39, rfl, H41⟩
  refine r_cons (r_take rfl rfl ?_)
  refine s_buildSlice H41 1 1 (cs := #[.string (⟨#[97]⟩)]) #[.string ByteArray.empty] el_36 ze_9 (by decide) (by decide) (by kernel_rfl) rfl ?_; intro bk42 w43 H44
  refine r_cons (r_take rfl rfl ?_)
  have H45 := Row.cut (n := 0) (m := 1) (c := 1) (size := 1) (xs := [.string (⟨#[97]⟩)]) H44 (i := 0) rfl (by decide) (by decide +kernel) rfl rfl (by simp [Value.oneCell'])
  have H46 : St W w43 (Row 9 1 (.slice (some ⟨bk42, 0, none⟩) 1 1) 1 [.string (⟨#[97]⟩)] :: Im 1 (.slice pp38 ((sureN ((lvP (lvR4 bk6)).root)).length) cc39) ((sureN ((lvP (lvR4 bk6)).root)).length) ((sureN ((lvP (lvR4 bk6)).root)).flatMap strCell) :: Im 11 (.slice ((lvP (lvR4 bk6)).wp) ((lvP (lvR4 bk6)).wh.length) ((lvP (lvR4 bk6)).wc)) ((lvP (lvR4 bk6)).wh.length) ((lvP (lvR4 bk6)).wh.flatMap condCell) :: NodeA ((lvP (lvR4 bk6)).root) :: Im 11 (.slice ((lvP (lvR2 bk6)).wp) ((lvP (lvR2 bk6)).wh.length) ((lvP (lvR2 bk6)).wc)) ((lvP (lvR2 bk6)).wh.length) ((lvP (lvR2 bk6)).wh.flatMap condCell) :: NodeA ((lvP (lvR2 bk6)).root) :: NodesA [lvA, lvA] :: NodesA [lvA] :: NodeA lvA :: NodesA [] :: Im 5 (.slice none 0 0) (([] : List NodeD).length) (([] : List NodeD).flatMap nodeCell) :: Im 11 (.slice none 0 0) (([] : List CondV).length) (([] : List CondV).flatMap condCell) :: blk bk17 (.cells #[.string (⟨#[112]⟩), .int .i64 5, .int .i64 4, .string ByteArray.empty, .string ByteArray.empty, .slice none 0 0, .slice (some ⟨bk6, 0, none⟩) 2 2, .slice none 0 0] 27 (0, 0)) :: blk bk12 (.cells #[.string (⟨#[112]⟩), .int .i64 5, .int .i64 2, .string ByteArray.empty, .string ByteArray.empty, .slice none 0 0, .slice (some ⟨bk6, 0, none⟩) 2 2, .slice none 0 0] 27 (0, 0)) :: Im 5 (.slice (some ⟨bk6, 0, none⟩) 2 2) 2 ([lvA, lvA].flatMap nodeCell) :: blk bk1 (.cells #[.int .i64 1, .string (⟨#[97]⟩), .string (⟨#[65]⟩), .slice none 0 0, .slice none 0 0] 25 (0, 0)) :: F) := H45
  have H47 : St W w43 (Im 1 (.slice (some ⟨bk42, 0, none⟩) 1 1) 1 ([lvS].flatMap strCell) :: Im 1 (.slice pp38 ((sureN ((lvP (lvR4 bk6)).root)).length) cc39) ((sureN ((lvP (lvR4 bk6)).root)).length) ((sureN ((lvP (lvR4 bk6)).root)).flatMap strCell) :: Im 11 (.slice ((lvP (lvR4 bk6)).wp) ((lvP (lvR4 bk6)).wh.length) ((lvP (lvR4 bk6)).wc)) ((lvP (lvR4 bk6)).wh.length) ((lvP (lvR4 bk6)).wh.flatMap condCell) :: NodeA ((lvP (lvR4 bk6)).root) :: Im 11 (.slice ((lvP (lvR2 bk6)).wp) ((lvP (lvR2 bk6)).wh.length) ((lvP (lvR2 bk6)).wc)) ((lvP (lvR2 bk6)).wh.length) ((lvP (lvR2 bk6)).wh.flatMap condCell) :: NodeA ((lvP (lvR2 bk6)).root) :: NodesA [lvA, lvA] :: NodesA [lvA] :: NodeA lvA :: NodesA [] :: Im 5 (.slice none 0 0) (([] : List NodeD).length) (([] : List NodeD).flatMap nodeCell) :: Im 11 (.slice none 0 0) (([] : List CondV).length) (([] : List CondV).flatMap condCell) :: blk bk17 (.cells #[.string (⟨#[112]⟩), .int .i64 5, .int .i64 4, .string ByteArray.empty, .string ByteArray.empty, .slice none 0 0, .slice (some ⟨bk6, 0, none⟩) 2 2, .slice none 0 0] 27 (0, 0)) :: blk bk12 (.cells #[.string (⟨#[112]⟩), .int .i64 5, .int .i64 2, .string ByteArray.empty, .string ByteArray.empty, .slice none 0 0, .slice (some ⟨bk6, 0, none⟩) 2 2, .slice none 0 0] 27 (0, 0)) :: Im 5 (.slice (some ⟨bk6, 0, none⟩) 2 2) 2 ([lvA, lvA].flatMap nodeCell) :: blk bk1 (.cells #[.int .i64 1, .string (⟨#[97]⟩), .string (⟨#[65]⟩), .slice none 0 0, .slice none 0 0] 25 (0, 0)) :: F) := Row.im H46 (i := 0) rfl
  refine s_call [.slice pp38 ((sureN ((lvP (lvR4 bk6)).root)).length) cc39, .slice (some ⟨bk42, 0, none⟩) 1 1] pl_23 rfl rfl (Equal_str (sureN ((lvP (lvR4 bk6)).root)) [lvS] (.slice pp38 ((sureN ((lvP (lvR4 bk6)).root)).length) cc39) (.slice (some ⟨bk42, 0, none⟩) 1 1) (m := 1) rfl (n := 0) rfl H47) ?_
  rintro _ w48 ⟨rfl, H49⟩
  refine r_cons (s_pick_t (.bool (eqS (sureN ((lvP (lvR4 bk6)).root)) [lvS])) rfl rfl rfl ?_)
  refine r_cons (s_move (.bool (eqS (sureN ((lvP (lvR4 bk6)).root)) [lvS])) rfl rfl ?_)
  refine r_cons (r_take rfl (congrArg some (by rw [show (eqS (sureN ((lvP (lvR4 bk6)).root)) [lvS]) = eqS [lvS] [lvS] from congrArg (fun z_ => eqS z_ [lvS]) (lv_sure4 _)]; exact eqS_refl _)) ?_)
  refine s_fieldAddr 27 2 2 2 25 rfl fi_27_2 rfl rfl ?_
  refine r_cons (r_take rfl (congrArg some (by rw [show (eqS (sureN ((lvP (lvR4 bk6)).root)) [lvS]) = eqS [lvS] [lvS] from congrArg (fun z_ => eqS z_ [lvS]) (lv_sure4 _)]; exact eqS_refl _)) ?_)
  refine s_loadAgg [.int .i64 4, .string ByteArray.empty, .string ByteArray.empty, .slice none 0 0, .slice (some ⟨bk6, 0, none⟩) 2 2] 5 ag_25 rfl (H49.blk_at (i := 12) rfl) (Nat.le_of_ble_eq_true rfl) rfl rfl ?_
  refine r_cons (r_take rfl (congrArg some (by rw [show (eqS (sureN ((lvP (lvR4 bk6)).root)) [lvS]) = eqS [lvS] [lvS] from congrArg (fun z_ => eqS z_ [lvS]) (lv_sure4 _)]; exact eqS_refl _)) ?_)
  refine s_call [.agg #[.int .i64 4, .string ByteArray.empty, .string ByteArray.empty, .slice none 0 0, .slice (some ⟨bk6, 0, none⟩) 2 2]] pl_13 rfl rfl (check_Terms ((lvP (lvR4 bk6)).root) (i := 3) rfl H49) ?_
  rintro _ w50 ⟨rfl, H51⟩
  refine r_cons (r_take rfl (congrArg some (by rw [show (eqS (sureN ((lvP (lvR4 bk6)).root)) [lvS]) = eqS [lvS] [lvS] from congrArg (fun z_ => eqS z_ [lvS]) (lv_sure4 _)]; exact eqS_refl _)) ?_)
  refine s_eql true rfl rfl (dtrue (lv_terms _)) rfl ?_
  refine r_cons (s_pick_t (.bool true) (by exact congrArg Value.bool (by rw [show (eqS (sureN ((lvP (lvR4 bk6)).root)) [lvS]) = eqS [lvS] [lvS] from congrArg (fun z_ => eqS z_ [lvS]) (lv_sure4 _)]; exact eqS_refl _)) rfl rfl ?_)
  refine r_cons (s_assign (.bool true) rfl rfl ?_)
  refine r_nil ?_
  refine g_ret' [.bool true] Try.func9 Try.results9 ⟨rfl, trivial⟩ ?_
  have H52 : St W w50 F := ((((((((((((((((H51.drop 0 rfl).drop 0 rfl).drop 0 rfl).drop 0 rfl).drop 0 rfl).drop 0 rfl).drop 0 rfl).drop 0 rfl).drop 0 rfl).drop 0 rfl).drop 0 rfl).drop 0 rfl).drop 0 rfl).drop 0 rfl).drop 0 rfl).drop 0 rfl)
  exact ⟨rfl, H52⟩
set_option maxHeartbeats 4000000 in
set_option maxRecDepth 100000 in
theorem check_fits {W w : World} {F : List Atom} (n : NodeD) {i : Nat} (hi : F[i]? = some (NodeA n)) (H : St W w F) : Calls Try.prog 10 #[.agg #[.int .i64 n.kind.v, .string n.var.v, .string n.typ.v, .slice n.tp n.tests.length n.tc, .slice n.kp n.kids.length n.kc]] w (Ret fun v w' => v = .bool (fitB n) ∧ St W w' F) := by
  have H1 := H.dup (i := i + 0) (by exact hi) (NodeA_pers _)
  have H2 : St W w (NodeA n :: F) := H1
  refine calls_of_go (n := 11) Try.func10 rfl Try.ntmps10 rfl ?_
  refine g_seq ?_
  refine g_region ?_
  refine r_cons (s_box H2 25 (.agg #[.int .i64 n.kind.v, .string n.var.v, .string n.typ.v, .slice n.tp n.tests.length n.tc, .slice n.kp n.kids.length n.kc]) rfl (cs := #[.int .i64 n.kind.v, .string n.var.v, .string n.typ.v, .slice n.tp n.tests.length n.tc, .slice n.kp n.kids.length n.kc]) rfl rfl ?_); intro bk3 w4 H5
  refine r_cons (s_assign (.bool false) rfl rfl ?_)
  refine r_nil ?_
  refine g_seq ?_
  refine g_region ?_
  refine r_cons (s_loadAgg [.int .i64 n.kind.v, .string n.var.v, .string n.typ.v, .slice n.tp n.tests.length n.tc, .slice n.kp n.kids.length n.kc] 5 ag_25 rfl (H5.blk_at (i := 0) rfl) (Nat.le_of_ble_eq_true rfl) rfl rfl ?_)
  refine r_cons (s_call [.agg #[.int .i64 n.kind.v, .string n.var.v, .string n.typ.v, .slice n.tp n.tests.length n.tc, .slice n.kp n.kids.length n.kc]] pl_14 rfl rfl (ref07_Terms n (i := 1) rfl H5) ?_)
  rintro _ w6 ⟨rfl, H7⟩
  by_cases hc8 : termsN n ≤ 200
  · skip
    refine r_cons (s_leq true rfl rfl (dtrue hc8) rfl ?_)
    refine r_cons (s_move (.bool true) rfl rfl ?_)
    refine r_cons (r_take rfl rfl ?_)
    refine s_loadAgg [.int .i64 n.kind.v, .string n.var.v, .string n.typ.v, .slice n.tp n.tests.length n.tc, .slice n.kp n.kids.length n.kc] 5 ag_25 rfl (H7.blk_at (i := 0) rfl) (Nat.le_of_ble_eq_true rfl) rfl rfl ?_
    refine r_cons (r_take rfl rfl ?_)
    refine s_call [.agg #[.int .i64 n.kind.v, .string n.var.v, .string n.typ.v, .slice n.tp n.tests.length n.tc, .slice n.kp n.kids.length n.kc]] pl_16 rfl rfl (ref07_Deep n (i := 1) rfl H7) ?_
    rintro _ w9 ⟨rfl, H10⟩
    refine r_cons (r_take rfl rfl ?_)
    by_cases hc11 : deepN n ≤ 50
    · skip
      refine s_leq true rfl rfl (dtrue hc11) rfl ?_
      refine r_cons (s_pick_t (.bool true) rfl rfl rfl ?_)
      refine r_cons (s_assign (.bool true) rfl rfl ?_)
      refine r_nil ?_
      refine g_ret' [.bool true] Try.func10 Try.results10 ⟨rfl, trivial⟩ ?_
      have H12 : St W w9 F := ((H10.drop 0 rfl).drop 0 rfl)
      exact ⟨congrArg Value.bool (decide_eq_true ⟨by omega, by omega⟩).symm, H12⟩
    · skip
      refine s_leq false rfl rfl (dfalse hc11) rfl ?_
      refine r_cons (s_pick_t (.bool false) rfl rfl rfl ?_)
      refine r_cons (s_assign (.bool false) rfl rfl ?_)
      refine r_nil ?_
      refine g_ret' [.bool false] Try.func10 Try.results10 ⟨rfl, trivial⟩ ?_
      have H13 : St W w9 F := ((H10.drop 0 rfl).drop 0 rfl)
      exact ⟨congrArg Value.bool (decide_eq_false (by omega)).symm, H13⟩
  · skip
    refine r_cons (s_leq false rfl rfl (dfalse hc8) rfl ?_)
    refine r_cons (s_move (.bool false) rfl rfl ?_)
    refine r_cons (r_pass rfl rfl rfl rfl rfl ?_)
    refine r_cons (r_pass rfl rfl rfl rfl rfl ?_)
    refine r_cons (r_pass rfl rfl rfl rfl rfl ?_)
    refine r_cons (s_pick_f (.bool false) rfl rfl rfl ?_)
    refine r_cons (s_assign (.bool false) rfl rfl ?_)
    refine r_nil ?_
    refine g_ret' [.bool false] Try.func10 Try.results10 ⟨rfl, trivial⟩ ?_
    have H14 : St W w6 F := ((H7.drop 0 rfl).drop 0 rfl)
    exact ⟨congrArg Value.bool (decide_eq_false (by omega)).symm, H14⟩
set_option maxHeartbeats 4000000 in
set_option maxRecDepth 100000 in
theorem Clone_cond {W w : World} {F : List Atom} (L : List CondV) (lv : Value) {m : Nat} (hm : F[m]? = some (Im 11 lv L.length (L.flatMap condCell))) (hb : L.length * 136 ≤ 140737488355328) (H : St W w F) : Calls Try.prog 50 #[lv] w (Ret fun v w' => ∃ p c, v = .slice p L.length c ∧ St W w' (Row 43 11 (.slice p L.length c) L.length (L.flatMap condCell) :: F)) := by
  obtain ⟨pp1, cc2, rfl, hn3⟩ := Rd.shape (Im.rd H (i := m) hm)
  have H4 := H.dup hm (Im_pers _ _ _ _)
  have H5 : St W w (Im 11 (.slice pp1 L.length cc2) L.length (L.flatMap condCell) :: F) := H4
  refine calls_of_go (n := 8) Try.func50 rfl Try.ntmps50 rfl ?_
  refine g_seq ?_
  refine g_region ?_
  refine r_cons (s_assign (.slice none 0 0) rfl rfl ?_)
  refine r_nil ?_
  refine g_seq ?_
  refine g_seq ?_
  refine g_region ?_
  refine r_cons (s_move (.slice pp1 L.length cc2) rfl rfl ?_)
  by_cases hc6 : pp1 = none
  · skip
    refine r_cons (s_sleql true un_22 rfl rfl (isNone_t hc6) rfl ?_)
    refine r_nil ?_
    refine g_true rfl ?_
    refine g_seq ?_
    refine g_region ?_
    refine r_cons (s_assign (.slice none 0 0) rfl rfl ?_)
    refine r_nil ?_
    refine g_ret' [.slice none 0 0] Try.func50 Try.results50 ⟨rfl, trivial⟩ ?_
    have H7 : St W w F := (H5.drop 0 rfl)
    obtain rfl : L = [] := List.eq_nil_of_length_eq_zero (by have h9 := hn3 ‹_›; omega)
    exact ⟨none, 0, rfl, Row.nil_intro H7 43 11⟩
  · skip
    refine r_cons (s_sleql false un_22 rfl rfl (isNone_f hc6) rfl ?_)
    refine r_nil ?_
    refine g_false rfl ?_
    refine g_skip ?_
    refine g_seq ?_
    refine g_region ?_
    refine r_cons (s_buildSlice0 H5 11 el_22 rfl ?_); intro bk8 w9 H10
    have H11 := Row.of_blk (n := 0) (size := 11) H10 (i := 0) rfl (by unfold maxLen; omega) (by simp) (by simp)
    refine r_cons (s_move (.slice pp1 L.length cc2) rfl rfl ?_)
    refine r_cons (s_append H11 0 rfl rfl rfl (Im.rd H11 (i := 1) rfl) ap_22 (by decide) (by unfold maxLen; omega) (by omega) (n' := L.length) (xs' := L.flatMap condCell) (by omega) (by first | rfl | simp) rfl ?_); intro vv12 w13 H14 hn15
    obtain ⟨pp16, cc17, rfl⟩ := Row.slice H14 (i := 0) rfl
    refine r_cons (s_assign (.slice pp16 L.length cc17) rfl rfl ?_)
    refine r_nil ?_
    refine g_ret' [.slice pp16 L.length cc17] Try.func50 Try.results50 ⟨rfl, trivial⟩ ?_
    have H18 : St W w13 (Row 43 11 (.slice pp16 L.length cc17) L.length (L.flatMap condCell) :: F) := (H14.drop 1 rfl)
    exact ⟨_, _, rfl, H18⟩
set_option maxHeartbeats 4000000 in
set_option maxRecDepth 100000 in
theorem Clone_node {W w : World} {F : List Atom} (L : List NodeD) (lv : Value) {m : Nat} (hm : F[m]? = some (Im 5 lv L.length (L.flatMap nodeCell))) (hb : L.length * 88 ≤ 140737488355328) (H : St W w F) : Calls Try.prog 64 #[lv] w (Ret fun v w' => ∃ p c, v = .slice p L.length c ∧ St W w' (Row 25 5 (.slice p L.length c) L.length (L.flatMap nodeCell) :: F)) := by
  obtain ⟨pp1, cc2, rfl, hn3⟩ := Rd.shape (Im.rd H (i := m) hm)
  have H4 := H.dup hm (Im_pers _ _ _ _)
  have H5 : St W w (Im 5 (.slice pp1 L.length cc2) L.length (L.flatMap nodeCell) :: F) := H4
  refine calls_of_go (n := 8) Try.func64 rfl Try.ntmps64 rfl ?_
  refine g_seq ?_
  refine g_region ?_
  refine r_cons (s_assign (.slice none 0 0) rfl rfl ?_)
  refine r_nil ?_
  refine g_seq ?_
  refine g_seq ?_
  refine g_region ?_
  refine r_cons (s_move (.slice pp1 L.length cc2) rfl rfl ?_)
  by_cases hc6 : pp1 = none
  · skip
    refine r_cons (s_sleql true un_23 rfl rfl (isNone_t hc6) rfl ?_)
    refine r_nil ?_
    refine g_true rfl ?_
    refine g_seq ?_
    refine g_region ?_
    refine r_cons (s_assign (.slice none 0 0) rfl rfl ?_)
    refine r_nil ?_
    refine g_ret' [.slice none 0 0] Try.func64 Try.results64 ⟨rfl, trivial⟩ ?_
    have H7 : St W w F := (H5.drop 0 rfl)
    obtain rfl : L = [] := List.eq_nil_of_length_eq_zero (by have h9 := hn3 ‹_›; omega)
    exact ⟨none, 0, rfl, Row.nil_intro H7 25 5⟩
  · skip
    refine r_cons (s_sleql false un_23 rfl rfl (isNone_f hc6) rfl ?_)
    refine r_nil ?_
    refine g_false rfl ?_
    refine g_skip ?_
    refine g_seq ?_
    refine g_region ?_
    refine r_cons (s_buildSlice0 H5 5 el_23 rfl ?_); intro bk8 w9 H10
    have H11 := Row.of_blk (n := 0) (size := 5) H10 (i := 0) rfl (by unfold maxLen; omega) (by simp) (by simp)
    refine r_cons (s_move (.slice pp1 L.length cc2) rfl rfl ?_)
    refine r_cons (s_append H11 0 rfl rfl rfl (Im.rd H11 (i := 1) rfl) ap_23 (by decide) (by unfold maxLen; omega) (by omega) (n' := L.length) (xs' := L.flatMap nodeCell) (by omega) (by first | rfl | simp) rfl ?_); intro vv12 w13 H14 hn15
    obtain ⟨pp16, cc17, rfl⟩ := Row.slice H14 (i := 0) rfl
    refine r_cons (s_assign (.slice pp16 L.length cc17) rfl rfl ?_)
    refine r_nil ?_
    refine g_ret' [.slice pp16 L.length cc17] Try.func64 Try.results64 ⟨rfl, trivial⟩ ?_
    have H18 : St W w13 (Row 25 5 (.slice pp16 L.length cc17) L.length (L.flatMap nodeCell) :: F) := (H14.drop 1 rfl)
    exact ⟨_, _, rfl, H18⟩
set_option maxHeartbeats 4000000 in
set_option maxRecDepth 100000 in
theorem check_cloneNode_r (N : Nat) : ∀ (n : NodeD), sizeOf n < N → ∀ {W w : World} {F : List Atom}  {i : Nat} (hi : F[i]? = some (NodeA n)) (H : St W w F), Calls Try.prog 51 #[.agg #[.int .i64 n.kind.v, .string n.var.v, .string n.typ.v, .slice n.tp n.tests.length n.tc, .slice n.kp n.kids.length n.kc]] w (Ret fun v w' => ∃ n2 : NodeD, v = .agg #[.int .i64 n2.kind.v, .string n2.var.v, .string n2.typ.v, .slice n2.tp n2.tests.length n2.tc, .slice n2.kp n2.kids.length n2.kc] ∧ eraseN n2 = eraseN n ∧ St W w' (TreeA 43 25 n2 :: F)) := by
  induction N with | zero => exact fun n hN => absurd hN (Nat.not_lt_zero _) | succ N ih => ?_
  intro n hN W w F i hi H
  have H1 := NodeA.kids H (i := i + 0) (by exact hi)
  have H2 := NodeA.tests H1 (i := i + 2) (by exact hi)
  have H3 : St W w (Im 11 (.slice n.tp n.tests.length n.tc) n.tests.length (n.tests.flatMap condCell) :: Im 5 (.slice n.kp n.kids.length n.kc) n.kids.length (n.kids.flatMap nodeCell) :: NodesA n.kids :: F) := H2
  have hb4 := NodeA.bounds H hi
  refine calls_of_go (n := 29) Try.func51 rfl Try.ntmps51 rfl ?_
  refine g_seq ?_
  refine g_region ?_
  refine r_cons (s_box H3 25 (.agg #[.int .i64 n.kind.v, .string n.var.v, .string n.typ.v, .slice n.tp n.tests.length n.tc, .slice n.kp n.kids.length n.kc]) rfl (cs := #[.int .i64 n.kind.v, .string n.var.v, .string n.typ.v, .slice n.tp n.tests.length n.tc, .slice n.kp n.kids.length n.kc]) rfl rfl ?_); intro bk5 w6 H7
  refine r_cons (s_alloc H7 25 ze_25 rfl ?_); intro bk8 w9 H10
  refine r_nil ?_
  refine g_seq ?_
  refine g_cut (fun (x : Option Addr × Nat × Option Addr × Nat) => match x with | (pp15, cc16, pp11, cc12) => [(1, .pointer (some ⟨bk5, 0, none⟩)), (2, .pointer (some ⟨bk8, 0, none⟩))]) (fun (x : Option Addr × Nat × Option Addr × Nat) w => match x with | (pp15, cc16, pp11, cc12) => St W w (Row 25 5 (.slice pp15 n.kids.length cc16) n.kids.length (n.kids.flatMap nodeCell) :: Row 43 11 (.slice pp11 n.tests.length cc12) n.tests.length (n.tests.flatMap condCell) :: blk bk8 (.cells #[.int .i64 0, .string ByteArray.empty, .string ByteArray.empty, .slice none 0 0, .slice none 0 0] 25 (0, 0)) :: blk bk5 (.cells #[.int .i64 n.kind.v, .string n.var.v, .string n.typ.v, .slice pp11 n.tests.length cc12, .slice pp15 n.kids.length cc16] 25 (0, 0)) :: Im 11 (.slice n.tp n.tests.length n.tc) n.tests.length (n.tests.flatMap condCell) :: Im 5 (.slice n.kp n.kids.length n.kc) n.kids.length (n.kids.flatMap nodeCell) :: NodesA n.kids :: F)) ?_ ?_
  · rintro ⟨pp15, cc16, pp11, cc12⟩ ρ14 w12 H13
    change Ends _ _ (upds ρ14 [(1, .pointer (some ⟨bk5, 0, none⟩)), (2, .pointer (some ⟨bk8, 0, none⟩))]) w12
    refine g_seq ?_
    refine g_seq ?_
    refine g_region ?_
    refine r_cons (s_fieldAddr 25 4 4 4 23 rfl fi_25_4 rfl rfl ?_)
    refine r_cons (s_load (.slice pp15 n.kids.length cc16) ag_23 rfl (H13.blk_at (i := 3) rfl) rfl rfl ?_)
    refine r_cons (s_len n.kids.length rfl ⟨_, un_23⟩ rfl ?_)
    refine r_cons (s_move (.int .i64 0) rfl rfl ?_)
    refine r_nil ?_
    refine g_block ?_
    have H15 := TreesA.nil (ct := 43) (nt := 25) H13
    have H16 : St W w12 (TreesA 43 25 [] :: Row 25 5 (.slice pp15 n.kids.length cc16) n.kids.length ((([] : List NodeD) ++ n.kids.drop 0).flatMap nodeCell) :: Row 43 11 (.slice pp11 n.tests.length cc12) n.tests.length (n.tests.flatMap condCell) :: blk bk8 (.cells #[.int .i64 0, .string ByteArray.empty, .string ByteArray.empty, .slice none 0 0, .slice none 0 0] 25 (0, 0)) :: blk bk5 (.cells #[.int .i64 n.kind.v, .string n.var.v, .string n.typ.v, .slice pp11 n.tests.length cc12, .slice pp15 n.kids.length cc16] 25 (0, 0)) :: Im 11 (.slice n.tp n.tests.length n.tc) n.tests.length (n.tests.flatMap condCell) :: Im 5 (.slice n.kp n.kids.length n.kc) n.kids.length (n.kids.flatMap nodeCell) :: NodesA n.kids :: F) := H15
    have H17 : St W w12 (TreesA 43 25 [] :: Row 25 5 (.slice pp15 n.kids.length cc16) n.kids.length ((([] : List NodeD) ++ n.kids.drop 0).flatMap nodeCell) :: Row 43 11 (.slice pp11 n.tests.length cc12) n.tests.length (n.tests.flatMap condCell) :: blk bk8 (.cells #[.int .i64 0, .string ByteArray.empty, .string ByteArray.empty, .slice none 0 0, .slice none 0 0] 25 (0, 0)) :: blk bk5 (.cells #[.int .i64 n.kind.v, .string n.var.v, .string n.typ.v, .slice pp11 n.tests.length cc12, .slice pp15 n.kids.length cc16] 25 (0, 0)) :: Im 11 (.slice n.tp n.tests.length n.tc) n.tests.length (n.tests.flatMap condCell) :: Im 5 (.slice n.kp n.kids.length n.kc) n.kids.length (n.kids.flatMap nodeCell) :: NodesA n.kids :: F) := ((((((((H16.move 7 rfl).move 7 rfl).move 7 rfl).move 7 rfl).move 7 rfl).move 7 rfl).move 7 rfl).move 7 rfl)
    refine g_loop_inv (fun (x_ : (List NodeD) × Nat) => match x_ with | (C, j) => [(1, .pointer (some ⟨bk5, 0, none⟩)), (2, .pointer (some ⟨bk8, 0, none⟩)), (14, .slice pp15 n.kids.length cc16), (15, .int .i64 (n.kids.length : Int)), (16, .int .i64 (j : Int))]) (fun (x_ : (List NodeD) × Nat) w => match x_ with | (C, j) => (j ≤ n.kids.length) ∧ (C.length = j) ∧ (C.map eraseN = (n.kids.take j).map eraseN) ∧ St W w (TreesA 43 25 C :: Row 25 5 (.slice pp15 n.kids.length cc16) n.kids.length ((C ++ n.kids.drop j).flatMap nodeCell) :: Row 43 11 (.slice pp11 n.tests.length cc12) n.tests.length (n.tests.flatMap condCell) :: blk bk8 (.cells #[.int .i64 0, .string ByteArray.empty, .string ByteArray.empty, .slice none 0 0, .slice none 0 0] 25 (0, 0)) :: blk bk5 (.cells #[.int .i64 n.kind.v, .string n.var.v, .string n.typ.v, .slice pp11 n.tests.length cc12, .slice pp15 n.kids.length cc16] 25 (0, 0)) :: Im 11 (.slice n.tp n.tests.length n.tc) n.tests.length (n.tests.flatMap condCell) :: Im 5 (.slice n.kp n.kids.length n.kc) n.kids.length (n.kids.flatMap nodeCell) :: NodesA n.kids :: F)) (fun (x_ : (List NodeD) × Nat) => match x_ with | (C, j) => n.kids.length - j) ([], 0) ?_ ?_ ?_
    · exact ⟨by first | rfl | exact vint (by omega), by first | rfl | exact vint (by omega), by first | rfl | exact vint (by omega), by first | rfl | exact vint (by omega), by first | rfl | exact vint (by omega), trivial⟩
    · exact ⟨(by omega), rfl, rfl, H17⟩
    · rintro ⟨C, j⟩ ρ18 w19 ⟨hjl, hC, hCe, H20⟩ nx21
      change Ends _ _ (upds ρ18 [(1, .pointer (some ⟨bk5, 0, none⟩)), (2, .pointer (some ⟨bk8, 0, none⟩)), (14, .slice pp15 n.kids.length cc16), (15, .int .i64 (n.kids.length : Int)), (16, .int .i64 (j : Int))]) w19
      refine g_seq ?_
      refine g_region ?_
      by_cases hc22 : (j : Int) < (n.kids.length : Int)
      · skip
        refine r_cons (s_lss true rfl rfl (dtrue hc22) rfl ?_)
        refine r_nil ?_
        refine g_seq ?_
        refine g_true rfl ?_
        refine g_skip ?_
        refine g_seq ?_
        refine g_block ?_
        refine g_seq ?_
        refine g_region ?_
        refine r_cons (s_move (.int .i64 (j : Int)) rfl rfl ?_)
        obtain ⟨bk23, cur24, hp25, h26, h27, h28, h29, h30, H31⟩ := Row.open2 H20 (i := 1) rfl (by omega)
        refine r_cons (s_indexAddr bk23 (off := 0) (j : Int) 5 (0 + j * 5) (by exact congrArg (fun z_ => Value.slice z_ n.kids.length cc16) ((fun (_ : 0 < 1) => hp25) (by omega))) rfl el_23 (by omega) rfl rfl ?_)
        refine r_cons (s_loadAgg [.int .i64 (((C ++ n.kids.drop j).getD j default).kind.v), .string (((C ++ n.kids.drop j).getD j default).var.v), .string (((C ++ n.kids.drop j).getD j default).typ.v), .slice (((C ++ n.kids.drop j).getD j default).tp) (((C ++ n.kids.drop j).getD j default).tests.length) (((C ++ n.kids.drop j).getD j default).tc), .slice (((C ++ n.kids.drop j).getD j default).kp) (((C ++ n.kids.drop j).getD j default).kids.length) (((C ++ n.kids.drop j).getD j default).kc)] 5 ag_25 rfl (H31.blk_at (i := 1) rfl) (by have := elem_size (i := j) (s := 5) (show 0 + (C ++ n.kids.drop j).length * 5 ≤ cur24.size by have := (show (C ++ n.kids.drop j).length * 5 ≤ cur24.size by rw [(drop_len hC (by omega)), h28]; exact Nat.mul_le_mul_right 5 h26); omega) (by have hh : (C ++ n.kids.drop j).length = n.kids.length := (drop_len hC (by omega)); omega); omega) (elem_take nodeCell_len (by rw [(drop_len hC (by omega))]; exact h29) (by have hh : (C ++ n.kids.drop j).length = n.kids.length := (drop_len hC (by omega)); omega) default) rfl ?_)
        rw [clone_get hC (by omega)]
        refine r_cons (s_alloc H31 25 ze_25 rfl ?_); intro bk32 w33 H34
        refine r_cons (s_assign (.int .i64 (j : Int)) rfl rfl ?_)
        refine r_cons (s_storeAgg H34 0 #[.int .i64 ((n.kids.getD j default).kind.v), .string ((n.kids.getD j default).var.v), .string ((n.kids.getD j default).typ.v), .slice ((n.kids.getD j default).tp) ((n.kids.getD j default).tests.length) ((n.kids.getD j default).tc), .slice ((n.kids.getD j default).kp) ((n.kids.getD j default).kids.length) ((n.kids.getD j default).kc)] 5 rfl rfl rfl sz_25 rfl (by simp [Value.oneCell']) (Nat.le_of_ble_eq_true rfl) (fun o h1 h2 => by first | (simp; done) | (simp; omega)) (cs' := #[.int .i64 ((n.kids.getD j default).kind.v), .string ((n.kids.getD j default).var.v), .string ((n.kids.getD j default).typ.v), .slice ((n.kids.getD j default).tp) ((n.kids.getD j default).tests.length) ((n.kids.getD j default).tc), .slice ((n.kids.getD j default).kp) ((n.kids.getD j default).kids.length) ((n.kids.getD j default).kc)]) rfl ?_); intro w35 H36
        refine r_nil ?_
        have H37 : St W w35 (blk bk32 (.cells #[.int .i64 ((n.kids.getD j default).kind.v), .string ((n.kids.getD j default).var.v), .string ((n.kids.getD j default).typ.v), .slice ((n.kids.getD j default).tp) ((n.kids.getD j default).tests.length) ((n.kids.getD j default).tc), .slice ((n.kids.getD j default).kp) ((n.kids.getD j default).kids.length) ((n.kids.getD j default).kc)] 25 (0, 0)) :: TreesA 43 25 C :: Row 43 11 (.slice pp11 n.tests.length cc12) n.tests.length (n.tests.flatMap condCell) :: blk bk8 (.cells #[.int .i64 0, .string ByteArray.empty, .string ByteArray.empty, .slice none 0 0, .slice none 0 0] 25 (0, 0)) :: blk bk5 (.cells #[.int .i64 n.kind.v, .string n.var.v, .string n.typ.v, .slice pp11 n.tests.length cc12, .slice pp15 n.kids.length cc16] 25 (0, 0)) :: Im 11 (.slice n.tp n.tests.length n.tc) n.tests.length (n.tests.flatMap condCell) :: Im 5 (.slice n.kp n.kids.length n.kc) n.kids.length (n.kids.flatMap nodeCell) :: NodesA n.kids :: blk bk23 (.cells cur24 25 (0, 0)) :: F) := (((((((((H36.move 2 rfl).move 8 rfl).move 8 rfl).move 8 rfl).move 8 rfl).move 8 rfl).move 8 rfl).move 8 rfl).move 8 rfl)
        refine g_mix (fun t_ w => St W w (blk bk32 (.cells #[.int .i64 ((n.kids.getD j default).kind.v), .string ((n.kids.getD j default).var.v), .string ((n.kids.getD j default).typ.v), .slice ((n.kids.getD j default).tp) ((n.kids.getD j default).tests.length) ((n.kids.getD j default).tc), .slice ((n.kids.getD j default).kp) ((n.kids.getD j default).kids.length) ((n.kids.getD j default).kc)] 25 (0, 0)) :: TreesA 43 25 C :: Row 43 11 (.slice pp11 n.tests.length cc12) n.tests.length (n.tests.flatMap condCell) :: blk bk8 (.cells #[.int .i64 0, .string ByteArray.empty, .string ByteArray.empty, .slice none 0 0, .slice none 0 0] 25 (0, 0)) :: blk bk5 (.cells #[.int .i64 n.kind.v, .string n.var.v, .string n.typ.v, .slice pp11 n.tests.length cc12, .slice pp15 n.kids.length cc16] 25 (0, 0)) :: Im 11 (.slice n.tp n.tests.length n.tc) n.tests.length (n.tests.flatMap condCell) :: Im 5 (.slice n.kp n.kids.length n.kc) n.kids.length (n.kids.flatMap nodeCell) :: NodesA n.kids :: t_)) (blk bk23 (.cells cur24 25 (0, 0)) :: F) mixed 7 rfl H37.drew ?_
        refine f_first 0 (listed' := #[true, false, false, false, false, false, false]) rfl (by kernel_rfl) (by kernel_rfl) (by kernel_rfl) rfl ?_
        refine f_val rfl rfl rfl (by intro t_ w hw; exact x_fieldAddr 25 4 4 4 23 rfl fi_25_4 rfl w) ?_
        refine f_first 1 (listed' := #[true, true, false, false, false, false, false]) rfl (by kernel_rfl) (by kernel_rfl) (by kernel_rfl) rfl ?_
        refine f_val rfl rfl rfl (by intro t_ w hw; exact x_load (.slice pp15 n.kids.length cc16) ag_23 rfl (hw.blk_at (i := 4) rfl) rfl) ?_
        refine f_first 2 (listed' := #[true, true, true, false, false, false, false]) rfl (by kernel_rfl) (by kernel_rfl) (by kernel_rfl) rfl ?_
        refine f_val rfl rfl rfl (by intro t_ w hw; exact x_move (.int .i64 (j : Int)) rfl w) ?_
        refine f_first 3 (listed' := #[true, true, true, true, false, false, false]) rfl (by kernel_rfl) (by kernel_rfl) (by kernel_rfl) rfl ?_
        refine f_val rfl rfl rfl (by intro t_ w hw; exact x_loadAgg [.int .i64 ((n.kids.getD j default).kind.v), .string ((n.kids.getD j default).var.v), .string ((n.kids.getD j default).typ.v), .slice ((n.kids.getD j default).tp) ((n.kids.getD j default).tests.length) ((n.kids.getD j default).tc), .slice ((n.kids.getD j default).kp) ((n.kids.getD j default).kids.length) ((n.kids.getD j default).kc)] 5 ag_25 rfl (hw.blk_at (i := 0) rfl) (Nat.le_of_ble_eq_true rfl) rfl) ?_
        refine f_all (rs := [4]) (by kernel_rfl) (by simp) ?_
        refine a_cons ⟨_, rfl, ?_⟩ (fun x hx => absurd hx (by simp))
        intro w38 H39
        try dsimp only at H39
        have H40 := NodesA.at H39 (i := 7) rfl (j := j) (by omega)
        refine s_call [.agg #[.int .i64 ((n.kids.getD j default).kind.v), .string ((n.kids.getD j default).var.v), .string ((n.kids.getD j default).typ.v), .slice ((n.kids.getD j default).tp) ((n.kids.getD j default).tests.length) ((n.kids.getD j default).tc), .slice ((n.kids.getD j default).kp) ((n.kids.getD j default).kids.length) ((n.kids.getD j default).kc)]] pl_51 rfl rfl (ih (n.kids.getD j default) (by have h9 := kid_lt (n := n) (j := j) (by omega); omega) (i := 0) rfl H40) ?_
        rintro _ w44 ⟨nn41, rfl, hq42, H45⟩
        have H46 : St W w44 (blk bk32 (.cells #[.int .i64 ((n.kids.getD j default).kind.v), .string ((n.kids.getD j default).var.v), .string ((n.kids.getD j default).typ.v), .slice ((n.kids.getD j default).tp) ((n.kids.getD j default).tests.length) ((n.kids.getD j default).tc), .slice ((n.kids.getD j default).kp) ((n.kids.getD j default).kids.length) ((n.kids.getD j default).kc)] 25 (0, 0)) :: TreesA 43 25 C :: Row 43 11 (.slice pp11 n.tests.length cc12) n.tests.length (n.tests.flatMap condCell) :: blk bk8 (.cells #[.int .i64 0, .string ByteArray.empty, .string ByteArray.empty, .slice none 0 0, .slice none 0 0] 25 (0, 0)) :: blk bk5 (.cells #[.int .i64 n.kind.v, .string n.var.v, .string n.typ.v, .slice pp11 n.tests.length cc12, .slice pp15 n.kids.length cc16] 25 (0, 0)) :: Im 11 (.slice n.tp n.tests.length n.tc) n.tests.length (n.tests.flatMap condCell) :: Im 5 (.slice n.kp n.kids.length n.kc) n.kids.length (n.kids.flatMap nodeCell) :: NodesA n.kids :: TreeA 43 25 nn41 :: NodeA (n.kids.getD j default) :: blk bk23 (.cells cur24 25 (0, 0)) :: F) := (((((((((((H45.move 10 rfl).move 2 rfl).move 2 rfl).move 10 rfl).move 10 rfl).move 10 rfl).move 10 rfl).move 10 rfl).move 10 rfl).move 10 rfl).move 10 rfl)
        refine ⟨TreeA 43 25 nn41 :: NodeA (n.kids.getD j default) :: blk bk23 (.cells cur24 25 (0, 0)) :: F, ?_, H46⟩
        change FReg _ _ _ _ _ #[true, true, true, true, true, false, false] _ _
        refine f_first 5 (listed' := #[true, true, true, true, true, true, false]) rfl (by kernel_rfl) (by kernel_rfl) (by kernel_rfl) rfl ?_
        refine f_val rfl rfl rfl (by intro t_ w hw; exact x_indexAddr bk23 (off := 0) (j : Int) 5 (0 + j * 5) (by exact congrArg (fun z_ => Value.slice z_ n.kids.length cc16) ((fun (_ : 0 < 1) => hp25) (by omega))) rfl el_23 (by omega) rfl w) ?_
        refine f_all (rs := [6]) (by kernel_rfl) (by simp) ?_
        refine a_cons ⟨_, rfl, ?_⟩ (fun x hx => absurd hx (by simp))
        intro w47 H48
        try dsimp only at H48
        have hx51 := row_setN (f := nodeCell) (L := (C ++ n.kids.drop j)) (cur := cur24) nodeCell_len (by decide) (by rw [(drop_len hC (by omega))]; exact h29) (show (C ++ n.kids.drop j).length * 5 ≤ cur24.size by rw [(drop_len hC (by omega)), h28]; exact Nat.mul_le_mul_right 5 h26) (j := j) (by have hh := (drop_len hC (by omega)); omega) nn41
        refine s_storeAgg H48 10 #[.int .i64 nn41.kind.v, .string nn41.var.v, .string nn41.typ.v, .slice nn41.tp nn41.tests.length nn41.tc, .slice nn41.kp nn41.kids.length nn41.kc] 5 rfl rfl rfl sz_25 rfl (fun v_ hv_ => one_node nn41 v_ hv_) (by have hh := (drop_len hC (by omega)); have hk := (show (C ++ n.kids.drop j).length * 5 ≤ cur24.size by rw [(drop_len hC (by omega)), h28]; exact Nat.mul_le_mul_right 5 h26); omega) (fun o_ h1_ h2_ => by simp) (cs' := (writes cur24 (0 + j * 5) (nodeCell nn41))) rfl ?_; intro w49 H50
        refine ⟨TreeA 43 25 nn41 :: NodeA (n.kids.getD j default) :: blk bk23 (.cells (writes cur24 (0 + j * 5) (nodeCell nn41)) 25 (0, 0)) :: F, ?_, H50⟩
        change FReg _ _ _ _ _ #[true, true, true, true, true, true, true] _ _
        refine f_done (by kernel_rfl) ?_
        intro w52 H53
        refine g_inBlock ?_
        refine g_region ?_
        refine r_cons (s_add ((j : Int) + 1) rfl rfl (wi64 (by omega)) rfl ?_)
        refine r_cons (s_move (.int .i64 ((j : Int) + 1)) rfl rfl ?_)
        refine r_nil ?_
        have hL54 : ((C ++ n.kids.drop j).set j nn41) = (C ++ [nn41]) ++ n.kids.drop (j + 1) := set_clone hC (by omega) nn41
        have H55 := Row.shut2 (p := pp15) (n := n.kids.length) (c := cc16) (size := 5) (xs := ((C ++ [nn41]) ++ n.kids.drop (j + 1)).flatMap nodeCell) H53 (i := 10) rfl hp25 h26 h27 (show (writes cur24 (0 + j * 5) (nodeCell nn41)).size = cc16 * 5 from by rw [writes_size]; exact h28) (by have hh : ((writes cur24 (0 + j * 5) (nodeCell nn41)).toList.drop 0).take (((C ++ n.kids.drop j).set j nn41).length * 5) = ((C ++ n.kids.drop j).set j nn41).flatMap nodeCell := hx51; have hk : ((C ++ n.kids.drop j).set j nn41).length = n.kids.length := (show (((C ++ n.kids.drop j).set j nn41)).length = n.kids.length from by first | (rw [List.length_set]; exact (drop_len hC (by omega))) | rw [List.length_set]); rw [hk] at hh; rw [hL54] at hh; exact hh) (fun x_ hx_ => by obtain ⟨a_, _, ha_⟩ := List.mem_flatMap.1 hx_; exact one_node a_ x_ ha_)
        have H56 : St W w52 (TreeA 43 25 nn41 :: TreesA 43 25 C :: blk bk32 (.cells #[.int .i64 ((n.kids.getD j default).kind.v), .string ((n.kids.getD j default).var.v), .string ((n.kids.getD j default).typ.v), .slice ((n.kids.getD j default).tp) ((n.kids.getD j default).tests.length) ((n.kids.getD j default).tc), .slice ((n.kids.getD j default).kp) ((n.kids.getD j default).kids.length) ((n.kids.getD j default).kc)] 25 (0, 0)) :: Row 43 11 (.slice pp11 n.tests.length cc12) n.tests.length (n.tests.flatMap condCell) :: blk bk8 (.cells #[.int .i64 0, .string ByteArray.empty, .string ByteArray.empty, .slice none 0 0, .slice none 0 0] 25 (0, 0)) :: blk bk5 (.cells #[.int .i64 n.kind.v, .string n.var.v, .string n.typ.v, .slice pp11 n.tests.length cc12, .slice pp15 n.kids.length cc16] 25 (0, 0)) :: Im 11 (.slice n.tp n.tests.length n.tc) n.tests.length (n.tests.flatMap condCell) :: Im 5 (.slice n.kp n.kids.length n.kc) n.kids.length (n.kids.flatMap nodeCell) :: NodesA n.kids :: NodeA (n.kids.getD j default) :: Row 25 5 (.slice pp15 n.kids.length cc16) n.kids.length (((C ++ [nn41]) ++ n.kids.drop (j + 1)).flatMap nodeCell) :: F) := ((H55.move 1 rfl).move 8 rfl)
        have H57 : St W w52 (TreesA 43 25 (C ++ [nn41]) :: blk bk32 (.cells #[.int .i64 ((n.kids.getD j default).kind.v), .string ((n.kids.getD j default).var.v), .string ((n.kids.getD j default).typ.v), .slice ((n.kids.getD j default).tp) ((n.kids.getD j default).tests.length) ((n.kids.getD j default).tc), .slice ((n.kids.getD j default).kp) ((n.kids.getD j default).kids.length) ((n.kids.getD j default).kc)] 25 (0, 0)) :: Row 43 11 (.slice pp11 n.tests.length cc12) n.tests.length (n.tests.flatMap condCell) :: blk bk8 (.cells #[.int .i64 0, .string ByteArray.empty, .string ByteArray.empty, .slice none 0 0, .slice none 0 0] 25 (0, 0)) :: blk bk5 (.cells #[.int .i64 n.kind.v, .string n.var.v, .string n.typ.v, .slice pp11 n.tests.length cc12, .slice pp15 n.kids.length cc16] 25 (0, 0)) :: Im 11 (.slice n.tp n.tests.length n.tc) n.tests.length (n.tests.flatMap condCell) :: Im 5 (.slice n.kp n.kids.length n.kc) n.kids.length (n.kids.flatMap nodeCell) :: NodesA n.kids :: NodeA (n.kids.getD j default) :: Row 25 5 (.slice pp15 n.kids.length cc16) n.kids.length (((C ++ [nn41]) ++ n.kids.drop (j + 1)).flatMap nodeCell) :: F) := TreesA.snoc H56
        have H58 : St W w52 (TreesA 43 25 (C ++ [nn41]) :: Row 25 5 (.slice pp15 n.kids.length cc16) n.kids.length (((C ++ [nn41]) ++ n.kids.drop (j + 1)).flatMap nodeCell) :: Row 43 11 (.slice pp11 n.tests.length cc12) n.tests.length (n.tests.flatMap condCell) :: blk bk8 (.cells #[.int .i64 0, .string ByteArray.empty, .string ByteArray.empty, .slice none 0 0, .slice none 0 0] 25 (0, 0)) :: blk bk5 (.cells #[.int .i64 n.kind.v, .string n.var.v, .string n.typ.v, .slice pp11 n.tests.length cc12, .slice pp15 n.kids.length cc16] 25 (0, 0)) :: Im 11 (.slice n.tp n.tests.length n.tc) n.tests.length (n.tests.flatMap condCell) :: Im 5 (.slice n.kp n.kids.length n.kc) n.kids.length (n.kids.flatMap nodeCell) :: NodesA n.kids :: F) := ((((((((((H57.move 7 rfl).move 7 rfl).move 7 rfl).move 7 rfl).move 7 rfl).move 7 rfl).move 9 rfl).move 7 rfl).drop 8 rfl).drop 8 rfl)
        exact nx21 ((C ++ [nn41]), j + 1) _ _ ⟨(by omega), (by rw [List.length_append, hC]; rfl), (clone_map hCe (by omega) hq42), H58⟩ (by first | (dsimp only; omega) | omega) ⟨by first | rfl | exact vint (by omega), by first | rfl | exact vint (by omega), by first | rfl | exact vint (by omega), by first | rfl | exact vint (by omega), by first | rfl | exact vint (by omega), trivial⟩
      · skip
        refine r_cons (s_lss false rfl rfl (dfalse hc22) rfl ?_)
        refine r_nil ?_
        refine g_seq ?_
        refine g_false rfl ?_
        refine g_exit (by rfl) ?_
        refine g_seq ?_
        refine g_region ?_
        refine r_cons (s_loadAgg [.int .i64 n.kind.v, .string n.var.v, .string n.typ.v, .slice pp11 n.tests.length cc12, .slice pp15 n.kids.length cc16] 5 ag_25 rfl (H20.blk_at (i := 4) rfl) (Nat.le_of_ble_eq_true rfl) rfl rfl ?_)
        refine r_cons (s_storeAgg H20 3 #[.int .i64 n.kind.v, .string n.var.v, .string n.typ.v, .slice pp11 n.tests.length cc12, .slice pp15 n.kids.length cc16] 5 rfl rfl rfl sz_25 rfl (by simp [Value.oneCell']) (Nat.le_of_ble_eq_true rfl) (fun o h1 h2 => by first | (simp; done) | (simp; omega)) (cs' := #[.int .i64 n.kind.v, .string n.var.v, .string n.typ.v, .slice pp11 n.tests.length cc12, .slice pp15 n.kids.length cc16]) rfl ?_); intro w59 H60
        refine r_nil ?_
        refine g_ret' [.agg #[.int .i64 n.kind.v, .string n.var.v, .string n.typ.v, .slice pp11 n.tests.length cc12, .slice pp15 n.kids.length cc16]] Try.func51 Try.results51 ⟨(res_cellN rfl ag_25 (H60.blk_at (i := 3) rfl) (Nat.le_of_ble_eq_true rfl) rfl), trivial⟩ ?_
        have H61 : St W w59 (Row 43 11 (.slice pp11 n.tests.length cc12) n.tests.length (n.tests.flatMap condCell) :: Row 25 5 (.slice pp15 n.kids.length cc16) n.kids.length ((C ++ n.kids.drop j).flatMap nodeCell) :: TreesA 43 25 C :: F) := (((((((H60.move 1 rfl).move 2 rfl).drop 3 rfl).drop 3 rfl).drop 3 rfl).drop 3 rfl).drop 3 rfl)
        have hCl : n.kids.length = C.length := by omega
        have hDC : C ++ n.kids.drop j = C := by rw [List.drop_of_length_le (by omega), List.append_nil]
        have H62 : St W w59 (Row 43 11 (.slice pp11 n.tests.length cc12) n.tests.length (n.tests.flatMap condCell) :: Row 25 5 (.slice pp15 C.length cc16) C.length (C.flatMap nodeCell) :: TreesA 43 25 C :: F) := by have h9 := H61; rw [hDC, hCl] at h9; exact h9
        exact ⟨(.mk n.kind n.var n.typ pp11 cc12 n.tests pp15 cc16 C), by rw [hCl]; rfl, erase_eq rfl rfl rfl rfl (by rw [show (NodeD.mk n.kind n.var n.typ pp11 cc12 n.tests pp15 cc16 C).kids = C from rfl, hCe, List.take_of_length_le (by omega)]), TreeA.make (.mk n.kind n.var n.typ pp11 cc12 n.tests pp15 cc16 C) (by exact ⟨by show n.tests.length * 136 ≤ _; omega, by show C.length * 88 ≤ _; omega⟩) H62⟩
  · intro join11
    refine g_any mixed 10 rfl ?_
    intro w63 hw64
    have H65 := H10.drew
    rw [← hw64] at H65
    clear hw64
    refine a_take 0 (listed' := #[true, false, false, false, false, false, false, false, false, false]) rfl (by kernel_rfl) (by kernel_rfl) (by kernel_rfl) rfl rfl rfl rfl (fun w => x_fieldAddr 25 3 3 3 22 rfl fi_25_3 rfl w) ?_
    refine a_take 3 (listed' := #[true, false, false, true, false, false, false, false, false, false]) rfl (by kernel_rfl) (by kernel_rfl) (by kernel_rfl) rfl rfl rfl rfl (fun w => x_fieldAddr 25 4 4 4 23 rfl fi_25_4 rfl w) ?_
    refine a_all (rs := [1, 4]) (by kernel_rfl) (by simp) ?_
    refine a_cons ⟨_, rfl, ?_⟩ (a_cons ⟨_, rfl, ?_⟩ (fun x hx => absurd hx (by simp)))
    · skip
      refine s_load (.slice n.tp n.tests.length n.tc) ag_22 rfl (H65.blk_at (i := 1) rfl) rfl rfl ?_
      change AnyG _ _ _ _ #[true, true, false, true, false, false, false, false, false, false] _ _
      refine a_all (rs := [2, 4]) (by kernel_rfl) (by simp) ?_
      refine a_cons ⟨_, rfl, ?_⟩ (a_cons ⟨_, rfl, ?_⟩ (fun x hx => absurd hx (by simp)))
      · skip
        refine s_call [.slice n.tp n.tests.length n.tc] pl_50 rfl rfl (Clone_cond n.tests (.slice n.tp n.tests.length n.tc) (m := 2) rfl (by omega) H65) ?_
        rintro _ w68 ⟨pp66, cc67, rfl, H69⟩
        change AnyG _ _ _ _ #[true, true, true, true, false, false, false, false, false, false] _ _
        refine a_all (rs := [4]) (by kernel_rfl) (by simp) ?_
        refine a_cons ⟨_, rfl, ?_⟩ (fun x hx => absurd hx (by simp))
        refine s_load (.slice n.kp n.kids.length n.kc) ag_23 rfl (H69.blk_at (i := 2) rfl) rfl rfl ?_
        change AnyG _ _ _ _ #[true, true, true, true, true, false, false, false, false, false] _ _
        refine a_take 6 (listed' := #[true, true, true, true, true, false, true, false, false, false]) rfl (by kernel_rfl) (by kernel_rfl) (by kernel_rfl) rfl rfl rfl rfl (fun w => x_fieldAddr 25 3 3 3 22 rfl fi_25_3 rfl w) ?_
        refine a_all (rs := [5]) (by kernel_rfl) (by simp) ?_
        refine a_cons ⟨_, rfl, ?_⟩ (fun x hx => absurd hx (by simp))
        refine s_call [.slice n.kp n.kids.length n.kc] pl_64 rfl rfl (Clone_node n.kids (.slice n.kp n.kids.length n.kc) (m := 4) rfl (by omega) H69) ?_
        rintro _ w72 ⟨pp70, cc71, rfl, H73⟩
        change AnyG _ _ _ _ #[true, true, true, true, true, true, true, false, false, false] _ _
        refine a_all (rs := [7]) (by kernel_rfl) (by simp) ?_
        refine a_cons ⟨_, rfl, ?_⟩ (fun x hx => absurd hx (by simp))
        refine s_store H73 3 (.slice pp66 n.tests.length cc67) rfl rfl rfl sz_22 rfl (Nat.le_of_ble_eq_true rfl) rfl (cs' := #[.int .i64 n.kind.v, .string n.var.v, .string n.typ.v, .slice pp66 n.tests.length cc67, .slice n.kp n.kids.length n.kc]) rfl ?_; intro w74 H75
        change AnyG _ _ _ _ #[true, true, true, true, true, true, true, true, false, false] _ _
        refine a_take 8 (listed' := #[true, true, true, true, true, true, true, true, true, false]) rfl (by kernel_rfl) (by kernel_rfl) (by kernel_rfl) rfl rfl rfl rfl (fun w => x_fieldAddr 25 4 4 4 23 rfl fi_25_4 rfl w) ?_
        refine a_all (rs := [9]) (by kernel_rfl) (by simp) ?_
        refine a_cons ⟨_, rfl, ?_⟩ (fun x hx => absurd hx (by simp))
        refine s_store H75 3 (.slice pp70 n.kids.length cc71) rfl rfl rfl sz_23 rfl (Nat.le_of_ble_eq_true rfl) rfl (cs' := #[.int .i64 n.kind.v, .string n.var.v, .string n.typ.v, .slice pp66 n.tests.length cc67, .slice pp70 n.kids.length cc71]) rfl ?_; intro w76 H77
        change AnyG _ _ _ _ #[true, true, true, true, true, true, true, true, true, true] _ _
        refine a_done (by kernel_rfl) ?_
        exact join11 (pp70, cc71, pp66, cc67) _ _ H77 ⟨rfl, rfl, trivial⟩
      · skip
        refine s_load (.slice n.kp n.kids.length n.kc) ag_23 rfl (H65.blk_at (i := 1) rfl) rfl rfl ?_
        change AnyG _ _ _ _ #[true, true, false, true, true, false, false, false, false, false] _ _
        refine a_all (rs := [2]) (by kernel_rfl) (by simp) ?_
        refine a_cons ⟨_, rfl, ?_⟩ (fun x hx => absurd hx (by simp))
        refine s_call [.slice n.tp n.tests.length n.tc] pl_50 rfl rfl (Clone_cond n.tests (.slice n.tp n.tests.length n.tc) (m := 2) rfl (by omega) H65) ?_
        rintro _ w80 ⟨pp78, cc79, rfl, H81⟩
        change AnyG _ _ _ _ #[true, true, true, true, true, false, false, false, false, false] _ _
        refine a_take 6 (listed' := #[true, true, true, true, true, false, true, false, false, false]) rfl (by kernel_rfl) (by kernel_rfl) (by kernel_rfl) rfl rfl rfl rfl (fun w => x_fieldAddr 25 3 3 3 22 rfl fi_25_3 rfl w) ?_
        refine a_all (rs := [5]) (by kernel_rfl) (by simp) ?_
        refine a_cons ⟨_, rfl, ?_⟩ (fun x hx => absurd hx (by simp))
        refine s_call [.slice n.kp n.kids.length n.kc] pl_64 rfl rfl (Clone_node n.kids (.slice n.kp n.kids.length n.kc) (m := 4) rfl (by omega) H81) ?_
        rintro _ w84 ⟨pp82, cc83, rfl, H85⟩
        change AnyG _ _ _ _ #[true, true, true, true, true, true, true, false, false, false] _ _
        refine a_all (rs := [7]) (by kernel_rfl) (by simp) ?_
        refine a_cons ⟨_, rfl, ?_⟩ (fun x hx => absurd hx (by simp))
        refine s_store H85 3 (.slice pp78 n.tests.length cc79) rfl rfl rfl sz_22 rfl (Nat.le_of_ble_eq_true rfl) rfl (cs' := #[.int .i64 n.kind.v, .string n.var.v, .string n.typ.v, .slice pp78 n.tests.length cc79, .slice n.kp n.kids.length n.kc]) rfl ?_; intro w86 H87
        change AnyG _ _ _ _ #[true, true, true, true, true, true, true, true, false, false] _ _
        refine a_take 8 (listed' := #[true, true, true, true, true, true, true, true, true, false]) rfl (by kernel_rfl) (by kernel_rfl) (by kernel_rfl) rfl rfl rfl rfl (fun w => x_fieldAddr 25 4 4 4 23 rfl fi_25_4 rfl w) ?_
        refine a_all (rs := [9]) (by kernel_rfl) (by simp) ?_
        refine a_cons ⟨_, rfl, ?_⟩ (fun x hx => absurd hx (by simp))
        refine s_store H87 3 (.slice pp82 n.kids.length cc83) rfl rfl rfl sz_23 rfl (Nat.le_of_ble_eq_true rfl) rfl (cs' := #[.int .i64 n.kind.v, .string n.var.v, .string n.typ.v, .slice pp78 n.tests.length cc79, .slice pp82 n.kids.length cc83]) rfl ?_; intro w88 H89
        change AnyG _ _ _ _ #[true, true, true, true, true, true, true, true, true, true] _ _
        refine a_done (by kernel_rfl) ?_
        exact join11 (pp82, cc83, pp78, cc79) _ _ H89 ⟨rfl, rfl, trivial⟩
    · skip
      refine s_load (.slice n.kp n.kids.length n.kc) ag_23 rfl (H65.blk_at (i := 1) rfl) rfl rfl ?_
      change AnyG _ _ _ _ #[true, false, false, true, true, false, false, false, false, false] _ _
      refine a_all (rs := [1]) (by kernel_rfl) (by simp) ?_
      refine a_cons ⟨_, rfl, ?_⟩ (fun x hx => absurd hx (by simp))
      refine s_load (.slice n.tp n.tests.length n.tc) ag_22 rfl (H65.blk_at (i := 1) rfl) rfl rfl ?_
      change AnyG _ _ _ _ #[true, true, false, true, true, false, false, false, false, false] _ _
      refine a_all (rs := [2]) (by kernel_rfl) (by simp) ?_
      refine a_cons ⟨_, rfl, ?_⟩ (fun x hx => absurd hx (by simp))
      refine s_call [.slice n.tp n.tests.length n.tc] pl_50 rfl rfl (Clone_cond n.tests (.slice n.tp n.tests.length n.tc) (m := 2) rfl (by omega) H65) ?_
      rintro _ w92 ⟨pp90, cc91, rfl, H93⟩
      change AnyG _ _ _ _ #[true, true, true, true, true, false, false, false, false, false] _ _
      refine a_take 6 (listed' := #[true, true, true, true, true, false, true, false, false, false]) rfl (by kernel_rfl) (by kernel_rfl) (by kernel_rfl) rfl rfl rfl rfl (fun w => x_fieldAddr 25 3 3 3 22 rfl fi_25_3 rfl w) ?_
      refine a_all (rs := [5]) (by kernel_rfl) (by simp) ?_
      refine a_cons ⟨_, rfl, ?_⟩ (fun x hx => absurd hx (by simp))
      refine s_call [.slice n.kp n.kids.length n.kc] pl_64 rfl rfl (Clone_node n.kids (.slice n.kp n.kids.length n.kc) (m := 4) rfl (by omega) H93) ?_
      rintro _ w96 ⟨pp94, cc95, rfl, H97⟩
      change AnyG _ _ _ _ #[true, true, true, true, true, true, true, false, false, false] _ _
      refine a_all (rs := [7]) (by kernel_rfl) (by simp) ?_
      refine a_cons ⟨_, rfl, ?_⟩ (fun x hx => absurd hx (by simp))
      refine s_store H97 3 (.slice pp90 n.tests.length cc91) rfl rfl rfl sz_22 rfl (Nat.le_of_ble_eq_true rfl) rfl (cs' := #[.int .i64 n.kind.v, .string n.var.v, .string n.typ.v, .slice pp90 n.tests.length cc91, .slice n.kp n.kids.length n.kc]) rfl ?_; intro w98 H99
      change AnyG _ _ _ _ #[true, true, true, true, true, true, true, true, false, false] _ _
      refine a_take 8 (listed' := #[true, true, true, true, true, true, true, true, true, false]) rfl (by kernel_rfl) (by kernel_rfl) (by kernel_rfl) rfl rfl rfl rfl (fun w => x_fieldAddr 25 4 4 4 23 rfl fi_25_4 rfl w) ?_
      refine a_all (rs := [9]) (by kernel_rfl) (by simp) ?_
      refine a_cons ⟨_, rfl, ?_⟩ (fun x hx => absurd hx (by simp))
      refine s_store H99 3 (.slice pp94 n.kids.length cc95) rfl rfl rfl sz_23 rfl (Nat.le_of_ble_eq_true rfl) rfl (cs' := #[.int .i64 n.kind.v, .string n.var.v, .string n.typ.v, .slice pp90 n.tests.length cc91, .slice pp94 n.kids.length cc95]) rfl ?_; intro w100 H101
      change AnyG _ _ _ _ #[true, true, true, true, true, true, true, true, true, true] _ _
      refine a_done (by kernel_rfl) ?_
      exact join11 (pp94, cc95, pp90, cc91) _ _ H101 ⟨rfl, rfl, trivial⟩
theorem check_cloneNode {W w : World} {F : List Atom} (n : NodeD)  {i : Nat} (hi : F[i]? = some (NodeA n)) (H : St W w F) : Calls Try.prog 51 #[.agg #[.int .i64 n.kind.v, .string n.var.v, .string n.typ.v, .slice n.tp n.tests.length n.tc, .slice n.kp n.kids.length n.kc]] w (Ret fun v w' => ∃ n2 : NodeD, v = .agg #[.int .i64 n2.kind.v, .string n2.var.v, .string n2.typ.v, .slice n2.tp n2.tests.length n2.tc, .slice n2.kp n2.kids.length n2.kc] ∧ eraseN n2 = eraseN n ∧ St W w' (TreeA 43 25 n2 :: F)) := check_cloneNode_r (sizeOf n + 1) n (Nat.lt_succ_self _) hi H
end Sl
