/- Walks of the program's functions. Printed by a program of this claim's author. No condition. -/
import Derived.Test.YtkclljglobeplaaSlCG
import Derived.Test.YtkclljglobeplaaSlQ
import Derived.Test.YtkclljglobeplaaProg
import Derived.Test.YtkclljglobeplaaWalkCheckTrees1
namespace Sl
open _root_.Go _root_.Go.RowKit _root_.Go.Proofs
set_option linter.all false
set_option maxHeartbeats 4000000 in
set_option maxRecDepth 100000 in
theorem ref07_Binds_r (N : Nat) : ∀ (n : NodeD), sizeOf n < N → ∀ {W w : World} {F : List Atom}  {i : Nat} (hi : F[i]? = some (NodeA n)) (hz : sizeN n ≤ 1048576) (H : St W w F), Calls Try.prog 22 #[.agg #[.int .i64 n.kind.v, .string n.var.v, .string n.typ.v, .slice n.tp n.tests.length n.tc, .slice n.kp n.kids.length n.kc]] w (Ret fun v w' => v = .int .i64 (bindsE n) ∧ St W w' F) := by
  induction N with | zero => exact fun n hN => absurd hN (Nat.not_lt_zero _) | succ N ih => ?_
  intro n hN W w F i hi hz H
  have H1 := NodeA.kids H (i := i + 0) (by exact hi)
  have H2 : St W w (Im 5 (.slice n.kp n.kids.length n.kc) n.kids.length (n.kids.flatMap nodeCell) :: NodesA n.kids :: F) := H1
  refine calls_of_go (n := 64) Try.func22 rfl Try.ntmps22 rfl ?_
  refine g_seq ?_
  refine g_region ?_
  refine r_cons (s_box H2 25 (.agg #[.int .i64 n.kind.v, .string n.var.v, .string n.typ.v, .slice n.tp n.tests.length n.tc, .slice n.kp n.kids.length n.kc]) rfl (cs := #[.int .i64 n.kind.v, .string n.var.v, .string n.typ.v, .slice n.tp n.tests.length n.tc, .slice n.kp n.kids.length n.kc]) rfl rfl ?_); intro bk3 w4 H5
  refine r_cons (s_assign (.int .i64 0) rfl rfl ?_)
  refine r_nil ?_
  refine g_seq ?_
  refine g_seq ?_
  refine g_region ?_
  refine r_cons (s_assign (.int .i64 0) rfl rfl ?_)
  refine r_nil ?_
  refine g_block ?_
  obtain ⟨pA6, cA7, gA8, oA9, kA10, eA11, zA12, he18, hn13, hp14, hx15, hs16, hml, H17⟩ := Im.open_ H5 (i := 1) rfl
  obtain ⟨rfl, rfl⟩ : n.kp = pA6 ∧ n.kc = cA7 := by injection he18 with a_ b_ c_; exact ⟨a_, c_⟩
  have H19 : St W w4 (imi (0 < n.kids.length) gA8 (.cells kA10 eA11 zA12) :: blk bk3 (.cells #[.int .i64 n.kind.v, .string n.var.v, .string n.typ.v, .slice n.tp n.tests.length n.tc, .slice n.kp n.kids.length n.kc] 25 (0, 0)) :: Im 5 (.slice n.kp n.kids.length n.kc) n.kids.length (n.kids.flatMap nodeCell) :: NodesA n.kids :: F) := ((((H17.move 3 rfl).move 3 rfl).move 3 rfl).move 3 rfl)
  refine g_loop_inv (fun (x_ : Nat) => match x_ with | j => [(1, .pointer (some ⟨bk3, 0, none⟩)), (2, .int .i64 0), (3, .int .i64 (j : Int))]) (fun (x_ : Nat) w => match x_ with | j => (j ≤ n.kids.length) ∧ (Hres n j) ∧ St W w (imi (0 < n.kids.length) gA8 (.cells kA10 eA11 zA12) :: blk bk3 (.cells #[.int .i64 n.kind.v, .string n.var.v, .string n.typ.v, .slice n.tp n.tests.length n.tc, .slice n.kp n.kids.length n.kc] 25 (0, 0)) :: Im 5 (.slice n.kp n.kids.length n.kc) n.kids.length (n.kids.flatMap nodeCell) :: NodesA n.kids :: F)) (fun (x_ : Nat) => match x_ with | j => n.kids.length - j) (0) ?_ ?_ ?_
  · exact ⟨by first | rfl | exact vint (by omega), by first | rfl | exact vint (by omega), by first | rfl | exact vint (by omega), trivial⟩
  · exact ⟨(by omega), (Hres_zero n), H19⟩
  · rintro j ρ20 w21 ⟨hjl, hres, H22⟩ nx23
    change Ends _ _ (upds ρ20 [(1, .pointer (some ⟨bk3, 0, none⟩)), (2, .int .i64 0), (3, .int .i64 (j : Int))]) w21
    refine g_seq ?_
    refine g_seq ?_
    refine g_region ?_
    refine r_cons (s_move (.int .i64 (j : Int)) rfl rfl ?_)
    refine r_cons (s_fieldAddr 25 4 4 4 23 rfl fi_25_4 rfl rfl ?_)
    refine r_cons (s_load (.slice n.kp n.kids.length n.kc) ag_23 rfl (H22.blk_at (i := 1) rfl) rfl rfl ?_)
    refine r_cons (s_len n.kids.length rfl ⟨_, un_23⟩ rfl ?_)
    by_cases hc24 : (j : Int) < (n.kids.length : Int)
    · skip
      refine r_cons (s_lss true rfl rfl (dtrue hc24) rfl ?_)
      refine r_nil ?_
      refine g_true rfl ?_
      refine g_skip ?_
      refine g_seq ?_
      refine g_block ?_
      refine g_seq ?_
      refine g_seq ?_
      refine g_region ?_
      refine r_cons (s_fieldAddr 25 4 4 4 23 rfl fi_25_4 rfl rfl ?_)
      refine r_cons (s_load (.slice n.kp n.kids.length n.kc) ag_23 rfl (H22.blk_at (i := 1) rfl) rfl rfl ?_)
      refine r_cons (s_move (.int .i64 (j : Int)) rfl rfl ?_)
      refine r_cons (s_indexAddr gA8 (off := oA9) (j : Int) 5 (oA9 + j * 5) (by exact congrArg (fun z_ => Value.slice z_ n.kids.length n.kc) (hp14 (by omega))) rfl el_23 (by omega) rfl rfl ?_)
      refine r_cons (s_loadAgg [.int .i64 ((n.kids.getD j default).kind.v), .string ((n.kids.getD j default).var.v), .string ((n.kids.getD j default).typ.v), .slice ((n.kids.getD j default).tp) ((n.kids.getD j default).tests.length) ((n.kids.getD j default).tc), .slice ((n.kids.getD j default).kp) ((n.kids.getD j default).kids.length) ((n.kids.getD j default).kc)] 5 ag_25 rfl (H22.imi_at (i := 0) rfl (by omega)) (by have := elem_size (i := j) (s := 5) (hs16 (by omega)) (by omega); omega) (elem_take nodeCell_len (hx15 (by omega)) (by omega) default) rfl ?_)
      have H25 := NodesA.at H22 (i := 3) rfl (j := j) (by omega)
      refine r_cons (s_call [.agg #[.int .i64 ((n.kids.getD j default).kind.v), .string ((n.kids.getD j default).var.v), .string ((n.kids.getD j default).typ.v), .slice ((n.kids.getD j default).tp) ((n.kids.getD j default).tests.length) ((n.kids.getD j default).tc), .slice ((n.kids.getD j default).kp) ((n.kids.getD j default).kids.length) ((n.kids.getD j default).kc)]] pl_22 rfl rfl (ih (n.kids.getD j default) (by have h9 := kid_lt (n := n) (j := j) (by omega); omega) (i := 0) rfl (by have h9 := sizeN_kid (n := n) (j := j) (by omega); omega) H25) ?_)
      rintro _ w26 ⟨rfl, H27⟩
      refine r_cons (s_assign (.int .i64 (bindsE (n.kids.getD j default))) rfl rfl ?_)
      refine r_nil ?_
      refine g_seq ?_
      refine g_region ?_
      refine r_cons (s_move (.int .i64 (bindsE (n.kids.getD j default))) rfl rfl ?_)
      by_cases hc28 : bindsE (n.kids.getD j default) = 0
      · skip
        refine r_cons (s_neq false rfl rfl (ntrue hc28) rfl ?_)
        refine r_nil ?_
        refine g_false rfl ?_
        refine g_skip ?_
        refine g_seq ?_
        refine g_region ?_
        refine r_cons (s_fieldAddr 25 4 4 4 23 rfl fi_25_4 rfl rfl ?_)
        refine r_cons (s_load (.slice n.kp n.kids.length n.kc) ag_23 rfl (H27.blk_at (i := 2) rfl) rfl rfl ?_)
        refine r_cons (s_move (.int .i64 (j : Int)) rfl rfl ?_)
        refine r_cons (s_indexAddr gA8 (off := oA9) (j : Int) 5 (oA9 + j * 5) (by exact congrArg (fun z_ => Value.slice z_ n.kids.length n.kc) (hp14 (by omega))) rfl el_23 (by omega) rfl rfl ?_)
        refine r_cons (s_loadAgg [.int .i64 ((n.kids.getD j default).kind.v), .string ((n.kids.getD j default).var.v), .string ((n.kids.getD j default).typ.v), .slice ((n.kids.getD j default).tp) ((n.kids.getD j default).tests.length) ((n.kids.getD j default).tc), .slice ((n.kids.getD j default).kp) ((n.kids.getD j default).kids.length) ((n.kids.getD j default).kc)] 5 ag_25 rfl (H27.imi_at (i := 1) rfl (by omega)) (by have := elem_size (i := j) (s := 5) (hs16 (by omega)) (by omega); omega) (elem_take nodeCell_len (hx15 (by omega)) (by omega) default) rfl ?_)
        refine r_cons (s_call [.agg #[.int .i64 ((n.kids.getD j default).kind.v), .string ((n.kids.getD j default).var.v), .string ((n.kids.getD j default).typ.v), .slice ((n.kids.getD j default).tp) ((n.kids.getD j default).tests.length) ((n.kids.getD j default).tc), .slice ((n.kids.getD j default).kp) ((n.kids.getD j default).kids.length) ((n.kids.getD j default).kc)]] pl_25 rfl rfl (ref07_Vars (n.kids.getD j default) (i := 0) rfl (by have h9 := sizeN_kid (n := n) (j := j) (by omega); omega) H27) ?_)
        rintro _ w31 ⟨pp29, cc30, rfl, H32⟩
        refine r_cons (s_assign (.slice pp29 ((varsS (n.kids.getD j default)).length) cc30) rfl rfl ?_)
        refine r_nil ?_
        refine g_seq ?_
        refine g_region ?_
        refine r_cons (s_assign (.int .i64 0) rfl rfl ?_)
        refine r_nil ?_
        refine g_block ?_
        have H33 : St W w31 (Im 1 (.slice pp29 ((varsS (n.kids.getD j default)).length) cc30) ((varsS (n.kids.getD j default)).length) ((varsS (n.kids.getD j default)).flatMap strCell) :: NodeA (n.kids.getD j default) :: imi (0 < n.kids.length) gA8 (.cells kA10 eA11 zA12) :: blk bk3 (.cells #[.int .i64 n.kind.v, .string n.var.v, .string n.typ.v, .slice n.tp n.tests.length n.tc, .slice n.kp n.kids.length n.kc] 25 (0, 0)) :: Im 5 (.slice n.kp n.kids.length n.kc) n.kids.length (n.kids.flatMap nodeCell) :: NodesA n.kids :: F) := ((((((H32.move 5 rfl).move 5 rfl).move 5 rfl).move 5 rfl).move 5 rfl).move 5 rfl)
        refine g_loop_inv (fun (x_ : Nat) => match x_ with | q => [(1, .pointer (some ⟨bk3, 0, none⟩)), (2, .int .i64 0), (3, .int .i64 (j : Int)), (5, .slice pp29 ((varsS (n.kids.getD j default)).length) cc30), (6, .int .i64 (q : Int))]) (fun (x_ : Nat) w => match x_ with | q => (q ≤ j) ∧ (∀ i, i < q → ∀ x ∈ varsS (n.kids.getD i default), ¬ x ∈ (varsS (n.kids.getD j default))) ∧ St W w (Im 1 (.slice pp29 ((varsS (n.kids.getD j default)).length) cc30) ((varsS (n.kids.getD j default)).length) ((varsS (n.kids.getD j default)).flatMap strCell) :: NodeA (n.kids.getD j default) :: imi (0 < n.kids.length) gA8 (.cells kA10 eA11 zA12) :: blk bk3 (.cells #[.int .i64 n.kind.v, .string n.var.v, .string n.typ.v, .slice n.tp n.tests.length n.tc, .slice n.kp n.kids.length n.kc] 25 (0, 0)) :: Im 5 (.slice n.kp n.kids.length n.kc) n.kids.length (n.kids.flatMap nodeCell) :: NodesA n.kids :: F)) (fun (x_ : Nat) => match x_ with | q => j - q) (0) ?_ ?_ ?_
        · exact ⟨by first | rfl | exact vint (by omega), by first | rfl | exact vint (by omega), by first | rfl | exact vint (by omega), by first | rfl | exact vint (by omega), by first | rfl | exact vint (by omega), trivial⟩
        · exact ⟨(by omega), (fun i hi => by omega), H33⟩
        · rintro q ρ34 w35 ⟨hql, hz2, H36⟩ nx37
          change Ends _ _ (upds ρ34 [(1, .pointer (some ⟨bk3, 0, none⟩)), (2, .int .i64 0), (3, .int .i64 (j : Int)), (5, .slice pp29 ((varsS (n.kids.getD j default)).length) cc30), (6, .int .i64 (q : Int))]) w35
          refine g_seq ?_
          refine g_seq ?_
          refine g_region ?_
          refine r_cons (s_move (.int .i64 (q : Int)) rfl rfl ?_)
          refine r_cons (s_move (.int .i64 (j : Int)) rfl rfl ?_)
          by_cases hc38 : (q : Int) < (j : Int)
          · skip
            refine r_cons (s_lss true rfl rfl (dtrue hc38) rfl ?_)
            refine r_cons (s_move (.bool true) rfl rfl ?_)
            refine r_cons (r_take rfl rfl ?_)
            refine s_fieldAddr 25 0 0 0 3 rfl fi_25_0 rfl rfl ?_
            refine r_cons (r_take rfl rfl ?_)
            refine s_load (.int .i64 n.kind.v) ag_3 rfl (H36.blk_at (i := 3) rfl) rfl rfl ?_
            refine r_cons (r_take rfl rfl ?_)
            by_cases hc39 : n.kind.v = 2
            · skip
              refine s_eql true rfl rfl (dtrue hc39) rfl ?_
              refine r_cons (r_take rfl rfl ?_)
              refine s_move (.bool true) rfl rfl ?_
              refine r_cons (r_pass rfl rfl rfl rfl rfl ?_)
              refine r_cons (r_pass rfl rfl rfl rfl rfl ?_)
              refine r_cons (r_pass rfl rfl rfl rfl rfl ?_)
              refine r_cons (r_take rfl rfl ?_)
              refine s_pick_t (.bool true) rfl rfl rfl ?_
              refine r_cons (s_pick_t (.bool true) rfl rfl rfl ?_)
              refine r_nil ?_
              refine g_true rfl ?_
              refine g_skip ?_
              refine g_seq ?_
              refine g_block ?_
              refine g_seq ?_
              refine g_region ?_
              refine r_cons (s_fieldAddr 25 4 4 4 23 rfl fi_25_4 rfl rfl ?_)
              refine r_cons (s_load (.slice n.kp n.kids.length n.kc) ag_23 rfl (H36.blk_at (i := 3) rfl) rfl rfl ?_)
              refine r_cons (s_move (.int .i64 (q : Int)) rfl rfl ?_)
              refine r_cons (s_indexAddr gA8 (off := oA9) (q : Int) 5 (oA9 + q * 5) (by exact congrArg (fun z_ => Value.slice z_ n.kids.length n.kc) (hp14 (by omega))) rfl el_23 (by omega) rfl rfl ?_)
              refine r_cons (s_loadAgg [.int .i64 ((n.kids.getD q default).kind.v), .string ((n.kids.getD q default).var.v), .string ((n.kids.getD q default).typ.v), .slice ((n.kids.getD q default).tp) ((n.kids.getD q default).tests.length) ((n.kids.getD q default).tc), .slice ((n.kids.getD q default).kp) ((n.kids.getD q default).kids.length) ((n.kids.getD q default).kc)] 5 ag_25 rfl (H36.imi_at (i := 2) rfl (by omega)) (by have := elem_size (i := q) (s := 5) (hs16 (by omega)) (by omega); omega) (elem_take nodeCell_len (hx15 (by omega)) (by omega) default) rfl ?_)
              have H40 := NodesA.at H36 (i := 5) rfl (j := q) (by omega)
              refine r_cons (s_call [.agg #[.int .i64 ((n.kids.getD q default).kind.v), .string ((n.kids.getD q default).var.v), .string ((n.kids.getD q default).typ.v), .slice ((n.kids.getD q default).tp) ((n.kids.getD q default).tests.length) ((n.kids.getD q default).tc), .slice ((n.kids.getD q default).kp) ((n.kids.getD q default).kids.length) ((n.kids.getD q default).kc)]] pl_25 rfl rfl (ref07_Vars (n.kids.getD q default) (i := 0) rfl (by have h9 := sizeN_kid (n := n) (j := q) (by omega); omega) H40) ?_)
              rintro _ w43 ⟨pp41, cc42, rfl, H44⟩
              refine r_cons (s_assign (.slice pp41 ((varsS (n.kids.getD q default)).length) cc42) rfl rfl ?_)
              refine r_nil ?_
              refine g_seq ?_
              refine g_region ?_
              refine r_cons (s_assign (.int .i64 0) rfl rfl ?_)
              refine r_nil ?_
              refine g_block ?_
              obtain ⟨pA45, cA46, gA47, oA48, kA49, eA50, zA51, he57, hn52, hp53, hx54, hs55, hml, H56⟩ := Im.open_ H44 (i := 0) rfl
              obtain ⟨rfl, rfl⟩ : pp41 = pA45 ∧ cc42 = cA46 := by injection he57 with a_ b_ c_; exact ⟨a_, c_⟩
              have H58 : St W w43 (imi (0 < (varsS (n.kids.getD q default)).length) gA47 (.cells kA49 eA50 zA51) :: Im 1 (.slice pp41 ((varsS (n.kids.getD q default)).length) cc42) ((varsS (n.kids.getD q default)).length) ((varsS (n.kids.getD q default)).flatMap strCell) :: NodeA (n.kids.getD q default) :: Im 1 (.slice pp29 ((varsS (n.kids.getD j default)).length) cc30) ((varsS (n.kids.getD j default)).length) ((varsS (n.kids.getD j default)).flatMap strCell) :: NodeA (n.kids.getD j default) :: imi (0 < n.kids.length) gA8 (.cells kA10 eA11 zA12) :: blk bk3 (.cells #[.int .i64 n.kind.v, .string n.var.v, .string n.typ.v, .slice n.tp n.tests.length n.tc, .slice n.kp n.kids.length n.kc] 25 (0, 0)) :: Im 5 (.slice n.kp n.kids.length n.kc) n.kids.length (n.kids.flatMap nodeCell) :: NodesA n.kids :: F) := (((((((((H56.move 8 rfl).move 8 rfl).move 8 rfl).move 8 rfl).move 8 rfl).move 8 rfl).move 8 rfl).move 8 rfl).move 8 rfl)
              refine g_loop_inv (fun (x_ : Nat) => match x_ with | u => [(1, .pointer (some ⟨bk3, 0, none⟩)), (2, .int .i64 0), (3, .int .i64 (j : Int)), (5, .slice pp29 ((varsS (n.kids.getD j default)).length) cc30), (6, .int .i64 (q : Int)), (7, .slice pp41 ((varsS (n.kids.getD q default)).length) cc42), (8, .int .i64 (u : Int))]) (fun (x_ : Nat) w => match x_ with | u => (u ≤ (varsS (n.kids.getD q default)).length) ∧ (∀ t, t < u → hasS (varsS (n.kids.getD j default)) ((varsS (n.kids.getD q default)).getD t default).v = false) ∧ St W w (imi (0 < (varsS (n.kids.getD q default)).length) gA47 (.cells kA49 eA50 zA51) :: Im 1 (.slice pp41 ((varsS (n.kids.getD q default)).length) cc42) ((varsS (n.kids.getD q default)).length) ((varsS (n.kids.getD q default)).flatMap strCell) :: NodeA (n.kids.getD q default) :: Im 1 (.slice pp29 ((varsS (n.kids.getD j default)).length) cc30) ((varsS (n.kids.getD j default)).length) ((varsS (n.kids.getD j default)).flatMap strCell) :: NodeA (n.kids.getD j default) :: imi (0 < n.kids.length) gA8 (.cells kA10 eA11 zA12) :: blk bk3 (.cells #[.int .i64 n.kind.v, .string n.var.v, .string n.typ.v, .slice n.tp n.tests.length n.tc, .slice n.kp n.kids.length n.kc] 25 (0, 0)) :: Im 5 (.slice n.kp n.kids.length n.kc) n.kids.length (n.kids.flatMap nodeCell) :: NodesA n.kids :: F)) (fun (x_ : Nat) => match x_ with | u => (varsS (n.kids.getD q default)).length - u) (0) ?_ ?_ ?_
              · exact ⟨by first | rfl | exact vint (by omega), by first | rfl | exact vint (by omega), by first | rfl | exact vint (by omega), by first | rfl | exact vint (by omega), by first | rfl | exact vint (by omega), by first | rfl | exact vint (by omega), by first | rfl | exact vint (by omega), trivial⟩
              · exact ⟨(by omega), (fun t ht => by omega), H58⟩
              · rintro u ρ59 w60 ⟨hul, hz3, H61⟩ nx62
                change Ends _ _ (upds ρ59 [(1, .pointer (some ⟨bk3, 0, none⟩)), (2, .int .i64 0), (3, .int .i64 (j : Int)), (5, .slice pp29 ((varsS (n.kids.getD j default)).length) cc30), (6, .int .i64 (q : Int)), (7, .slice pp41 ((varsS (n.kids.getD q default)).length) cc42), (8, .int .i64 (u : Int))]) w60
                refine g_seq ?_
                refine g_seq ?_
                refine g_region ?_
                refine r_cons (s_move (.int .i64 (u : Int)) rfl rfl ?_)
                refine r_cons (s_move (.slice pp41 ((varsS (n.kids.getD q default)).length) cc42) rfl rfl ?_)
                refine r_cons (s_len ((varsS (n.kids.getD q default)).length) rfl ⟨_, un_36⟩ rfl ?_)
                by_cases hc63 : (u : Int) < ((varsS (n.kids.getD q default)).length : Int)
                · skip
                  refine r_cons (s_lss true rfl rfl (dtrue hc63) rfl ?_)
                  refine r_nil ?_
                  refine g_true rfl ?_
                  refine g_skip ?_
                  refine g_seq ?_
                  refine g_block ?_
                  refine g_seq ?_
                  refine g_region ?_
                  refine r_cons (s_move (.slice pp29 ((varsS (n.kids.getD j default)).length) cc30) rfl rfl ?_)
                  refine r_cons (s_move (.slice pp41 ((varsS (n.kids.getD q default)).length) cc42) rfl rfl ?_)
                  refine r_cons (s_move (.int .i64 (u : Int)) rfl rfl ?_)
                  refine r_cons (s_indexAddr gA47 (off := oA48) (u : Int) 1 (oA48 + u * 1) (by exact congrArg (fun z_ => Value.slice z_ ((varsS (n.kids.getD q default)).length) cc42) (hp53 (by omega))) rfl el_36 (by omega) rfl rfl ?_)
                  refine r_cons (s_load (.string (((varsS (n.kids.getD q default)).getD u default).v)) ag_9 rfl (H61.imi_at (i := 0) rfl (by omega)) (elem_cell (L := (varsS (n.kids.getD q default))) (i := u) strCell_len (hx54 (by omega)) (by omega) default 0 (by decide) _ rfl) rfl ?_)
                  refine r_cons (s_call [.slice pp29 ((varsS (n.kids.getD j default)).length) cc30, .string (((varsS (n.kids.getD q default)).getD u default).v)] pl_42 rfl rfl (ref07_Has (varsS (n.kids.getD j default)) (.slice pp29 ((varsS (n.kids.getD j default)).length) cc30) (((varsS (n.kids.getD q default)).getD u default).v) (m := 3) rfl H61) ?_)
                  rintro _ w64 ⟨rfl, H65⟩
                  refine r_nil ?_
                  by_cases hb66 : (hasS (varsS (n.kids.getD j default)) (((varsS (n.kids.getD q default)).getD u default).v)) = true
                  · skip
                    refine g_true (congrArg Value.bool hb66) ?_
                    refine g_seq ?_
                    refine g_region ?_
                    refine r_cons (s_assign (.int .i64 73) rfl rfl ?_)
                    refine r_nil ?_
                    refine g_ret' [.int .i64 73] Try.func22 Try.results22 ⟨rfl, trivial⟩ ?_
                    have H67 : St W w64 F := (((((((((H65.drop 0 rfl).drop 0 rfl).drop 0 rfl).drop 0 rfl).drop 0 rfl).drop 0 rfl).drop 0 rfl).drop 0 rfl).drop 0 rfl)
                    exact ⟨vint (Hres_rbad hres (by omega) (by omega) (decide_eq_true (by omega)) (by omega) (by omega) hb66), H67⟩
                  · have hb66 := eq_false_of_ne_true hb66
                    refine g_false (congrArg Value.bool hb66) ?_
                    refine g_skip ?_
                    refine g_inBlock ?_
                    refine g_region ?_
                    refine r_cons (s_move (.int .i64 (u : Int)) rfl rfl ?_)
                    refine r_cons (s_add ((u : Int) + 1) rfl rfl (wi64 (by omega)) rfl ?_)
                    refine r_cons (s_assign (.int .i64 ((u : Int) + 1)) rfl rfl ?_)
                    refine r_nil ?_
                    have H68 : St W w64 (imi (0 < (varsS (n.kids.getD q default)).length) gA47 (.cells kA49 eA50 zA51) :: Im 1 (.slice pp41 ((varsS (n.kids.getD q default)).length) cc42) ((varsS (n.kids.getD q default)).length) ((varsS (n.kids.getD q default)).flatMap strCell) :: NodeA (n.kids.getD q default) :: Im 1 (.slice pp29 ((varsS (n.kids.getD j default)).length) cc30) ((varsS (n.kids.getD j default)).length) ((varsS (n.kids.getD j default)).flatMap strCell) :: NodeA (n.kids.getD j default) :: imi (0 < n.kids.length) gA8 (.cells kA10 eA11 zA12) :: blk bk3 (.cells #[.int .i64 n.kind.v, .string n.var.v, .string n.typ.v, .slice n.tp n.tests.length n.tc, .slice n.kp n.kids.length n.kc] 25 (0, 0)) :: Im 5 (.slice n.kp n.kids.length n.kc) n.kids.length (n.kids.flatMap nodeCell) :: NodesA n.kids :: F) := (((((((((H65.move 8 rfl).move 8 rfl).move 8 rfl).move 8 rfl).move 8 rfl).move 8 rfl).move 8 rfl).move 8 rfl).move 8 rfl)
                    exact nx62 (u + 1) _ _ ⟨(by omega), (fun t ht => (Nat.lt_or_ge t u).elim (hz3 t) (fun h => by rw [show t = u from by omega]; exact hb66)), H68⟩ (by first | (dsimp only; omega) | omega) ⟨by first | rfl | exact vint (by omega), by first | rfl | exact vint (by omega), by first | rfl | exact vint (by omega), by first | rfl | exact vint (by omega), by first | rfl | exact vint (by omega), by first | rfl | exact vint (by omega), by first | rfl | exact vint (by omega), trivial⟩
                · skip
                  refine r_cons (s_lss false rfl rfl (dfalse hc63) rfl ?_)
                  refine r_nil ?_
                  refine g_false rfl ?_
                  refine g_exit (by rfl) ?_
                  refine g_inBlock ?_
                  refine g_region ?_
                  refine r_cons (s_move (.int .i64 (q : Int)) rfl rfl ?_)
                  refine r_cons (s_add ((q : Int) + 1) rfl rfl (wi64 (by omega)) rfl ?_)
                  refine r_cons (s_assign (.int .i64 ((q : Int) + 1)) rfl rfl ?_)
                  refine r_nil ?_
                  have H69 : St W w60 (Im 1 (.slice pp29 ((varsS (n.kids.getD j default)).length) cc30) ((varsS (n.kids.getD j default)).length) ((varsS (n.kids.getD j default)).flatMap strCell) :: NodeA (n.kids.getD j default) :: imi (0 < n.kids.length) gA8 (.cells kA10 eA11 zA12) :: blk bk3 (.cells #[.int .i64 n.kind.v, .string n.var.v, .string n.typ.v, .slice n.tp n.tests.length n.tc, .slice n.kp n.kids.length n.kc] 25 (0, 0)) :: Im 5 (.slice n.kp n.kids.length n.kc) n.kids.length (n.kids.flatMap nodeCell) :: NodesA n.kids :: F) := (((((((((H61.move 8 rfl).move 8 rfl).move 8 rfl).move 8 rfl).move 8 rfl).move 8 rfl).drop 6 rfl).drop 6 rfl).drop 6 rfl)
                  exact nx37 (q + 1) _ _ ⟨(by omega), (fun i hi => (Nat.lt_or_ge i q).elim (hz2 i) (fun h => by rw [show i = q from by omega]; exact not_mem_of_has (fun u hu => hz3 u (by omega)))), H69⟩ (by first | (dsimp only; omega) | omega) ⟨by first | rfl | exact vint (by omega), by first | rfl | exact vint (by omega), by first | rfl | exact vint (by omega), by first | rfl | exact vint (by omega), by first | rfl | exact vint (by omega), trivial⟩
            · skip
              refine s_eql false rfl rfl (dfalse hc39) rfl ?_
              refine r_cons (r_take rfl rfl ?_)
              refine s_move (.bool false) rfl rfl ?_
              refine r_cons (r_take rfl rfl ?_)
              refine s_fieldAddr 25 0 0 0 3 rfl fi_25_0 rfl rfl ?_
              refine r_cons (r_take rfl rfl ?_)
              refine s_load (.int .i64 n.kind.v) ag_3 rfl (H36.blk_at (i := 3) rfl) rfl rfl ?_
              refine r_cons (r_take rfl rfl ?_)
              by_cases hc70 : n.kind.v = 3
              · skip
                refine s_eql true rfl rfl (dtrue hc70) rfl ?_
                refine r_cons (r_take rfl rfl ?_)
                refine s_pick_f (.bool true) rfl rfl rfl ?_
                refine r_cons (s_pick_t (.bool true) rfl rfl rfl ?_)
                refine r_nil ?_
                refine g_true rfl ?_
                refine g_skip ?_
                refine g_seq ?_
                refine g_block ?_
                refine g_seq ?_
                refine g_region ?_
                refine r_cons (s_fieldAddr 25 4 4 4 23 rfl fi_25_4 rfl rfl ?_)
                refine r_cons (s_load (.slice n.kp n.kids.length n.kc) ag_23 rfl (H36.blk_at (i := 3) rfl) rfl rfl ?_)
                refine r_cons (s_move (.int .i64 (q : Int)) rfl rfl ?_)
                refine r_cons (s_indexAddr gA8 (off := oA9) (q : Int) 5 (oA9 + q * 5) (by exact congrArg (fun z_ => Value.slice z_ n.kids.length n.kc) (hp14 (by omega))) rfl el_23 (by omega) rfl rfl ?_)
                refine r_cons (s_loadAgg [.int .i64 ((n.kids.getD q default).kind.v), .string ((n.kids.getD q default).var.v), .string ((n.kids.getD q default).typ.v), .slice ((n.kids.getD q default).tp) ((n.kids.getD q default).tests.length) ((n.kids.getD q default).tc), .slice ((n.kids.getD q default).kp) ((n.kids.getD q default).kids.length) ((n.kids.getD q default).kc)] 5 ag_25 rfl (H36.imi_at (i := 2) rfl (by omega)) (by have := elem_size (i := q) (s := 5) (hs16 (by omega)) (by omega); omega) (elem_take nodeCell_len (hx15 (by omega)) (by omega) default) rfl ?_)
                have H71 := NodesA.at H36 (i := 5) rfl (j := q) (by omega)
                refine r_cons (s_call [.agg #[.int .i64 ((n.kids.getD q default).kind.v), .string ((n.kids.getD q default).var.v), .string ((n.kids.getD q default).typ.v), .slice ((n.kids.getD q default).tp) ((n.kids.getD q default).tests.length) ((n.kids.getD q default).tc), .slice ((n.kids.getD q default).kp) ((n.kids.getD q default).kids.length) ((n.kids.getD q default).kc)]] pl_25 rfl rfl (ref07_Vars (n.kids.getD q default) (i := 0) rfl (by have h9 := sizeN_kid (n := n) (j := q) (by omega); omega) H71) ?_)
                rintro _ w74 ⟨pp72, cc73, rfl, H75⟩
                refine r_cons (s_assign (.slice pp72 ((varsS (n.kids.getD q default)).length) cc73) rfl rfl ?_)
                refine r_nil ?_
                refine g_seq ?_
                refine g_region ?_
                refine r_cons (s_assign (.int .i64 0) rfl rfl ?_)
                refine r_nil ?_
                refine g_block ?_
                obtain ⟨pA76, cA77, gA78, oA79, kA80, eA81, zA82, he88, hn83, hp84, hx85, hs86, hml, H87⟩ := Im.open_ H75 (i := 0) rfl
                obtain ⟨rfl, rfl⟩ : pp72 = pA76 ∧ cc73 = cA77 := by injection he88 with a_ b_ c_; exact ⟨a_, c_⟩
                have H89 : St W w74 (imi (0 < (varsS (n.kids.getD q default)).length) gA78 (.cells kA80 eA81 zA82) :: Im 1 (.slice pp72 ((varsS (n.kids.getD q default)).length) cc73) ((varsS (n.kids.getD q default)).length) ((varsS (n.kids.getD q default)).flatMap strCell) :: NodeA (n.kids.getD q default) :: Im 1 (.slice pp29 ((varsS (n.kids.getD j default)).length) cc30) ((varsS (n.kids.getD j default)).length) ((varsS (n.kids.getD j default)).flatMap strCell) :: NodeA (n.kids.getD j default) :: imi (0 < n.kids.length) gA8 (.cells kA10 eA11 zA12) :: blk bk3 (.cells #[.int .i64 n.kind.v, .string n.var.v, .string n.typ.v, .slice n.tp n.tests.length n.tc, .slice n.kp n.kids.length n.kc] 25 (0, 0)) :: Im 5 (.slice n.kp n.kids.length n.kc) n.kids.length (n.kids.flatMap nodeCell) :: NodesA n.kids :: F) := (((((((((H87.move 8 rfl).move 8 rfl).move 8 rfl).move 8 rfl).move 8 rfl).move 8 rfl).move 8 rfl).move 8 rfl).move 8 rfl)
                refine g_loop_inv (fun (x_ : Nat) => match x_ with | u => [(1, .pointer (some ⟨bk3, 0, none⟩)), (2, .int .i64 0), (3, .int .i64 (j : Int)), (5, .slice pp29 ((varsS (n.kids.getD j default)).length) cc30), (6, .int .i64 (q : Int)), (7, .slice pp72 ((varsS (n.kids.getD q default)).length) cc73), (8, .int .i64 (u : Int))]) (fun (x_ : Nat) w => match x_ with | u => (u ≤ (varsS (n.kids.getD q default)).length) ∧ (∀ t, t < u → hasS (varsS (n.kids.getD j default)) ((varsS (n.kids.getD q default)).getD t default).v = false) ∧ St W w (imi (0 < (varsS (n.kids.getD q default)).length) gA78 (.cells kA80 eA81 zA82) :: Im 1 (.slice pp72 ((varsS (n.kids.getD q default)).length) cc73) ((varsS (n.kids.getD q default)).length) ((varsS (n.kids.getD q default)).flatMap strCell) :: NodeA (n.kids.getD q default) :: Im 1 (.slice pp29 ((varsS (n.kids.getD j default)).length) cc30) ((varsS (n.kids.getD j default)).length) ((varsS (n.kids.getD j default)).flatMap strCell) :: NodeA (n.kids.getD j default) :: imi (0 < n.kids.length) gA8 (.cells kA10 eA11 zA12) :: blk bk3 (.cells #[.int .i64 n.kind.v, .string n.var.v, .string n.typ.v, .slice n.tp n.tests.length n.tc, .slice n.kp n.kids.length n.kc] 25 (0, 0)) :: Im 5 (.slice n.kp n.kids.length n.kc) n.kids.length (n.kids.flatMap nodeCell) :: NodesA n.kids :: F)) (fun (x_ : Nat) => match x_ with | u => (varsS (n.kids.getD q default)).length - u) (0) ?_ ?_ ?_
                · exact ⟨by first | rfl | exact vint (by omega), by first | rfl | exact vint (by omega), by first | rfl | exact vint (by omega), by first | rfl | exact vint (by omega), by first | rfl | exact vint (by omega), by first | rfl | exact vint (by omega), by first | rfl | exact vint (by omega), trivial⟩
                · exact ⟨(by omega), (fun t ht => by omega), H89⟩
                · rintro u ρ90 w91 ⟨hul, hz3, H92⟩ nx93
                  change Ends _ _ (upds ρ90 [(1, .pointer (some ⟨bk3, 0, none⟩)), (2, .int .i64 0), (3, .int .i64 (j : Int)), (5, .slice pp29 ((varsS (n.kids.getD j default)).length) cc30), (6, .int .i64 (q : Int)), (7, .slice pp72 ((varsS (n.kids.getD q default)).length) cc73), (8, .int .i64 (u : Int))]) w91
                  refine g_seq ?_
                  refine g_seq ?_
                  refine g_region ?_
                  refine r_cons (s_move (.int .i64 (u : Int)) rfl rfl ?_)
                  refine r_cons (s_move (.slice pp72 ((varsS (n.kids.getD q default)).length) cc73) rfl rfl ?_)
                  refine r_cons (s_len ((varsS (n.kids.getD q default)).length) rfl ⟨_, un_36⟩ rfl ?_)
                  by_cases hc94 : (u : Int) < ((varsS (n.kids.getD q default)).length : Int)
                  · skip
                    refine r_cons (s_lss true rfl rfl (dtrue hc94) rfl ?_)
                    refine r_nil ?_
                    refine g_true rfl ?_
                    refine g_skip ?_
                    refine g_seq ?_
                    refine g_block ?_
                    refine g_seq ?_
                    refine g_region ?_
                    refine r_cons (s_move (.slice pp29 ((varsS (n.kids.getD j default)).length) cc30) rfl rfl ?_)
                    refine r_cons (s_move (.slice pp72 ((varsS (n.kids.getD q default)).length) cc73) rfl rfl ?_)
                    refine r_cons (s_move (.int .i64 (u : Int)) rfl rfl ?_)
                    refine r_cons (s_indexAddr gA78 (off := oA79) (u : Int) 1 (oA79 + u * 1) (by exact congrArg (fun z_ => Value.slice z_ ((varsS (n.kids.getD q default)).length) cc73) (hp84 (by omega))) rfl el_36 (by omega) rfl rfl ?_)
                    refine r_cons (s_load (.string (((varsS (n.kids.getD q default)).getD u default).v)) ag_9 rfl (H92.imi_at (i := 0) rfl (by omega)) (elem_cell (L := (varsS (n.kids.getD q default))) (i := u) strCell_len (hx85 (by omega)) (by omega) default 0 (by decide) _ rfl) rfl ?_)
                    refine r_cons (s_call [.slice pp29 ((varsS (n.kids.getD j default)).length) cc30, .string (((varsS (n.kids.getD q default)).getD u default).v)] pl_42 rfl rfl (ref07_Has (varsS (n.kids.getD j default)) (.slice pp29 ((varsS (n.kids.getD j default)).length) cc30) (((varsS (n.kids.getD q default)).getD u default).v) (m := 3) rfl H92) ?_)
                    rintro _ w95 ⟨rfl, H96⟩
                    refine r_nil ?_
                    by_cases hb97 : (hasS (varsS (n.kids.getD j default)) (((varsS (n.kids.getD q default)).getD u default).v)) = true
                    · skip
                      refine g_true (congrArg Value.bool hb97) ?_
                      refine g_seq ?_
                      refine g_region ?_
                      refine r_cons (s_assign (.int .i64 73) rfl rfl ?_)
                      refine r_nil ?_
                      refine g_ret' [.int .i64 73] Try.func22 Try.results22 ⟨rfl, trivial⟩ ?_
                      have H98 : St W w95 F := (((((((((H96.drop 0 rfl).drop 0 rfl).drop 0 rfl).drop 0 rfl).drop 0 rfl).drop 0 rfl).drop 0 rfl).drop 0 rfl).drop 0 rfl)
                      exact ⟨vint (Hres_rbad hres (by omega) (by omega) (decide_eq_true (by omega)) (by omega) (by omega) hb97), H98⟩
                    · have hb97 := eq_false_of_ne_true hb97
                      refine g_false (congrArg Value.bool hb97) ?_
                      refine g_skip ?_
                      refine g_inBlock ?_
                      refine g_region ?_
                      refine r_cons (s_move (.int .i64 (u : Int)) rfl rfl ?_)
                      refine r_cons (s_add ((u : Int) + 1) rfl rfl (wi64 (by omega)) rfl ?_)
                      refine r_cons (s_assign (.int .i64 ((u : Int) + 1)) rfl rfl ?_)
                      refine r_nil ?_
                      have H99 : St W w95 (imi (0 < (varsS (n.kids.getD q default)).length) gA78 (.cells kA80 eA81 zA82) :: Im 1 (.slice pp72 ((varsS (n.kids.getD q default)).length) cc73) ((varsS (n.kids.getD q default)).length) ((varsS (n.kids.getD q default)).flatMap strCell) :: NodeA (n.kids.getD q default) :: Im 1 (.slice pp29 ((varsS (n.kids.getD j default)).length) cc30) ((varsS (n.kids.getD j default)).length) ((varsS (n.kids.getD j default)).flatMap strCell) :: NodeA (n.kids.getD j default) :: imi (0 < n.kids.length) gA8 (.cells kA10 eA11 zA12) :: blk bk3 (.cells #[.int .i64 n.kind.v, .string n.var.v, .string n.typ.v, .slice n.tp n.tests.length n.tc, .slice n.kp n.kids.length n.kc] 25 (0, 0)) :: Im 5 (.slice n.kp n.kids.length n.kc) n.kids.length (n.kids.flatMap nodeCell) :: NodesA n.kids :: F) := (((((((((H96.move 8 rfl).move 8 rfl).move 8 rfl).move 8 rfl).move 8 rfl).move 8 rfl).move 8 rfl).move 8 rfl).move 8 rfl)
                      exact nx93 (u + 1) _ _ ⟨(by omega), (fun t ht => (Nat.lt_or_ge t u).elim (hz3 t) (fun h => by rw [show t = u from by omega]; exact hb97)), H99⟩ (by first | (dsimp only; omega) | omega) ⟨by first | rfl | exact vint (by omega), by first | rfl | exact vint (by omega), by first | rfl | exact vint (by omega), by first | rfl | exact vint (by omega), by first | rfl | exact vint (by omega), by first | rfl | exact vint (by omega), by first | rfl | exact vint (by omega), trivial⟩
                  · skip
                    refine r_cons (s_lss false rfl rfl (dfalse hc94) rfl ?_)
                    refine r_nil ?_
                    refine g_false rfl ?_
                    refine g_exit (by rfl) ?_
                    refine g_inBlock ?_
                    refine g_region ?_
                    refine r_cons (s_move (.int .i64 (q : Int)) rfl rfl ?_)
                    refine r_cons (s_add ((q : Int) + 1) rfl rfl (wi64 (by omega)) rfl ?_)
                    refine r_cons (s_assign (.int .i64 ((q : Int) + 1)) rfl rfl ?_)
                    refine r_nil ?_
                    have H100 : St W w91 (Im 1 (.slice pp29 ((varsS (n.kids.getD j default)).length) cc30) ((varsS (n.kids.getD j default)).length) ((varsS (n.kids.getD j default)).flatMap strCell) :: NodeA (n.kids.getD j default) :: imi (0 < n.kids.length) gA8 (.cells kA10 eA11 zA12) :: blk bk3 (.cells #[.int .i64 n.kind.v, .string n.var.v, .string n.typ.v, .slice n.tp n.tests.length n.tc, .slice n.kp n.kids.length n.kc] 25 (0, 0)) :: Im 5 (.slice n.kp n.kids.length n.kc) n.kids.length (n.kids.flatMap nodeCell) :: NodesA n.kids :: F) := (((((((((H92.move 8 rfl).move 8 rfl).move 8 rfl).move 8 rfl).move 8 rfl).move 8 rfl).drop 6 rfl).drop 6 rfl).drop 6 rfl)
                    exact nx37 (q + 1) _ _ ⟨(by omega), (fun i hi => (Nat.lt_or_ge i q).elim (hz2 i) (fun h => by rw [show i = q from by omega]; exact not_mem_of_has (fun u hu => hz3 u (by omega)))), H100⟩ (by first | (dsimp only; omega) | omega) ⟨by first | rfl | exact vint (by omega), by first | rfl | exact vint (by omega), by first | rfl | exact vint (by omega), by first | rfl | exact vint (by omega), by first | rfl | exact vint (by omega), trivial⟩
              · skip
                refine s_eql false rfl rfl (dfalse hc70) rfl ?_
                refine r_cons (r_take rfl rfl ?_)
                refine s_pick_f (.bool false) rfl rfl rfl ?_
                refine r_cons (s_pick_t (.bool false) rfl rfl rfl ?_)
                refine r_nil ?_
                refine g_false rfl ?_
                refine g_exit (by rfl) ?_
                refine g_inBlock ?_
                refine g_region ?_
                refine r_cons (s_move (.int .i64 (j : Int)) rfl rfl ?_)
                refine r_cons (s_add ((j : Int) + 1) rfl rfl (wi64 (by omega)) rfl ?_)
                refine r_cons (s_assign (.int .i64 ((j : Int) + 1)) rfl rfl ?_)
                refine r_nil ?_
                have H101 : St W w35 (imi (0 < n.kids.length) gA8 (.cells kA10 eA11 zA12) :: blk bk3 (.cells #[.int .i64 n.kind.v, .string n.var.v, .string n.typ.v, .slice n.tp n.tests.length n.tc, .slice n.kp n.kids.length n.kc] 25 (0, 0)) :: Im 5 (.slice n.kp n.kids.length n.kc) n.kids.length (n.kids.flatMap nodeCell) :: NodesA n.kids :: F) := ((((((H36.move 5 rfl).move 5 rfl).move 5 rfl).move 5 rfl).drop 4 rfl).drop 4 rfl)
                exact nx23 (j + 1) _ _ ⟨(by omega), (Hres_rnext hres (by omega) (by omega) (fun hb9 => by have hb8 := of_decide_eq_true hb9; exact (by first | exact (fun i hi => hz2 i (by omega)) | (exfalso; omega)))), H101⟩ (by first | (dsimp only; omega) | omega) ⟨by first | rfl | exact vint (by omega), by first | rfl | exact vint (by omega), by first | rfl | exact vint (by omega), trivial⟩
          · skip
            refine r_cons (s_lss false rfl rfl (dfalse hc38) rfl ?_)
            refine r_cons (s_move (.bool false) rfl rfl ?_)
            refine r_cons (r_pass rfl rfl rfl rfl rfl ?_)
            refine r_cons (r_pass rfl rfl rfl rfl rfl ?_)
            refine r_cons (r_pass rfl rfl rfl rfl rfl ?_)
            refine r_cons (r_pass rfl rfl rfl rfl rfl ?_)
            refine r_cons (r_passN rfl rfl rfl rfl ?_)
            refine r_cons (r_passN rfl rfl rfl rfl ?_)
            refine r_cons (r_passN rfl rfl rfl rfl ?_)
            refine r_cons (r_pass rfl rfl rfl rfl rfl ?_)
            refine r_cons (s_pick_f (.bool false) rfl rfl rfl ?_)
            refine r_nil ?_
            refine g_false rfl ?_
            refine g_exit (by rfl) ?_
            refine g_inBlock ?_
            refine g_region ?_
            refine r_cons (s_move (.int .i64 (j : Int)) rfl rfl ?_)
            refine r_cons (s_add ((j : Int) + 1) rfl rfl (wi64 (by omega)) rfl ?_)
            refine r_cons (s_assign (.int .i64 ((j : Int) + 1)) rfl rfl ?_)
            refine r_nil ?_
            have H102 : St W w35 (imi (0 < n.kids.length) gA8 (.cells kA10 eA11 zA12) :: blk bk3 (.cells #[.int .i64 n.kind.v, .string n.var.v, .string n.typ.v, .slice n.tp n.tests.length n.tc, .slice n.kp n.kids.length n.kc] 25 (0, 0)) :: Im 5 (.slice n.kp n.kids.length n.kc) n.kids.length (n.kids.flatMap nodeCell) :: NodesA n.kids :: F) := ((((((H36.move 5 rfl).move 5 rfl).move 5 rfl).move 5 rfl).drop 4 rfl).drop 4 rfl)
            exact nx23 (j + 1) _ _ ⟨(by omega), (Hres_rnext hres (by omega) (by omega) (fun hb9 => by have hb8 := of_decide_eq_true hb9; exact (by first | exact (fun i hi => hz2 i (by omega)) | (exfalso; omega)))), H102⟩ (by first | (dsimp only; omega) | omega) ⟨by first | rfl | exact vint (by omega), by first | rfl | exact vint (by omega), by first | rfl | exact vint (by omega), trivial⟩
      · skip
        refine r_cons (s_neq true rfl rfl (nfalse hc28) rfl ?_)
        refine r_nil ?_
        refine g_true rfl ?_
        refine g_seq ?_
        refine g_region ?_
        refine r_cons (s_move (.int .i64 (bindsE (n.kids.getD j default))) rfl rfl ?_)
        refine r_cons (s_assign (.int .i64 (bindsE (n.kids.getD j default))) rfl rfl ?_)
        refine r_nil ?_
        refine g_ret' [.int .i64 (bindsE (n.kids.getD j default))] Try.func22 Try.results22 ⟨rfl, trivial⟩ ?_
        have H103 : St W w26 F := (((((H27.drop 0 rfl).drop 0 rfl).drop 0 rfl).drop 0 rfl).drop 0 rfl)
        exact ⟨vint (Hres_bad hres (by omega) (by omega)), H103⟩
    · skip
      refine r_cons (s_lss false rfl rfl (dfalse hc24) rfl ?_)
      refine r_nil ?_
      refine g_false rfl ?_
      refine g_exit (by rfl) ?_
      refine g_seq ?_
      refine g_region ?_
      refine r_cons (s_assign (.int .i64 0) rfl rfl ?_)
      refine r_nil ?_
      refine g_ret' [.int .i64 0] Try.func22 Try.results22 ⟨rfl, trivial⟩ ?_
      have H104 : St W w21 F := ((((H22.drop 0 rfl).drop 0 rfl).drop 0 rfl).drop 0 rfl)
      exact ⟨vint (Hres_end hres (by omega)), H104⟩
theorem ref07_Binds {W w : World} {F : List Atom} (n : NodeD)  {i : Nat} (hi : F[i]? = some (NodeA n)) (hz : sizeN n ≤ 1048576) (H : St W w F) : Calls Try.prog 22 #[.agg #[.int .i64 n.kind.v, .string n.var.v, .string n.typ.v, .slice n.tp n.tests.length n.tc, .slice n.kp n.kids.length n.kc]] w (Ret fun v w' => v = .int .i64 (bindsE n) ∧ St W w' F) := ref07_Binds_r (sizeOf n + 1) n (Nat.lt_succ_self _) hi hz H
set_option maxHeartbeats 4000000 in
set_option maxRecDepth 100000 in
theorem check_operand {W w : World} {F : List Atom} (o : OpdV) (vars : List Str) (vv : Value) {jv : Nat} (hv : F[jv]? = some (Im 1 vv vars.length (vars.flatMap strCell))) (H : St W w F) : Calls Try.prog 46 #[.agg #[.string o.var.v, .string o.attr.v, .int .i64 o.val.kind.v, .int .i64 o.val.n.v, .string o.val.s.v], vv] w (Ret fun v w' => v = .bool (opE o vars) ∧ St W w' F) := by
  obtain ⟨pp1, cc2, rfl, hn3⟩ := Rd.shape (Im.rd H (i := jv) hv)
  have H4 := H.dup (i := jv + 0) (by exact hv) (Im_pers _ _ _ _)
  have H5 : St W w (Im 1 (.slice pp1 vars.length cc2) vars.length (vars.flatMap strCell) :: F) := H4
  refine calls_of_go (n := 37) Try.func46 rfl Try.ntmps46 rfl ?_
  refine g_seq ?_
  refine g_region ?_
  refine r_cons (s_box H5 41 (.agg #[.string o.var.v, .string o.attr.v, .int .i64 o.val.kind.v, .int .i64 o.val.n.v, .string o.val.s.v]) rfl (cs := #[.string o.var.v, .string o.attr.v, .int .i64 o.val.kind.v, .int .i64 o.val.n.v, .string o.val.s.v]) rfl rfl ?_); intro bk6 w7 H8
  refine r_cons (s_assign (.bool false) rfl rfl ?_)
  refine r_nil ?_
  refine g_seq ?_
  refine g_seq ?_
  refine g_region ?_
  refine r_cons (s_fieldAddr 41 1 1 1 9 rfl fi_41_1 rfl rfl ?_)
  refine r_cons (s_load (.string o.attr.v) ag_9 rfl (H8.blk_at (i := 0) rfl) rfl rfl ?_)
  by_cases hc9 : o.attr.v = ByteArray.empty
  · skip
    refine r_cons (s_seql true rfl rfl (dtrue hc9) rfl ?_)
    refine r_nil ?_
    refine g_true rfl ?_
    refine g_seq ?_
    refine g_region ?_
    refine r_cons (s_fieldAddr 41 0 0 0 9 rfl fi_41_0 rfl rfl ?_)
    refine r_cons (s_load (.string o.var.v) ag_9 rfl (H8.blk_at (i := 0) rfl) rfl rfl ?_)
    by_cases hc10 : o.var.v = ByteArray.empty
    · skip
      refine r_cons (s_seql true rfl rfl (dtrue hc10) rfl ?_)
      refine r_cons (s_move (.bool true) rfl rfl ?_)
      refine r_cons (r_take rfl rfl ?_)
      refine s_fieldAddr 41 2 2 2 39 rfl fi_41_2 rfl rfl ?_
      refine r_cons (r_take rfl rfl ?_)
      refine s_loadAgg [.int .i64 o.val.kind.v, .int .i64 o.val.n.v, .string o.val.s.v] 3 ag_39 rfl (H8.blk_at (i := 0) rfl) (Nat.le_of_ble_eq_true rfl) rfl rfl ?_
      refine r_cons (r_take rfl rfl ?_)
      refine s_call [.agg #[.int .i64 o.val.kind.v, .int .i64 o.val.n.v, .string o.val.s.v]] pl_60 rfl rfl (value_Check o.val.kind.v o.val.n.v o.val.s.v H8) ?_
      rintro _ w11 ⟨rfl, H12⟩
      refine r_cons (r_take rfl rfl ?_)
      by_cases hc13 : valE o.val.kind.v o.val.n.v o.val.s.v = 0
      · skip
        refine s_eql true rfl rfl (dtrue hc13) rfl ?_
        refine r_cons (s_pick_t (.bool true) rfl rfl rfl ?_)
        refine r_cons (s_assign (.bool true) rfl rfl ?_)
        refine r_nil ?_
        refine g_ret' [.bool true] Try.func46 Try.results46 ⟨rfl, trivial⟩ ?_
        have H14 : St W w11 F := ((H12.drop 0 rfl).drop 0 rfl)
        exact ⟨congrArg Value.bool (show (true) = opE o vars from by unfold opE; rw [if_pos hc9]; rw [decide_eq_true hc10]; rw [decide_eq_true hc13]; rfl), H14⟩
      · skip
        refine s_eql false rfl rfl (dfalse hc13) rfl ?_
        refine r_cons (s_pick_t (.bool false) rfl rfl rfl ?_)
        refine r_cons (s_assign (.bool false) rfl rfl ?_)
        refine r_nil ?_
        refine g_ret' [.bool false] Try.func46 Try.results46 ⟨rfl, trivial⟩ ?_
        have H15 : St W w11 F := ((H12.drop 0 rfl).drop 0 rfl)
        exact ⟨congrArg Value.bool (show (false) = opE o vars from by unfold opE; rw [if_pos hc9]; rw [decide_eq_true hc10]; rw [decide_eq_false hc13]; rfl), H15⟩
    · skip
      refine r_cons (s_seql false rfl rfl (dfalse hc10) rfl ?_)
      refine r_cons (s_move (.bool false) rfl rfl ?_)
      refine r_cons (r_pass rfl rfl rfl rfl rfl ?_)
      refine r_cons (r_pass rfl rfl rfl rfl rfl ?_)
      refine r_cons (r_pass rfl rfl rfl rfl rfl ?_)
      refine r_cons (r_pass rfl rfl rfl rfl rfl ?_)
      refine r_cons (s_pick_f (.bool false) rfl rfl rfl ?_)
      refine r_cons (s_assign (.bool false) rfl rfl ?_)
      refine r_nil ?_
      refine g_ret' [.bool false] Try.func46 Try.results46 ⟨rfl, trivial⟩ ?_
      have H16 : St W w7 F := ((H8.drop 0 rfl).drop 0 rfl)
      exact ⟨congrArg Value.bool (show (false) = opE o vars from by unfold opE; rw [if_pos hc9]; rw [decide_eq_false hc10]; rfl), H16⟩
  · skip
    refine r_cons (s_seql false rfl rfl (dfalse hc9) rfl ?_)
    refine r_nil ?_
    refine g_false rfl ?_
    refine g_skip ?_
    refine g_seq ?_
    refine g_seq ?_
    refine g_region ?_
    refine r_cons (s_fieldAddr 41 2 2 2 39 rfl fi_41_2 rfl rfl ?_)
    refine r_cons (s_loadAgg [.int .i64 o.val.kind.v, .int .i64 o.val.n.v, .string o.val.s.v] 3 ag_39 rfl (H8.blk_at (i := 0) rfl) (Nat.le_of_ble_eq_true rfl) rfl rfl ?_)
    refine r_cons (s_build (cs := #[.int .i64 0, .int .i64 0, .string ByteArray.empty]) (by kernel_rfl) rfl ?_)
    refine r_cons (s_aneq (!(sameVal o.val default)) gd_39 ev_39 rfl rfl rfl rfl ?_)
    refine r_cons (s_move (.bool (!(sameVal o.val default))) rfl rfl ?_)
    by_cases hb17 : (!(sameVal o.val default)) = true
    · skip
      refine r_cons (r_pass rfl (congrArg some hb17) rfl rfl rfl ?_)
      refine r_cons (r_pass rfl (congrArg some hb17) rfl rfl rfl ?_)
      refine r_cons (r_pass rfl (congrArg some hb17) rfl rfl rfl ?_)
      refine r_cons (r_pass rfl (congrArg some hb17) rfl rfl rfl ?_)
      refine r_cons (s_pick_t (.bool true) (by exact congrArg Value.bool hb17) rfl rfl ?_)
      refine r_nil ?_
      refine g_true rfl ?_
      refine g_seq ?_
      refine g_region ?_
      refine r_cons (s_assign (.bool false) rfl rfl ?_)
      refine r_nil ?_
      refine g_ret' [.bool false] Try.func46 Try.results46 ⟨rfl, trivial⟩ ?_
      have H18 : St W w7 F := ((H8.drop 0 rfl).drop 0 rfl)
      exact ⟨congrArg Value.bool (show (false) = opE o vars from by unfold opE; rw [if_neg hc9]; first | (simp only [hb17]; rfl) | (simp [hb17]; done) | (simp_all; done)), H18⟩
    · have hb17 := eq_false_of_ne_true hb17
      refine r_cons (r_take rfl (congrArg some hb17) ?_)
      refine s_fieldAddr 41 1 1 1 9 rfl fi_41_1 rfl rfl ?_
      refine r_cons (r_take rfl (congrArg some hb17) ?_)
      refine s_load (.string o.attr.v) ag_9 rfl (H8.blk_at (i := 0) rfl) rfl rfl ?_
      refine r_cons (r_take rfl (congrArg some hb17) ?_)
      refine s_call [.string o.attr.v] pl_37 rfl rfl (value_Name o.attr.v o.attr.ok H8) ?_
      rintro _ w19 ⟨rfl, H20⟩
      refine r_cons (r_take rfl (congrArg some hb17) ?_)
      refine s_not (nameB o.attr.v) rfl (!(nameB o.attr.v)) rfl rfl ?_
      refine r_cons (s_pick_f (.bool (!(nameB o.attr.v))) (by exact congrArg Value.bool hb17) rfl rfl ?_)
      refine r_nil ?_
      by_cases hb21 : (!(nameB o.attr.v)) = true
      · skip
        refine g_true (congrArg Value.bool hb21) ?_
        refine g_seq ?_
        refine g_region ?_
        refine r_cons (s_assign (.bool false) rfl rfl ?_)
        refine r_nil ?_
        refine g_ret' [.bool false] Try.func46 Try.results46 ⟨rfl, trivial⟩ ?_
        have H22 : St W w19 F := ((H20.drop 0 rfl).drop 0 rfl)
        exact ⟨congrArg Value.bool (show (false) = opE o vars from by unfold opE; rw [if_neg hc9]; first | (simp only [hb17, hb21]; rfl) | (simp [hb17, hb21]; done) | (simp_all; done)), H22⟩
      · have hb21 := eq_false_of_ne_true hb21
        refine g_false (congrArg Value.bool hb21) ?_
        refine g_skip ?_
        refine g_seq ?_
        refine g_seq ?_
        refine g_region ?_
        refine r_cons (s_move (.slice pp1 vars.length cc2) rfl rfl ?_)
        refine r_cons (s_len vars.length rfl ⟨_, un_36⟩ rfl ?_)
        by_cases hc23 : (vars.length : Int) = 0
        · skip
          refine r_cons (s_eql true rfl rfl (dtrue hc23) rfl ?_)
          refine r_nil ?_
          refine g_true rfl ?_
          refine g_seq ?_
          refine g_region ?_
          refine r_cons (s_fieldAddr 41 0 0 0 9 rfl fi_41_0 rfl rfl ?_)
          refine r_cons (s_load (.string o.var.v) ag_9 rfl (H20.blk_at (i := 0) rfl) rfl rfl ?_)
          by_cases hc24 : o.var.v = ByteArray.empty
          · skip
            refine r_cons (s_seql true rfl rfl (dtrue hc24) rfl ?_)
            refine r_cons (s_assign (.bool true) rfl rfl ?_)
            refine r_nil ?_
            refine g_ret' [.bool true] Try.func46 Try.results46 ⟨rfl, trivial⟩ ?_
            have H25 : St W w19 F := ((H20.drop 0 rfl).drop 0 rfl)
            exact ⟨congrArg Value.bool (show (true) = opE o vars from by unfold opE; rw [if_neg hc9]; rw [if_pos (show vars.length = 0 from by omega)]; first | (simp only [hb17, hb21]; rfl) | (simp [hb17, hb21, hc24, hc23]; done) | (simp_all; done)), H25⟩
          · skip
            refine r_cons (s_seql false rfl rfl (dfalse hc24) rfl ?_)
            refine r_cons (s_assign (.bool false) rfl rfl ?_)
            refine r_nil ?_
            refine g_ret' [.bool false] Try.func46 Try.results46 ⟨rfl, trivial⟩ ?_
            have H26 : St W w19 F := ((H20.drop 0 rfl).drop 0 rfl)
            exact ⟨congrArg Value.bool (show (false) = opE o vars from by unfold opE; rw [if_neg hc9]; rw [if_pos (show vars.length = 0 from by omega)]; first | (simp only [hb17, hb21]; rfl) | (simp [hb17, hb21, hc24, hc23]; done) | (simp_all; done)), H26⟩
        · skip
          refine r_cons (s_eql false rfl rfl (dfalse hc23) rfl ?_)
          refine r_nil ?_
          refine g_false rfl ?_
          refine g_skip ?_
          refine g_seq ?_
          refine g_region ?_
          refine r_cons (s_move (.slice pp1 vars.length cc2) rfl rfl ?_)
          refine r_cons (s_fieldAddr 41 0 0 0 9 rfl fi_41_0 rfl rfl ?_)
          refine r_cons (s_load (.string o.var.v) ag_9 rfl (H20.blk_at (i := 0) rfl) rfl rfl ?_)
          refine r_cons (s_call [.slice pp1 vars.length cc2, .string o.var.v] pl_48 rfl rfl (Contains_str vars (.slice pp1 vars.length cc2) o.var.v (m := 1) rfl H20) ?_)
          rintro _ w27 ⟨rfl, H28⟩
          refine r_cons (s_assign (.bool (hasS vars o.var.v)) rfl rfl ?_)
          refine r_nil ?_
          refine g_ret' [.bool (hasS vars o.var.v)] Try.func46 Try.results46 ⟨rfl, trivial⟩ ?_
          have H29 : St W w27 F := ((H28.drop 0 rfl).drop 0 rfl)
          exact ⟨congrArg Value.bool (show (hasS vars o.var.v) = opE o vars from by unfold opE; rw [if_neg hc9]; rw [if_neg (show ¬ vars.length = 0 from by omega)]; first | (simp only [hb17, hb21]; rfl) | (simp [hb17, hb21, hc23]; done) | (simp_all; done)), H29⟩
set_option maxHeartbeats 4000000 in
set_option maxRecDepth 100000 in
theorem ref07_operand {W w : World} {F : List Atom} (o : OpdV) (vars : List Str) (vv : Value) {jv : Nat} (hv : F[jv]? = some (Im 1 vv vars.length (vars.flatMap strCell))) (H : St W w F) : Calls Try.prog 47 #[.agg #[.string o.var.v, .string o.attr.v, .int .i64 o.val.kind.v, .int .i64 o.val.n.v, .string o.val.s.v], vv] w (Ret fun v w' => v = .bool (opE o vars) ∧ St W w' F) := by
  obtain ⟨pp1, cc2, rfl, hn3⟩ := Rd.shape (Im.rd H (i := jv) hv)
  have H4 := H.dup (i := jv + 0) (by exact hv) (Im_pers _ _ _ _)
  have H5 : St W w (Im 1 (.slice pp1 vars.length cc2) vars.length (vars.flatMap strCell) :: F) := H4
  refine calls_of_go (n := 40) Try.func47 rfl Try.ntmps47 rfl ?_
  refine g_seq ?_
  refine g_region ?_
  refine r_cons (s_box H5 41 (.agg #[.string o.var.v, .string o.attr.v, .int .i64 o.val.kind.v, .int .i64 o.val.n.v, .string o.val.s.v]) rfl (cs := #[.string o.var.v, .string o.attr.v, .int .i64 o.val.kind.v, .int .i64 o.val.n.v, .string o.val.s.v]) rfl rfl ?_); intro bk6 w7 H8
  refine r_cons (s_assign (.bool false) rfl rfl ?_)
  refine r_nil ?_
  refine g_seq ?_
  refine g_seq ?_
  refine g_region ?_
  refine r_cons (s_fieldAddr 41 1 1 1 9 rfl fi_41_1 rfl rfl ?_)
  refine r_cons (s_load (.string o.attr.v) ag_9 rfl (H8.blk_at (i := 0) rfl) rfl rfl ?_)
  by_cases hc9 : o.attr.v = ByteArray.empty
  · skip
    refine r_cons (s_seql true rfl rfl (dtrue hc9) rfl ?_)
    refine r_nil ?_
    refine g_true rfl ?_
    refine g_seq ?_
    refine g_region ?_
    refine r_cons (s_fieldAddr 41 0 0 0 9 rfl fi_41_0 rfl rfl ?_)
    refine r_cons (s_load (.string o.var.v) ag_9 rfl (H8.blk_at (i := 0) rfl) rfl rfl ?_)
    by_cases hc10 : o.var.v = ByteArray.empty
    · skip
      refine r_cons (s_seql true rfl rfl (dtrue hc10) rfl ?_)
      refine r_cons (s_move (.bool true) rfl rfl ?_)
      refine r_cons (r_take rfl rfl ?_)
      refine s_fieldAddr 41 2 2 2 39 rfl fi_41_2 rfl rfl ?_
      refine r_cons (r_take rfl rfl ?_)
      refine s_loadAgg [.int .i64 o.val.kind.v, .int .i64 o.val.n.v, .string o.val.s.v] 3 ag_39 rfl (H8.blk_at (i := 0) rfl) (Nat.le_of_ble_eq_true rfl) rfl rfl ?_
      refine r_cons (r_take rfl rfl ?_)
      refine s_call [.agg #[.int .i64 o.val.kind.v, .int .i64 o.val.n.v, .string o.val.s.v]] pl_61 rfl rfl (ref03_Check o.val.kind.v o.val.n.v o.val.s.v H8) ?_
      rintro _ w11 ⟨rfl, H12⟩
      refine r_cons (r_take rfl rfl ?_)
      by_cases hc13 : valE o.val.kind.v o.val.n.v o.val.s.v = 0
      · skip
        refine s_eql true rfl rfl (dtrue hc13) rfl ?_
        refine r_cons (s_pick_t (.bool true) rfl rfl rfl ?_)
        refine r_cons (s_assign (.bool true) rfl rfl ?_)
        refine r_nil ?_
        refine g_ret' [.bool true] Try.func47 Try.results47 ⟨rfl, trivial⟩ ?_
        have H14 : St W w11 F := ((H12.drop 0 rfl).drop 0 rfl)
        exact ⟨congrArg Value.bool (show (true) = opE o vars from by unfold opE; rw [if_pos hc9]; rw [decide_eq_true hc10]; rw [decide_eq_true hc13]; rfl), H14⟩
      · skip
        refine s_eql false rfl rfl (dfalse hc13) rfl ?_
        refine r_cons (s_pick_t (.bool false) rfl rfl rfl ?_)
        refine r_cons (s_assign (.bool false) rfl rfl ?_)
        refine r_nil ?_
        refine g_ret' [.bool false] Try.func47 Try.results47 ⟨rfl, trivial⟩ ?_
        have H15 : St W w11 F := ((H12.drop 0 rfl).drop 0 rfl)
        exact ⟨congrArg Value.bool (show (false) = opE o vars from by unfold opE; rw [if_pos hc9]; rw [decide_eq_true hc10]; rw [decide_eq_false hc13]; rfl), H15⟩
    · skip
      refine r_cons (s_seql false rfl rfl (dfalse hc10) rfl ?_)
      refine r_cons (s_move (.bool false) rfl rfl ?_)
      refine r_cons (r_pass rfl rfl rfl rfl rfl ?_)
      refine r_cons (r_pass rfl rfl rfl rfl rfl ?_)
      refine r_cons (r_pass rfl rfl rfl rfl rfl ?_)
      refine r_cons (r_pass rfl rfl rfl rfl rfl ?_)
      refine r_cons (s_pick_f (.bool false) rfl rfl rfl ?_)
      refine r_cons (s_assign (.bool false) rfl rfl ?_)
      refine r_nil ?_
      refine g_ret' [.bool false] Try.func47 Try.results47 ⟨rfl, trivial⟩ ?_
      have H16 : St W w7 F := ((H8.drop 0 rfl).drop 0 rfl)
      exact ⟨congrArg Value.bool (show (false) = opE o vars from by unfold opE; rw [if_pos hc9]; rw [decide_eq_false hc10]; rfl), H16⟩
  · skip
    refine r_cons (s_seql false rfl rfl (dfalse hc9) rfl ?_)
    refine r_nil ?_
    refine g_false rfl ?_
    refine g_skip ?_
    refine g_seq ?_
    refine g_region ?_
    refine r_cons (s_fieldAddr 41 0 0 0 9 rfl fi_41_0 rfl rfl ?_)
    refine r_cons (s_load (.string o.var.v) ag_9 rfl (H8.blk_at (i := 0) rfl) rfl rfl ?_)
    by_cases hc17 : o.var.v = ByteArray.empty
    · skip
      refine r_cons (s_seql true rfl rfl (dtrue hc17) rfl ?_)
      refine r_cons (s_assign (.bool true) rfl rfl ?_)
      refine r_nil ?_
      refine g_seq ?_
      refine g_seq ?_
      refine g_region ?_
      refine r_cons (s_move (.slice pp1 vars.length cc2) rfl rfl ?_)
      refine r_cons (s_len vars.length rfl ⟨_, un_36⟩ rfl ?_)
      by_cases hc18 : (0 : Int) < (vars.length : Int)
      · skip
        refine r_cons (s_gtr true rfl rfl (dtrue hc18) rfl ?_)
        refine r_nil ?_
        refine g_true rfl ?_
        refine g_region ?_
        refine r_cons (s_move (.slice pp1 vars.length cc2) rfl rfl ?_)
        refine r_cons (s_fieldAddr 41 0 0 0 9 rfl fi_41_0 rfl rfl ?_)
        refine r_cons (s_load (.string o.var.v) ag_9 rfl (H8.blk_at (i := 0) rfl) rfl rfl ?_)
        refine r_cons (s_call [.slice pp1 vars.length cc2, .string o.var.v] pl_42 rfl rfl (ref07_Has vars (.slice pp1 vars.length cc2) o.var.v (m := 1) rfl H8) ?_)
        rintro _ w19 ⟨rfl, H20⟩
        refine r_cons (s_assign (.bool (hasS vars o.var.v)) rfl rfl ?_)
        refine r_nil ?_
        refine g_seq ?_
        refine g_region ?_
        refine r_cons (s_move (.bool (hasS vars o.var.v)) rfl rfl ?_)
        refine r_cons (s_move (.bool (hasS vars o.var.v)) rfl rfl ?_)
        by_cases hb21 : (hasS vars o.var.v) = true
        · skip
          refine r_cons (r_take rfl (congrArg some hb21) ?_)
          refine s_fieldAddr 41 2 2 2 39 rfl fi_41_2 rfl rfl ?_
          refine r_cons (r_take rfl (congrArg some hb21) ?_)
          refine s_loadAgg [.int .i64 o.val.kind.v, .int .i64 o.val.n.v, .string o.val.s.v] 3 ag_39 rfl (H20.blk_at (i := 0) rfl) (Nat.le_of_ble_eq_true rfl) rfl rfl ?_
          refine r_cons (r_take rfl (congrArg some hb21) ?_)
          refine s_build (cs := #[.int .i64 0, .int .i64 0, .string ByteArray.empty]) (by kernel_rfl) rfl ?_
          refine r_cons (r_take rfl (congrArg some hb21) ?_)
          refine s_aeql (sameVal o.val default) gd_39 ev_39 rfl rfl rfl rfl ?_
          refine r_cons (s_pick_t (.bool (sameVal o.val default)) (by exact congrArg Value.bool hb21) rfl rfl ?_)
          refine r_cons (s_move (.bool (sameVal o.val default)) rfl rfl ?_)
          by_cases hb22 : (sameVal o.val default) = true
          · skip
            refine r_cons (r_take rfl (congrArg some hb22) ?_)
            refine s_fieldAddr 41 1 1 1 9 rfl fi_41_1 rfl rfl ?_
            refine r_cons (r_take rfl (congrArg some hb22) ?_)
            refine s_load (.string o.attr.v) ag_9 rfl (H20.blk_at (i := 0) rfl) rfl rfl ?_
            refine r_cons (r_take rfl (congrArg some hb22) ?_)
            refine s_call [.string o.attr.v] pl_39 rfl rfl (ref03_Name o.attr.v o.attr.ok H20) ?_
            rintro _ w23 ⟨rfl, H24⟩
            refine r_cons (s_pick_t (.bool (nameB o.attr.v)) (by exact congrArg Value.bool hb22) rfl rfl ?_)
            refine r_cons (s_assign (.bool (nameB o.attr.v)) rfl rfl ?_)
            refine r_nil ?_
            refine g_ret' [.bool (nameB o.attr.v)] Try.func47 Try.results47 ⟨rfl, trivial⟩ ?_
            have H25 : St W w23 F := ((H24.drop 0 rfl).drop 0 rfl)
            exact ⟨congrArg Value.bool (show (nameB o.attr.v) = opE o vars from by unfold opE; rw [if_neg hc9]; rw [if_neg (show ¬ vars.length = 0 from by omega)]; first | (simp only [hb22]; rfl) | (simp [hb22, hb21, hc17, hc18]; done) | (simp_all; done)), H25⟩
          · have hb22 := eq_false_of_ne_true hb22
            refine r_cons (r_pass rfl (congrArg some hb22) rfl rfl rfl ?_)
            refine r_cons (r_pass rfl (congrArg some hb22) rfl rfl rfl ?_)
            refine r_cons (r_pass rfl (congrArg some hb22) rfl rfl rfl ?_)
            refine r_cons (s_pick_f (.bool false) (by exact congrArg Value.bool hb22) rfl rfl ?_)
            refine r_cons (s_assign (.bool false) rfl rfl ?_)
            refine r_nil ?_
            refine g_ret' [.bool false] Try.func47 Try.results47 ⟨rfl, trivial⟩ ?_
            have H26 : St W w19 F := ((H20.drop 0 rfl).drop 0 rfl)
            exact ⟨congrArg Value.bool (show (false) = opE o vars from by unfold opE; rw [if_neg hc9]; rw [if_neg (show ¬ vars.length = 0 from by omega)]; first | (simp only [hb22]; rfl) | (simp [hb22, hb21, hc17, hc18]; done) | (simp_all; done)), H26⟩
        · have hb21 := eq_false_of_ne_true hb21
          refine r_cons (r_pass rfl (congrArg some hb21) rfl rfl rfl ?_)
          refine r_cons (r_pass rfl (congrArg some hb21) rfl rfl rfl ?_)
          refine r_cons (r_pass rfl (congrArg some hb21) rfl rfl rfl ?_)
          refine r_cons (r_pass rfl (congrArg some hb21) rfl rfl rfl ?_)
          refine r_cons (s_pick_f (.bool false) (by exact congrArg Value.bool hb21) rfl rfl ?_)
          refine r_cons (s_move (.bool false) rfl rfl ?_)
          refine r_cons (r_pass rfl rfl rfl rfl rfl ?_)
          refine r_cons (r_pass rfl rfl rfl rfl rfl ?_)
          refine r_cons (r_pass rfl rfl rfl rfl rfl ?_)
          refine r_cons (s_pick_f (.bool false) rfl rfl rfl ?_)
          refine r_cons (s_assign (.bool false) rfl rfl ?_)
          refine r_nil ?_
          refine g_ret' [.bool false] Try.func47 Try.results47 ⟨rfl, trivial⟩ ?_
          have H27 : St W w19 F := ((H20.drop 0 rfl).drop 0 rfl)
          exact ⟨congrArg Value.bool (show (false) = opE o vars from by unfold opE; rw [if_neg hc9]; rw [if_neg (show ¬ vars.length = 0 from by omega)]; first | (simp only []; rfl) | (simp [hb21, hc17, hc18]; done) | (simp_all; done)), H27⟩
      · skip
        refine r_cons (s_gtr false rfl rfl (dfalse hc18) rfl ?_)
        refine r_nil ?_
        refine g_false rfl ?_
        refine g_skip ?_
        refine g_seq ?_
        refine g_region ?_
        refine r_cons (s_move (.bool true) rfl rfl ?_)
        refine r_cons (s_move (.bool true) rfl rfl ?_)
        refine r_cons (r_take rfl rfl ?_)
        refine s_fieldAddr 41 2 2 2 39 rfl fi_41_2 rfl rfl ?_
        refine r_cons (r_take rfl rfl ?_)
        refine s_loadAgg [.int .i64 o.val.kind.v, .int .i64 o.val.n.v, .string o.val.s.v] 3 ag_39 rfl (H8.blk_at (i := 0) rfl) (Nat.le_of_ble_eq_true rfl) rfl rfl ?_
        refine r_cons (r_take rfl rfl ?_)
        refine s_build (cs := #[.int .i64 0, .int .i64 0, .string ByteArray.empty]) (by kernel_rfl) rfl ?_
        refine r_cons (r_take rfl rfl ?_)
        refine s_aeql (sameVal o.val default) gd_39 ev_39 rfl rfl rfl rfl ?_
        refine r_cons (s_pick_t (.bool (sameVal o.val default)) rfl rfl rfl ?_)
        refine r_cons (s_move (.bool (sameVal o.val default)) rfl rfl ?_)
        by_cases hb28 : (sameVal o.val default) = true
        · skip
          refine r_cons (r_take rfl (congrArg some hb28) ?_)
          refine s_fieldAddr 41 1 1 1 9 rfl fi_41_1 rfl rfl ?_
          refine r_cons (r_take rfl (congrArg some hb28) ?_)
          refine s_load (.string o.attr.v) ag_9 rfl (H8.blk_at (i := 0) rfl) rfl rfl ?_
          refine r_cons (r_take rfl (congrArg some hb28) ?_)
          refine s_call [.string o.attr.v] pl_39 rfl rfl (ref03_Name o.attr.v o.attr.ok H8) ?_
          rintro _ w29 ⟨rfl, H30⟩
          refine r_cons (s_pick_t (.bool (nameB o.attr.v)) (by exact congrArg Value.bool hb28) rfl rfl ?_)
          refine r_cons (s_assign (.bool (nameB o.attr.v)) rfl rfl ?_)
          refine r_nil ?_
          refine g_ret' [.bool (nameB o.attr.v)] Try.func47 Try.results47 ⟨rfl, trivial⟩ ?_
          have H31 : St W w29 F := ((H30.drop 0 rfl).drop 0 rfl)
          exact ⟨congrArg Value.bool (show (nameB o.attr.v) = opE o vars from by unfold opE; rw [if_neg hc9]; rw [if_pos (show vars.length = 0 from by omega)]; first | (simp only [hb28]; rfl) | (simp [hb28, hc17, hc18]; done) | (simp_all; done)), H31⟩
        · have hb28 := eq_false_of_ne_true hb28
          refine r_cons (r_pass rfl (congrArg some hb28) rfl rfl rfl ?_)
          refine r_cons (r_pass rfl (congrArg some hb28) rfl rfl rfl ?_)
          refine r_cons (r_pass rfl (congrArg some hb28) rfl rfl rfl ?_)
          refine r_cons (s_pick_f (.bool false) (by exact congrArg Value.bool hb28) rfl rfl ?_)
          refine r_cons (s_assign (.bool false) rfl rfl ?_)
          refine r_nil ?_
          refine g_ret' [.bool false] Try.func47 Try.results47 ⟨rfl, trivial⟩ ?_
          have H32 : St W w7 F := ((H8.drop 0 rfl).drop 0 rfl)
          exact ⟨congrArg Value.bool (show (false) = opE o vars from by unfold opE; rw [if_neg hc9]; rw [if_pos (show vars.length = 0 from by omega)]; first | (simp only [hb28]; rfl) | (simp [hb28, hc17, hc18]; done) | (simp_all; done)), H32⟩
    · skip
      refine r_cons (s_seql false rfl rfl (dfalse hc17) rfl ?_)
      refine r_cons (s_assign (.bool false) rfl rfl ?_)
      refine r_nil ?_
      refine g_seq ?_
      refine g_seq ?_
      refine g_region ?_
      refine r_cons (s_move (.slice pp1 vars.length cc2) rfl rfl ?_)
      refine r_cons (s_len vars.length rfl ⟨_, un_36⟩ rfl ?_)
      by_cases hc33 : (0 : Int) < (vars.length : Int)
      · skip
        refine r_cons (s_gtr true rfl rfl (dtrue hc33) rfl ?_)
        refine r_nil ?_
        refine g_true rfl ?_
        refine g_region ?_
        refine r_cons (s_move (.slice pp1 vars.length cc2) rfl rfl ?_)
        refine r_cons (s_fieldAddr 41 0 0 0 9 rfl fi_41_0 rfl rfl ?_)
        refine r_cons (s_load (.string o.var.v) ag_9 rfl (H8.blk_at (i := 0) rfl) rfl rfl ?_)
        refine r_cons (s_call [.slice pp1 vars.length cc2, .string o.var.v] pl_42 rfl rfl (ref07_Has vars (.slice pp1 vars.length cc2) o.var.v (m := 1) rfl H8) ?_)
        rintro _ w34 ⟨rfl, H35⟩
        refine r_cons (s_assign (.bool (hasS vars o.var.v)) rfl rfl ?_)
        refine r_nil ?_
        refine g_seq ?_
        refine g_region ?_
        refine r_cons (s_move (.bool (hasS vars o.var.v)) rfl rfl ?_)
        refine r_cons (s_move (.bool (hasS vars o.var.v)) rfl rfl ?_)
        by_cases hb36 : (hasS vars o.var.v) = true
        · skip
          refine r_cons (r_take rfl (congrArg some hb36) ?_)
          refine s_fieldAddr 41 2 2 2 39 rfl fi_41_2 rfl rfl ?_
          refine r_cons (r_take rfl (congrArg some hb36) ?_)
          refine s_loadAgg [.int .i64 o.val.kind.v, .int .i64 o.val.n.v, .string o.val.s.v] 3 ag_39 rfl (H35.blk_at (i := 0) rfl) (Nat.le_of_ble_eq_true rfl) rfl rfl ?_
          refine r_cons (r_take rfl (congrArg some hb36) ?_)
          refine s_build (cs := #[.int .i64 0, .int .i64 0, .string ByteArray.empty]) (by kernel_rfl) rfl ?_
          refine r_cons (r_take rfl (congrArg some hb36) ?_)
          refine s_aeql (sameVal o.val default) gd_39 ev_39 rfl rfl rfl rfl ?_
          refine r_cons (s_pick_t (.bool (sameVal o.val default)) (by exact congrArg Value.bool hb36) rfl rfl ?_)
          refine r_cons (s_move (.bool (sameVal o.val default)) rfl rfl ?_)
          by_cases hb37 : (sameVal o.val default) = true
          · skip
            refine r_cons (r_take rfl (congrArg some hb37) ?_)
            refine s_fieldAddr 41 1 1 1 9 rfl fi_41_1 rfl rfl ?_
            refine r_cons (r_take rfl (congrArg some hb37) ?_)
            refine s_load (.string o.attr.v) ag_9 rfl (H35.blk_at (i := 0) rfl) rfl rfl ?_
            refine r_cons (r_take rfl (congrArg some hb37) ?_)
            refine s_call [.string o.attr.v] pl_39 rfl rfl (ref03_Name o.attr.v o.attr.ok H35) ?_
            rintro _ w38 ⟨rfl, H39⟩
            refine r_cons (s_pick_t (.bool (nameB o.attr.v)) (by exact congrArg Value.bool hb37) rfl rfl ?_)
            refine r_cons (s_assign (.bool (nameB o.attr.v)) rfl rfl ?_)
            refine r_nil ?_
            refine g_ret' [.bool (nameB o.attr.v)] Try.func47 Try.results47 ⟨rfl, trivial⟩ ?_
            have H40 : St W w38 F := ((H39.drop 0 rfl).drop 0 rfl)
            exact ⟨congrArg Value.bool (show (nameB o.attr.v) = opE o vars from by unfold opE; rw [if_neg hc9]; rw [if_neg (show ¬ vars.length = 0 from by omega)]; first | (simp only [hb37]; rfl) | (simp [hb37, hb36, hc17, hc33]; done) | (simp_all; done)), H40⟩
          · have hb37 := eq_false_of_ne_true hb37
            refine r_cons (r_pass rfl (congrArg some hb37) rfl rfl rfl ?_)
            refine r_cons (r_pass rfl (congrArg some hb37) rfl rfl rfl ?_)
            refine r_cons (r_pass rfl (congrArg some hb37) rfl rfl rfl ?_)
            refine r_cons (s_pick_f (.bool false) (by exact congrArg Value.bool hb37) rfl rfl ?_)
            refine r_cons (s_assign (.bool false) rfl rfl ?_)
            refine r_nil ?_
            refine g_ret' [.bool false] Try.func47 Try.results47 ⟨rfl, trivial⟩ ?_
            have H41 : St W w34 F := ((H35.drop 0 rfl).drop 0 rfl)
            exact ⟨congrArg Value.bool (show (false) = opE o vars from by unfold opE; rw [if_neg hc9]; rw [if_neg (show ¬ vars.length = 0 from by omega)]; first | (simp only [hb37]; rfl) | (simp [hb37, hb36, hc17, hc33]; done) | (simp_all; done)), H41⟩
        · have hb36 := eq_false_of_ne_true hb36
          refine r_cons (r_pass rfl (congrArg some hb36) rfl rfl rfl ?_)
          refine r_cons (r_pass rfl (congrArg some hb36) rfl rfl rfl ?_)
          refine r_cons (r_pass rfl (congrArg some hb36) rfl rfl rfl ?_)
          refine r_cons (r_pass rfl (congrArg some hb36) rfl rfl rfl ?_)
          refine r_cons (s_pick_f (.bool false) (by exact congrArg Value.bool hb36) rfl rfl ?_)
          refine r_cons (s_move (.bool false) rfl rfl ?_)
          refine r_cons (r_pass rfl rfl rfl rfl rfl ?_)
          refine r_cons (r_pass rfl rfl rfl rfl rfl ?_)
          refine r_cons (r_pass rfl rfl rfl rfl rfl ?_)
          refine r_cons (s_pick_f (.bool false) rfl rfl rfl ?_)
          refine r_cons (s_assign (.bool false) rfl rfl ?_)
          refine r_nil ?_
          refine g_ret' [.bool false] Try.func47 Try.results47 ⟨rfl, trivial⟩ ?_
          have H42 : St W w34 F := ((H35.drop 0 rfl).drop 0 rfl)
          exact ⟨congrArg Value.bool (show (false) = opE o vars from by unfold opE; rw [if_neg hc9]; rw [if_neg (show ¬ vars.length = 0 from by omega)]; first | (simp only []; rfl) | (simp [hb36, hc17, hc33]; done) | (simp_all; done)), H42⟩
      · skip
        refine r_cons (s_gtr false rfl rfl (dfalse hc33) rfl ?_)
        refine r_nil ?_
        refine g_false rfl ?_
        refine g_skip ?_
        refine g_seq ?_
        refine g_region ?_
        refine r_cons (s_move (.bool false) rfl rfl ?_)
        refine r_cons (s_move (.bool false) rfl rfl ?_)
        refine r_cons (r_pass rfl rfl rfl rfl rfl ?_)
        refine r_cons (r_pass rfl rfl rfl rfl rfl ?_)
        refine r_cons (r_pass rfl rfl rfl rfl rfl ?_)
        refine r_cons (r_pass rfl rfl rfl rfl rfl ?_)
        refine r_cons (s_pick_f (.bool false) rfl rfl rfl ?_)
        refine r_cons (s_move (.bool false) rfl rfl ?_)
        refine r_cons (r_pass rfl rfl rfl rfl rfl ?_)
        refine r_cons (r_pass rfl rfl rfl rfl rfl ?_)
        refine r_cons (r_pass rfl rfl rfl rfl rfl ?_)
        refine r_cons (s_pick_f (.bool false) rfl rfl rfl ?_)
        refine r_cons (s_assign (.bool false) rfl rfl ?_)
        refine r_nil ?_
        refine g_ret' [.bool false] Try.func47 Try.results47 ⟨rfl, trivial⟩ ?_
        have H43 : St W w7 F := ((H8.drop 0 rfl).drop 0 rfl)
        exact ⟨congrArg Value.bool (show (false) = opE o vars from by unfold opE; rw [if_neg hc9]; rw [if_pos (show vars.length = 0 from by omega)]; first | (simp only []; rfl) | (simp [hc17, hc33]; done) | (simp_all; done)), H43⟩
set_option maxHeartbeats 4000000 in
set_option maxRecDepth 100000 in
theorem check_Cond {W w : World} {F : List Atom} (c : CondV) (vars : List Str) (vv : Value) {jv : Nat} (hv : F[jv]? = some (Im 1 vv vars.length (vars.flatMap strCell))) (H : St W w F) : Calls Try.prog 28 #[.agg #[.string c.left.var.v, .string c.left.attr.v, .int .i64 c.left.val.kind.v, .int .i64 c.left.val.n.v, .string c.left.val.s.v, .int .i64 c.rel.v, .string c.right.var.v, .string c.right.attr.v, .int .i64 c.right.val.kind.v, .int .i64 c.right.val.n.v, .string c.right.val.s.v], vv] w (Ret fun v w' => v = .int .i64 (condE c vars) ∧ St W w' F) := by
  obtain ⟨pp1, cc2, rfl, hn3⟩ := Rd.shape (Im.rd H (i := jv) hv)
  have H4 := H.dup (i := jv + 0) (by exact hv) (Im_pers _ _ _ _)
  have H5 : St W w (Im 1 (.slice pp1 vars.length cc2) vars.length (vars.flatMap strCell) :: F) := H4
  refine calls_of_go (n := 39) Try.func28 rfl Try.ntmps28 rfl ?_
  refine g_seq ?_
  refine g_region ?_
  refine r_cons (s_box H5 43 (.agg #[.string c.left.var.v, .string c.left.attr.v, .int .i64 c.left.val.kind.v, .int .i64 c.left.val.n.v, .string c.left.val.s.v, .int .i64 c.rel.v, .string c.right.var.v, .string c.right.attr.v, .int .i64 c.right.val.kind.v, .int .i64 c.right.val.n.v, .string c.right.val.s.v]) rfl (cs := #[.string c.left.var.v, .string c.left.attr.v, .int .i64 c.left.val.kind.v, .int .i64 c.left.val.n.v, .string c.left.val.s.v, .int .i64 c.rel.v, .string c.right.var.v, .string c.right.attr.v, .int .i64 c.right.val.kind.v, .int .i64 c.right.val.n.v, .string c.right.val.s.v]) rfl rfl ?_); intro bk6 w7 H8
  refine r_cons (s_assign (.int .i64 0) rfl rfl ?_)
  refine r_nil ?_
  refine g_seq ?_
  refine g_seq ?_
  refine g_region ?_
  refine r_cons (s_fieldAddr 43 1 5 5 3 rfl fi_43_1 rfl rfl ?_)
  refine r_cons (s_load (.int .i64 c.rel.v) ag_3 rfl (H8.blk_at (i := 0) rfl) rfl rfl ?_)
  by_cases hc9 : c.rel.v < 1
  · skip
    refine r_cons (s_lss true rfl rfl (dtrue hc9) rfl ?_)
    refine r_cons (s_move (.bool true) rfl rfl ?_)
    refine r_cons (r_pass rfl rfl rfl rfl rfl ?_)
    refine r_cons (r_pass rfl rfl rfl rfl rfl ?_)
    refine r_cons (r_pass rfl rfl rfl rfl rfl ?_)
    refine r_cons (s_pick_t (.bool true) rfl rfl rfl ?_)
    refine r_cons (s_move (.bool true) rfl rfl ?_)
    refine r_cons (r_pass rfl rfl rfl rfl rfl ?_)
    refine r_cons (r_pass rfl rfl rfl rfl rfl ?_)
    refine r_cons (r_pass rfl rfl rfl rfl rfl ?_)
    refine r_cons (r_pass rfl rfl rfl rfl rfl ?_)
    refine r_cons (r_pass rfl rfl rfl rfl rfl ?_)
    refine r_cons (s_pick_t (.bool true) rfl rfl rfl ?_)
    refine r_cons (s_move (.bool true) rfl rfl ?_)
    refine r_cons (r_pass rfl rfl rfl rfl rfl ?_)
    refine r_cons (r_pass rfl rfl rfl rfl rfl ?_)
    refine r_cons (r_pass rfl rfl rfl rfl rfl ?_)
    refine r_cons (r_pass rfl rfl rfl rfl rfl ?_)
    refine r_cons (r_pass rfl rfl rfl rfl rfl ?_)
    refine r_cons (s_pick_t (.bool true) rfl rfl rfl ?_)
    refine r_cons (s_move (.bool true) rfl rfl ?_)
    refine r_cons (r_pass rfl rfl rfl rfl rfl ?_)
    refine r_cons (r_pass rfl rfl rfl rfl rfl ?_)
    refine r_cons (r_pass rfl rfl rfl rfl rfl ?_)
    refine r_cons (r_pass rfl rfl rfl rfl rfl ?_)
    refine r_cons (r_pass rfl rfl rfl rfl rfl ?_)
    refine r_cons (r_passN rfl rfl rfl rfl ?_)
    refine r_cons (r_passN rfl rfl rfl rfl ?_)
    refine r_cons (r_passN rfl rfl rfl rfl ?_)
    refine r_cons (r_passN rfl rfl rfl rfl ?_)
    refine r_cons (r_pass rfl rfl rfl rfl rfl ?_)
    refine r_cons (s_pick_t (.bool true) rfl rfl rfl ?_)
    refine r_nil ?_
    refine g_true rfl ?_
    refine g_seq ?_
    refine g_region ?_
    refine r_cons (s_assign (.int .i64 74) rfl rfl ?_)
    refine r_nil ?_
    refine g_ret' [.int .i64 74] Try.func28 Try.results28 ⟨rfl, trivial⟩ ?_
    have H10 : St W w7 F := ((H8.drop 0 rfl).drop 0 rfl)
    exact ⟨vint (by unfold condE; rw [if_pos (by simp [hc9])]), H10⟩
  · skip
    refine r_cons (s_lss false rfl rfl (dfalse hc9) rfl ?_)
    refine r_cons (s_move (.bool false) rfl rfl ?_)
    refine r_cons (r_take rfl rfl ?_)
    refine s_fieldAddr 43 1 5 5 3 rfl fi_43_1 rfl rfl ?_
    refine r_cons (r_take rfl rfl ?_)
    refine s_load (.int .i64 c.rel.v) ag_3 rfl (H8.blk_at (i := 0) rfl) rfl rfl ?_
    refine r_cons (r_take rfl rfl ?_)
    by_cases hc11 : (6 : Int) < c.rel.v
    · skip
      refine s_gtr true rfl rfl (dtrue hc11) rfl ?_
      refine r_cons (s_pick_f (.bool true) rfl rfl rfl ?_)
      refine r_cons (s_move (.bool true) rfl rfl ?_)
      refine r_cons (r_pass rfl rfl rfl rfl rfl ?_)
      refine r_cons (r_pass rfl rfl rfl rfl rfl ?_)
      refine r_cons (r_pass rfl rfl rfl rfl rfl ?_)
      refine r_cons (r_pass rfl rfl rfl rfl rfl ?_)
      refine r_cons (r_pass rfl rfl rfl rfl rfl ?_)
      refine r_cons (s_pick_t (.bool true) rfl rfl rfl ?_)
      refine r_cons (s_move (.bool true) rfl rfl ?_)
      refine r_cons (r_pass rfl rfl rfl rfl rfl ?_)
      refine r_cons (r_pass rfl rfl rfl rfl rfl ?_)
      refine r_cons (r_pass rfl rfl rfl rfl rfl ?_)
      refine r_cons (r_pass rfl rfl rfl rfl rfl ?_)
      refine r_cons (r_pass rfl rfl rfl rfl rfl ?_)
      refine r_cons (s_pick_t (.bool true) rfl rfl rfl ?_)
      refine r_cons (s_move (.bool true) rfl rfl ?_)
      refine r_cons (r_pass rfl rfl rfl rfl rfl ?_)
      refine r_cons (r_pass rfl rfl rfl rfl rfl ?_)
      refine r_cons (r_pass rfl rfl rfl rfl rfl ?_)
      refine r_cons (r_pass rfl rfl rfl rfl rfl ?_)
      refine r_cons (r_pass rfl rfl rfl rfl rfl ?_)
      refine r_cons (r_passN rfl rfl rfl rfl ?_)
      refine r_cons (r_passN rfl rfl rfl rfl ?_)
      refine r_cons (r_passN rfl rfl rfl rfl ?_)
      refine r_cons (r_passN rfl rfl rfl rfl ?_)
      refine r_cons (r_pass rfl rfl rfl rfl rfl ?_)
      refine r_cons (s_pick_t (.bool true) rfl rfl rfl ?_)
      refine r_nil ?_
      refine g_true rfl ?_
      refine g_seq ?_
      refine g_region ?_
      refine r_cons (s_assign (.int .i64 74) rfl rfl ?_)
      refine r_nil ?_
      refine g_ret' [.int .i64 74] Try.func28 Try.results28 ⟨rfl, trivial⟩ ?_
      have H12 : St W w7 F := ((H8.drop 0 rfl).drop 0 rfl)
      exact ⟨vint (by unfold condE; rw [if_pos (by simp [hc9, hc11])]), H12⟩
    · skip
      refine s_gtr false rfl rfl (dfalse hc11) rfl ?_
      refine r_cons (s_pick_f (.bool false) rfl rfl rfl ?_)
      refine r_cons (s_move (.bool false) rfl rfl ?_)
      refine r_cons (r_take rfl rfl ?_)
      refine s_fieldAddr 43 0 0 0 41 rfl fi_43_0 rfl rfl ?_
      refine r_cons (r_take rfl rfl ?_)
      refine s_loadAgg [.string c.left.var.v, .string c.left.attr.v, .int .i64 c.left.val.kind.v, .int .i64 c.left.val.n.v, .string c.left.val.s.v] 5 ag_41 rfl (H8.blk_at (i := 0) rfl) (Nat.le_of_ble_eq_true rfl) rfl rfl ?_
      refine r_cons (r_take rfl rfl ?_)
      refine s_move (.slice pp1 vars.length cc2) rfl rfl ?_
      refine r_cons (r_take rfl rfl ?_)
      refine s_call [.agg #[.string c.left.var.v, .string c.left.attr.v, .int .i64 c.left.val.kind.v, .int .i64 c.left.val.n.v, .string c.left.val.s.v], .slice pp1 vars.length cc2] pl_46 rfl rfl (check_operand c.left vars (.slice pp1 vars.length cc2) (jv := 1) rfl H8) ?_
      rintro _ w13 ⟨rfl, H14⟩
      refine r_cons (r_take rfl rfl ?_)
      refine s_not (opE c.left vars) rfl (!(opE c.left vars)) rfl rfl ?_
      refine r_cons (s_pick_f (.bool (!(opE c.left vars))) rfl rfl rfl ?_)
      refine r_cons (s_move (.bool (!(opE c.left vars))) rfl rfl ?_)
      by_cases hb15 : (!(opE c.left vars)) = true
      · skip
        refine r_cons (r_pass rfl (congrArg some hb15) rfl rfl rfl ?_)
        refine r_cons (r_pass rfl (congrArg some hb15) rfl rfl rfl ?_)
        refine r_cons (r_pass rfl (congrArg some hb15) rfl rfl rfl ?_)
        refine r_cons (r_pass rfl (congrArg some hb15) rfl rfl rfl ?_)
        refine r_cons (r_pass rfl (congrArg some hb15) rfl rfl rfl ?_)
        refine r_cons (s_pick_t (.bool true) (by exact congrArg Value.bool hb15) rfl rfl ?_)
        refine r_cons (s_move (.bool true) rfl rfl ?_)
        refine r_cons (r_pass rfl rfl rfl rfl rfl ?_)
        refine r_cons (r_pass rfl rfl rfl rfl rfl ?_)
        refine r_cons (r_pass rfl rfl rfl rfl rfl ?_)
        refine r_cons (r_pass rfl rfl rfl rfl rfl ?_)
        refine r_cons (r_pass rfl rfl rfl rfl rfl ?_)
        refine r_cons (r_passN rfl rfl rfl rfl ?_)
        refine r_cons (r_passN rfl rfl rfl rfl ?_)
        refine r_cons (r_passN rfl rfl rfl rfl ?_)
        refine r_cons (r_passN rfl rfl rfl rfl ?_)
        refine r_cons (r_pass rfl rfl rfl rfl rfl ?_)
        refine r_cons (s_pick_t (.bool true) rfl rfl rfl ?_)
        refine r_nil ?_
        refine g_true rfl ?_
        refine g_seq ?_
        refine g_region ?_
        refine r_cons (s_assign (.int .i64 74) rfl rfl ?_)
        refine r_nil ?_
        refine g_ret' [.int .i64 74] Try.func28 Try.results28 ⟨rfl, trivial⟩ ?_
        have hb16 : ((opE c.left vars)) = false := by simpa using hb15
        have H17 : St W w13 F := ((H14.drop 0 rfl).drop 0 rfl)
        exact ⟨vint (by unfold condE; rw [if_pos (by simp [hc9, hc11, hb16])]), H17⟩
      · have hb15 := eq_false_of_ne_true hb15
        refine r_cons (r_take rfl (congrArg some hb15) ?_)
        refine s_fieldAddr 43 2 6 6 41 rfl fi_43_2 rfl rfl ?_
        refine r_cons (r_take rfl (congrArg some hb15) ?_)
        refine s_loadAgg [.string c.right.var.v, .string c.right.attr.v, .int .i64 c.right.val.kind.v, .int .i64 c.right.val.n.v, .string c.right.val.s.v] 5 ag_41 rfl (H14.blk_at (i := 0) rfl) (Nat.le_of_ble_eq_true rfl) rfl rfl ?_
        refine r_cons (r_take rfl (congrArg some hb15) ?_)
        refine s_move (.slice pp1 vars.length cc2) rfl rfl ?_
        refine r_cons (r_take rfl (congrArg some hb15) ?_)
        refine s_call [.agg #[.string c.right.var.v, .string c.right.attr.v, .int .i64 c.right.val.kind.v, .int .i64 c.right.val.n.v, .string c.right.val.s.v], .slice pp1 vars.length cc2] pl_46 rfl rfl (check_operand c.right vars (.slice pp1 vars.length cc2) (jv := 1) rfl H14) ?_
        rintro _ w18 ⟨rfl, H19⟩
        refine r_cons (r_take rfl (congrArg some hb15) ?_)
        refine s_not (opE c.right vars) rfl (!(opE c.right vars)) rfl rfl ?_
        refine r_cons (s_pick_f (.bool (!(opE c.right vars))) (by exact congrArg Value.bool hb15) rfl rfl ?_)
        refine r_cons (s_move (.bool (!(opE c.right vars))) rfl rfl ?_)
        by_cases hb20 : (!(opE c.right vars)) = true
        · skip
          refine r_cons (r_pass rfl (congrArg some hb20) rfl rfl rfl ?_)
          refine r_cons (r_pass rfl (congrArg some hb20) rfl rfl rfl ?_)
          refine r_cons (r_pass rfl (congrArg some hb20) rfl rfl rfl ?_)
          refine r_cons (r_pass rfl (congrArg some hb20) rfl rfl rfl ?_)
          refine r_cons (r_pass rfl (congrArg some hb20) rfl rfl rfl ?_)
          refine r_cons (r_passN rfl rfl rfl rfl ?_)
          refine r_cons (r_passN rfl rfl rfl rfl ?_)
          refine r_cons (r_passN rfl rfl rfl rfl ?_)
          refine r_cons (r_passN rfl rfl rfl rfl ?_)
          refine r_cons (r_pass rfl (congrArg some hb20) rfl rfl rfl ?_)
          refine r_cons (s_pick_t (.bool true) (by exact congrArg Value.bool hb20) rfl rfl ?_)
          refine r_nil ?_
          refine g_true rfl ?_
          refine g_seq ?_
          refine g_region ?_
          refine r_cons (s_assign (.int .i64 74) rfl rfl ?_)
          refine r_nil ?_
          refine g_ret' [.int .i64 74] Try.func28 Try.results28 ⟨rfl, trivial⟩ ?_
          have hb21 : ((opE c.left vars)) = true := by simpa using hb15
          have hb22 : ((opE c.right vars)) = false := by simpa using hb20
          have H23 : St W w18 F := ((H19.drop 0 rfl).drop 0 rfl)
          exact ⟨vint (by unfold condE; rw [if_pos (by simp [hc9, hc11, hb21, hb22])]), H23⟩
        · have hb20 := eq_false_of_ne_true hb20
          refine r_cons (r_take rfl (congrArg some hb20) ?_)
          refine s_fieldAddr 43 0 0 0 41 rfl fi_43_0 rfl rfl ?_
          refine r_cons (r_take rfl (congrArg some hb20) ?_)
          refine s_fieldAddr 41 1 1 1 9 rfl fi_41_1 rfl rfl ?_
          refine r_cons (r_take rfl (congrArg some hb20) ?_)
          refine s_load (.string c.left.attr.v) ag_9 rfl (H19.blk_at (i := 0) rfl) rfl rfl ?_
          refine r_cons (r_take rfl (congrArg some hb20) ?_)
          by_cases hc24 : c.left.attr.v = ByteArray.empty
          · skip
            refine s_seql true rfl rfl (dtrue hc24) rfl ?_
            refine r_cons (r_take rfl (congrArg some hb20) ?_)
            refine s_move (.bool true) rfl rfl ?_
            refine r_cons (r_take rfl rfl ?_)
            refine s_fieldAddr 43 2 6 6 41 rfl fi_43_2 rfl rfl ?_
            refine r_cons (r_take rfl rfl ?_)
            refine s_fieldAddr 41 1 1 7 9 rfl fi_41_1 rfl rfl ?_
            refine r_cons (r_take rfl rfl ?_)
            refine s_load (.string c.right.attr.v) ag_9 rfl (H19.blk_at (i := 0) rfl) rfl rfl ?_
            refine r_cons (r_take rfl rfl ?_)
            by_cases hc25 : c.right.attr.v = ByteArray.empty
            · skip
              refine s_seql true rfl rfl (dtrue hc25) rfl ?_
              refine r_cons (r_take rfl (congrArg some hb20) ?_)
              refine s_pick_t (.bool true) rfl rfl rfl ?_
              refine r_cons (s_pick_f (.bool true) (by exact congrArg Value.bool hb20) rfl rfl ?_)
              refine r_nil ?_
              refine g_true rfl ?_
              refine g_seq ?_
              refine g_region ?_
              refine r_cons (s_assign (.int .i64 74) rfl rfl ?_)
              refine r_nil ?_
              refine g_ret' [.int .i64 74] Try.func28 Try.results28 ⟨rfl, trivial⟩ ?_
              have hb26 : ((opE c.left vars)) = true := by simpa using hb15
              have hb27 : ((opE c.right vars)) = true := by simpa using hb20
              have H28 : St W w18 F := ((H19.drop 0 rfl).drop 0 rfl)
              exact ⟨vint (by unfold condE; rw [if_pos (by simp [hc9, hc11, hc24, hc25, hb26, hb27])]), H28⟩
            · skip
              refine s_seql false rfl rfl (dfalse hc25) rfl ?_
              refine r_cons (r_take rfl (congrArg some hb20) ?_)
              refine s_pick_t (.bool false) rfl rfl rfl ?_
              refine r_cons (s_pick_f (.bool false) (by exact congrArg Value.bool hb20) rfl rfl ?_)
              refine r_nil ?_
              refine g_false rfl ?_
              refine g_skip ?_
              refine g_seq ?_
              refine g_region ?_
              refine r_cons (s_assign (.int .i64 0) rfl rfl ?_)
              refine r_nil ?_
              refine g_ret' [.int .i64 0] Try.func28 Try.results28 ⟨rfl, trivial⟩ ?_
              have hb29 : ((opE c.left vars)) = true := by simpa using hb15
              have hb30 : ((opE c.right vars)) = true := by simpa using hb20
              have H31 : St W w18 F := ((H19.drop 0 rfl).drop 0 rfl)
              exact ⟨vint (by unfold condE; rw [if_neg (by simp [hc9, hc11, hc24, hc25, hb29, hb30])]), H31⟩
          · skip
            refine s_seql false rfl rfl (dfalse hc24) rfl ?_
            refine r_cons (r_take rfl (congrArg some hb20) ?_)
            refine s_move (.bool false) rfl rfl ?_
            refine r_cons (r_pass rfl rfl rfl rfl rfl ?_)
            refine r_cons (r_pass rfl rfl rfl rfl rfl ?_)
            refine r_cons (r_pass rfl rfl rfl rfl rfl ?_)
            refine r_cons (r_pass rfl rfl rfl rfl rfl ?_)
            refine r_cons (r_take rfl (congrArg some hb20) ?_)
            refine s_pick_f (.bool false) rfl rfl rfl ?_
            refine r_cons (s_pick_f (.bool false) (by exact congrArg Value.bool hb20) rfl rfl ?_)
            refine r_nil ?_
            refine g_false rfl ?_
            refine g_skip ?_
            refine g_seq ?_
            refine g_region ?_
            refine r_cons (s_assign (.int .i64 0) rfl rfl ?_)
            refine r_nil ?_
            refine g_ret' [.int .i64 0] Try.func28 Try.results28 ⟨rfl, trivial⟩ ?_
            have hb32 : ((opE c.left vars)) = true := by simpa using hb15
            have hb33 : ((opE c.right vars)) = true := by simpa using hb20
            have H34 : St W w18 F := ((H19.drop 0 rfl).drop 0 rfl)
            exact ⟨vint (by unfold condE; rw [if_neg (by simp [hc9, hc11, hc24, hb32, hb33])]), H34⟩
set_option maxHeartbeats 4000000 in
set_option maxRecDepth 100000 in
theorem ref07_Cond {W w : World} {F : List Atom} (c : CondV) (vars : List Str) (vv : Value) {jv : Nat} (hv : F[jv]? = some (Im 1 vv vars.length (vars.flatMap strCell))) (H : St W w F) : Calls Try.prog 29 #[.agg #[.string c.left.var.v, .string c.left.attr.v, .int .i64 c.left.val.kind.v, .int .i64 c.left.val.n.v, .string c.left.val.s.v, .int .i64 c.rel.v, .string c.right.var.v, .string c.right.attr.v, .int .i64 c.right.val.kind.v, .int .i64 c.right.val.n.v, .string c.right.val.s.v], vv] w (Ret fun v w' => v = .int .i64 (condE c vars) ∧ St W w' F) := by
  obtain ⟨pp1, cc2, rfl, hn3⟩ := Rd.shape (Im.rd H (i := jv) hv)
  have H4 := H.dup (i := jv + 0) (by exact hv) (Im_pers _ _ _ _)
  have H5 : St W w (Im 1 (.slice pp1 vars.length cc2) vars.length (vars.flatMap strCell) :: F) := H4
  refine calls_of_go (n := 39) Try.func29 rfl Try.ntmps29 rfl ?_
  refine g_seq ?_
  refine g_region ?_
  refine r_cons (s_box H5 43 (.agg #[.string c.left.var.v, .string c.left.attr.v, .int .i64 c.left.val.kind.v, .int .i64 c.left.val.n.v, .string c.left.val.s.v, .int .i64 c.rel.v, .string c.right.var.v, .string c.right.attr.v, .int .i64 c.right.val.kind.v, .int .i64 c.right.val.n.v, .string c.right.val.s.v]) rfl (cs := #[.string c.left.var.v, .string c.left.attr.v, .int .i64 c.left.val.kind.v, .int .i64 c.left.val.n.v, .string c.left.val.s.v, .int .i64 c.rel.v, .string c.right.var.v, .string c.right.attr.v, .int .i64 c.right.val.kind.v, .int .i64 c.right.val.n.v, .string c.right.val.s.v]) rfl rfl ?_); intro bk6 w7 H8
  refine r_cons (s_assign (.int .i64 0) rfl rfl ?_)
  refine r_nil ?_
  refine g_seq ?_
  refine g_seq ?_
  refine g_region ?_
  refine r_cons (s_fieldAddr 43 1 5 5 3 rfl fi_43_1 rfl rfl ?_)
  refine r_cons (s_load (.int .i64 c.rel.v) ag_3 rfl (H8.blk_at (i := 0) rfl) rfl rfl ?_)
  by_cases hc9 : c.rel.v < 1
  · skip
    refine r_cons (s_lss true rfl rfl (dtrue hc9) rfl ?_)
    refine r_cons (s_move (.bool true) rfl rfl ?_)
    refine r_cons (r_pass rfl rfl rfl rfl rfl ?_)
    refine r_cons (r_pass rfl rfl rfl rfl rfl ?_)
    refine r_cons (r_pass rfl rfl rfl rfl rfl ?_)
    refine r_cons (s_pick_t (.bool true) rfl rfl rfl ?_)
    refine r_cons (s_move (.bool true) rfl rfl ?_)
    refine r_cons (r_pass rfl rfl rfl rfl rfl ?_)
    refine r_cons (r_pass rfl rfl rfl rfl rfl ?_)
    refine r_cons (r_pass rfl rfl rfl rfl rfl ?_)
    refine r_cons (r_pass rfl rfl rfl rfl rfl ?_)
    refine r_cons (r_pass rfl rfl rfl rfl rfl ?_)
    refine r_cons (s_pick_t (.bool true) rfl rfl rfl ?_)
    refine r_cons (s_move (.bool true) rfl rfl ?_)
    refine r_cons (r_pass rfl rfl rfl rfl rfl ?_)
    refine r_cons (r_pass rfl rfl rfl rfl rfl ?_)
    refine r_cons (r_pass rfl rfl rfl rfl rfl ?_)
    refine r_cons (r_pass rfl rfl rfl rfl rfl ?_)
    refine r_cons (r_pass rfl rfl rfl rfl rfl ?_)
    refine r_cons (s_pick_t (.bool true) rfl rfl rfl ?_)
    refine r_cons (s_move (.bool true) rfl rfl ?_)
    refine r_cons (r_pass rfl rfl rfl rfl rfl ?_)
    refine r_cons (r_pass rfl rfl rfl rfl rfl ?_)
    refine r_cons (r_pass rfl rfl rfl rfl rfl ?_)
    refine r_cons (r_pass rfl rfl rfl rfl rfl ?_)
    refine r_cons (r_pass rfl rfl rfl rfl rfl ?_)
    refine r_cons (r_passN rfl rfl rfl rfl ?_)
    refine r_cons (r_passN rfl rfl rfl rfl ?_)
    refine r_cons (r_passN rfl rfl rfl rfl ?_)
    refine r_cons (r_passN rfl rfl rfl rfl ?_)
    refine r_cons (r_pass rfl rfl rfl rfl rfl ?_)
    refine r_cons (s_pick_t (.bool true) rfl rfl rfl ?_)
    refine r_nil ?_
    refine g_true rfl ?_
    refine g_seq ?_
    refine g_region ?_
    refine r_cons (s_assign (.int .i64 74) rfl rfl ?_)
    refine r_nil ?_
    refine g_ret' [.int .i64 74] Try.func29 Try.results29 ⟨rfl, trivial⟩ ?_
    have H10 : St W w7 F := ((H8.drop 0 rfl).drop 0 rfl)
    exact ⟨vint (by unfold condE; rw [if_pos (by simp [hc9])]), H10⟩
  · skip
    refine r_cons (s_lss false rfl rfl (dfalse hc9) rfl ?_)
    refine r_cons (s_move (.bool false) rfl rfl ?_)
    refine r_cons (r_take rfl rfl ?_)
    refine s_fieldAddr 43 1 5 5 3 rfl fi_43_1 rfl rfl ?_
    refine r_cons (r_take rfl rfl ?_)
    refine s_load (.int .i64 c.rel.v) ag_3 rfl (H8.blk_at (i := 0) rfl) rfl rfl ?_
    refine r_cons (r_take rfl rfl ?_)
    by_cases hc11 : (6 : Int) < c.rel.v
    · skip
      refine s_gtr true rfl rfl (dtrue hc11) rfl ?_
      refine r_cons (s_pick_f (.bool true) rfl rfl rfl ?_)
      refine r_cons (s_move (.bool true) rfl rfl ?_)
      refine r_cons (r_pass rfl rfl rfl rfl rfl ?_)
      refine r_cons (r_pass rfl rfl rfl rfl rfl ?_)
      refine r_cons (r_pass rfl rfl rfl rfl rfl ?_)
      refine r_cons (r_pass rfl rfl rfl rfl rfl ?_)
      refine r_cons (r_pass rfl rfl rfl rfl rfl ?_)
      refine r_cons (s_pick_t (.bool true) rfl rfl rfl ?_)
      refine r_cons (s_move (.bool true) rfl rfl ?_)
      refine r_cons (r_pass rfl rfl rfl rfl rfl ?_)
      refine r_cons (r_pass rfl rfl rfl rfl rfl ?_)
      refine r_cons (r_pass rfl rfl rfl rfl rfl ?_)
      refine r_cons (r_pass rfl rfl rfl rfl rfl ?_)
      refine r_cons (r_pass rfl rfl rfl rfl rfl ?_)
      refine r_cons (s_pick_t (.bool true) rfl rfl rfl ?_)
      refine r_cons (s_move (.bool true) rfl rfl ?_)
      refine r_cons (r_pass rfl rfl rfl rfl rfl ?_)
      refine r_cons (r_pass rfl rfl rfl rfl rfl ?_)
      refine r_cons (r_pass rfl rfl rfl rfl rfl ?_)
      refine r_cons (r_pass rfl rfl rfl rfl rfl ?_)
      refine r_cons (r_pass rfl rfl rfl rfl rfl ?_)
      refine r_cons (r_passN rfl rfl rfl rfl ?_)
      refine r_cons (r_passN rfl rfl rfl rfl ?_)
      refine r_cons (r_passN rfl rfl rfl rfl ?_)
      refine r_cons (r_passN rfl rfl rfl rfl ?_)
      refine r_cons (r_pass rfl rfl rfl rfl rfl ?_)
      refine r_cons (s_pick_t (.bool true) rfl rfl rfl ?_)
      refine r_nil ?_
      refine g_true rfl ?_
      refine g_seq ?_
      refine g_region ?_
      refine r_cons (s_assign (.int .i64 74) rfl rfl ?_)
      refine r_nil ?_
      refine g_ret' [.int .i64 74] Try.func29 Try.results29 ⟨rfl, trivial⟩ ?_
      have H12 : St W w7 F := ((H8.drop 0 rfl).drop 0 rfl)
      exact ⟨vint (by unfold condE; rw [if_pos (by simp [hc9, hc11])]), H12⟩
    · skip
      refine s_gtr false rfl rfl (dfalse hc11) rfl ?_
      refine r_cons (s_pick_f (.bool false) rfl rfl rfl ?_)
      refine r_cons (s_move (.bool false) rfl rfl ?_)
      refine r_cons (r_take rfl rfl ?_)
      refine s_fieldAddr 43 0 0 0 41 rfl fi_43_0 rfl rfl ?_
      refine r_cons (r_take rfl rfl ?_)
      refine s_loadAgg [.string c.left.var.v, .string c.left.attr.v, .int .i64 c.left.val.kind.v, .int .i64 c.left.val.n.v, .string c.left.val.s.v] 5 ag_41 rfl (H8.blk_at (i := 0) rfl) (Nat.le_of_ble_eq_true rfl) rfl rfl ?_
      refine r_cons (r_take rfl rfl ?_)
      refine s_move (.slice pp1 vars.length cc2) rfl rfl ?_
      refine r_cons (r_take rfl rfl ?_)
      refine s_call [.agg #[.string c.left.var.v, .string c.left.attr.v, .int .i64 c.left.val.kind.v, .int .i64 c.left.val.n.v, .string c.left.val.s.v], .slice pp1 vars.length cc2] pl_47 rfl rfl (ref07_operand c.left vars (.slice pp1 vars.length cc2) (jv := 1) rfl H8) ?_
      rintro _ w13 ⟨rfl, H14⟩
      refine r_cons (r_take rfl rfl ?_)
      refine s_not (opE c.left vars) rfl (!(opE c.left vars)) rfl rfl ?_
      refine r_cons (s_pick_f (.bool (!(opE c.left vars))) rfl rfl rfl ?_)
      refine r_cons (s_move (.bool (!(opE c.left vars))) rfl rfl ?_)
      by_cases hb15 : (!(opE c.left vars)) = true
      · skip
        refine r_cons (r_pass rfl (congrArg some hb15) rfl rfl rfl ?_)
        refine r_cons (r_pass rfl (congrArg some hb15) rfl rfl rfl ?_)
        refine r_cons (r_pass rfl (congrArg some hb15) rfl rfl rfl ?_)
        refine r_cons (r_pass rfl (congrArg some hb15) rfl rfl rfl ?_)
        refine r_cons (r_pass rfl (congrArg some hb15) rfl rfl rfl ?_)
        refine r_cons (s_pick_t (.bool true) (by exact congrArg Value.bool hb15) rfl rfl ?_)
        refine r_cons (s_move (.bool true) rfl rfl ?_)
        refine r_cons (r_pass rfl rfl rfl rfl rfl ?_)
        refine r_cons (r_pass rfl rfl rfl rfl rfl ?_)
        refine r_cons (r_pass rfl rfl rfl rfl rfl ?_)
        refine r_cons (r_pass rfl rfl rfl rfl rfl ?_)
        refine r_cons (r_pass rfl rfl rfl rfl rfl ?_)
        refine r_cons (r_passN rfl rfl rfl rfl ?_)
        refine r_cons (r_passN rfl rfl rfl rfl ?_)
        refine r_cons (r_passN rfl rfl rfl rfl ?_)
        refine r_cons (r_passN rfl rfl rfl rfl ?_)
        refine r_cons (r_pass rfl rfl rfl rfl rfl ?_)
        refine r_cons (s_pick_t (.bool true) rfl rfl rfl ?_)
        refine r_nil ?_
        refine g_true rfl ?_
        refine g_seq ?_
        refine g_region ?_
        refine r_cons (s_assign (.int .i64 74) rfl rfl ?_)
        refine r_nil ?_
        refine g_ret' [.int .i64 74] Try.func29 Try.results29 ⟨rfl, trivial⟩ ?_
        have hb16 : ((opE c.left vars)) = false := by simpa using hb15
        have H17 : St W w13 F := ((H14.drop 0 rfl).drop 0 rfl)
        exact ⟨vint (by unfold condE; rw [if_pos (by simp [hc9, hc11, hb16])]), H17⟩
      · have hb15 := eq_false_of_ne_true hb15
        refine r_cons (r_take rfl (congrArg some hb15) ?_)
        refine s_fieldAddr 43 2 6 6 41 rfl fi_43_2 rfl rfl ?_
        refine r_cons (r_take rfl (congrArg some hb15) ?_)
        refine s_loadAgg [.string c.right.var.v, .string c.right.attr.v, .int .i64 c.right.val.kind.v, .int .i64 c.right.val.n.v, .string c.right.val.s.v] 5 ag_41 rfl (H14.blk_at (i := 0) rfl) (Nat.le_of_ble_eq_true rfl) rfl rfl ?_
        refine r_cons (r_take rfl (congrArg some hb15) ?_)
        refine s_move (.slice pp1 vars.length cc2) rfl rfl ?_
        refine r_cons (r_take rfl (congrArg some hb15) ?_)
        refine s_call [.agg #[.string c.right.var.v, .string c.right.attr.v, .int .i64 c.right.val.kind.v, .int .i64 c.right.val.n.v, .string c.right.val.s.v], .slice pp1 vars.length cc2] pl_47 rfl rfl (ref07_operand c.right vars (.slice pp1 vars.length cc2) (jv := 1) rfl H14) ?_
        rintro _ w18 ⟨rfl, H19⟩
        refine r_cons (r_take rfl (congrArg some hb15) ?_)
        refine s_not (opE c.right vars) rfl (!(opE c.right vars)) rfl rfl ?_
        refine r_cons (s_pick_f (.bool (!(opE c.right vars))) (by exact congrArg Value.bool hb15) rfl rfl ?_)
        refine r_cons (s_move (.bool (!(opE c.right vars))) rfl rfl ?_)
        by_cases hb20 : (!(opE c.right vars)) = true
        · skip
          refine r_cons (r_pass rfl (congrArg some hb20) rfl rfl rfl ?_)
          refine r_cons (r_pass rfl (congrArg some hb20) rfl rfl rfl ?_)
          refine r_cons (r_pass rfl (congrArg some hb20) rfl rfl rfl ?_)
          refine r_cons (r_pass rfl (congrArg some hb20) rfl rfl rfl ?_)
          refine r_cons (r_pass rfl (congrArg some hb20) rfl rfl rfl ?_)
          refine r_cons (r_passN rfl rfl rfl rfl ?_)
          refine r_cons (r_passN rfl rfl rfl rfl ?_)
          refine r_cons (r_passN rfl rfl rfl rfl ?_)
          refine r_cons (r_passN rfl rfl rfl rfl ?_)
          refine r_cons (r_pass rfl (congrArg some hb20) rfl rfl rfl ?_)
          refine r_cons (s_pick_t (.bool true) (by exact congrArg Value.bool hb20) rfl rfl ?_)
          refine r_nil ?_
          refine g_true rfl ?_
          refine g_seq ?_
          refine g_region ?_
          refine r_cons (s_assign (.int .i64 74) rfl rfl ?_)
          refine r_nil ?_
          refine g_ret' [.int .i64 74] Try.func29 Try.results29 ⟨rfl, trivial⟩ ?_
          have hb21 : ((opE c.left vars)) = true := by simpa using hb15
          have hb22 : ((opE c.right vars)) = false := by simpa using hb20
          have H23 : St W w18 F := ((H19.drop 0 rfl).drop 0 rfl)
          exact ⟨vint (by unfold condE; rw [if_pos (by simp [hc9, hc11, hb21, hb22])]), H23⟩
        · have hb20 := eq_false_of_ne_true hb20
          refine r_cons (r_take rfl (congrArg some hb20) ?_)
          refine s_fieldAddr 43 0 0 0 41 rfl fi_43_0 rfl rfl ?_
          refine r_cons (r_take rfl (congrArg some hb20) ?_)
          refine s_fieldAddr 41 1 1 1 9 rfl fi_41_1 rfl rfl ?_
          refine r_cons (r_take rfl (congrArg some hb20) ?_)
          refine s_load (.string c.left.attr.v) ag_9 rfl (H19.blk_at (i := 0) rfl) rfl rfl ?_
          refine r_cons (r_take rfl (congrArg some hb20) ?_)
          by_cases hc24 : c.left.attr.v = ByteArray.empty
          · skip
            refine s_seql true rfl rfl (dtrue hc24) rfl ?_
            refine r_cons (r_take rfl (congrArg some hb20) ?_)
            refine s_move (.bool true) rfl rfl ?_
            refine r_cons (r_take rfl rfl ?_)
            refine s_fieldAddr 43 2 6 6 41 rfl fi_43_2 rfl rfl ?_
            refine r_cons (r_take rfl rfl ?_)
            refine s_fieldAddr 41 1 1 7 9 rfl fi_41_1 rfl rfl ?_
            refine r_cons (r_take rfl rfl ?_)
            refine s_load (.string c.right.attr.v) ag_9 rfl (H19.blk_at (i := 0) rfl) rfl rfl ?_
            refine r_cons (r_take rfl rfl ?_)
            by_cases hc25 : c.right.attr.v = ByteArray.empty
            · skip
              refine s_seql true rfl rfl (dtrue hc25) rfl ?_
              refine r_cons (r_take rfl (congrArg some hb20) ?_)
              refine s_pick_t (.bool true) rfl rfl rfl ?_
              refine r_cons (s_pick_f (.bool true) (by exact congrArg Value.bool hb20) rfl rfl ?_)
              refine r_nil ?_
              refine g_true rfl ?_
              refine g_seq ?_
              refine g_region ?_
              refine r_cons (s_assign (.int .i64 74) rfl rfl ?_)
              refine r_nil ?_
              refine g_ret' [.int .i64 74] Try.func29 Try.results29 ⟨rfl, trivial⟩ ?_
              have hb26 : ((opE c.left vars)) = true := by simpa using hb15
              have hb27 : ((opE c.right vars)) = true := by simpa using hb20
              have H28 : St W w18 F := ((H19.drop 0 rfl).drop 0 rfl)
              exact ⟨vint (by unfold condE; rw [if_pos (by simp [hc9, hc11, hc24, hc25, hb26, hb27])]), H28⟩
            · skip
              refine s_seql false rfl rfl (dfalse hc25) rfl ?_
              refine r_cons (r_take rfl (congrArg some hb20) ?_)
              refine s_pick_t (.bool false) rfl rfl rfl ?_
              refine r_cons (s_pick_f (.bool false) (by exact congrArg Value.bool hb20) rfl rfl ?_)
              refine r_nil ?_
              refine g_false rfl ?_
              refine g_skip ?_
              refine g_seq ?_
              refine g_region ?_
              refine r_cons (s_assign (.int .i64 0) rfl rfl ?_)
              refine r_nil ?_
              refine g_ret' [.int .i64 0] Try.func29 Try.results29 ⟨rfl, trivial⟩ ?_
              have hb29 : ((opE c.left vars)) = true := by simpa using hb15
              have hb30 : ((opE c.right vars)) = true := by simpa using hb20
              have H31 : St W w18 F := ((H19.drop 0 rfl).drop 0 rfl)
              exact ⟨vint (by unfold condE; rw [if_neg (by simp [hc9, hc11, hc24, hc25, hb29, hb30])]), H31⟩
          · skip
            refine s_seql false rfl rfl (dfalse hc24) rfl ?_
            refine r_cons (r_take rfl (congrArg some hb20) ?_)
            refine s_move (.bool false) rfl rfl ?_
            refine r_cons (r_pass rfl rfl rfl rfl rfl ?_)
            refine r_cons (r_pass rfl rfl rfl rfl rfl ?_)
            refine r_cons (r_pass rfl rfl rfl rfl rfl ?_)
            refine r_cons (r_pass rfl rfl rfl rfl rfl ?_)
            refine r_cons (r_take rfl (congrArg some hb20) ?_)
            refine s_pick_f (.bool false) rfl rfl rfl ?_
            refine r_cons (s_pick_f (.bool false) (by exact congrArg Value.bool hb20) rfl rfl ?_)
            refine r_nil ?_
            refine g_false rfl ?_
            refine g_skip ?_
            refine g_seq ?_
            refine g_region ?_
            refine r_cons (s_assign (.int .i64 0) rfl rfl ?_)
            refine r_nil ?_
            refine g_ret' [.int .i64 0] Try.func29 Try.results29 ⟨rfl, trivial⟩ ?_
            have hb32 : ((opE c.left vars)) = true := by simpa using hb15
            have hb33 : ((opE c.right vars)) = true := by simpa using hb20
            have H34 : St W w18 F := ((H19.drop 0 rfl).drop 0 rfl)
            exact ⟨vint (by unfold condE; rw [if_neg (by simp [hc9, hc11, hc24, hb32, hb33])]), H34⟩
set_option maxHeartbeats 4000000 in
set_option maxRecDepth 100000 in
theorem check_conds {W w : World} {F : List Atom} (l : List CondV) (lv : Value) (vars : List Str) (vv : Value) {m : Nat} (hm : F[m]? = some (Im 11 lv l.length (l.flatMap condCell))) {jv : Nat} (hv : F[jv]? = some (Im 1 vv vars.length (vars.flatMap strCell))) (H : St W w F) : Calls Try.prog 38 #[lv, vv] w (Ret fun v w' => v = .int .i64 (condsE l vars) ∧ St W w' F) := by
  obtain ⟨pp1, cc2, rfl, hn3⟩ := Rd.shape (Im.rd H (i := m) hm)
  have H4 := H.dup (i := m + 0) (by exact hm) (Im_pers _ _ _ _)
  have H5 : St W w (Im 11 (.slice pp1 l.length cc2) l.length (l.flatMap condCell) :: F) := H4
  obtain ⟨pp6, cc7, rfl, hn8⟩ := Rd.shape (Im.rd H (i := jv) hv)
  have H9 := H5.dup (i := jv + 1) (by exact hv) (Im_pers _ _ _ _)
  have H10 : St W w (Im 1 (.slice pp6 vars.length cc7) vars.length (vars.flatMap strCell) :: Im 11 (.slice pp1 l.length cc2) l.length (l.flatMap condCell) :: F) := H9
  obtain ⟨pA11, cA12, gA13, oA14, kA15, eA16, zA17, he23, hn18, hp19, hx20, hs21, hml, H22⟩ := Im.open_ H10 (i := 1) rfl
  obtain ⟨rfl, rfl⟩ : pp1 = pA11 ∧ cc2 = cA12 := by injection he23 with a_ b_ c_; exact ⟨a_, c_⟩
  refine calls_of_go (n := 24) Try.func38 rfl Try.ntmps38 rfl ?_
  refine g_seq ?_
  refine g_region ?_
  refine r_cons (s_assign (.int .i64 0) rfl rfl ?_)
  refine r_nil ?_
  refine g_seq ?_
  refine g_seq ?_
  refine g_region ?_
  refine r_cons (s_move (.slice pp1 l.length cc2) rfl rfl ?_)
  refine r_cons (s_len l.length rfl ⟨_, un_22⟩ rfl ?_)
  by_cases hc24 : (16 : Int) < (l.length : Int)
  · skip
    refine r_cons (s_gtr true rfl rfl (dtrue hc24) rfl ?_)
    refine r_nil ?_
    refine g_true rfl ?_
    refine g_seq ?_
    refine g_region ?_
    refine r_cons (s_assign (.int .i64 74) rfl rfl ?_)
    refine r_nil ?_
    refine g_ret' [.int .i64 74] Try.func38 Try.results38 ⟨rfl, trivial⟩ ?_
    have H25 : St W w F := (((H22.drop 0 rfl).drop 0 rfl).drop 0 rfl)
    exact ⟨vint (by unfold condsE; rw [if_pos (by omega)]), H25⟩
  · skip
    refine r_cons (s_gtr false rfl rfl (dfalse hc24) rfl ?_)
    refine r_nil ?_
    refine g_false rfl ?_
    refine g_skip ?_
    refine g_seq ?_
    refine g_seq ?_
    refine g_region ?_
    refine r_cons (s_move (.slice pp1 l.length cc2) rfl rfl ?_)
    refine r_cons (s_len l.length rfl ⟨_, un_22⟩ rfl ?_)
    refine r_cons (s_move (.int .i64 0) rfl rfl ?_)
    refine r_nil ?_
    refine g_block ?_
    have H26 : St W w (imi (0 < l.length) gA13 (.cells kA15 eA16 zA17) :: Im 1 (.slice pp6 vars.length cc7) vars.length (vars.flatMap strCell) :: Im 11 (.slice pp1 l.length cc2) l.length (l.flatMap condCell) :: F) := (((H22.move 2 rfl).move 2 rfl).move 2 rfl)
    refine g_loop_inv (fun (x_ : Nat) => match x_ with | j => [(1, .slice pp6 vars.length cc7), (4, .int .i64 0), (11, .slice pp1 l.length cc2), (12, .int .i64 (l.length : Int)), (13, .int .i64 (j : Int))]) (fun (x_ : Nat) w => match x_ with | j => (j ≤ l.length) ∧ (∀ q, q < j → condE (l.getD q default) vars = 0) ∧ St W w (imi (0 < l.length) gA13 (.cells kA15 eA16 zA17) :: Im 1 (.slice pp6 vars.length cc7) vars.length (vars.flatMap strCell) :: Im 11 (.slice pp1 l.length cc2) l.length (l.flatMap condCell) :: F)) (fun (x_ : Nat) => match x_ with | j => l.length - j) (0) ?_ ?_ ?_
    · exact ⟨by first | rfl | exact vint (by omega), by first | rfl | exact vint (by omega), by first | rfl | exact vint (by omega), by first | rfl | exact vint (by omega), by first | rfl | exact vint (by omega), trivial⟩
    · exact ⟨(by omega), (fun q hq => by omega), H26⟩
    · rintro j ρ27 w28 ⟨hjn, hz, H29⟩ nx30
      change Ends _ _ (upds ρ27 [(1, .slice pp6 vars.length cc7), (4, .int .i64 0), (11, .slice pp1 l.length cc2), (12, .int .i64 (l.length : Int)), (13, .int .i64 (j : Int))]) w28
      refine g_seq ?_
      refine g_region ?_
      by_cases hc31 : (j : Int) < (l.length : Int)
      · skip
        refine r_cons (s_lss true rfl rfl (dtrue hc31) rfl ?_)
        refine r_nil ?_
        refine g_seq ?_
        refine g_true rfl ?_
        refine g_skip ?_
        refine g_seq ?_
        refine g_block ?_
        refine g_seq ?_
        refine g_region ?_
        refine r_cons (s_indexAddr gA13 (off := oA14) (j : Int) 11 (oA14 + j * 11) (by exact congrArg (fun z_ => Value.slice z_ l.length cc2) (hp19 (by omega))) rfl el_22 (by omega) rfl rfl ?_)
        refine r_cons (s_loadAgg [.string ((l.getD j default).left.var.v), .string ((l.getD j default).left.attr.v), .int .i64 ((l.getD j default).left.val.kind.v), .int .i64 ((l.getD j default).left.val.n.v), .string ((l.getD j default).left.val.s.v), .int .i64 ((l.getD j default).rel.v), .string ((l.getD j default).right.var.v), .string ((l.getD j default).right.attr.v), .int .i64 ((l.getD j default).right.val.kind.v), .int .i64 ((l.getD j default).right.val.n.v), .string ((l.getD j default).right.val.s.v)] 11 ag_43 rfl (H29.imi_at (i := 0) rfl (by omega)) (by have := elem_size (i := j) (s := 11) (hs21 (by omega)) (by omega); omega) (elem_take condCell_len (hx20 (by omega)) (by omega) default) rfl ?_)
        refine r_cons (s_alloc H29 43 ze_43 rfl ?_); intro bk32 w33 H34
        refine r_cons (s_storeAgg H34 0 #[.string ((l.getD j default).left.var.v), .string ((l.getD j default).left.attr.v), .int .i64 ((l.getD j default).left.val.kind.v), .int .i64 ((l.getD j default).left.val.n.v), .string ((l.getD j default).left.val.s.v), .int .i64 ((l.getD j default).rel.v), .string ((l.getD j default).right.var.v), .string ((l.getD j default).right.attr.v), .int .i64 ((l.getD j default).right.val.kind.v), .int .i64 ((l.getD j default).right.val.n.v), .string ((l.getD j default).right.val.s.v)] 11 rfl rfl rfl sz_43 rfl (by simp [Value.oneCell']) (Nat.le_of_ble_eq_true rfl) (fun o h1 h2 => by first | (simp; done) | (simp; omega)) (cs' := #[.string ((l.getD j default).left.var.v), .string ((l.getD j default).left.attr.v), .int .i64 ((l.getD j default).left.val.kind.v), .int .i64 ((l.getD j default).left.val.n.v), .string ((l.getD j default).left.val.s.v), .int .i64 ((l.getD j default).rel.v), .string ((l.getD j default).right.var.v), .string ((l.getD j default).right.attr.v), .int .i64 ((l.getD j default).right.val.kind.v), .int .i64 ((l.getD j default).right.val.n.v), .string ((l.getD j default).right.val.s.v)]) (by kernel_rfl) ?_); intro w35 H36
        refine r_nil ?_
        refine g_seq ?_
        refine g_region ?_
        refine r_cons (s_loadAgg [.string ((l.getD j default).left.var.v), .string ((l.getD j default).left.attr.v), .int .i64 ((l.getD j default).left.val.kind.v), .int .i64 ((l.getD j default).left.val.n.v), .string ((l.getD j default).left.val.s.v), .int .i64 ((l.getD j default).rel.v), .string ((l.getD j default).right.var.v), .string ((l.getD j default).right.attr.v), .int .i64 ((l.getD j default).right.val.kind.v), .int .i64 ((l.getD j default).right.val.n.v), .string ((l.getD j default).right.val.s.v)] 11 ag_43 rfl (H36.blk_at (i := 0) rfl) (Nat.le_of_ble_eq_true rfl) rfl rfl ?_)
        refine r_cons (s_move (.slice pp6 vars.length cc7) rfl rfl ?_)
        refine r_cons (s_call [.agg #[.string ((l.getD j default).left.var.v), .string ((l.getD j default).left.attr.v), .int .i64 ((l.getD j default).left.val.kind.v), .int .i64 ((l.getD j default).left.val.n.v), .string ((l.getD j default).left.val.s.v), .int .i64 ((l.getD j default).rel.v), .string ((l.getD j default).right.var.v), .string ((l.getD j default).right.attr.v), .int .i64 ((l.getD j default).right.val.kind.v), .int .i64 ((l.getD j default).right.val.n.v), .string ((l.getD j default).right.val.s.v)], .slice pp6 vars.length cc7] pl_28 rfl rfl (check_Cond (l.getD j default) vars (.slice pp6 vars.length cc7) (jv := 2) rfl H36) ?_)
        rintro _ w37 ⟨rfl, H38⟩
        refine r_cons (s_assign (.int .i64 (condE (l.getD j default) vars)) rfl rfl ?_)
        refine r_nil ?_
        refine g_seq ?_
        refine g_region ?_
        refine r_cons (s_move (.int .i64 (condE (l.getD j default) vars)) rfl rfl ?_)
        by_cases hc39 : condE (l.getD j default) vars = 0
        · skip
          refine r_cons (s_neq false rfl rfl (ntrue hc39) rfl ?_)
          refine r_nil ?_
          refine g_false rfl ?_
          refine g_skip ?_
          refine g_inBlock ?_
          refine g_region ?_
          refine r_cons (s_add ((j : Int) + 1) rfl rfl (wi64 (by omega)) rfl ?_)
          refine r_cons (s_move (.int .i64 ((j : Int) + 1)) rfl rfl ?_)
          refine r_nil ?_
          have H40 : St W w37 (imi (0 < l.length) gA13 (.cells kA15 eA16 zA17) :: Im 1 (.slice pp6 vars.length cc7) vars.length (vars.flatMap strCell) :: Im 11 (.slice pp1 l.length cc2) l.length (l.flatMap condCell) :: F) := ((((H38.move 3 rfl).move 3 rfl).move 3 rfl).drop 3 rfl)
          exact nx30 (j + 1) _ _ ⟨(by omega), (fun q hq => (Nat.lt_or_ge q j).elim (hz q) (fun h => by rw [show q = j from by omega]; exact hc39)), H40⟩ (by first | (dsimp only; omega) | omega) ⟨by first | rfl | exact vint (by omega), by first | rfl | exact vint (by omega), by first | rfl | exact vint (by omega), by first | rfl | exact vint (by omega), by first | rfl | exact vint (by omega), trivial⟩
        · skip
          refine r_cons (s_neq true rfl rfl (nfalse hc39) rfl ?_)
          refine r_nil ?_
          refine g_true rfl ?_
          refine g_seq ?_
          refine g_region ?_
          refine r_cons (s_move (.int .i64 (condE (l.getD j default) vars)) rfl rfl ?_)
          refine r_cons (s_assign (.int .i64 (condE (l.getD j default) vars)) rfl rfl ?_)
          refine r_nil ?_
          refine g_ret' [.int .i64 (condE (l.getD j default) vars)] Try.func38 Try.results38 ⟨rfl, trivial⟩ ?_
          have H41 : St W w37 F := ((((H38.drop 0 rfl).drop 0 rfl).drop 0 rfl).drop 0 rfl)
          exact ⟨vint (by unfold condsE; rw [if_neg (by omega)]; exact firstE_at (f := (fun c => condE c vars)) hz (by omega) (by omega)), H41⟩
      · skip
        refine r_cons (s_lss false rfl rfl (dfalse hc31) rfl ?_)
        refine r_nil ?_
        refine g_seq ?_
        refine g_false rfl ?_
        refine g_exit (by rfl) ?_
        refine g_seq ?_
        refine g_region ?_
        refine r_cons (s_assign (.int .i64 0) rfl rfl ?_)
        refine r_nil ?_
        refine g_ret' [.int .i64 0] Try.func38 Try.results38 ⟨rfl, trivial⟩ ?_
        have H42 : St W w28 F := (((H29.drop 0 rfl).drop 0 rfl).drop 0 rfl)
        exact ⟨vint (by unfold condsE; rw [if_neg (by omega)]; exact firstE_end (f := (fun c => condE c vars)) hz (by omega)), H42⟩
set_option maxHeartbeats 4000000 in
set_option maxRecDepth 100000 in
theorem check_node_r (N : Nat) : ∀ (n : NodeD), sizeOf n < N → ∀ {W w : World} {F : List Atom}  {i : Nat} (hi : F[i]? = some (NodeA n)) (H : St W w F), Calls Try.prog 40 #[.agg #[.int .i64 n.kind.v, .string n.var.v, .string n.typ.v, .slice n.tp n.tests.length n.tc, .slice n.kp n.kids.length n.kc]] w (Ret fun v w' => v = .int .i64 (nodeE n) ∧ St W w' F) := by
  induction N with | zero => exact fun n hN => absurd hN (Nat.not_lt_zero _) | succ N ih => ?_
  intro n hN W w F i hi H
  have H1 := NodeA.kids H (i := i + 0) (by exact hi)
  have H2 := NodeA.tests H1 (i := i + 2) (by exact hi)
  have H3 : St W w (Im 11 (.slice n.tp n.tests.length n.tc) n.tests.length (n.tests.flatMap condCell) :: Im 5 (.slice n.kp n.kids.length n.kc) n.kids.length (n.kids.flatMap nodeCell) :: NodesA n.kids :: F) := H2
  refine calls_of_go (n := 70) Try.func40 rfl Try.ntmps40 rfl ?_
  refine g_seq ?_
  refine g_region ?_
  refine r_cons (s_box H3 25 (.agg #[.int .i64 n.kind.v, .string n.var.v, .string n.typ.v, .slice n.tp n.tests.length n.tc, .slice n.kp n.kids.length n.kc]) rfl (cs := #[.int .i64 n.kind.v, .string n.var.v, .string n.typ.v, .slice n.tp n.tests.length n.tc, .slice n.kp n.kids.length n.kc]) rfl rfl ?_); intro bk4 w5 H6
  refine r_cons (s_assign (.int .i64 0) rfl rfl ?_)
  refine r_nil ?_
  refine g_seq ?_
  refine g_seq ?_
  refine g_region ?_
  refine r_cons (s_fieldAddr 25 0 0 0 3 rfl fi_25_0 rfl rfl ?_)
  refine r_cons (s_load (.int .i64 n.kind.v) ag_3 rfl (H6.blk_at (i := 0) rfl) rfl rfl ?_)
  refine r_nil ?_
  refine g_block ?_
  refine g_seq ?_
  refine g_region ?_
  by_cases hc7 : n.kind.v = 1
  · skip
    refine r_cons (s_eql true rfl rfl (dtrue hc7) rfl ?_)
    refine r_cons (s_assign (.bool true) rfl rfl ?_)
    refine r_nil ?_
    refine g_true rfl ?_
    refine g_seq ?_
    refine g_seq ?_
    refine g_region ?_
    refine r_cons (s_fieldAddr 25 4 4 4 23 rfl fi_25_4 rfl rfl ?_)
    refine r_cons (s_load (.slice n.kp n.kids.length n.kc) ag_23 rfl (H6.blk_at (i := 0) rfl) rfl rfl ?_)
    refine r_cons (s_len n.kids.length rfl ⟨_, un_23⟩ rfl ?_)
    by_cases hc8 : (0 : Int) < (n.kids.length : Int)
    · skip
      refine r_cons (s_gtr true rfl rfl (dtrue hc8) rfl ?_)
      refine r_cons (s_move (.bool true) rfl rfl ?_)
      refine r_cons (r_pass rfl rfl rfl rfl rfl ?_)
      refine r_cons (r_pass rfl rfl rfl rfl rfl ?_)
      refine r_cons (r_pass rfl rfl rfl rfl rfl ?_)
      refine r_cons (r_pass rfl rfl rfl rfl rfl ?_)
      refine r_cons (s_pick_t (.bool true) rfl rfl rfl ?_)
      refine r_cons (s_move (.bool true) rfl rfl ?_)
      refine r_cons (r_pass rfl rfl rfl rfl rfl ?_)
      refine r_cons (r_pass rfl rfl rfl rfl rfl ?_)
      refine r_cons (r_pass rfl rfl rfl rfl rfl ?_)
      refine r_cons (r_pass rfl rfl rfl rfl rfl ?_)
      refine r_cons (s_pick_t (.bool true) rfl rfl rfl ?_)
      refine r_nil ?_
      refine g_true rfl ?_
      refine g_seq ?_
      refine g_region ?_
      refine r_cons (s_assign (.int .i64 71) rfl rfl ?_)
      refine r_nil ?_
      refine g_ret' [.int .i64 71] Try.func40 Try.results40 ⟨rfl, trivial⟩ ?_
      have hN9 : (0 < n.kids.length) := by omega
      have ho10 : ownE n.kind.v n.var.v n.typ.v n.tests n.kids.length = 71 := by unfold ownE; simp [hc7, hN9]
      have H11 : St W w5 F := ((((H6.drop 0 rfl).drop 0 rfl).drop 0 rfl).drop 0 rfl)
      exact ⟨vint (nodeE_own ho10 (by omega)), H11⟩
    · skip
      refine r_cons (s_gtr false rfl rfl (dfalse hc8) rfl ?_)
      refine r_cons (s_move (.bool false) rfl rfl ?_)
      refine r_cons (r_take rfl rfl ?_)
      refine s_fieldAddr 25 1 1 1 9 rfl fi_25_1 rfl rfl ?_
      refine r_cons (r_take rfl rfl ?_)
      refine s_load (.string n.var.v) ag_9 rfl (H6.blk_at (i := 0) rfl) rfl rfl ?_
      refine r_cons (r_take rfl rfl ?_)
      refine s_call [.string n.var.v] pl_37 rfl rfl (value_Name n.var.v n.var.ok H6) ?_
      rintro _ w12 ⟨rfl, H13⟩
      refine r_cons (r_take rfl rfl ?_)
      refine s_not (nameB n.var.v) rfl (!(nameB n.var.v)) rfl rfl ?_
      refine r_cons (s_pick_f (.bool (!(nameB n.var.v))) rfl rfl rfl ?_)
      refine r_cons (s_move (.bool (!(nameB n.var.v))) rfl rfl ?_)
      by_cases hb14 : (!(nameB n.var.v)) = true
      · skip
        refine r_cons (r_pass rfl (congrArg some hb14) rfl rfl rfl ?_)
        refine r_cons (r_pass rfl (congrArg some hb14) rfl rfl rfl ?_)
        refine r_cons (r_pass rfl (congrArg some hb14) rfl rfl rfl ?_)
        refine r_cons (r_pass rfl (congrArg some hb14) rfl rfl rfl ?_)
        refine r_cons (s_pick_t (.bool true) (by exact congrArg Value.bool hb14) rfl rfl ?_)
        refine r_nil ?_
        refine g_true rfl ?_
        refine g_seq ?_
        refine g_region ?_
        refine r_cons (s_assign (.int .i64 71) rfl rfl ?_)
        refine r_nil ?_
        refine g_ret' [.int .i64 71] Try.func40 Try.results40 ⟨rfl, trivial⟩ ?_
        have hN15 : ¬ (0 < n.kids.length) := by omega
        have hb16 : ((nameB n.var.v)) = false := by simpa using hb14
        have ho17 : ownE n.kind.v n.var.v n.typ.v n.tests n.kids.length = 71 := by unfold ownE; simp [hc7, hN15, hb16]
        have H18 : St W w12 F := ((((H13.drop 0 rfl).drop 0 rfl).drop 0 rfl).drop 0 rfl)
        exact ⟨vint (nodeE_own ho17 (by omega)), H18⟩
      · have hb14 := eq_false_of_ne_true hb14
        refine r_cons (r_take rfl (congrArg some hb14) ?_)
        refine s_fieldAddr 25 2 2 2 9 rfl fi_25_2 rfl rfl ?_
        refine r_cons (r_take rfl (congrArg some hb14) ?_)
        refine s_load (.string n.typ.v) ag_9 rfl (H13.blk_at (i := 0) rfl) rfl rfl ?_
        refine r_cons (r_take rfl (congrArg some hb14) ?_)
        refine s_call [.string n.typ.v] pl_37 rfl rfl (value_Name n.typ.v n.typ.ok H13) ?_
        rintro _ w19 ⟨rfl, H20⟩
        refine r_cons (r_take rfl (congrArg some hb14) ?_)
        refine s_not (nameB n.typ.v) rfl (!(nameB n.typ.v)) rfl rfl ?_
        refine r_cons (s_pick_f (.bool (!(nameB n.typ.v))) (by exact congrArg Value.bool hb14) rfl rfl ?_)
        refine r_nil ?_
        by_cases hb21 : (!(nameB n.typ.v)) = true
        · skip
          refine g_true (congrArg Value.bool hb21) ?_
          refine g_seq ?_
          refine g_region ?_
          refine r_cons (s_assign (.int .i64 71) rfl rfl ?_)
          refine r_nil ?_
          refine g_ret' [.int .i64 71] Try.func40 Try.results40 ⟨rfl, trivial⟩ ?_
          have hN22 : ¬ (0 < n.kids.length) := by omega
          have hb23 : ((nameB n.var.v)) = true := by simpa using hb14
          have hb24 : ((nameB n.typ.v)) = false := by simpa using hb21
          have ho25 : ownE n.kind.v n.var.v n.typ.v n.tests n.kids.length = 71 := by unfold ownE; simp [hc7, hN22, hb23, hb24]
          have H26 : St W w19 F := ((((H20.drop 0 rfl).drop 0 rfl).drop 0 rfl).drop 0 rfl)
          exact ⟨vint (nodeE_own ho25 (by omega)), H26⟩
        · have hb21 := eq_false_of_ne_true hb21
          refine g_false (congrArg Value.bool hb21) ?_
          refine g_skip ?_
          refine g_seq ?_
          refine g_region ?_
          refine r_cons (s_fieldAddr 25 3 3 3 22 rfl fi_25_3 rfl rfl ?_)
          refine r_cons (s_load (.slice n.tp n.tests.length n.tc) ag_22 rfl (H20.blk_at (i := 0) rfl) rfl rfl ?_)
          have H27 : St W w19 (Im 1 (.slice none 0 0) (([] : List Str).length) (([] : List Str).flatMap strCell) :: blk bk4 (.cells #[.int .i64 n.kind.v, .string n.var.v, .string n.typ.v, .slice n.tp n.tests.length n.tc, .slice n.kp n.kids.length n.kc] 25 (0, 0)) :: Im 11 (.slice n.tp n.tests.length n.tc) n.tests.length (n.tests.flatMap condCell) :: Im 5 (.slice n.kp n.kids.length n.kc) n.kids.length (n.kids.flatMap nodeCell) :: NodesA n.kids :: F) := Row.im (Row.nil_intro H20 9 1) (i := 0) rfl
          refine r_cons (s_call [.slice n.tp n.tests.length n.tc, .slice none 0 0] pl_38 rfl rfl (check_conds n.tests (.slice n.tp n.tests.length n.tc) ([] : List Str) (.slice none 0 0) (m := 2) rfl (jv := 0) rfl H27) ?_)
          rintro _ w28 ⟨rfl, H29⟩
          refine r_cons (s_assign (.int .i64 (condsE n.tests ([] : List Str))) rfl rfl ?_)
          refine r_nil ?_
          refine g_seq ?_
          refine g_region ?_
          refine r_cons (s_move (.int .i64 (condsE n.tests ([] : List Str))) rfl rfl ?_)
          by_cases hc30 : condsE n.tests ([] : List Str) = 0
          · skip
            refine r_cons (s_neq false rfl rfl (ntrue hc30) rfl ?_)
            refine r_nil ?_
            refine g_false rfl ?_
            refine g_skip ?_
            refine g_inBlock ?_
            refine g_seq ?_
            refine g_seq ?_
            refine g_region ?_
            refine r_cons (s_fieldAddr 25 4 4 4 23 rfl fi_25_4 rfl rfl ?_)
            refine r_cons (s_load (.slice n.kp n.kids.length n.kc) ag_23 rfl (H29.blk_at (i := 1) rfl) rfl rfl ?_)
            refine r_cons (s_len n.kids.length rfl ⟨_, un_23⟩ rfl ?_)
            refine r_cons (s_move (.int .i64 0) rfl rfl ?_)
            refine r_nil ?_
            refine g_block ?_
            have hN31 : ¬ (0 < n.kids.length) := by omega
            have hb32 : ((nameB n.var.v)) = true := by simpa using hb14
            have hb33 : ((nameB n.typ.v)) = true := by simpa using hb21
            have ho34 : ownE n.kind.v n.var.v n.typ.v n.tests n.kids.length = 0 := by unfold ownE; simp [hc7, hN31, hc30, hb32, hb33]
            obtain ⟨pA35, cA36, gA37, oA38, kA39, eA40, zA41, he47, hn42, hp43, hx44, hs45, hml, H46⟩ := Im.open_ H29 (i := 3) rfl
            obtain ⟨rfl, rfl⟩ : n.kp = pA35 ∧ n.kc = cA36 := by injection he47 with a_ b_ c_; exact ⟨a_, c_⟩
            have H48 : St W w28 (imi (0 < n.kids.length) gA37 (.cells kA39 eA40 zA41) :: Im 1 (.slice none 0 0) (([] : List Str).length) (([] : List Str).flatMap strCell) :: Im 11 (.slice n.tp n.tests.length n.tc) n.tests.length (n.tests.flatMap condCell) :: Im 5 (.slice n.kp n.kids.length n.kc) n.kids.length (n.kids.flatMap nodeCell) :: NodesA n.kids :: F) := ((((((H46.move 5 rfl).move 5 rfl).move 5 rfl).move 4 rfl).move 4 rfl).drop 5 rfl)
            refine g_loop_inv (fun (x_ : Nat) => match x_ with | j => [(2, .int .i64 0), (58, .slice n.kp n.kids.length n.kc), (59, .int .i64 (n.kids.length : Int)), (60, .int .i64 (j : Int))]) (fun (x_ : Nat) w => match x_ with | j => (j ≤ n.kids.length) ∧ (∀ q, q < j → nodeE (n.kids.getD q default) = 0) ∧ St W w (imi (0 < n.kids.length) gA37 (.cells kA39 eA40 zA41) :: Im 1 (.slice none 0 0) (([] : List Str).length) (([] : List Str).flatMap strCell) :: Im 11 (.slice n.tp n.tests.length n.tc) n.tests.length (n.tests.flatMap condCell) :: Im 5 (.slice n.kp n.kids.length n.kc) n.kids.length (n.kids.flatMap nodeCell) :: NodesA n.kids :: F)) (fun (x_ : Nat) => match x_ with | j => n.kids.length - j) (0) ?_ ?_ ?_
            · exact ⟨by first | rfl | exact vint (by omega), by first | rfl | exact vint (by omega), by first | rfl | exact vint (by omega), by first | rfl | exact vint (by omega), trivial⟩
            · exact ⟨(by omega), (fun q hq => by omega), H48⟩
            · rintro j ρ49 w50 ⟨hjl, hz, H51⟩ nx52
              change Ends _ _ (upds ρ49 [(2, .int .i64 0), (58, .slice n.kp n.kids.length n.kc), (59, .int .i64 (n.kids.length : Int)), (60, .int .i64 (j : Int))]) w50
              refine g_seq ?_
              refine g_region ?_
              by_cases hc53 : (j : Int) < (n.kids.length : Int)
              · skip
                refine r_cons (s_lss true rfl rfl (dtrue hc53) rfl ?_)
                refine r_nil ?_
                refine g_seq ?_
                refine g_true rfl ?_
                refine g_skip ?_
                refine g_seq ?_
                refine g_block ?_
                refine g_seq ?_
                refine g_region ?_
                refine r_cons (s_indexAddr gA37 (off := oA38) (j : Int) 5 (oA38 + j * 5) (by exact congrArg (fun z_ => Value.slice z_ n.kids.length n.kc) (hp43 (by omega))) rfl el_23 (by omega) rfl rfl ?_)
                refine r_cons (s_loadAgg [.int .i64 ((n.kids.getD j default).kind.v), .string ((n.kids.getD j default).var.v), .string ((n.kids.getD j default).typ.v), .slice ((n.kids.getD j default).tp) ((n.kids.getD j default).tests.length) ((n.kids.getD j default).tc), .slice ((n.kids.getD j default).kp) ((n.kids.getD j default).kids.length) ((n.kids.getD j default).kc)] 5 ag_25 rfl (H51.imi_at (i := 0) rfl (by omega)) (by have := elem_size (i := j) (s := 5) (hs45 (by omega)) (by omega); omega) (elem_take nodeCell_len (hx44 (by omega)) (by omega) default) rfl ?_)
                refine r_cons (s_alloc H51 25 ze_25 rfl ?_); intro bk54 w55 H56
                refine r_cons (s_storeAgg H56 0 #[.int .i64 ((n.kids.getD j default).kind.v), .string ((n.kids.getD j default).var.v), .string ((n.kids.getD j default).typ.v), .slice ((n.kids.getD j default).tp) ((n.kids.getD j default).tests.length) ((n.kids.getD j default).tc), .slice ((n.kids.getD j default).kp) ((n.kids.getD j default).kids.length) ((n.kids.getD j default).kc)] 5 rfl rfl rfl sz_25 rfl (by simp [Value.oneCell']) (Nat.le_of_ble_eq_true rfl) (fun o h1 h2 => by first | (simp; done) | (simp; omega)) (cs' := #[.int .i64 ((n.kids.getD j default).kind.v), .string ((n.kids.getD j default).var.v), .string ((n.kids.getD j default).typ.v), .slice ((n.kids.getD j default).tp) ((n.kids.getD j default).tests.length) ((n.kids.getD j default).tc), .slice ((n.kids.getD j default).kp) ((n.kids.getD j default).kids.length) ((n.kids.getD j default).kc)]) rfl ?_); intro w57 H58
                refine r_nil ?_
                refine g_seq ?_
                refine g_region ?_
                refine r_cons (s_loadAgg [.int .i64 ((n.kids.getD j default).kind.v), .string ((n.kids.getD j default).var.v), .string ((n.kids.getD j default).typ.v), .slice ((n.kids.getD j default).tp) ((n.kids.getD j default).tests.length) ((n.kids.getD j default).tc), .slice ((n.kids.getD j default).kp) ((n.kids.getD j default).kids.length) ((n.kids.getD j default).kc)] 5 ag_25 rfl (H58.blk_at (i := 0) rfl) (Nat.le_of_ble_eq_true rfl) rfl rfl ?_)
                have H59 := NodesA.at H58 (i := 5) rfl (j := j) (by omega)
                refine r_cons (s_call [.agg #[.int .i64 ((n.kids.getD j default).kind.v), .string ((n.kids.getD j default).var.v), .string ((n.kids.getD j default).typ.v), .slice ((n.kids.getD j default).tp) ((n.kids.getD j default).tests.length) ((n.kids.getD j default).tc), .slice ((n.kids.getD j default).kp) ((n.kids.getD j default).kids.length) ((n.kids.getD j default).kc)]] pl_40 rfl rfl (ih (n.kids.getD j default) (by have h9 := kid_lt (n := n) (j := j) (by omega); omega) (i := 0) rfl H59) ?_)
                rintro _ w60 ⟨rfl, H61⟩
                refine r_cons (s_assign (.int .i64 (nodeE (n.kids.getD j default))) rfl rfl ?_)
                refine r_nil ?_
                refine g_seq ?_
                refine g_region ?_
                refine r_cons (s_move (.int .i64 (nodeE (n.kids.getD j default))) rfl rfl ?_)
                by_cases hc62 : nodeE (n.kids.getD j default) = 0
                · skip
                  refine r_cons (s_neq false rfl rfl (ntrue hc62) rfl ?_)
                  refine r_nil ?_
                  refine g_false rfl ?_
                  refine g_skip ?_
                  refine g_inBlock ?_
                  refine g_region ?_
                  refine r_cons (s_add ((j : Int) + 1) rfl rfl (wi64 (by omega)) rfl ?_)
                  refine r_cons (s_move (.int .i64 ((j : Int) + 1)) rfl rfl ?_)
                  refine r_nil ?_
                  have H63 : St W w60 (imi (0 < n.kids.length) gA37 (.cells kA39 eA40 zA41) :: Im 1 (.slice none 0 0) (([] : List Str).length) (([] : List Str).flatMap strCell) :: Im 11 (.slice n.tp n.tests.length n.tc) n.tests.length (n.tests.flatMap condCell) :: Im 5 (.slice n.kp n.kids.length n.kc) n.kids.length (n.kids.flatMap nodeCell) :: NodesA n.kids :: F) := (((((((H61.move 6 rfl).move 6 rfl).move 6 rfl).move 6 rfl).move 6 rfl).drop 5 rfl).drop 5 rfl)
                  exact nx52 (j + 1) _ _ ⟨(by omega), (fun q hq => (Nat.lt_or_ge q j).elim (hz q) (fun h => by rw [show q = j from by omega]; exact hc62)), H63⟩ (by first | (dsimp only; omega) | omega) ⟨by first | rfl | exact vint (by omega), by first | rfl | exact vint (by omega), by first | rfl | exact vint (by omega), by first | rfl | exact vint (by omega), trivial⟩
                · skip
                  refine r_cons (s_neq true rfl rfl (nfalse hc62) rfl ?_)
                  refine r_nil ?_
                  refine g_true rfl ?_
                  refine g_seq ?_
                  refine g_region ?_
                  refine r_cons (s_move (.int .i64 (nodeE (n.kids.getD j default))) rfl rfl ?_)
                  refine r_cons (s_assign (.int .i64 (nodeE (n.kids.getD j default))) rfl rfl ?_)
                  refine r_nil ?_
                  refine g_ret' [.int .i64 (nodeE (n.kids.getD j default))] Try.func40 Try.results40 ⟨rfl, trivial⟩ ?_
                  have H64 : St W w60 F := (((((((H61.drop 0 rfl).drop 0 rfl).drop 0 rfl).drop 0 rfl).drop 0 rfl).drop 0 rfl).drop 0 rfl)
                  exact ⟨vint ((firstE_at (f := nodeE) hz (by omega) (by omega)).trans (nodeE_kids ho34).symm), H64⟩
              · skip
                refine r_cons (s_lss false rfl rfl (dfalse hc53) rfl ?_)
                refine r_nil ?_
                refine g_seq ?_
                refine g_false rfl ?_
                refine g_exit (by rfl) ?_
                refine g_seq ?_
                refine g_region ?_
                refine r_cons (s_assign (.int .i64 0) rfl rfl ?_)
                refine r_nil ?_
                refine g_ret' [.int .i64 0] Try.func40 Try.results40 ⟨rfl, trivial⟩ ?_
                have H65 : St W w50 F := (((((H51.drop 0 rfl).drop 0 rfl).drop 0 rfl).drop 0 rfl).drop 0 rfl)
                exact ⟨vint ((firstE_end (f := nodeE) hz (by omega)).trans (nodeE_kids ho34).symm), H65⟩
          · skip
            refine r_cons (s_neq true rfl rfl (nfalse hc30) rfl ?_)
            refine r_nil ?_
            refine g_true rfl ?_
            refine g_seq ?_
            refine g_region ?_
            refine r_cons (s_move (.int .i64 (condsE n.tests ([] : List Str))) rfl rfl ?_)
            refine r_cons (s_assign (.int .i64 (condsE n.tests ([] : List Str))) rfl rfl ?_)
            refine r_nil ?_
            refine g_ret' [.int .i64 (condsE n.tests ([] : List Str))] Try.func40 Try.results40 ⟨rfl, trivial⟩ ?_
            have hN66 : ¬ (0 < n.kids.length) := by omega
            have hb67 : ((nameB n.var.v)) = true := by simpa using hb14
            have hb68 : ((nameB n.typ.v)) = true := by simpa using hb21
            have ho69 : ownE n.kind.v n.var.v n.typ.v n.tests n.kids.length = condsE n.tests ([] : List Str) := by unfold ownE; simp [hc7, hN66, hc30, hb67, hb68]
            have H70 : St W w28 F := (((((H29.drop 0 rfl).drop 0 rfl).drop 0 rfl).drop 0 rfl).drop 0 rfl)
            exact ⟨vint (nodeE_own ho69 (by omega)), H70⟩
  · skip
    refine r_cons (s_eql false rfl rfl (dfalse hc7) rfl ?_)
    refine r_cons (s_assign (.bool false) rfl rfl ?_)
    refine r_nil ?_
    refine g_false rfl ?_
    refine g_seq ?_
    refine g_seq ?_
    refine g_region ?_
    by_cases hc71 : n.kind.v = 2
    · skip
      refine r_cons (s_eql true rfl rfl (dtrue hc71) rfl ?_)
      refine r_cons (s_assign (.bool true) rfl rfl ?_)
      refine r_nil ?_
      refine g_true rfl ?_
      refine g_skip ?_
      refine g_true rfl ?_
      refine g_seq ?_
      refine g_region ?_
      refine r_cons (s_fieldAddr 25 4 4 4 23 rfl fi_25_4 rfl rfl ?_)
      refine r_cons (s_load (.slice n.kp n.kids.length n.kc) ag_23 rfl (H6.blk_at (i := 0) rfl) rfl rfl ?_)
      refine r_cons (s_len n.kids.length rfl ⟨_, un_23⟩ rfl ?_)
      by_cases hc72 : (n.kids.length : Int) < 2
      · skip
        refine r_cons (s_lss true rfl rfl (dtrue hc72) rfl ?_)
        refine r_cons (s_move (.bool true) rfl rfl ?_)
        refine r_cons (r_pass rfl rfl rfl rfl rfl ?_)
        refine r_cons (r_pass rfl rfl rfl rfl rfl ?_)
        refine r_cons (r_pass rfl rfl rfl rfl rfl ?_)
        refine r_cons (s_pick_t (.bool true) rfl rfl rfl ?_)
        refine r_cons (s_move (.bool true) rfl rfl ?_)
        refine r_cons (r_pass rfl rfl rfl rfl rfl ?_)
        refine r_cons (r_pass rfl rfl rfl rfl rfl ?_)
        refine r_cons (r_pass rfl rfl rfl rfl rfl ?_)
        refine r_cons (s_pick_t (.bool true) rfl rfl rfl ?_)
        refine r_cons (s_move (.bool true) rfl rfl ?_)
        refine r_cons (r_pass rfl rfl rfl rfl rfl ?_)
        refine r_cons (r_pass rfl rfl rfl rfl rfl ?_)
        refine r_cons (r_pass rfl rfl rfl rfl rfl ?_)
        refine r_cons (r_pass rfl rfl rfl rfl rfl ?_)
        refine r_cons (s_pick_t (.bool true) rfl rfl rfl ?_)
        refine r_nil ?_
        refine g_true rfl ?_
        refine g_seq ?_
        refine g_region ?_
        refine r_cons (s_assign (.int .i64 71) rfl rfl ?_)
        refine r_nil ?_
        refine g_ret' [.int .i64 71] Try.func40 Try.results40 ⟨rfl, trivial⟩ ?_
        have hN73 : (n.kids.length < 2) := by omega
        have ho74 : ownE n.kind.v n.var.v n.typ.v n.tests n.kids.length = 71 := by unfold ownE; simp [hc7, hc71, hN73]
        have H75 : St W w5 F := ((((H6.drop 0 rfl).drop 0 rfl).drop 0 rfl).drop 0 rfl)
        exact ⟨vint (nodeE_own ho74 (by omega)), H75⟩
      · skip
        refine r_cons (s_lss false rfl rfl (dfalse hc72) rfl ?_)
        refine r_cons (s_move (.bool false) rfl rfl ?_)
        refine r_cons (r_take rfl rfl ?_)
        refine s_fieldAddr 25 1 1 1 9 rfl fi_25_1 rfl rfl ?_
        refine r_cons (r_take rfl rfl ?_)
        refine s_load (.string n.var.v) ag_9 rfl (H6.blk_at (i := 0) rfl) rfl rfl ?_
        refine r_cons (r_take rfl rfl ?_)
        by_cases hc76 : n.var.v = ByteArray.empty
        · skip
          refine s_sneq false rfl rfl (ntrue hc76) rfl ?_
          refine r_cons (s_pick_f (.bool false) rfl rfl rfl ?_)
          refine r_cons (s_move (.bool false) rfl rfl ?_)
          refine r_cons (r_take rfl rfl ?_)
          refine s_fieldAddr 25 2 2 2 9 rfl fi_25_2 rfl rfl ?_
          refine r_cons (r_take rfl rfl ?_)
          refine s_load (.string n.typ.v) ag_9 rfl (H6.blk_at (i := 0) rfl) rfl rfl ?_
          refine r_cons (r_take rfl rfl ?_)
          by_cases hc77 : n.typ.v = ByteArray.empty
          · skip
            refine s_sneq false rfl rfl (ntrue hc77) rfl ?_
            refine r_cons (s_pick_f (.bool false) rfl rfl rfl ?_)
            refine r_cons (s_move (.bool false) rfl rfl ?_)
            refine r_cons (r_take rfl rfl ?_)
            refine s_fieldAddr 25 3 3 3 22 rfl fi_25_3 rfl rfl ?_
            refine r_cons (r_take rfl rfl ?_)
            refine s_load (.slice n.tp n.tests.length n.tc) ag_22 rfl (H6.blk_at (i := 0) rfl) rfl rfl ?_
            refine r_cons (r_take rfl rfl ?_)
            refine s_len n.tests.length rfl ⟨_, un_22⟩ rfl ?_
            refine r_cons (r_take rfl rfl ?_)
            by_cases hc78 : (0 : Int) < (n.tests.length : Int)
            · skip
              refine s_gtr true rfl rfl (dtrue hc78) rfl ?_
              refine r_cons (s_pick_f (.bool true) rfl rfl rfl ?_)
              refine r_nil ?_
              refine g_true rfl ?_
              refine g_seq ?_
              refine g_region ?_
              refine r_cons (s_assign (.int .i64 71) rfl rfl ?_)
              refine r_nil ?_
              refine g_ret' [.int .i64 71] Try.func40 Try.results40 ⟨rfl, trivial⟩ ?_
              have hN79 : ¬ (n.kids.length < 2) := by omega
              have hN80 : (0 < n.tests.length) := by omega
              have ho81 : ownE n.kind.v n.var.v n.typ.v n.tests n.kids.length = 71 := by unfold ownE; simp [hc7, hc71, hN79, hN80, hc76, hc77]
              have H82 : St W w5 F := ((((H6.drop 0 rfl).drop 0 rfl).drop 0 rfl).drop 0 rfl)
              exact ⟨vint (nodeE_own ho81 (by omega)), H82⟩
            · skip
              refine s_gtr false rfl rfl (dfalse hc78) rfl ?_
              refine r_cons (s_pick_f (.bool false) rfl rfl rfl ?_)
              refine r_nil ?_
              refine g_false rfl ?_
              refine g_skip ?_
              refine g_inBlock ?_
              refine g_seq ?_
              refine g_seq ?_
              refine g_region ?_
              refine r_cons (s_fieldAddr 25 4 4 4 23 rfl fi_25_4 rfl rfl ?_)
              refine r_cons (s_load (.slice n.kp n.kids.length n.kc) ag_23 rfl (H6.blk_at (i := 0) rfl) rfl rfl ?_)
              refine r_cons (s_len n.kids.length rfl ⟨_, un_23⟩ rfl ?_)
              refine r_cons (s_move (.int .i64 0) rfl rfl ?_)
              refine r_nil ?_
              refine g_block ?_
              have hN83 : ¬ (n.kids.length < 2) := by omega
              have hN84 : ¬ (0 < n.tests.length) := by omega
              have ho85 : ownE n.kind.v n.var.v n.typ.v n.tests n.kids.length = 0 := by unfold ownE; simp [hc7, hc71, hN83, hN84, hc76, hc77]
              obtain ⟨pA86, cA87, gA88, oA89, kA90, eA91, zA92, he98, hn93, hp94, hx95, hs96, hml, H97⟩ := Im.open_ H6 (i := 2) rfl
              obtain ⟨rfl, rfl⟩ : n.kp = pA86 ∧ n.kc = cA87 := by injection he98 with a_ b_ c_; exact ⟨a_, c_⟩
              have H99 : St W w5 (imi (0 < n.kids.length) gA88 (.cells kA90 eA91 zA92) :: Im 11 (.slice n.tp n.tests.length n.tc) n.tests.length (n.tests.flatMap condCell) :: Im 5 (.slice n.kp n.kids.length n.kc) n.kids.length (n.kids.flatMap nodeCell) :: NodesA n.kids :: F) := (((((H97.move 4 rfl).move 4 rfl).move 4 rfl).move 3 rfl).drop 4 rfl)
              refine g_loop_inv (fun (x_ : Nat) => match x_ with | j => [(2, .int .i64 0), (58, .slice n.kp n.kids.length n.kc), (59, .int .i64 (n.kids.length : Int)), (60, .int .i64 (j : Int))]) (fun (x_ : Nat) w => match x_ with | j => (j ≤ n.kids.length) ∧ (∀ q, q < j → nodeE (n.kids.getD q default) = 0) ∧ St W w (imi (0 < n.kids.length) gA88 (.cells kA90 eA91 zA92) :: Im 11 (.slice n.tp n.tests.length n.tc) n.tests.length (n.tests.flatMap condCell) :: Im 5 (.slice n.kp n.kids.length n.kc) n.kids.length (n.kids.flatMap nodeCell) :: NodesA n.kids :: F)) (fun (x_ : Nat) => match x_ with | j => n.kids.length - j) (0) ?_ ?_ ?_
              · exact ⟨by first | rfl | exact vint (by omega), by first | rfl | exact vint (by omega), by first | rfl | exact vint (by omega), by first | rfl | exact vint (by omega), trivial⟩
              · exact ⟨(by omega), (fun q hq => by omega), H99⟩
              · rintro j ρ100 w101 ⟨hjl, hz, H102⟩ nx103
                change Ends _ _ (upds ρ100 [(2, .int .i64 0), (58, .slice n.kp n.kids.length n.kc), (59, .int .i64 (n.kids.length : Int)), (60, .int .i64 (j : Int))]) w101
                refine g_seq ?_
                refine g_region ?_
                by_cases hc104 : (j : Int) < (n.kids.length : Int)
                · skip
                  refine r_cons (s_lss true rfl rfl (dtrue hc104) rfl ?_)
                  refine r_nil ?_
                  refine g_seq ?_
                  refine g_true rfl ?_
                  refine g_skip ?_
                  refine g_seq ?_
                  refine g_block ?_
                  refine g_seq ?_
                  refine g_region ?_
                  refine r_cons (s_indexAddr gA88 (off := oA89) (j : Int) 5 (oA89 + j * 5) (by exact congrArg (fun z_ => Value.slice z_ n.kids.length n.kc) (hp94 (by omega))) rfl el_23 (by omega) rfl rfl ?_)
                  refine r_cons (s_loadAgg [.int .i64 ((n.kids.getD j default).kind.v), .string ((n.kids.getD j default).var.v), .string ((n.kids.getD j default).typ.v), .slice ((n.kids.getD j default).tp) ((n.kids.getD j default).tests.length) ((n.kids.getD j default).tc), .slice ((n.kids.getD j default).kp) ((n.kids.getD j default).kids.length) ((n.kids.getD j default).kc)] 5 ag_25 rfl (H102.imi_at (i := 0) rfl (by omega)) (by have := elem_size (i := j) (s := 5) (hs96 (by omega)) (by omega); omega) (elem_take nodeCell_len (hx95 (by omega)) (by omega) default) rfl ?_)
                  refine r_cons (s_alloc H102 25 ze_25 rfl ?_); intro bk105 w106 H107
                  refine r_cons (s_storeAgg H107 0 #[.int .i64 ((n.kids.getD j default).kind.v), .string ((n.kids.getD j default).var.v), .string ((n.kids.getD j default).typ.v), .slice ((n.kids.getD j default).tp) ((n.kids.getD j default).tests.length) ((n.kids.getD j default).tc), .slice ((n.kids.getD j default).kp) ((n.kids.getD j default).kids.length) ((n.kids.getD j default).kc)] 5 rfl rfl rfl sz_25 rfl (by simp [Value.oneCell']) (Nat.le_of_ble_eq_true rfl) (fun o h1 h2 => by first | (simp; done) | (simp; omega)) (cs' := #[.int .i64 ((n.kids.getD j default).kind.v), .string ((n.kids.getD j default).var.v), .string ((n.kids.getD j default).typ.v), .slice ((n.kids.getD j default).tp) ((n.kids.getD j default).tests.length) ((n.kids.getD j default).tc), .slice ((n.kids.getD j default).kp) ((n.kids.getD j default).kids.length) ((n.kids.getD j default).kc)]) rfl ?_); intro w108 H109
                  refine r_nil ?_
                  refine g_seq ?_
                  refine g_region ?_
                  refine r_cons (s_loadAgg [.int .i64 ((n.kids.getD j default).kind.v), .string ((n.kids.getD j default).var.v), .string ((n.kids.getD j default).typ.v), .slice ((n.kids.getD j default).tp) ((n.kids.getD j default).tests.length) ((n.kids.getD j default).tc), .slice ((n.kids.getD j default).kp) ((n.kids.getD j default).kids.length) ((n.kids.getD j default).kc)] 5 ag_25 rfl (H109.blk_at (i := 0) rfl) (Nat.le_of_ble_eq_true rfl) rfl rfl ?_)
                  have H110 := NodesA.at H109 (i := 4) rfl (j := j) (by omega)
                  refine r_cons (s_call [.agg #[.int .i64 ((n.kids.getD j default).kind.v), .string ((n.kids.getD j default).var.v), .string ((n.kids.getD j default).typ.v), .slice ((n.kids.getD j default).tp) ((n.kids.getD j default).tests.length) ((n.kids.getD j default).tc), .slice ((n.kids.getD j default).kp) ((n.kids.getD j default).kids.length) ((n.kids.getD j default).kc)]] pl_40 rfl rfl (ih (n.kids.getD j default) (by have h9 := kid_lt (n := n) (j := j) (by omega); omega) (i := 0) rfl H110) ?_)
                  rintro _ w111 ⟨rfl, H112⟩
                  refine r_cons (s_assign (.int .i64 (nodeE (n.kids.getD j default))) rfl rfl ?_)
                  refine r_nil ?_
                  refine g_seq ?_
                  refine g_region ?_
                  refine r_cons (s_move (.int .i64 (nodeE (n.kids.getD j default))) rfl rfl ?_)
                  by_cases hc113 : nodeE (n.kids.getD j default) = 0
                  · skip
                    refine r_cons (s_neq false rfl rfl (ntrue hc113) rfl ?_)
                    refine r_nil ?_
                    refine g_false rfl ?_
                    refine g_skip ?_
                    refine g_inBlock ?_
                    refine g_region ?_
                    refine r_cons (s_add ((j : Int) + 1) rfl rfl (wi64 (by omega)) rfl ?_)
                    refine r_cons (s_move (.int .i64 ((j : Int) + 1)) rfl rfl ?_)
                    refine r_nil ?_
                    have H114 : St W w111 (imi (0 < n.kids.length) gA88 (.cells kA90 eA91 zA92) :: Im 11 (.slice n.tp n.tests.length n.tc) n.tests.length (n.tests.flatMap condCell) :: Im 5 (.slice n.kp n.kids.length n.kc) n.kids.length (n.kids.flatMap nodeCell) :: NodesA n.kids :: F) := ((((((H112.move 5 rfl).move 5 rfl).move 5 rfl).move 5 rfl).drop 4 rfl).drop 4 rfl)
                    exact nx103 (j + 1) _ _ ⟨(by omega), (fun q hq => (Nat.lt_or_ge q j).elim (hz q) (fun h => by rw [show q = j from by omega]; exact hc113)), H114⟩ (by first | (dsimp only; omega) | omega) ⟨by first | rfl | exact vint (by omega), by first | rfl | exact vint (by omega), by first | rfl | exact vint (by omega), by first | rfl | exact vint (by omega), trivial⟩
                  · skip
                    refine r_cons (s_neq true rfl rfl (nfalse hc113) rfl ?_)
                    refine r_nil ?_
                    refine g_true rfl ?_
                    refine g_seq ?_
                    refine g_region ?_
                    refine r_cons (s_move (.int .i64 (nodeE (n.kids.getD j default))) rfl rfl ?_)
                    refine r_cons (s_assign (.int .i64 (nodeE (n.kids.getD j default))) rfl rfl ?_)
                    refine r_nil ?_
                    refine g_ret' [.int .i64 (nodeE (n.kids.getD j default))] Try.func40 Try.results40 ⟨rfl, trivial⟩ ?_
                    have H115 : St W w111 F := ((((((H112.drop 0 rfl).drop 0 rfl).drop 0 rfl).drop 0 rfl).drop 0 rfl).drop 0 rfl)
                    exact ⟨vint ((firstE_at (f := nodeE) hz (by omega) (by omega)).trans (nodeE_kids ho85).symm), H115⟩
                · skip
                  refine r_cons (s_lss false rfl rfl (dfalse hc104) rfl ?_)
                  refine r_nil ?_
                  refine g_seq ?_
                  refine g_false rfl ?_
                  refine g_exit (by rfl) ?_
                  refine g_seq ?_
                  refine g_region ?_
                  refine r_cons (s_assign (.int .i64 0) rfl rfl ?_)
                  refine r_nil ?_
                  refine g_ret' [.int .i64 0] Try.func40 Try.results40 ⟨rfl, trivial⟩ ?_
                  have H116 : St W w101 F := ((((H102.drop 0 rfl).drop 0 rfl).drop 0 rfl).drop 0 rfl)
                  exact ⟨vint ((firstE_end (f := nodeE) hz (by omega)).trans (nodeE_kids ho85).symm), H116⟩
          · skip
            refine s_sneq true rfl rfl (nfalse hc77) rfl ?_
            refine r_cons (s_pick_f (.bool true) rfl rfl rfl ?_)
            refine r_cons (s_move (.bool true) rfl rfl ?_)
            refine r_cons (r_pass rfl rfl rfl rfl rfl ?_)
            refine r_cons (r_pass rfl rfl rfl rfl rfl ?_)
            refine r_cons (r_pass rfl rfl rfl rfl rfl ?_)
            refine r_cons (r_pass rfl rfl rfl rfl rfl ?_)
            refine r_cons (s_pick_t (.bool true) rfl rfl rfl ?_)
            refine r_nil ?_
            refine g_true rfl ?_
            refine g_seq ?_
            refine g_region ?_
            refine r_cons (s_assign (.int .i64 71) rfl rfl ?_)
            refine r_nil ?_
            refine g_ret' [.int .i64 71] Try.func40 Try.results40 ⟨rfl, trivial⟩ ?_
            have hN117 : ¬ (n.kids.length < 2) := by omega
            have ho118 : ownE n.kind.v n.var.v n.typ.v n.tests n.kids.length = 71 := by unfold ownE; simp [hc7, hc71, hN117, hc76, hc77]
            have H119 : St W w5 F := ((((H6.drop 0 rfl).drop 0 rfl).drop 0 rfl).drop 0 rfl)
            exact ⟨vint (nodeE_own ho118 (by omega)), H119⟩
        · skip
          refine s_sneq true rfl rfl (nfalse hc76) rfl ?_
          refine r_cons (s_pick_f (.bool true) rfl rfl rfl ?_)
          refine r_cons (s_move (.bool true) rfl rfl ?_)
          refine r_cons (r_pass rfl rfl rfl rfl rfl ?_)
          refine r_cons (r_pass rfl rfl rfl rfl rfl ?_)
          refine r_cons (r_pass rfl rfl rfl rfl rfl ?_)
          refine r_cons (s_pick_t (.bool true) rfl rfl rfl ?_)
          refine r_cons (s_move (.bool true) rfl rfl ?_)
          refine r_cons (r_pass rfl rfl rfl rfl rfl ?_)
          refine r_cons (r_pass rfl rfl rfl rfl rfl ?_)
          refine r_cons (r_pass rfl rfl rfl rfl rfl ?_)
          refine r_cons (r_pass rfl rfl rfl rfl rfl ?_)
          refine r_cons (s_pick_t (.bool true) rfl rfl rfl ?_)
          refine r_nil ?_
          refine g_true rfl ?_
          refine g_seq ?_
          refine g_region ?_
          refine r_cons (s_assign (.int .i64 71) rfl rfl ?_)
          refine r_nil ?_
          refine g_ret' [.int .i64 71] Try.func40 Try.results40 ⟨rfl, trivial⟩ ?_
          have hN120 : ¬ (n.kids.length < 2) := by omega
          have ho121 : ownE n.kind.v n.var.v n.typ.v n.tests n.kids.length = 71 := by unfold ownE; simp [hc7, hc71, hN120, hc76]
          have H122 : St W w5 F := ((((H6.drop 0 rfl).drop 0 rfl).drop 0 rfl).drop 0 rfl)
          exact ⟨vint (nodeE_own ho121 (by omega)), H122⟩
    · skip
      refine r_cons (s_eql false rfl rfl (dfalse hc71) rfl ?_)
      refine r_cons (s_assign (.bool false) rfl rfl ?_)
      refine r_nil ?_
      refine g_false rfl ?_
      refine g_seq ?_
      refine g_region ?_
      by_cases hc123 : n.kind.v = 3
      · skip
        refine r_cons (s_eql true rfl rfl (dtrue hc123) rfl ?_)
        refine r_cons (s_assign (.bool true) rfl rfl ?_)
        refine r_nil ?_
        refine g_true rfl ?_
        refine g_skip ?_
        refine g_true rfl ?_
        refine g_seq ?_
        refine g_region ?_
        refine r_cons (s_fieldAddr 25 4 4 4 23 rfl fi_25_4 rfl rfl ?_)
        refine r_cons (s_load (.slice n.kp n.kids.length n.kc) ag_23 rfl (H6.blk_at (i := 0) rfl) rfl rfl ?_)
        refine r_cons (s_len n.kids.length rfl ⟨_, un_23⟩ rfl ?_)
        by_cases hc124 : (n.kids.length : Int) < 2
        · skip
          refine r_cons (s_lss true rfl rfl (dtrue hc124) rfl ?_)
          refine r_cons (s_move (.bool true) rfl rfl ?_)
          refine r_cons (r_pass rfl rfl rfl rfl rfl ?_)
          refine r_cons (r_pass rfl rfl rfl rfl rfl ?_)
          refine r_cons (r_pass rfl rfl rfl rfl rfl ?_)
          refine r_cons (s_pick_t (.bool true) rfl rfl rfl ?_)
          refine r_cons (s_move (.bool true) rfl rfl ?_)
          refine r_cons (r_pass rfl rfl rfl rfl rfl ?_)
          refine r_cons (r_pass rfl rfl rfl rfl rfl ?_)
          refine r_cons (r_pass rfl rfl rfl rfl rfl ?_)
          refine r_cons (s_pick_t (.bool true) rfl rfl rfl ?_)
          refine r_cons (s_move (.bool true) rfl rfl ?_)
          refine r_cons (r_pass rfl rfl rfl rfl rfl ?_)
          refine r_cons (r_pass rfl rfl rfl rfl rfl ?_)
          refine r_cons (r_pass rfl rfl rfl rfl rfl ?_)
          refine r_cons (r_pass rfl rfl rfl rfl rfl ?_)
          refine r_cons (s_pick_t (.bool true) rfl rfl rfl ?_)
          refine r_nil ?_
          refine g_true rfl ?_
          refine g_seq ?_
          refine g_region ?_
          refine r_cons (s_assign (.int .i64 71) rfl rfl ?_)
          refine r_nil ?_
          refine g_ret' [.int .i64 71] Try.func40 Try.results40 ⟨rfl, trivial⟩ ?_
          have hN125 : (n.kids.length < 2) := by omega
          have ho126 : ownE n.kind.v n.var.v n.typ.v n.tests n.kids.length = 71 := by unfold ownE; simp [hc7, hc71, hc123, hN125]
          have H127 : St W w5 F := ((((H6.drop 0 rfl).drop 0 rfl).drop 0 rfl).drop 0 rfl)
          exact ⟨vint (nodeE_own ho126 (by omega)), H127⟩
        · skip
          refine r_cons (s_lss false rfl rfl (dfalse hc124) rfl ?_)
          refine r_cons (s_move (.bool false) rfl rfl ?_)
          refine r_cons (r_take rfl rfl ?_)
          refine s_fieldAddr 25 1 1 1 9 rfl fi_25_1 rfl rfl ?_
          refine r_cons (r_take rfl rfl ?_)
          refine s_load (.string n.var.v) ag_9 rfl (H6.blk_at (i := 0) rfl) rfl rfl ?_
          refine r_cons (r_take rfl rfl ?_)
          by_cases hc128 : n.var.v = ByteArray.empty
          · skip
            refine s_sneq false rfl rfl (ntrue hc128) rfl ?_
            refine r_cons (s_pick_f (.bool false) rfl rfl rfl ?_)
            refine r_cons (s_move (.bool false) rfl rfl ?_)
            refine r_cons (r_take rfl rfl ?_)
            refine s_fieldAddr 25 2 2 2 9 rfl fi_25_2 rfl rfl ?_
            refine r_cons (r_take rfl rfl ?_)
            refine s_load (.string n.typ.v) ag_9 rfl (H6.blk_at (i := 0) rfl) rfl rfl ?_
            refine r_cons (r_take rfl rfl ?_)
            by_cases hc129 : n.typ.v = ByteArray.empty
            · skip
              refine s_sneq false rfl rfl (ntrue hc129) rfl ?_
              refine r_cons (s_pick_f (.bool false) rfl rfl rfl ?_)
              refine r_cons (s_move (.bool false) rfl rfl ?_)
              refine r_cons (r_take rfl rfl ?_)
              refine s_fieldAddr 25 3 3 3 22 rfl fi_25_3 rfl rfl ?_
              refine r_cons (r_take rfl rfl ?_)
              refine s_load (.slice n.tp n.tests.length n.tc) ag_22 rfl (H6.blk_at (i := 0) rfl) rfl rfl ?_
              refine r_cons (r_take rfl rfl ?_)
              refine s_len n.tests.length rfl ⟨_, un_22⟩ rfl ?_
              refine r_cons (r_take rfl rfl ?_)
              by_cases hc130 : (0 : Int) < (n.tests.length : Int)
              · skip
                refine s_gtr true rfl rfl (dtrue hc130) rfl ?_
                refine r_cons (s_pick_f (.bool true) rfl rfl rfl ?_)
                refine r_nil ?_
                refine g_true rfl ?_
                refine g_seq ?_
                refine g_region ?_
                refine r_cons (s_assign (.int .i64 71) rfl rfl ?_)
                refine r_nil ?_
                refine g_ret' [.int .i64 71] Try.func40 Try.results40 ⟨rfl, trivial⟩ ?_
                have hN131 : ¬ (n.kids.length < 2) := by omega
                have hN132 : (0 < n.tests.length) := by omega
                have ho133 : ownE n.kind.v n.var.v n.typ.v n.tests n.kids.length = 71 := by unfold ownE; simp [hc7, hc71, hc123, hN131, hN132, hc128, hc129]
                have H134 : St W w5 F := ((((H6.drop 0 rfl).drop 0 rfl).drop 0 rfl).drop 0 rfl)
                exact ⟨vint (nodeE_own ho133 (by omega)), H134⟩
              · skip
                refine s_gtr false rfl rfl (dfalse hc130) rfl ?_
                refine r_cons (s_pick_f (.bool false) rfl rfl rfl ?_)
                refine r_nil ?_
                refine g_false rfl ?_
                refine g_skip ?_
                refine g_inBlock ?_
                refine g_seq ?_
                refine g_seq ?_
                refine g_region ?_
                refine r_cons (s_fieldAddr 25 4 4 4 23 rfl fi_25_4 rfl rfl ?_)
                refine r_cons (s_load (.slice n.kp n.kids.length n.kc) ag_23 rfl (H6.blk_at (i := 0) rfl) rfl rfl ?_)
                refine r_cons (s_len n.kids.length rfl ⟨_, un_23⟩ rfl ?_)
                refine r_cons (s_move (.int .i64 0) rfl rfl ?_)
                refine r_nil ?_
                refine g_block ?_
                have hN135 : ¬ (n.kids.length < 2) := by omega
                have hN136 : ¬ (0 < n.tests.length) := by omega
                have ho137 : ownE n.kind.v n.var.v n.typ.v n.tests n.kids.length = 0 := by unfold ownE; simp [hc7, hc71, hc123, hN135, hN136, hc128, hc129]
                obtain ⟨pA138, cA139, gA140, oA141, kA142, eA143, zA144, he150, hn145, hp146, hx147, hs148, hml, H149⟩ := Im.open_ H6 (i := 2) rfl
                obtain ⟨rfl, rfl⟩ : n.kp = pA138 ∧ n.kc = cA139 := by injection he150 with a_ b_ c_; exact ⟨a_, c_⟩
                have H151 : St W w5 (imi (0 < n.kids.length) gA140 (.cells kA142 eA143 zA144) :: Im 11 (.slice n.tp n.tests.length n.tc) n.tests.length (n.tests.flatMap condCell) :: Im 5 (.slice n.kp n.kids.length n.kc) n.kids.length (n.kids.flatMap nodeCell) :: NodesA n.kids :: F) := (((((H149.move 4 rfl).move 4 rfl).move 4 rfl).move 3 rfl).drop 4 rfl)
                refine g_loop_inv (fun (x_ : Nat) => match x_ with | j => [(2, .int .i64 0), (58, .slice n.kp n.kids.length n.kc), (59, .int .i64 (n.kids.length : Int)), (60, .int .i64 (j : Int))]) (fun (x_ : Nat) w => match x_ with | j => (j ≤ n.kids.length) ∧ (∀ q, q < j → nodeE (n.kids.getD q default) = 0) ∧ St W w (imi (0 < n.kids.length) gA140 (.cells kA142 eA143 zA144) :: Im 11 (.slice n.tp n.tests.length n.tc) n.tests.length (n.tests.flatMap condCell) :: Im 5 (.slice n.kp n.kids.length n.kc) n.kids.length (n.kids.flatMap nodeCell) :: NodesA n.kids :: F)) (fun (x_ : Nat) => match x_ with | j => n.kids.length - j) (0) ?_ ?_ ?_
                · exact ⟨by first | rfl | exact vint (by omega), by first | rfl | exact vint (by omega), by first | rfl | exact vint (by omega), by first | rfl | exact vint (by omega), trivial⟩
                · exact ⟨(by omega), (fun q hq => by omega), H151⟩
                · rintro j ρ152 w153 ⟨hjl, hz, H154⟩ nx155
                  change Ends _ _ (upds ρ152 [(2, .int .i64 0), (58, .slice n.kp n.kids.length n.kc), (59, .int .i64 (n.kids.length : Int)), (60, .int .i64 (j : Int))]) w153
                  refine g_seq ?_
                  refine g_region ?_
                  by_cases hc156 : (j : Int) < (n.kids.length : Int)
                  · skip
                    refine r_cons (s_lss true rfl rfl (dtrue hc156) rfl ?_)
                    refine r_nil ?_
                    refine g_seq ?_
                    refine g_true rfl ?_
                    refine g_skip ?_
                    refine g_seq ?_
                    refine g_block ?_
                    refine g_seq ?_
                    refine g_region ?_
                    refine r_cons (s_indexAddr gA140 (off := oA141) (j : Int) 5 (oA141 + j * 5) (by exact congrArg (fun z_ => Value.slice z_ n.kids.length n.kc) (hp146 (by omega))) rfl el_23 (by omega) rfl rfl ?_)
                    refine r_cons (s_loadAgg [.int .i64 ((n.kids.getD j default).kind.v), .string ((n.kids.getD j default).var.v), .string ((n.kids.getD j default).typ.v), .slice ((n.kids.getD j default).tp) ((n.kids.getD j default).tests.length) ((n.kids.getD j default).tc), .slice ((n.kids.getD j default).kp) ((n.kids.getD j default).kids.length) ((n.kids.getD j default).kc)] 5 ag_25 rfl (H154.imi_at (i := 0) rfl (by omega)) (by have := elem_size (i := j) (s := 5) (hs148 (by omega)) (by omega); omega) (elem_take nodeCell_len (hx147 (by omega)) (by omega) default) rfl ?_)
                    refine r_cons (s_alloc H154 25 ze_25 rfl ?_); intro bk157 w158 H159
                    refine r_cons (s_storeAgg H159 0 #[.int .i64 ((n.kids.getD j default).kind.v), .string ((n.kids.getD j default).var.v), .string ((n.kids.getD j default).typ.v), .slice ((n.kids.getD j default).tp) ((n.kids.getD j default).tests.length) ((n.kids.getD j default).tc), .slice ((n.kids.getD j default).kp) ((n.kids.getD j default).kids.length) ((n.kids.getD j default).kc)] 5 rfl rfl rfl sz_25 rfl (by simp [Value.oneCell']) (Nat.le_of_ble_eq_true rfl) (fun o h1 h2 => by first | (simp; done) | (simp; omega)) (cs' := #[.int .i64 ((n.kids.getD j default).kind.v), .string ((n.kids.getD j default).var.v), .string ((n.kids.getD j default).typ.v), .slice ((n.kids.getD j default).tp) ((n.kids.getD j default).tests.length) ((n.kids.getD j default).tc), .slice ((n.kids.getD j default).kp) ((n.kids.getD j default).kids.length) ((n.kids.getD j default).kc)]) rfl ?_); intro w160 H161
                    refine r_nil ?_
                    refine g_seq ?_
                    refine g_region ?_
                    refine r_cons (s_loadAgg [.int .i64 ((n.kids.getD j default).kind.v), .string ((n.kids.getD j default).var.v), .string ((n.kids.getD j default).typ.v), .slice ((n.kids.getD j default).tp) ((n.kids.getD j default).tests.length) ((n.kids.getD j default).tc), .slice ((n.kids.getD j default).kp) ((n.kids.getD j default).kids.length) ((n.kids.getD j default).kc)] 5 ag_25 rfl (H161.blk_at (i := 0) rfl) (Nat.le_of_ble_eq_true rfl) rfl rfl ?_)
                    have H162 := NodesA.at H161 (i := 4) rfl (j := j) (by omega)
                    refine r_cons (s_call [.agg #[.int .i64 ((n.kids.getD j default).kind.v), .string ((n.kids.getD j default).var.v), .string ((n.kids.getD j default).typ.v), .slice ((n.kids.getD j default).tp) ((n.kids.getD j default).tests.length) ((n.kids.getD j default).tc), .slice ((n.kids.getD j default).kp) ((n.kids.getD j default).kids.length) ((n.kids.getD j default).kc)]] pl_40 rfl rfl (ih (n.kids.getD j default) (by have h9 := kid_lt (n := n) (j := j) (by omega); omega) (i := 0) rfl H162) ?_)
                    rintro _ w163 ⟨rfl, H164⟩
                    refine r_cons (s_assign (.int .i64 (nodeE (n.kids.getD j default))) rfl rfl ?_)
                    refine r_nil ?_
                    refine g_seq ?_
                    refine g_region ?_
                    refine r_cons (s_move (.int .i64 (nodeE (n.kids.getD j default))) rfl rfl ?_)
                    by_cases hc165 : nodeE (n.kids.getD j default) = 0
                    · skip
                      refine r_cons (s_neq false rfl rfl (ntrue hc165) rfl ?_)
                      refine r_nil ?_
                      refine g_false rfl ?_
                      refine g_skip ?_
                      refine g_inBlock ?_
                      refine g_region ?_
                      refine r_cons (s_add ((j : Int) + 1) rfl rfl (wi64 (by omega)) rfl ?_)
                      refine r_cons (s_move (.int .i64 ((j : Int) + 1)) rfl rfl ?_)
                      refine r_nil ?_
                      have H166 : St W w163 (imi (0 < n.kids.length) gA140 (.cells kA142 eA143 zA144) :: Im 11 (.slice n.tp n.tests.length n.tc) n.tests.length (n.tests.flatMap condCell) :: Im 5 (.slice n.kp n.kids.length n.kc) n.kids.length (n.kids.flatMap nodeCell) :: NodesA n.kids :: F) := ((((((H164.move 5 rfl).move 5 rfl).move 5 rfl).move 5 rfl).drop 4 rfl).drop 4 rfl)
                      exact nx155 (j + 1) _ _ ⟨(by omega), (fun q hq => (Nat.lt_or_ge q j).elim (hz q) (fun h => by rw [show q = j from by omega]; exact hc165)), H166⟩ (by first | (dsimp only; omega) | omega) ⟨by first | rfl | exact vint (by omega), by first | rfl | exact vint (by omega), by first | rfl | exact vint (by omega), by first | rfl | exact vint (by omega), trivial⟩
                    · skip
                      refine r_cons (s_neq true rfl rfl (nfalse hc165) rfl ?_)
                      refine r_nil ?_
                      refine g_true rfl ?_
                      refine g_seq ?_
                      refine g_region ?_
                      refine r_cons (s_move (.int .i64 (nodeE (n.kids.getD j default))) rfl rfl ?_)
                      refine r_cons (s_assign (.int .i64 (nodeE (n.kids.getD j default))) rfl rfl ?_)
                      refine r_nil ?_
                      refine g_ret' [.int .i64 (nodeE (n.kids.getD j default))] Try.func40 Try.results40 ⟨rfl, trivial⟩ ?_
                      have H167 : St W w163 F := ((((((H164.drop 0 rfl).drop 0 rfl).drop 0 rfl).drop 0 rfl).drop 0 rfl).drop 0 rfl)
                      exact ⟨vint ((firstE_at (f := nodeE) hz (by omega) (by omega)).trans (nodeE_kids ho137).symm), H167⟩
                  · skip
                    refine r_cons (s_lss false rfl rfl (dfalse hc156) rfl ?_)
                    refine r_nil ?_
                    refine g_seq ?_
                    refine g_false rfl ?_
                    refine g_exit (by rfl) ?_
                    refine g_seq ?_
                    refine g_region ?_
                    refine r_cons (s_assign (.int .i64 0) rfl rfl ?_)
                    refine r_nil ?_
                    refine g_ret' [.int .i64 0] Try.func40 Try.results40 ⟨rfl, trivial⟩ ?_
                    have H168 : St W w153 F := ((((H154.drop 0 rfl).drop 0 rfl).drop 0 rfl).drop 0 rfl)
                    exact ⟨vint ((firstE_end (f := nodeE) hz (by omega)).trans (nodeE_kids ho137).symm), H168⟩
            · skip
              refine s_sneq true rfl rfl (nfalse hc129) rfl ?_
              refine r_cons (s_pick_f (.bool true) rfl rfl rfl ?_)
              refine r_cons (s_move (.bool true) rfl rfl ?_)
              refine r_cons (r_pass rfl rfl rfl rfl rfl ?_)
              refine r_cons (r_pass rfl rfl rfl rfl rfl ?_)
              refine r_cons (r_pass rfl rfl rfl rfl rfl ?_)
              refine r_cons (r_pass rfl rfl rfl rfl rfl ?_)
              refine r_cons (s_pick_t (.bool true) rfl rfl rfl ?_)
              refine r_nil ?_
              refine g_true rfl ?_
              refine g_seq ?_
              refine g_region ?_
              refine r_cons (s_assign (.int .i64 71) rfl rfl ?_)
              refine r_nil ?_
              refine g_ret' [.int .i64 71] Try.func40 Try.results40 ⟨rfl, trivial⟩ ?_
              have hN169 : ¬ (n.kids.length < 2) := by omega
              have ho170 : ownE n.kind.v n.var.v n.typ.v n.tests n.kids.length = 71 := by unfold ownE; simp [hc7, hc71, hc123, hN169, hc128, hc129]
              have H171 : St W w5 F := ((((H6.drop 0 rfl).drop 0 rfl).drop 0 rfl).drop 0 rfl)
              exact ⟨vint (nodeE_own ho170 (by omega)), H171⟩
          · skip
            refine s_sneq true rfl rfl (nfalse hc128) rfl ?_
            refine r_cons (s_pick_f (.bool true) rfl rfl rfl ?_)
            refine r_cons (s_move (.bool true) rfl rfl ?_)
            refine r_cons (r_pass rfl rfl rfl rfl rfl ?_)
            refine r_cons (r_pass rfl rfl rfl rfl rfl ?_)
            refine r_cons (r_pass rfl rfl rfl rfl rfl ?_)
            refine r_cons (s_pick_t (.bool true) rfl rfl rfl ?_)
            refine r_cons (s_move (.bool true) rfl rfl ?_)
            refine r_cons (r_pass rfl rfl rfl rfl rfl ?_)
            refine r_cons (r_pass rfl rfl rfl rfl rfl ?_)
            refine r_cons (r_pass rfl rfl rfl rfl rfl ?_)
            refine r_cons (r_pass rfl rfl rfl rfl rfl ?_)
            refine r_cons (s_pick_t (.bool true) rfl rfl rfl ?_)
            refine r_nil ?_
            refine g_true rfl ?_
            refine g_seq ?_
            refine g_region ?_
            refine r_cons (s_assign (.int .i64 71) rfl rfl ?_)
            refine r_nil ?_
            refine g_ret' [.int .i64 71] Try.func40 Try.results40 ⟨rfl, trivial⟩ ?_
            have hN172 : ¬ (n.kids.length < 2) := by omega
            have ho173 : ownE n.kind.v n.var.v n.typ.v n.tests n.kids.length = 71 := by unfold ownE; simp [hc7, hc71, hc123, hN172, hc128]
            have H174 : St W w5 F := ((((H6.drop 0 rfl).drop 0 rfl).drop 0 rfl).drop 0 rfl)
            exact ⟨vint (nodeE_own ho173 (by omega)), H174⟩
      · skip
        refine r_cons (s_eql false rfl rfl (dfalse hc123) rfl ?_)
        refine r_cons (s_assign (.bool false) rfl rfl ?_)
        refine r_nil ?_
        refine g_false rfl ?_
        refine g_region ?_
        by_cases hc175 : n.kind.v = 4
        · skip
          refine r_cons (s_eql true rfl rfl (dtrue hc175) rfl ?_)
          refine r_cons (s_assign (.bool true) rfl rfl ?_)
          refine r_nil ?_
          refine g_true rfl ?_
          refine g_seq ?_
          refine g_region ?_
          refine r_cons (s_fieldAddr 25 4 4 4 23 rfl fi_25_4 rfl rfl ?_)
          refine r_cons (s_load (.slice n.kp n.kids.length n.kc) ag_23 rfl (H6.blk_at (i := 0) rfl) rfl rfl ?_)
          refine r_cons (s_len n.kids.length rfl ⟨_, un_23⟩ rfl ?_)
          by_cases hc176 : (n.kids.length : Int) < 2
          · skip
            refine r_cons (s_lss true rfl rfl (dtrue hc176) rfl ?_)
            refine r_cons (s_move (.bool true) rfl rfl ?_)
            refine r_cons (r_pass rfl rfl rfl rfl rfl ?_)
            refine r_cons (r_pass rfl rfl rfl rfl rfl ?_)
            refine r_cons (r_pass rfl rfl rfl rfl rfl ?_)
            refine r_cons (s_pick_t (.bool true) rfl rfl rfl ?_)
            refine r_cons (s_move (.bool true) rfl rfl ?_)
            refine r_cons (r_pass rfl rfl rfl rfl rfl ?_)
            refine r_cons (r_pass rfl rfl rfl rfl rfl ?_)
            refine r_cons (r_pass rfl rfl rfl rfl rfl ?_)
            refine r_cons (s_pick_t (.bool true) rfl rfl rfl ?_)
            refine r_cons (s_move (.bool true) rfl rfl ?_)
            refine r_cons (r_pass rfl rfl rfl rfl rfl ?_)
            refine r_cons (r_pass rfl rfl rfl rfl rfl ?_)
            refine r_cons (r_pass rfl rfl rfl rfl rfl ?_)
            refine r_cons (r_pass rfl rfl rfl rfl rfl ?_)
            refine r_cons (s_pick_t (.bool true) rfl rfl rfl ?_)
            refine r_nil ?_
            refine g_true rfl ?_
            refine g_seq ?_
            refine g_region ?_
            refine r_cons (s_assign (.int .i64 71) rfl rfl ?_)
            refine r_nil ?_
            refine g_ret' [.int .i64 71] Try.func40 Try.results40 ⟨rfl, trivial⟩ ?_
            have hN177 : (n.kids.length < 2) := by omega
            have ho178 : ownE n.kind.v n.var.v n.typ.v n.tests n.kids.length = 71 := by unfold ownE; simp [hc7, hc71, hc123, hc175, hN177]
            have H179 : St W w5 F := ((((H6.drop 0 rfl).drop 0 rfl).drop 0 rfl).drop 0 rfl)
            exact ⟨vint (nodeE_own ho178 (by omega)), H179⟩
          · skip
            refine r_cons (s_lss false rfl rfl (dfalse hc176) rfl ?_)
            refine r_cons (s_move (.bool false) rfl rfl ?_)
            refine r_cons (r_take rfl rfl ?_)
            refine s_fieldAddr 25 1 1 1 9 rfl fi_25_1 rfl rfl ?_
            refine r_cons (r_take rfl rfl ?_)
            refine s_load (.string n.var.v) ag_9 rfl (H6.blk_at (i := 0) rfl) rfl rfl ?_
            refine r_cons (r_take rfl rfl ?_)
            by_cases hc180 : n.var.v = ByteArray.empty
            · skip
              refine s_sneq false rfl rfl (ntrue hc180) rfl ?_
              refine r_cons (s_pick_f (.bool false) rfl rfl rfl ?_)
              refine r_cons (s_move (.bool false) rfl rfl ?_)
              refine r_cons (r_take rfl rfl ?_)
              refine s_fieldAddr 25 2 2 2 9 rfl fi_25_2 rfl rfl ?_
              refine r_cons (r_take rfl rfl ?_)
              refine s_load (.string n.typ.v) ag_9 rfl (H6.blk_at (i := 0) rfl) rfl rfl ?_
              refine r_cons (r_take rfl rfl ?_)
              by_cases hc181 : n.typ.v = ByteArray.empty
              · skip
                refine s_sneq false rfl rfl (ntrue hc181) rfl ?_
                refine r_cons (s_pick_f (.bool false) rfl rfl rfl ?_)
                refine r_cons (s_move (.bool false) rfl rfl ?_)
                refine r_cons (r_take rfl rfl ?_)
                refine s_fieldAddr 25 3 3 3 22 rfl fi_25_3 rfl rfl ?_
                refine r_cons (r_take rfl rfl ?_)
                refine s_load (.slice n.tp n.tests.length n.tc) ag_22 rfl (H6.blk_at (i := 0) rfl) rfl rfl ?_
                refine r_cons (r_take rfl rfl ?_)
                refine s_len n.tests.length rfl ⟨_, un_22⟩ rfl ?_
                refine r_cons (r_take rfl rfl ?_)
                by_cases hc182 : (0 : Int) < (n.tests.length : Int)
                · skip
                  refine s_gtr true rfl rfl (dtrue hc182) rfl ?_
                  refine r_cons (s_pick_f (.bool true) rfl rfl rfl ?_)
                  refine r_nil ?_
                  refine g_true rfl ?_
                  refine g_seq ?_
                  refine g_region ?_
                  refine r_cons (s_assign (.int .i64 71) rfl rfl ?_)
                  refine r_nil ?_
                  refine g_ret' [.int .i64 71] Try.func40 Try.results40 ⟨rfl, trivial⟩ ?_
                  have hN183 : ¬ (n.kids.length < 2) := by omega
                  have hN184 : (0 < n.tests.length) := by omega
                  have ho185 : ownE n.kind.v n.var.v n.typ.v n.tests n.kids.length = 71 := by unfold ownE; simp [hc7, hc71, hc123, hc175, hN183, hN184, hc180, hc181]
                  have H186 : St W w5 F := ((((H6.drop 0 rfl).drop 0 rfl).drop 0 rfl).drop 0 rfl)
                  exact ⟨vint (nodeE_own ho185 (by omega)), H186⟩
                · skip
                  refine s_gtr false rfl rfl (dfalse hc182) rfl ?_
                  refine r_cons (s_pick_f (.bool false) rfl rfl rfl ?_)
                  refine r_nil ?_
                  refine g_false rfl ?_
                  refine g_skip ?_
                  refine g_inBlock ?_
                  refine g_seq ?_
                  refine g_seq ?_
                  refine g_region ?_
                  refine r_cons (s_fieldAddr 25 4 4 4 23 rfl fi_25_4 rfl rfl ?_)
                  refine r_cons (s_load (.slice n.kp n.kids.length n.kc) ag_23 rfl (H6.blk_at (i := 0) rfl) rfl rfl ?_)
                  refine r_cons (s_len n.kids.length rfl ⟨_, un_23⟩ rfl ?_)
                  refine r_cons (s_move (.int .i64 0) rfl rfl ?_)
                  refine r_nil ?_
                  refine g_block ?_
                  have hN187 : ¬ (n.kids.length < 2) := by omega
                  have hN188 : ¬ (0 < n.tests.length) := by omega
                  have ho189 : ownE n.kind.v n.var.v n.typ.v n.tests n.kids.length = 0 := by unfold ownE; simp [hc7, hc71, hc123, hc175, hN187, hN188, hc180, hc181]
                  obtain ⟨pA190, cA191, gA192, oA193, kA194, eA195, zA196, he202, hn197, hp198, hx199, hs200, hml, H201⟩ := Im.open_ H6 (i := 2) rfl
                  obtain ⟨rfl, rfl⟩ : n.kp = pA190 ∧ n.kc = cA191 := by injection he202 with a_ b_ c_; exact ⟨a_, c_⟩
                  have H203 : St W w5 (imi (0 < n.kids.length) gA192 (.cells kA194 eA195 zA196) :: Im 11 (.slice n.tp n.tests.length n.tc) n.tests.length (n.tests.flatMap condCell) :: Im 5 (.slice n.kp n.kids.length n.kc) n.kids.length (n.kids.flatMap nodeCell) :: NodesA n.kids :: F) := (((((H201.move 4 rfl).move 4 rfl).move 4 rfl).move 3 rfl).drop 4 rfl)
                  refine g_loop_inv (fun (x_ : Nat) => match x_ with | j => [(2, .int .i64 0), (58, .slice n.kp n.kids.length n.kc), (59, .int .i64 (n.kids.length : Int)), (60, .int .i64 (j : Int))]) (fun (x_ : Nat) w => match x_ with | j => (j ≤ n.kids.length) ∧ (∀ q, q < j → nodeE (n.kids.getD q default) = 0) ∧ St W w (imi (0 < n.kids.length) gA192 (.cells kA194 eA195 zA196) :: Im 11 (.slice n.tp n.tests.length n.tc) n.tests.length (n.tests.flatMap condCell) :: Im 5 (.slice n.kp n.kids.length n.kc) n.kids.length (n.kids.flatMap nodeCell) :: NodesA n.kids :: F)) (fun (x_ : Nat) => match x_ with | j => n.kids.length - j) (0) ?_ ?_ ?_
                  · exact ⟨by first | rfl | exact vint (by omega), by first | rfl | exact vint (by omega), by first | rfl | exact vint (by omega), by first | rfl | exact vint (by omega), trivial⟩
                  · exact ⟨(by omega), (fun q hq => by omega), H203⟩
                  · rintro j ρ204 w205 ⟨hjl, hz, H206⟩ nx207
                    change Ends _ _ (upds ρ204 [(2, .int .i64 0), (58, .slice n.kp n.kids.length n.kc), (59, .int .i64 (n.kids.length : Int)), (60, .int .i64 (j : Int))]) w205
                    refine g_seq ?_
                    refine g_region ?_
                    by_cases hc208 : (j : Int) < (n.kids.length : Int)
                    · skip
                      refine r_cons (s_lss true rfl rfl (dtrue hc208) rfl ?_)
                      refine r_nil ?_
                      refine g_seq ?_
                      refine g_true rfl ?_
                      refine g_skip ?_
                      refine g_seq ?_
                      refine g_block ?_
                      refine g_seq ?_
                      refine g_region ?_
                      refine r_cons (s_indexAddr gA192 (off := oA193) (j : Int) 5 (oA193 + j * 5) (by exact congrArg (fun z_ => Value.slice z_ n.kids.length n.kc) (hp198 (by omega))) rfl el_23 (by omega) rfl rfl ?_)
                      refine r_cons (s_loadAgg [.int .i64 ((n.kids.getD j default).kind.v), .string ((n.kids.getD j default).var.v), .string ((n.kids.getD j default).typ.v), .slice ((n.kids.getD j default).tp) ((n.kids.getD j default).tests.length) ((n.kids.getD j default).tc), .slice ((n.kids.getD j default).kp) ((n.kids.getD j default).kids.length) ((n.kids.getD j default).kc)] 5 ag_25 rfl (H206.imi_at (i := 0) rfl (by omega)) (by have := elem_size (i := j) (s := 5) (hs200 (by omega)) (by omega); omega) (elem_take nodeCell_len (hx199 (by omega)) (by omega) default) rfl ?_)
                      refine r_cons (s_alloc H206 25 ze_25 rfl ?_); intro bk209 w210 H211
                      refine r_cons (s_storeAgg H211 0 #[.int .i64 ((n.kids.getD j default).kind.v), .string ((n.kids.getD j default).var.v), .string ((n.kids.getD j default).typ.v), .slice ((n.kids.getD j default).tp) ((n.kids.getD j default).tests.length) ((n.kids.getD j default).tc), .slice ((n.kids.getD j default).kp) ((n.kids.getD j default).kids.length) ((n.kids.getD j default).kc)] 5 rfl rfl rfl sz_25 rfl (by simp [Value.oneCell']) (Nat.le_of_ble_eq_true rfl) (fun o h1 h2 => by first | (simp; done) | (simp; omega)) (cs' := #[.int .i64 ((n.kids.getD j default).kind.v), .string ((n.kids.getD j default).var.v), .string ((n.kids.getD j default).typ.v), .slice ((n.kids.getD j default).tp) ((n.kids.getD j default).tests.length) ((n.kids.getD j default).tc), .slice ((n.kids.getD j default).kp) ((n.kids.getD j default).kids.length) ((n.kids.getD j default).kc)]) rfl ?_); intro w212 H213
                      refine r_nil ?_
                      refine g_seq ?_
                      refine g_region ?_
                      refine r_cons (s_loadAgg [.int .i64 ((n.kids.getD j default).kind.v), .string ((n.kids.getD j default).var.v), .string ((n.kids.getD j default).typ.v), .slice ((n.kids.getD j default).tp) ((n.kids.getD j default).tests.length) ((n.kids.getD j default).tc), .slice ((n.kids.getD j default).kp) ((n.kids.getD j default).kids.length) ((n.kids.getD j default).kc)] 5 ag_25 rfl (H213.blk_at (i := 0) rfl) (Nat.le_of_ble_eq_true rfl) rfl rfl ?_)
                      have H214 := NodesA.at H213 (i := 4) rfl (j := j) (by omega)
                      refine r_cons (s_call [.agg #[.int .i64 ((n.kids.getD j default).kind.v), .string ((n.kids.getD j default).var.v), .string ((n.kids.getD j default).typ.v), .slice ((n.kids.getD j default).tp) ((n.kids.getD j default).tests.length) ((n.kids.getD j default).tc), .slice ((n.kids.getD j default).kp) ((n.kids.getD j default).kids.length) ((n.kids.getD j default).kc)]] pl_40 rfl rfl (ih (n.kids.getD j default) (by have h9 := kid_lt (n := n) (j := j) (by omega); omega) (i := 0) rfl H214) ?_)
                      rintro _ w215 ⟨rfl, H216⟩
                      refine r_cons (s_assign (.int .i64 (nodeE (n.kids.getD j default))) rfl rfl ?_)
                      refine r_nil ?_
                      refine g_seq ?_
                      refine g_region ?_
                      refine r_cons (s_move (.int .i64 (nodeE (n.kids.getD j default))) rfl rfl ?_)
                      by_cases hc217 : nodeE (n.kids.getD j default) = 0
                      · skip
                        refine r_cons (s_neq false rfl rfl (ntrue hc217) rfl ?_)
                        refine r_nil ?_
                        refine g_false rfl ?_
                        refine g_skip ?_
                        refine g_inBlock ?_
                        refine g_region ?_
                        refine r_cons (s_add ((j : Int) + 1) rfl rfl (wi64 (by omega)) rfl ?_)
                        refine r_cons (s_move (.int .i64 ((j : Int) + 1)) rfl rfl ?_)
                        refine r_nil ?_
                        have H218 : St W w215 (imi (0 < n.kids.length) gA192 (.cells kA194 eA195 zA196) :: Im 11 (.slice n.tp n.tests.length n.tc) n.tests.length (n.tests.flatMap condCell) :: Im 5 (.slice n.kp n.kids.length n.kc) n.kids.length (n.kids.flatMap nodeCell) :: NodesA n.kids :: F) := ((((((H216.move 5 rfl).move 5 rfl).move 5 rfl).move 5 rfl).drop 4 rfl).drop 4 rfl)
                        exact nx207 (j + 1) _ _ ⟨(by omega), (fun q hq => (Nat.lt_or_ge q j).elim (hz q) (fun h => by rw [show q = j from by omega]; exact hc217)), H218⟩ (by first | (dsimp only; omega) | omega) ⟨by first | rfl | exact vint (by omega), by first | rfl | exact vint (by omega), by first | rfl | exact vint (by omega), by first | rfl | exact vint (by omega), trivial⟩
                      · skip
                        refine r_cons (s_neq true rfl rfl (nfalse hc217) rfl ?_)
                        refine r_nil ?_
                        refine g_true rfl ?_
                        refine g_seq ?_
                        refine g_region ?_
                        refine r_cons (s_move (.int .i64 (nodeE (n.kids.getD j default))) rfl rfl ?_)
                        refine r_cons (s_assign (.int .i64 (nodeE (n.kids.getD j default))) rfl rfl ?_)
                        refine r_nil ?_
                        refine g_ret' [.int .i64 (nodeE (n.kids.getD j default))] Try.func40 Try.results40 ⟨rfl, trivial⟩ ?_
                        have H219 : St W w215 F := ((((((H216.drop 0 rfl).drop 0 rfl).drop 0 rfl).drop 0 rfl).drop 0 rfl).drop 0 rfl)
                        exact ⟨vint ((firstE_at (f := nodeE) hz (by omega) (by omega)).trans (nodeE_kids ho189).symm), H219⟩
                    · skip
                      refine r_cons (s_lss false rfl rfl (dfalse hc208) rfl ?_)
                      refine r_nil ?_
                      refine g_seq ?_
                      refine g_false rfl ?_
                      refine g_exit (by rfl) ?_
                      refine g_seq ?_
                      refine g_region ?_
                      refine r_cons (s_assign (.int .i64 0) rfl rfl ?_)
                      refine r_nil ?_
                      refine g_ret' [.int .i64 0] Try.func40 Try.results40 ⟨rfl, trivial⟩ ?_
                      have H220 : St W w205 F := ((((H206.drop 0 rfl).drop 0 rfl).drop 0 rfl).drop 0 rfl)
                      exact ⟨vint ((firstE_end (f := nodeE) hz (by omega)).trans (nodeE_kids ho189).symm), H220⟩
              · skip
                refine s_sneq true rfl rfl (nfalse hc181) rfl ?_
                refine r_cons (s_pick_f (.bool true) rfl rfl rfl ?_)
                refine r_cons (s_move (.bool true) rfl rfl ?_)
                refine r_cons (r_pass rfl rfl rfl rfl rfl ?_)
                refine r_cons (r_pass rfl rfl rfl rfl rfl ?_)
                refine r_cons (r_pass rfl rfl rfl rfl rfl ?_)
                refine r_cons (r_pass rfl rfl rfl rfl rfl ?_)
                refine r_cons (s_pick_t (.bool true) rfl rfl rfl ?_)
                refine r_nil ?_
                refine g_true rfl ?_
                refine g_seq ?_
                refine g_region ?_
                refine r_cons (s_assign (.int .i64 71) rfl rfl ?_)
                refine r_nil ?_
                refine g_ret' [.int .i64 71] Try.func40 Try.results40 ⟨rfl, trivial⟩ ?_
                have hN221 : ¬ (n.kids.length < 2) := by omega
                have ho222 : ownE n.kind.v n.var.v n.typ.v n.tests n.kids.length = 71 := by unfold ownE; simp [hc7, hc71, hc123, hc175, hN221, hc180, hc181]
                have H223 : St W w5 F := ((((H6.drop 0 rfl).drop 0 rfl).drop 0 rfl).drop 0 rfl)
                exact ⟨vint (nodeE_own ho222 (by omega)), H223⟩
            · skip
              refine s_sneq true rfl rfl (nfalse hc180) rfl ?_
              refine r_cons (s_pick_f (.bool true) rfl rfl rfl ?_)
              refine r_cons (s_move (.bool true) rfl rfl ?_)
              refine r_cons (r_pass rfl rfl rfl rfl rfl ?_)
              refine r_cons (r_pass rfl rfl rfl rfl rfl ?_)
              refine r_cons (r_pass rfl rfl rfl rfl rfl ?_)
              refine r_cons (s_pick_t (.bool true) rfl rfl rfl ?_)
              refine r_cons (s_move (.bool true) rfl rfl ?_)
              refine r_cons (r_pass rfl rfl rfl rfl rfl ?_)
              refine r_cons (r_pass rfl rfl rfl rfl rfl ?_)
              refine r_cons (r_pass rfl rfl rfl rfl rfl ?_)
              refine r_cons (r_pass rfl rfl rfl rfl rfl ?_)
              refine r_cons (s_pick_t (.bool true) rfl rfl rfl ?_)
              refine r_nil ?_
              refine g_true rfl ?_
              refine g_seq ?_
              refine g_region ?_
              refine r_cons (s_assign (.int .i64 71) rfl rfl ?_)
              refine r_nil ?_
              refine g_ret' [.int .i64 71] Try.func40 Try.results40 ⟨rfl, trivial⟩ ?_
              have hN224 : ¬ (n.kids.length < 2) := by omega
              have ho225 : ownE n.kind.v n.var.v n.typ.v n.tests n.kids.length = 71 := by unfold ownE; simp [hc7, hc71, hc123, hc175, hN224, hc180]
              have H226 : St W w5 F := ((((H6.drop 0 rfl).drop 0 rfl).drop 0 rfl).drop 0 rfl)
              exact ⟨vint (nodeE_own ho225 (by omega)), H226⟩
        · skip
          refine r_cons (s_eql false rfl rfl (dfalse hc175) rfl ?_)
          refine r_cons (s_assign (.bool false) rfl rfl ?_)
          refine r_nil ?_
          refine g_false rfl ?_
          refine g_seq ?_
          refine g_region ?_
          refine r_cons (s_assign (.int .i64 71) rfl rfl ?_)
          refine r_nil ?_
          refine g_ret' [.int .i64 71] Try.func40 Try.results40 ⟨rfl, trivial⟩ ?_
          have ho227 : ownE n.kind.v n.var.v n.typ.v n.tests n.kids.length = 71 := by unfold ownE; simp [hc7, hc71, hc123, hc175]
          have H228 : St W w5 F := ((((H6.drop 0 rfl).drop 0 rfl).drop 0 rfl).drop 0 rfl)
          exact ⟨vint (nodeE_own ho227 (by omega)), H228⟩
theorem check_node {W w : World} {F : List Atom} (n : NodeD)  {i : Nat} (hi : F[i]? = some (NodeA n)) (H : St W w F) : Calls Try.prog 40 #[.agg #[.int .i64 n.kind.v, .string n.var.v, .string n.typ.v, .slice n.tp n.tests.length n.tc, .slice n.kp n.kids.length n.kc]] w (Ret fun v w' => v = .int .i64 (nodeE n) ∧ St W w' F) := check_node_r (sizeOf n + 1) n (Nat.lt_succ_self _) hi H
end Sl
