/- Walks of the program's functions. Printed by a program of this claim's author. No condition. -/
import Derived.Test.YthggoibbkloefaaSlBF
import Derived.Test.YthggoibbkloefaaSlQ
import Derived.Test.YthggoibbkloefaaSlP
import Derived.Test.YthggoibbkloefaaSlDB
import Derived.Test.YthggoibbkloefaaSlDC
import Derived.Test.YthggoibbkloefaaSlDJ
import Derived.Test.YthggoibbkloefaaSlEC
import Derived.Test.YthggoibbkloefaaProg
import Derived.Test.YthggoibbkloefaaWalkLinkOrder3
namespace Sl
open _root_.Go _root_.Go.RowKit _root_.Go.Proofs
set_option linter.all false
set_option maxHeartbeats 4000000 in
set_option maxRecDepth 100000 in
theorem act_1 {W w : World} {F : List Atom} (sl n g : Nat) (P : PairV) (ac : ActV) (v0 : Value) (hI : Inv sl n P) (hn : n < 268435456) (hw : maskN ac.who.v 1 = 1) {j : Nat} (hj : F[j]? = some (Im 1 v0 ac.body.length (ac.body.flatMap u8c))) (H : St W w (PairA g P :: F)) : Calls Try.prog 9 #[.pointer (some ⟨g, 0, none⟩), .agg #[.int .i64 ac.do_.v, .int .i64 ac.who.v, .int .i64 ac.n.v, v0]] w (Ret fun v w' => v = .bool true ∧ St W w' (PairA g (swp (act0 (swp P) ac)) :: F)) := by
  obtain ⟨pp1, cc2, rfl, hsh3⟩ := Rd.shape (Im.rd H (i := j + 1) (show (PairA g P :: F)[j + 1]? = _ from hj))
  have H4 := H.dup (i := j + 1) (show (PairA g P :: F)[j + 1]? = _ from hj) (Im_pers _ _ _ _)
  have hmlH4 := Im.len H4 (i := 0) rfl
  have H5 : St W w (Im 1 (.slice pp1 ac.body.length cc2) ac.body.length (ac.body.flatMap u8c) :: PairA g P :: F) := H4
  refine calls_of_go (n := 124) Try.func9 rfl Try.ntmps9 rfl ?_
  refine g_seq ?_
  refine g_region ?_
  refine r_cons (s_box H5 28 (.agg #[.int .i64 ac.do_.v, .int .i64 ac.who.v, .int .i64 ac.n.v, .slice pp1 ac.body.length cc2]) rfl (cs := #[.int .i64 ac.do_.v, .int .i64 ac.who.v, .int .i64 ac.n.v, .slice pp1 ac.body.length cc2]) rfl rfl ?_); intro bk6 w7 H8
  refine r_cons (s_assign (.bool false) rfl rfl ?_)
  refine r_nil ?_
  refine g_seq ?_
  refine g_region ?_
  refine r_cons (s_fieldAddr 28 1 1 1 3 rfl fi_28_1 rfl rfl ?_)
  refine r_cons (s_load (.int .i64 ac.who.v) ag_3 rfl (H8.blk_at (i := 0) rfl) rfl rfl ?_)
  refine r_cons (s_and 1 rfl rfl ((and_mask ac.who.v (m := 1) (by decide)).trans (by rw [hw]; rfl)) rfl ?_)
  refine r_cons (s_assign (.int .i64 1) rfl rfl ?_)
  refine r_nil ?_
  refine g_seq ?_
  refine g_seq ?_
  refine g_region ?_
  refine r_cons (s_fieldAddr 28 0 0 0 3 rfl fi_28_0 rfl rfl ?_)
  refine r_cons (s_load (.int .i64 ac.do_.v) ag_3 rfl (H8.blk_at (i := 0) rfl) rfl rfl ?_)
  refine r_nil ?_
  refine g_block ?_
  refine g_seq ?_
  refine g_region ?_
  by_cases hc9 : ac.do_.v = 0
  · skip
    refine r_cons (s_eql true rfl rfl (dtrue hc9) rfl ?_)
    refine r_cons (s_assign (.bool true) rfl rfl ?_)
    refine r_nil ?_
    refine g_true rfl ?_
    refine g_seq ?_
    refine g_seq ?_
    have H10 := H8.move 2 rfl
    obtain ⟨⟨l11, l12, pp13, cc14, pp15, cc16, pp17, cc18, pp19, cc20, pp21, cc22, pp23, cc24⟩, H25⟩ := St.open_ex H10
    have H26 := St.open_star H25
    have H27 : St W w7 (blk g (.cells #[.pointer (some ⟨l11, 0, none⟩), .pointer (some ⟨l12, 0, none⟩), .slice pp13 P.g0.length cc14, .slice pp15 P.g1.length cc16, .slice pp17 P.c0.length cc18, .slice pp19 P.c1.length cc20, .slice pp21 P.t0.length cc22, .slice pp23 P.t1.length cc24] 37 (0, 0)) :: LkA l11 P.e0 :: LkA l12 P.e1 :: BysA pp13 cc14 P.g0 :: BysA pp15 cc16 P.g1 :: BysA pp17 cc18 P.c0 :: BysA pp19 cc20 P.c1 :: DgsA pp21 cc22 P.t0 :: DgsA pp23 cc24 P.t1 :: blk bk6 (.cells #[.int .i64 ac.do_.v, .int .i64 ac.who.v, .int .i64 ac.n.v, .slice pp1 ac.body.length cc2] 28 (0, 0)) :: Im 1 (.slice pp1 ac.body.length cc2) ac.body.length (ac.body.flatMap u8c) :: F) := H26
    have H28 : St W w7 (DgsA pp21 cc22 P.t0 :: DgsA pp23 cc24 P.t1 :: blk bk6 (.cells #[.int .i64 ac.do_.v, .int .i64 ac.who.v, .int .i64 ac.n.v, .slice pp1 ac.body.length cc2] 28 (0, 0)) :: Im 1 (.slice pp1 ac.body.length cc2) ac.body.length (ac.body.flatMap u8c) :: LkA l12 P.e1 :: blk g (.cells #[.pointer (some ⟨l11, 0, none⟩), .pointer (some ⟨l12, 0, none⟩), .slice pp13 P.g0.length cc14, .slice pp15 P.g1.length cc16, .slice pp17 P.c0.length cc18, .slice pp19 P.c1.length cc20, .slice pp21 P.t0.length cc22, .slice pp23 P.t1.length cc24] 37 (0, 0)) :: LkA l11 P.e0 :: BysA pp13 cc14 P.g0 :: BysA pp15 cc16 P.g1 :: BysA pp17 cc18 P.c0 :: BysA pp19 cc20 P.c1 :: F) := (((((H27.move 2 rfl).move 10 rfl).move 10 rfl).move 10 rfl).move 10 rfl)
    have H29 : St W w7 (LkA l11 P.e0 :: BysA pp13 cc14 P.g0 :: BysA pp15 cc16 P.g1 :: BysA pp17 cc18 P.c0 :: BysA pp19 cc20 P.c1 :: DgsA pp21 cc22 P.t0 :: DgsA pp23 cc24 P.t1 :: blk bk6 (.cells #[.int .i64 ac.do_.v, .int .i64 ac.who.v, .int .i64 ac.n.v, .slice pp1 ac.body.length cc2] 28 (0, 0)) :: Im 1 (.slice pp1 ac.body.length cc2) ac.body.length (ac.body.flatMap u8c) :: LkA l12 P.e1 :: blk g (.cells #[.pointer (some ⟨l11, 0, none⟩), .pointer (some ⟨l12, 0, none⟩), .slice pp13 P.g0.length cc14, .slice pp15 P.g1.length cc16, .slice pp17 P.c0.length cc18, .slice pp19 P.c1.length cc20, .slice pp21 P.t0.length cc22, .slice pp23 P.t1.length cc24] 37 (0, 0)) :: F) := (((((H28.move 10 rfl).move 10 rfl).move 10 rfl).move 10 rfl).move 10 rfl)
    have H30 : St W w7 (blk g (.cells #[.pointer (some ⟨l11, 0, none⟩), .pointer (some ⟨l12, 0, none⟩), .slice pp13 P.g0.length cc14, .slice pp15 P.g1.length cc16, .slice pp17 P.c0.length cc18, .slice pp19 P.c1.length cc20, .slice pp21 P.t0.length cc22, .slice pp23 P.t1.length cc24] 37 (0, 0)) :: LkA l11 P.e0 :: BysA pp13 cc14 P.g0 :: BysA pp15 cc16 P.g1 :: BysA pp17 cc18 P.c0 :: BysA pp19 cc20 P.c1 :: DgsA pp21 cc22 P.t0 :: DgsA pp23 cc24 P.t1 :: blk bk6 (.cells #[.int .i64 ac.do_.v, .int .i64 ac.who.v, .int .i64 ac.n.v, .slice pp1 ac.body.length cc2] 28 (0, 0)) :: Im 1 (.slice pp1 ac.body.length cc2) ac.body.length (ac.body.flatMap u8c) :: LkA l12 P.e1 :: F) := (H29.move 10 rfl)
    refine g_mix (fun t_ w => St W w (blk g (.cells #[.pointer (some ⟨l11, 0, none⟩), .pointer (some ⟨l12, 0, none⟩), .slice pp13 P.g0.length cc14, .slice pp15 P.g1.length cc16, .slice pp17 P.c0.length cc18, .slice pp19 P.c1.length cc20, .slice pp21 P.t0.length cc22, .slice pp23 P.t1.length cc24] 37 (0, 0)) :: LkA l11 P.e0 :: BysA pp13 cc14 P.g0 :: BysA pp15 cc16 P.g1 :: BysA pp17 cc18 P.c0 :: BysA pp19 cc20 P.c1 :: DgsA pp21 cc22 P.t0 :: DgsA pp23 cc24 P.t1 :: blk bk6 (.cells #[.int .i64 ac.do_.v, .int .i64 ac.who.v, .int .i64 ac.n.v, .slice pp1 ac.body.length cc2] 28 (0, 0)) :: Im 1 (.slice pp1 ac.body.length cc2) ac.body.length (ac.body.flatMap u8c) :: t_)) (LkA l12 P.e1 :: F) mixed 10 rfl H30.drew ?_
    refine f_first 0 (listed' := #[true, false, false, false, false, false, false, false, false, false]) rfl (by kernel_rfl) (by kernel_rfl) (by kernel_rfl) rfl ?_
    refine f_val rfl rfl rfl (by intro t_ w hw; exact x_move (.pointer (some ⟨g, 0, none⟩)) rfl w) ?_
    refine f_first 1 (listed' := #[true, true, false, false, false, false, false, false, false, false]) rfl (by kernel_rfl) (by kernel_rfl) (by kernel_rfl) rfl ?_
    refine f_val rfl rfl rfl (by intro t_ w hw; exact x_move (.int .i64 1) rfl w) ?_
    refine f_first 2 (listed' := #[true, true, true, false, false, false, false, false, false, false]) rfl (by kernel_rfl) (by kernel_rfl) (by kernel_rfl) rfl ?_
    refine f_val rfl rfl rfl (by intro t_ w hw; exact x_nilCheck (.pointer (some ⟨g, 0, none⟩)) rfl ⟨_, rfl⟩ w) ?_
    refine f_first 3 (listed' := #[true, true, true, true, false, false, false, false, false, false]) rfl (by kernel_rfl) (by kernel_rfl) (by kernel_rfl) rfl ?_
    refine f_val rfl rfl rfl (by intro t_ w hw; exact x_fieldAddr 37 0 0 0 31 rfl fi_37_0 rfl w) ?_
    refine f_first 4 (listed' := #[true, true, true, true, true, false, false, false, false, false]) rfl (by kernel_rfl) (by kernel_rfl) (by kernel_rfl) rfl ?_
    refine f_val rfl rfl rfl (by intro t_ w hw; exact x_indexAddr_arr 1 1 1 rfl rfl ar_31 (by omega) rfl w) ?_
    refine f_first 5 (listed' := #[true, true, true, true, true, true, false, false, false, false]) rfl (by kernel_rfl) (by kernel_rfl) (by kernel_rfl) rfl ?_
    refine f_val rfl rfl rfl (by intro t_ w hw; exact x_load (.pointer (some ⟨l12, 0, none⟩)) ag_30 rfl (hw.blk_at (i := 0) rfl) rfl) ?_
    refine f_first 6 (listed' := #[true, true, true, true, true, true, true, false, false, false]) rfl (by kernel_rfl) (by kernel_rfl) (by kernel_rfl) rfl ?_
    refine f_val rfl rfl rfl (by intro t_ w hw; exact x_fieldAddr 28 3 3 3 26 rfl fi_28_3 rfl w) ?_
    refine f_first 7 (listed' := #[true, true, true, true, true, true, true, true, false, false]) rfl (by kernel_rfl) (by kernel_rfl) (by kernel_rfl) rfl ?_
    refine f_val rfl rfl rfl (by intro t_ w hw; exact x_load (.slice pp1 ac.body.length cc2) ag_26 rfl (hw.blk_at (i := 8) rfl) rfl) ?_
    refine f_all (rs := [8]) (by kernel_rfl) (by simp) ?_
    refine a_cons ⟨_, rfl, ?_⟩ (fun x hx => absurd hx (by simp))
    intro w31 H32
    try dsimp only at H32
    refine s_call [.pointer (some ⟨l12, 0, none⟩), .slice pp1 ac.body.length cc2] pl_22 rfl rfl (Lk_Send l12 P.e1 hI.b.ok ac.body (.slice pp1 ac.body.length cc2) (j := 9) rfl (i := 10) rfl H32) ?_
    rintro _ w33 ⟨rfl, H34⟩
    refine ⟨LkA l12 (sendS P.e1 ac.body) :: F, ?_, H34⟩
    change FReg _ _ _ _ _ #[true, true, true, true, true, true, true, true, true, false] _ _
    refine f_first 9 (listed' := #[true, true, true, true, true, true, true, true, true, true]) rfl (by kernel_rfl) (by kernel_rfl) (by kernel_rfl) rfl ?_
    refine f_val rfl rfl rfl (by intro t_ w hw; exact x_assign (.int .i64 (sendE P.e1 ac.body)) rfl w) ?_
    refine f_done (by kernel_rfl) ?_
    intro w35 H36
    refine g_seq ?_
    refine g_region ?_
    refine r_cons (s_move (.int .i64 (sendE P.e1 ac.body)) rfl rfl ?_)
    by_cases hc37 : sendE P.e1 ac.body = 0
    · skip
      refine r_cons (s_eql true rfl rfl (dtrue hc37) rfl ?_)
      refine r_nil ?_
      refine g_true rfl ?_
      have H38 := H36.move 3 rfl
      obtain ⟨⟨D39, hD40⟩, H41⟩ := St.open_ex H38
      have H42 := St.open_star H41
      change D39.map BytesD.data = P.g1 at hD40
      have H43 : St W w35 (Row 26 1 (.slice pp15 P.g1.length cc16) P.g1.length (D39.flatMap byCell) :: byA D39 :: blk g (.cells #[.pointer (some ⟨l11, 0, none⟩), .pointer (some ⟨l12, 0, none⟩), .slice pp13 P.g0.length cc14, .slice pp15 P.g1.length cc16, .slice pp17 P.c0.length cc18, .slice pp19 P.c1.length cc20, .slice pp21 P.t0.length cc22, .slice pp23 P.t1.length cc24] 37 (0, 0)) :: LkA l11 P.e0 :: BysA pp13 cc14 P.g0 :: BysA pp17 cc18 P.c0 :: BysA pp19 cc20 P.c1 :: DgsA pp21 cc22 P.t0 :: DgsA pp23 cc24 P.t1 :: blk bk6 (.cells #[.int .i64 ac.do_.v, .int .i64 ac.who.v, .int .i64 ac.n.v, .slice pp1 ac.body.length cc2] 28 (0, 0)) :: Im 1 (.slice pp1 ac.body.length cc2) ac.body.length (ac.body.flatMap u8c) :: LkA l12 (sendS P.e1 ac.body) :: F) := H42
      have hz1 := Row.capOf H43 (i := 0) rfl; have hz2 := hI.swp.a.g
      have hE0 : sendE P.e1 ac.body = 0 := (by omega); have hb9 := sendE_len hE0; change P.g1.length ≤ n at hz2
      refine g_cut (fun (x : Nat × Option Addr × Nat × Option Addr × Nat) => match x with | (bk48, pp44, cc45, pp55, cc56) => [(0, .pointer (some ⟨g, 0, none⟩)), (4, .bool false), (5, .int .i64 1)]) (fun (x : Nat × Option Addr × Nat × Option Addr × Nat) w => match x with | (bk48, pp44, cc45, pp55, cc56) => St W w (blk bk48 (.cells #[.slice pp44 ac.body.length cc45] 26 (0, 0)) :: Row 5 1 (.slice pp44 ac.body.length cc45) ac.body.length (ac.body.flatMap u8c) :: Row 26 1 (.slice pp55 (P.g1.length + 1) cc56) (P.g1.length + 1) (D39.flatMap byCell ++ ([.slice pp44 ac.body.length cc45] : List Value)) :: byA D39 :: blk g (.cells #[.pointer (some ⟨l11, 0, none⟩), .pointer (some ⟨l12, 0, none⟩), .slice pp13 P.g0.length cc14, .slice pp55 (P.g1.length + 1) cc56, .slice pp17 P.c0.length cc18, .slice pp19 P.c1.length cc20, .slice pp21 P.t0.length cc22, .slice pp23 P.t1.length cc24] 37 (0, 0)) :: LkA l11 P.e0 :: BysA pp13 cc14 P.g0 :: BysA pp17 cc18 P.c0 :: BysA pp19 cc20 P.c1 :: DgsA pp21 cc22 P.t0 :: DgsA pp23 cc24 P.t1 :: blk bk6 (.cells #[.int .i64 ac.do_.v, .int .i64 ac.who.v, .int .i64 ac.n.v, .slice pp1 ac.body.length cc2] 28 (0, 0)) :: Im 1 (.slice pp1 ac.body.length cc2) ac.body.length (ac.body.flatMap u8c) :: LkA l12 (sendS P.e1 ac.body) :: F)) ?_ ?_
      · rintro ⟨bk48, pp44, cc45, pp55, cc56⟩ ρ47 w45 H46
        change Ends _ _ (upds ρ47 [(0, .pointer (some ⟨g, 0, none⟩)), (4, .bool false), (5, .int .i64 1)]) w45
        have hE9 : sendE P.e1 ac.body = 0 := by omega
        have H48 : St W w45 (blk bk48 (.cells #[.slice pp44 ac.body.length cc45] 26 (0, 0)) :: Im 1 (.slice pp44 ac.body.length cc45) ac.body.length (ac.body.flatMap u8c) :: Row 26 1 (.slice pp55 (P.g1.length + 1) cc56) (P.g1.length + 1) (D39.flatMap byCell ++ ([.slice pp44 ac.body.length cc45] : List Value)) :: byA D39 :: blk g (.cells #[.pointer (some ⟨l11, 0, none⟩), .pointer (some ⟨l12, 0, none⟩), .slice pp13 P.g0.length cc14, .slice pp55 (P.g1.length + 1) cc56, .slice pp17 P.c0.length cc18, .slice pp19 P.c1.length cc20, .slice pp21 P.t0.length cc22, .slice pp23 P.t1.length cc24] 37 (0, 0)) :: LkA l11 P.e0 :: BysA pp13 cc14 P.g0 :: BysA pp17 cc18 P.c0 :: BysA pp19 cc20 P.c1 :: DgsA pp21 cc22 P.t0 :: DgsA pp23 cc24 P.t1 :: blk bk6 (.cells #[.int .i64 ac.do_.v, .int .i64 ac.who.v, .int .i64 ac.n.v, .slice pp1 ac.body.length cc2] 28 (0, 0)) :: Im 1 (.slice pp1 ac.body.length cc2) ac.body.length (ac.body.flatMap u8c) :: LkA l12 (sendS P.e1 ac.body) :: F) := Row.im H46 (i := 1) rfl
        have H49 := byA_add (x := (⟨ac.body, pp44, cc45⟩ : BytesD)) H48 (i := 3) (j := 1) rfl rfl snoc_b
        have H50 : St W w45 (byA (D39 ++ [(⟨ac.body, pp44, cc45⟩ : BytesD)]) :: blk bk48 (.cells #[.slice pp44 ac.body.length cc45] 26 (0, 0)) :: Im 1 (.slice pp44 ac.body.length cc45) ac.body.length (ac.body.flatMap u8c) :: Row 26 1 (.slice pp55 (P.g1.length + 1) cc56) (P.g1.length + 1) ((D39 ++ [(⟨ac.body, pp44, cc45⟩ : BytesD)]).flatMap byCell) :: byA D39 :: blk g (.cells #[.pointer (some ⟨l11, 0, none⟩), .pointer (some ⟨l12, 0, none⟩), .slice pp13 P.g0.length cc14, .slice pp55 (P.g1.length + 1) cc56, .slice pp17 P.c0.length cc18, .slice pp19 P.c1.length cc20, .slice pp21 P.t0.length cc22, .slice pp23 P.t1.length cc24] 37 (0, 0)) :: LkA l11 P.e0 :: BysA pp13 cc14 P.g0 :: BysA pp17 cc18 P.c0 :: BysA pp19 cc20 P.c1 :: DgsA pp21 cc22 P.t0 :: DgsA pp23 cc24 P.t1 :: blk bk6 (.cells #[.int .i64 ac.do_.v, .int .i64 ac.who.v, .int .i64 ac.n.v, .slice pp1 ac.body.length cc2] 28 (0, 0)) :: Im 1 (.slice pp1 ac.body.length cc2) ac.body.length (ac.body.flatMap u8c) :: LkA l12 (sendS P.e1 ac.body) :: F) := by rw [flat_app, flat_one]; exact H49
        have H51 : St W w45 (Row 26 1 (.slice pp55 (P.g1.length + 1) cc56) (P.g1.length + 1) ((D39 ++ [(⟨ac.body, pp44, cc45⟩ : BytesD)]).flatMap byCell) :: byA (D39 ++ [(⟨ac.body, pp44, cc45⟩ : BytesD)]) :: blk bk48 (.cells #[.slice pp44 ac.body.length cc45] 26 (0, 0)) :: Im 1 (.slice pp44 ac.body.length cc45) ac.body.length (ac.body.flatMap u8c) :: byA D39 :: blk g (.cells #[.pointer (some ⟨l11, 0, none⟩), .pointer (some ⟨l12, 0, none⟩), .slice pp13 P.g0.length cc14, .slice pp55 (P.g1.length + 1) cc56, .slice pp17 P.c0.length cc18, .slice pp19 P.c1.length cc20, .slice pp21 P.t0.length cc22, .slice pp23 P.t1.length cc24] 37 (0, 0)) :: LkA l11 P.e0 :: BysA pp13 cc14 P.g0 :: BysA pp17 cc18 P.c0 :: BysA pp19 cc20 P.c1 :: DgsA pp21 cc22 P.t0 :: DgsA pp23 cc24 P.t1 :: blk bk6 (.cells #[.int .i64 ac.do_.v, .int .i64 ac.who.v, .int .i64 ac.n.v, .slice pp1 ac.body.length cc2] 28 (0, 0)) :: Im 1 (.slice pp1 ac.body.length cc2) ac.body.length (ac.body.flatMap u8c) :: LkA l12 (sendS P.e1 ac.body) :: F) := (H50.move 3 rfl)
        have hn52 : (P.g1 ++ [ac.body]).length = P.g1.length + 1 := (List.length_append ..)
        have H53 : St W w45 (Row 26 1 (.slice pp55 ((P.g1 ++ [ac.body]).length) cc56) ((P.g1 ++ [ac.body]).length) ((D39 ++ [(⟨ac.body, pp44, cc45⟩ : BytesD)]).flatMap byCell) :: byA (D39 ++ [(⟨ac.body, pp44, cc45⟩ : BytesD)]) :: blk bk48 (.cells #[.slice pp44 ac.body.length cc45] 26 (0, 0)) :: Im 1 (.slice pp44 ac.body.length cc45) ac.body.length (ac.body.flatMap u8c) :: byA D39 :: blk g (.cells #[.pointer (some ⟨l11, 0, none⟩), .pointer (some ⟨l12, 0, none⟩), .slice pp13 P.g0.length cc14, .slice pp55 (P.g1.length + 1) cc56, .slice pp17 P.c0.length cc18, .slice pp19 P.c1.length cc20, .slice pp21 P.t0.length cc22, .slice pp23 P.t1.length cc24] 37 (0, 0)) :: LkA l11 P.e0 :: BysA pp13 cc14 P.g0 :: BysA pp17 cc18 P.c0 :: BysA pp19 cc20 P.c1 :: DgsA pp21 cc22 P.t0 :: DgsA pp23 cc24 P.t1 :: blk bk6 (.cells #[.int .i64 ac.do_.v, .int .i64 ac.who.v, .int .i64 ac.n.v, .slice pp1 ac.body.length cc2] 28 (0, 0)) :: Im 1 (.slice pp1 ac.body.length cc2) ac.body.length (ac.body.flatMap u8c) :: LkA l12 (sendS P.e1 ac.body) :: F) := by rw [hn52]; exact H51
        have H54 : St W w45 (BysA pp55 cc56 (P.g1 ++ [ac.body]) :: blk bk48 (.cells #[.slice pp44 ac.body.length cc45] 26 (0, 0)) :: Im 1 (.slice pp44 ac.body.length cc45) ac.body.length (ac.body.flatMap u8c) :: byA D39 :: blk g (.cells #[.pointer (some ⟨l11, 0, none⟩), .pointer (some ⟨l12, 0, none⟩), .slice pp13 P.g0.length cc14, .slice pp55 (P.g1.length + 1) cc56, .slice pp17 P.c0.length cc18, .slice pp19 P.c1.length cc20, .slice pp21 P.t0.length cc22, .slice pp23 P.t1.length cc24] 37 (0, 0)) :: LkA l11 P.e0 :: BysA pp13 cc14 P.g0 :: BysA pp17 cc18 P.c0 :: BysA pp19 cc20 P.c1 :: DgsA pp21 cc22 P.t0 :: DgsA pp23 cc24 P.t1 :: blk bk6 (.cells #[.int .i64 ac.do_.v, .int .i64 ac.who.v, .int .i64 ac.n.v, .slice pp1 ac.body.length cc2] 28 (0, 0)) :: Im 1 (.slice pp1 ac.body.length cc2) ac.body.length (ac.body.flatMap u8c) :: LkA l12 (sendS P.e1 ac.body) :: F) := St.shut_ex ⟨(D39 ++ [(⟨ac.body, pp44, cc45⟩ : BytesD)]), (show (D39 ++ [(⟨ac.body, pp44, cc45⟩ : BytesD)]).map BytesD.data = (P.g1 ++ [ac.body]) from app_map hD40 rfl)⟩ (St.shut_star (ls := [Row 26 1 (.slice pp55 ((P.g1 ++ [ac.body]).length) cc56) ((P.g1 ++ [ac.body]).length) ((D39 ++ [(⟨ac.body, pp44, cc45⟩ : BytesD)]).flatMap byCell), byA (D39 ++ [(⟨ac.body, pp44, cc45⟩ : BytesD)])]) H53)
        have H55 : St W w45 (BysA pp55 cc56 (P.g1 ++ [ac.body]) :: blk bk48 (.cells #[.slice pp44 ac.body.length cc45] 26 (0, 0)) :: Im 1 (.slice pp44 ac.body.length cc45) ac.body.length (ac.body.flatMap u8c) :: byA D39 :: blk g (.cells #[.pointer (some ⟨l11, 0, none⟩), .pointer (some ⟨l12, 0, none⟩), .slice pp13 P.g0.length cc14, .slice pp55 ((P.g1 ++ [ac.body]).length) cc56, .slice pp17 P.c0.length cc18, .slice pp19 P.c1.length cc20, .slice pp21 P.t0.length cc22, .slice pp23 P.t1.length cc24] 37 (0, 0)) :: LkA l11 P.e0 :: BysA pp13 cc14 P.g0 :: BysA pp17 cc18 P.c0 :: BysA pp19 cc20 P.c1 :: DgsA pp21 cc22 P.t0 :: DgsA pp23 cc24 P.t1 :: blk bk6 (.cells #[.int .i64 ac.do_.v, .int .i64 ac.who.v, .int .i64 ac.n.v, .slice pp1 ac.body.length cc2] 28 (0, 0)) :: Im 1 (.slice pp1 ac.body.length cc2) ac.body.length (ac.body.flatMap u8c) :: LkA l12 (sendS P.e1 ac.body) :: F) := by rw [hn52]; exact H54
        refine g_cut (fun (x : Option Addr × Nat × List DgD × Option Addr × Nat × List DgD) => match x with | (pp76, cc77, D67, pp56, cc57, D61) => [(4, .bool false)]) (fun (x : Option Addr × Nat × List DgD × Option Addr × Nat × List DgD) w => match x with | (pp76, cc77, D67, pp56, cc57, D61) => St W w (DgsA pp76 cc77 (P.t1 ++ (outT (sendS P.e1 ac.body))) :: byA (D67.map DgD.by) :: Row 41 6 (.slice pp56 ((outT (sendS P.e1 ac.body)).length) cc57) ((outT (sendS P.e1 ac.body)).length) (D61.flatMap dgdCell) :: byA (D61.map DgD.by) :: BysA pp55 cc56 (P.g1 ++ [ac.body]) :: blk bk48 (.cells #[.slice pp44 ac.body.length cc45] 26 (0, 0)) :: Im 1 (.slice pp44 ac.body.length cc45) ac.body.length (ac.body.flatMap u8c) :: byA D39 :: blk g (.cells #[.pointer (some ⟨l11, 0, none⟩), .pointer (some ⟨l12, 0, none⟩), .slice pp13 P.g0.length cc14, .slice pp55 ((P.g1 ++ [ac.body]).length) cc56, .slice pp17 P.c0.length cc18, .slice pp19 P.c1.length cc20, .slice pp21 P.t0.length cc22, .slice pp76 (P.t1.length + (outT (sendS P.e1 ac.body)).length) cc77] 37 (0, 0)) :: LkA l11 P.e0 :: BysA pp13 cc14 P.g0 :: BysA pp17 cc18 P.c0 :: BysA pp19 cc20 P.c1 :: DgsA pp21 cc22 P.t0 :: blk bk6 (.cells #[.int .i64 ac.do_.v, .int .i64 ac.who.v, .int .i64 ac.n.v, .slice pp1 ac.body.length cc2] 28 (0, 0)) :: Im 1 (.slice pp1 ac.body.length cc2) ac.body.length (ac.body.flatMap u8c) :: LkA l12 (outS (sendS P.e1 ac.body)) :: F)) ?_ ?_
        · rintro ⟨pp76, cc77, D67, pp56, cc57, D61⟩ ρ59 w57 H58
          change Ends _ _ (upds ρ59 [(4, .bool false)]) w57
          refine g_inBlock ?_
          refine g_seq ?_
          refine g_region ?_
          refine r_cons (s_assign (.bool true) rfl rfl ?_)
          refine r_nil ?_
          refine g_ret' [.bool true] Try.func9 Try.results9 ⟨rfl, trivial⟩ ?_
          have hdo : ac.do_.v = 0 := by omega
          have H60 : St W w57 (DgsA pp76 cc77 (P.t1 ++ (outT (sendS P.e1 ac.body))) :: byA (D67.map DgD.by) :: Row 41 6 (.slice pp56 ((outT (sendS P.e1 ac.body)).length) cc57) ((outT (sendS P.e1 ac.body)).length) (D61.flatMap dgdCell) :: byA (D61.map DgD.by) :: BysA pp55 cc56 (P.g1 ++ [ac.body]) :: blk bk48 (.cells #[.slice pp44 ac.body.length cc45] 26 (0, 0)) :: Im 1 (.slice pp44 ac.body.length cc45) ac.body.length (ac.body.flatMap u8c) :: byA D39 :: blk g (.cells #[.pointer (some ⟨l11, 0, none⟩), .pointer (some ⟨l12, 0, none⟩), .slice pp13 P.g0.length cc14, .slice pp55 ((P.g1 ++ [ac.body]).length) cc56, .slice pp17 P.c0.length cc18, .slice pp19 P.c1.length cc20, .slice pp21 P.t0.length cc22, .slice pp76 ((P.t1 ++ (outT (sendS P.e1 ac.body))).length) cc77] 37 (0, 0)) :: LkA l11 P.e0 :: BysA pp13 cc14 P.g0 :: BysA pp17 cc18 P.c0 :: BysA pp19 cc20 P.c1 :: DgsA pp21 cc22 P.t0 :: blk bk6 (.cells #[.int .i64 ac.do_.v, .int .i64 ac.who.v, .int .i64 ac.n.v, .slice pp1 ac.body.length cc2] 28 (0, 0)) :: Im 1 (.slice pp1 ac.body.length cc2) ac.body.length (ac.body.flatMap u8c) :: LkA l12 (outS (sendS P.e1 ac.body)) :: F) := by rw [show ((P.t1 ++ (outT (sendS P.e1 ac.body)))).length = P.t1.length + (outT (sendS P.e1 ac.body)).length from List.length_append ..]; exact H58
          have H61 : St W w57 (blk g (.cells #[.pointer (some ⟨l11, 0, none⟩), .pointer (some ⟨l12, 0, none⟩), .slice pp13 P.g0.length cc14, .slice pp55 ((P.g1 ++ [ac.body]).length) cc56, .slice pp17 P.c0.length cc18, .slice pp19 P.c1.length cc20, .slice pp21 P.t0.length cc22, .slice pp76 ((P.t1 ++ (outT (sendS P.e1 ac.body))).length) cc77] 37 (0, 0)) :: LkA l11 P.e0 :: LkA l12 (outS (sendS P.e1 ac.body)) :: BysA pp13 cc14 P.g0 :: BysA pp55 cc56 (P.g1 ++ [ac.body]) :: BysA pp17 cc18 P.c0 :: BysA pp19 cc20 P.c1 :: DgsA pp21 cc22 P.t0 :: DgsA pp76 cc77 (P.t1 ++ (outT (sendS P.e1 ac.body))) :: byA (D67.map DgD.by) :: Row 41 6 (.slice pp56 ((outT (sendS P.e1 ac.body)).length) cc57) ((outT (sendS P.e1 ac.body)).length) (D61.flatMap dgdCell) :: byA (D61.map DgD.by) :: blk bk48 (.cells #[.slice pp44 ac.body.length cc45] 26 (0, 0)) :: Im 1 (.slice pp44 ac.body.length cc45) ac.body.length (ac.body.flatMap u8c) :: byA D39 :: blk bk6 (.cells #[.int .i64 ac.do_.v, .int .i64 ac.who.v, .int .i64 ac.n.v, .slice pp1 ac.body.length cc2] 28 (0, 0)) :: Im 1 (.slice pp1 ac.body.length cc2) ac.body.length (ac.body.flatMap u8c) :: F) := ((((((((H60.move 13 rfl).move 13 rfl).move 13 rfl).move 7 rfl).move 13 rfl).move 16 rfl).move 14 rfl).move 14 rfl)
          have H62 : St W w57 (PairA g ({ P with e1 := outS (sendS P.e1 ac.body), g1 := P.g1 ++ [ac.body], t1 := P.t1 ++ outT (sendS P.e1 ac.body) } : PairV) :: byA (D67.map DgD.by) :: Row 41 6 (.slice pp56 ((outT (sendS P.e1 ac.body)).length) cc57) ((outT (sendS P.e1 ac.body)).length) (D61.flatMap dgdCell) :: byA (D61.map DgD.by) :: blk bk48 (.cells #[.slice pp44 ac.body.length cc45] 26 (0, 0)) :: Im 1 (.slice pp44 ac.body.length cc45) ac.body.length (ac.body.flatMap u8c) :: byA D39 :: blk bk6 (.cells #[.int .i64 ac.do_.v, .int .i64 ac.who.v, .int .i64 ac.n.v, .slice pp1 ac.body.length cc2] 28 (0, 0)) :: Im 1 (.slice pp1 ac.body.length cc2) ac.body.length (ac.body.flatMap u8c) :: F) := St.shut_ex (⟨l11, l12, pp13, cc14, pp55, cc56, pp17, cc18, pp19, cc20, pp21, cc22, pp76, cc77⟩ : PairQ) (St.shut_star (ls := [blk g (.cells #[.pointer (some ⟨l11, 0, none⟩), .pointer (some ⟨l12, 0, none⟩), .slice pp13 P.g0.length cc14, .slice pp55 ((P.g1 ++ [ac.body]).length) cc56, .slice pp17 P.c0.length cc18, .slice pp19 P.c1.length cc20, .slice pp21 P.t0.length cc22, .slice pp76 ((P.t1 ++ (outT (sendS P.e1 ac.body))).length) cc77] 37 (0, 0)), LkA l11 P.e0, LkA l12 (outS (sendS P.e1 ac.body)), BysA pp13 cc14 P.g0, BysA pp55 cc56 (P.g1 ++ [ac.body]), BysA pp17 cc18 P.c0, BysA pp19 cc20 P.c1, DgsA pp21 cc22 P.t0, DgsA pp76 cc77 (P.t1 ++ (outT (sendS P.e1 ac.body)))]) H61)
          have H63 : St W w57 (PairA g ({ P with e1 := outS (sendS P.e1 ac.body), g1 := P.g1 ++ [ac.body], t1 := P.t1 ++ outT (sendS P.e1 ac.body) } : PairV) :: F) := ((((((((H62.drop 1 rfl).drop 1 rfl).drop 1 rfl).drop 1 rfl).drop 1 rfl).drop 1 rfl).drop 1 rfl).drop 1 rfl)
          exact ⟨rfl, by rw [show act0 (swp P) ac = give0 (swp P) ac.body from if_pos hdo]; unfold give0; rw [if_pos (show sendE (swp P).e0 ac.body = 0 from hE9)]; exact H63⟩
        · intro join56
          refine g_any mixed 20 rfl ?_
          intro w64 hw65
          have H66 := H55.drew
          rw [← hw65] at H66
          clear hw65
          refine a_take 0 (listed' := #[true, false, false, false, false, false, false, false, false, false, false, false, false, false, false, false, false, false, false, false]) rfl (by kernel_rfl) (by kernel_rfl) (by kernel_rfl) rfl rfl rfl rfl (fun w => x_move (.pointer (some ⟨g, 0, none⟩)) rfl w) ?_
          refine a_take 1 (listed' := #[true, true, false, false, false, false, false, false, false, false, false, false, false, false, false, false, false, false, false, false]) rfl (by kernel_rfl) (by kernel_rfl) (by kernel_rfl) rfl rfl rfl rfl (fun w => x_move (.int .i64 1) rfl w) ?_
          refine a_take 2 (listed' := #[true, true, true, false, false, false, false, false, false, false, false, false, false, false, false, false, false, false, false, false]) rfl (by kernel_rfl) (by kernel_rfl) (by kernel_rfl) rfl rfl rfl rfl (fun w => x_move (.pointer (some ⟨g, 0, none⟩)) rfl w) ?_
          refine a_take 3 (listed' := #[true, true, true, true, false, false, false, false, false, false, false, false, false, false, false, false, false, false, false, false]) rfl (by kernel_rfl) (by kernel_rfl) (by kernel_rfl) rfl rfl rfl rfl (fun w => x_move (.int .i64 1) rfl w) ?_
          refine a_take 4 (listed' := #[true, true, true, true, true, false, false, false, false, false, false, false, false, false, false, false, false, false, false, false]) rfl (by kernel_rfl) (by kernel_rfl) (by kernel_rfl) rfl rfl rfl rfl (fun w => x_nilCheck (.pointer (some ⟨g, 0, none⟩)) rfl ⟨_, rfl⟩ w) ?_
          refine a_take 5 (listed' := #[true, true, true, true, true, true, false, false, false, false, false, false, false, false, false, false, false, false, false, false]) rfl (by kernel_rfl) (by kernel_rfl) (by kernel_rfl) rfl rfl rfl rfl (fun w => x_fieldAddr 37 3 6 6 35 rfl fi_37_3 rfl w) ?_
          refine a_take 6 (listed' := #[true, true, true, true, true, true, true, false, false, false, false, false, false, false, false, false, false, false, false, false]) rfl (by kernel_rfl) (by kernel_rfl) (by kernel_rfl) rfl rfl rfl rfl (fun w => x_indexAddr_arr 1 1 7 rfl rfl ar_35 (by omega) rfl w) ?_
          refine a_take 8 (listed' := #[true, true, true, true, true, true, true, false, true, false, false, false, false, false, false, false, false, false, false, false]) rfl (by kernel_rfl) (by kernel_rfl) (by kernel_rfl) rfl rfl rfl rfl (fun w => x_move (.pointer (some ⟨g, 0, none⟩)) rfl w) ?_
          refine a_take 9 (listed' := #[true, true, true, true, true, true, true, false, true, true, false, false, false, false, false, false, false, false, false, false]) rfl (by kernel_rfl) (by kernel_rfl) (by kernel_rfl) rfl rfl rfl rfl (fun w => x_move (.int .i64 1) rfl w) ?_
          refine a_take 10 (listed' := #[true, true, true, true, true, true, true, false, true, true, true, false, false, false, false, false, false, false, false, false]) rfl (by kernel_rfl) (by kernel_rfl) (by kernel_rfl) rfl rfl rfl rfl (fun w => x_nilCheck (.pointer (some ⟨g, 0, none⟩)) rfl ⟨_, rfl⟩ w) ?_
          refine a_take 11 (listed' := #[true, true, true, true, true, true, true, false, true, true, true, true, false, false, false, false, false, false, false, false]) rfl (by kernel_rfl) (by kernel_rfl) (by kernel_rfl) rfl rfl rfl rfl (fun w => x_fieldAddr 37 0 0 0 31 rfl fi_37_0 rfl w) ?_
          refine a_take 12 (listed' := #[true, true, true, true, true, true, true, false, true, true, true, true, true, false, false, false, false, false, false, false]) rfl (by kernel_rfl) (by kernel_rfl) (by kernel_rfl) rfl rfl rfl rfl (fun w => x_indexAddr_arr 1 1 1 rfl rfl ar_31 (by omega) rfl w) ?_
          refine a_take 16 (listed' := #[true, true, true, true, true, true, true, false, true, true, true, true, true, false, false, false, true, false, false, false]) rfl (by kernel_rfl) (by kernel_rfl) (by kernel_rfl) rfl rfl rfl rfl (fun w => x_nilCheck (.pointer (some ⟨g, 0, none⟩)) rfl ⟨_, rfl⟩ w) ?_
          refine a_take 17 (listed' := #[true, true, true, true, true, true, true, false, true, true, true, true, true, false, false, false, true, true, false, false]) rfl (by kernel_rfl) (by kernel_rfl) (by kernel_rfl) rfl rfl rfl rfl (fun w => x_fieldAddr 37 3 6 6 35 rfl fi_37_3 rfl w) ?_
          refine a_all (rs := [7, 13]) (by kernel_rfl) (by simp) ?_
          refine a_cons ⟨_, rfl, ?_⟩ (a_cons ⟨_, rfl, ?_⟩ (fun x hx => absurd hx (by simp)))
          · skip
            refine s_load (.slice pp23 P.t1.length cc24) ag_34 rfl (H66.blk_at (i := 4) rfl) rfl rfl ?_
            change AnyG _ _ _ _ #[true, true, true, true, true, true, true, true, true, true, true, true, true, false, false, false, true, true, false, false] _ _
            refine a_all (rs := [13]) (by kernel_rfl) (by simp) ?_
            refine a_cons ⟨_, rfl, ?_⟩ (fun x hx => absurd hx (by simp))
            refine s_load (.pointer (some ⟨l12, 0, none⟩)) ag_30 rfl (H66.blk_at (i := 4) rfl) rfl rfl ?_
            change AnyG _ _ _ _ #[true, true, true, true, true, true, true, true, true, true, true, true, true, true, false, false, true, true, false, false] _ _
            refine a_all (rs := [14]) (by kernel_rfl) (by simp) ?_
            refine a_cons ⟨_, rfl, ?_⟩ (fun x hx => absurd hx (by simp))
            refine s_call [.pointer (some ⟨l12, 0, none⟩)] pl_23 rfl rfl (Lk_Out l12 (sendS P.e1 ac.body) (endOk_send hI.b.ok) (i := 13) rfl H66) ?_
            rintro _ w69 ⟨pp67, cc68, rfl, H70⟩
            change AnyG _ _ _ _ #[true, true, true, true, true, true, true, true, true, true, true, true, true, true, true, false, true, true, false, false] _ _
            refine a_all (rs := [15]) (by kernel_rfl) (by simp) ?_
            refine a_cons ⟨_, rfl, ?_⟩ (fun x hx => absurd hx (by simp))
            have H71 := H70.move 0 rfl
            obtain ⟨⟨D72, hD73⟩, H74⟩ := St.open_ex H71
            have H75 := St.open_star H74
            change D72.map DgD.d = (outT (sendS P.e1 ac.body)) at hD73
            have H76 : St W w69 (Row 41 6 (.slice pp67 ((outT (sendS P.e1 ac.body)).length) cc68) ((outT (sendS P.e1 ac.body)).length) (D72.flatMap dgdCell) :: byA (D72.map DgD.by) :: BysA pp55 cc56 (P.g1 ++ [ac.body]) :: blk bk48 (.cells #[.slice pp44 ac.body.length cc45] 26 (0, 0)) :: Im 1 (.slice pp44 ac.body.length cc45) ac.body.length (ac.body.flatMap u8c) :: byA D39 :: blk g (.cells #[.pointer (some ⟨l11, 0, none⟩), .pointer (some ⟨l12, 0, none⟩), .slice pp13 P.g0.length cc14, .slice pp55 ((P.g1 ++ [ac.body]).length) cc56, .slice pp17 P.c0.length cc18, .slice pp19 P.c1.length cc20, .slice pp21 P.t0.length cc22, .slice pp23 P.t1.length cc24] 37 (0, 0)) :: LkA l11 P.e0 :: BysA pp13 cc14 P.g0 :: BysA pp17 cc18 P.c0 :: BysA pp19 cc20 P.c1 :: DgsA pp21 cc22 P.t0 :: DgsA pp23 cc24 P.t1 :: blk bk6 (.cells #[.int .i64 ac.do_.v, .int .i64 ac.who.v, .int .i64 ac.n.v, .slice pp1 ac.body.length cc2] 28 (0, 0)) :: Im 1 (.slice pp1 ac.body.length cc2) ac.body.length (ac.body.flatMap u8c) :: LkA l12 (outS (sendS P.e1 ac.body)) :: F) := H75
            have H77 := H76.move 12 rfl
            obtain ⟨⟨D78, hD79⟩, H80⟩ := St.open_ex H77
            have H81 := St.open_star H80
            change D78.map DgD.d = P.t1 at hD79
            have H82 : St W w69 (Row 41 6 (.slice pp23 P.t1.length cc24) P.t1.length (D78.flatMap dgdCell) :: byA (D78.map DgD.by) :: Row 41 6 (.slice pp67 ((outT (sendS P.e1 ac.body)).length) cc68) ((outT (sendS P.e1 ac.body)).length) (D72.flatMap dgdCell) :: byA (D72.map DgD.by) :: BysA pp55 cc56 (P.g1 ++ [ac.body]) :: blk bk48 (.cells #[.slice pp44 ac.body.length cc45] 26 (0, 0)) :: Im 1 (.slice pp44 ac.body.length cc45) ac.body.length (ac.body.flatMap u8c) :: byA D39 :: blk g (.cells #[.pointer (some ⟨l11, 0, none⟩), .pointer (some ⟨l12, 0, none⟩), .slice pp13 P.g0.length cc14, .slice pp55 ((P.g1 ++ [ac.body]).length) cc56, .slice pp17 P.c0.length cc18, .slice pp19 P.c1.length cc20, .slice pp21 P.t0.length cc22, .slice pp23 P.t1.length cc24] 37 (0, 0)) :: LkA l11 P.e0 :: BysA pp13 cc14 P.g0 :: BysA pp17 cc18 P.c0 :: BysA pp19 cc20 P.c1 :: DgsA pp21 cc22 P.t0 :: blk bk6 (.cells #[.int .i64 ac.do_.v, .int .i64 ac.who.v, .int .i64 ac.n.v, .slice pp1 ac.body.length cc2] 28 (0, 0)) :: Im 1 (.slice pp1 ac.body.length cc2) ac.body.length (ac.body.flatMap u8c) :: LkA l12 (outS (sendS P.e1 ac.body)) :: F) := H81
            have hz3 := Row.lenOf H82 (i := 0) rfl; have hz4 := Row.lenOf H82 (i := 2) rfl
            have hz5 := hI.swp.a.tl; have hz6 : (outT (sendS P.e1 ac.body)).length ≤ 128 := Nat.le_trans (outT_len _ (endOk_send hI.swp.a.ok)) (by decide)
            change P.t1.length ≤ 192 * n at hz5
            refine s_append H82 0 rfl rfl rfl (Row.rd H82 (i := 2) rfl) ap_34 (by decide) (by unfold maxLen; omega) (by omega) (n' := P.t1.length + (outT (sendS P.e1 ac.body)).length) (xs' := D78.flatMap dgdCell ++ D72.flatMap dgdCell) (by omega) (by first | rfl | simp) rfl ?_; intro vv83 w84 H85 hn86
            obtain ⟨pp87, cc88, rfl⟩ := Row.slice H85 (i := 0) rfl
            have H89 := byA_app (M := (D78 ++ D72).map DgD.by) H85 (i := 1) (j := 3) rfl rfl app_dg
            have H90 : St W w84 (Row 41 6 (.slice pp87 (P.t1.length + (outT (sendS P.e1 ac.body)).length) cc88) (P.t1.length + (outT (sendS P.e1 ac.body)).length) (D78.flatMap dgdCell ++ D72.flatMap dgdCell) :: byA ((D78 ++ D72).map DgD.by) :: byA (D78.map DgD.by) :: Row 41 6 (.slice pp67 ((outT (sendS P.e1 ac.body)).length) cc68) ((outT (sendS P.e1 ac.body)).length) (D72.flatMap dgdCell) :: byA (D72.map DgD.by) :: BysA pp55 cc56 (P.g1 ++ [ac.body]) :: blk bk48 (.cells #[.slice pp44 ac.body.length cc45] 26 (0, 0)) :: Im 1 (.slice pp44 ac.body.length cc45) ac.body.length (ac.body.flatMap u8c) :: byA D39 :: blk g (.cells #[.pointer (some ⟨l11, 0, none⟩), .pointer (some ⟨l12, 0, none⟩), .slice pp13 P.g0.length cc14, .slice pp55 ((P.g1 ++ [ac.body]).length) cc56, .slice pp17 P.c0.length cc18, .slice pp19 P.c1.length cc20, .slice pp21 P.t0.length cc22, .slice pp23 P.t1.length cc24] 37 (0, 0)) :: LkA l11 P.e0 :: BysA pp13 cc14 P.g0 :: BysA pp17 cc18 P.c0 :: BysA pp19 cc20 P.c1 :: DgsA pp21 cc22 P.t0 :: blk bk6 (.cells #[.int .i64 ac.do_.v, .int .i64 ac.who.v, .int .i64 ac.n.v, .slice pp1 ac.body.length cc2] 28 (0, 0)) :: Im 1 (.slice pp1 ac.body.length cc2) ac.body.length (ac.body.flatMap u8c) :: LkA l12 (outS (sendS P.e1 ac.body)) :: F) := (H89.move 1 rfl)
            have hn91 : (P.t1 ++ (outT (sendS P.e1 ac.body))).length = P.t1.length + (outT (sendS P.e1 ac.body)).length := (List.length_append ..)
            have H92 : St W w84 (Row 41 6 (.slice pp87 ((P.t1 ++ (outT (sendS P.e1 ac.body))).length) cc88) ((P.t1 ++ (outT (sendS P.e1 ac.body))).length) ((D78 ++ D72).flatMap dgdCell) :: byA ((D78 ++ D72).map DgD.by) :: byA (D78.map DgD.by) :: Row 41 6 (.slice pp67 ((outT (sendS P.e1 ac.body)).length) cc68) ((outT (sendS P.e1 ac.body)).length) (D72.flatMap dgdCell) :: byA (D72.map DgD.by) :: BysA pp55 cc56 (P.g1 ++ [ac.body]) :: blk bk48 (.cells #[.slice pp44 ac.body.length cc45] 26 (0, 0)) :: Im 1 (.slice pp44 ac.body.length cc45) ac.body.length (ac.body.flatMap u8c) :: byA D39 :: blk g (.cells #[.pointer (some ⟨l11, 0, none⟩), .pointer (some ⟨l12, 0, none⟩), .slice pp13 P.g0.length cc14, .slice pp55 ((P.g1 ++ [ac.body]).length) cc56, .slice pp17 P.c0.length cc18, .slice pp19 P.c1.length cc20, .slice pp21 P.t0.length cc22, .slice pp23 P.t1.length cc24] 37 (0, 0)) :: LkA l11 P.e0 :: BysA pp13 cc14 P.g0 :: BysA pp17 cc18 P.c0 :: BysA pp19 cc20 P.c1 :: DgsA pp21 cc22 P.t0 :: blk bk6 (.cells #[.int .i64 ac.do_.v, .int .i64 ac.who.v, .int .i64 ac.n.v, .slice pp1 ac.body.length cc2] 28 (0, 0)) :: Im 1 (.slice pp1 ac.body.length cc2) ac.body.length (ac.body.flatMap u8c) :: LkA l12 (outS (sendS P.e1 ac.body)) :: F) := by rw [hn91]; rw [flat_app]; exact H90
            have H93 : St W w84 (DgsA pp87 cc88 (P.t1 ++ (outT (sendS P.e1 ac.body))) :: byA (D78.map DgD.by) :: Row 41 6 (.slice pp67 ((outT (sendS P.e1 ac.body)).length) cc68) ((outT (sendS P.e1 ac.body)).length) (D72.flatMap dgdCell) :: byA (D72.map DgD.by) :: BysA pp55 cc56 (P.g1 ++ [ac.body]) :: blk bk48 (.cells #[.slice pp44 ac.body.length cc45] 26 (0, 0)) :: Im 1 (.slice pp44 ac.body.length cc45) ac.body.length (ac.body.flatMap u8c) :: byA D39 :: blk g (.cells #[.pointer (some ⟨l11, 0, none⟩), .pointer (some ⟨l12, 0, none⟩), .slice pp13 P.g0.length cc14, .slice pp55 ((P.g1 ++ [ac.body]).length) cc56, .slice pp17 P.c0.length cc18, .slice pp19 P.c1.length cc20, .slice pp21 P.t0.length cc22, .slice pp23 P.t1.length cc24] 37 (0, 0)) :: LkA l11 P.e0 :: BysA pp13 cc14 P.g0 :: BysA pp17 cc18 P.c0 :: BysA pp19 cc20 P.c1 :: DgsA pp21 cc22 P.t0 :: blk bk6 (.cells #[.int .i64 ac.do_.v, .int .i64 ac.who.v, .int .i64 ac.n.v, .slice pp1 ac.body.length cc2] 28 (0, 0)) :: Im 1 (.slice pp1 ac.body.length cc2) ac.body.length (ac.body.flatMap u8c) :: LkA l12 (outS (sendS P.e1 ac.body)) :: F) := St.shut_ex ⟨(D78 ++ D72), (show (D78 ++ D72).map DgD.d = (P.t1 ++ (outT (sendS P.e1 ac.body))) from app_map hD79 hD73)⟩ (St.shut_star (ls := [Row 41 6 (.slice pp87 ((P.t1 ++ (outT (sendS P.e1 ac.body))).length) cc88) ((P.t1 ++ (outT (sendS P.e1 ac.body))).length) ((D78 ++ D72).flatMap dgdCell), byA ((D78 ++ D72).map DgD.by)]) H92)
            change AnyG _ _ _ _ #[true, true, true, true, true, true, true, true, true, true, true, true, true, true, true, true, true, true, false, false] _ _
            refine a_take 18 (listed' := #[true, true, true, true, true, true, true, true, true, true, true, true, true, true, true, true, true, true, true, false]) rfl (by kernel_rfl) (by kernel_rfl) (by kernel_rfl) rfl rfl rfl rfl (fun w => x_indexAddr_arr 1 1 7 rfl rfl ar_35 (by omega) rfl w) ?_
            refine a_all (rs := [19]) (by kernel_rfl) (by simp) ?_
            refine a_cons ⟨_, rfl, ?_⟩ (fun x hx => absurd hx (by simp))
            refine s_store H93 8 (.slice pp87 (P.t1.length + (outT (sendS P.e1 ac.body)).length) cc88) rfl rfl rfl sz_34 rfl (Nat.le_of_ble_eq_true rfl) rfl (cs' := #[.pointer (some ⟨l11, 0, none⟩), .pointer (some ⟨l12, 0, none⟩), .slice pp13 P.g0.length cc14, .slice pp55 ((P.g1 ++ [ac.body]).length) cc56, .slice pp17 P.c0.length cc18, .slice pp19 P.c1.length cc20, .slice pp21 P.t0.length cc22, .slice pp87 (P.t1.length + (outT (sendS P.e1 ac.body)).length) cc88]) rfl ?_; intro w94 H95
            change AnyG _ _ _ _ #[true, true, true, true, true, true, true, true, true, true, true, true, true, true, true, true, true, true, true, true] _ _
            refine a_done (by kernel_rfl) ?_
            exact join56 (pp87, cc88, D78, pp67, cc68, D72) _ _ H95 ⟨rfl, trivial⟩
          · skip
            refine s_load (.pointer (some ⟨l12, 0, none⟩)) ag_30 rfl (H66.blk_at (i := 4) rfl) rfl rfl ?_
            change AnyG _ _ _ _ #[true, true, true, true, true, true, true, false, true, true, true, true, true, true, false, false, true, true, false, false] _ _
            refine a_all (rs := [7, 14]) (by kernel_rfl) (by simp) ?_
            refine a_cons ⟨_, rfl, ?_⟩ (a_cons ⟨_, rfl, ?_⟩ (fun x hx => absurd hx (by simp)))
            · skip
              refine s_load (.slice pp23 P.t1.length cc24) ag_34 rfl (H66.blk_at (i := 4) rfl) rfl rfl ?_
              change AnyG _ _ _ _ #[true, true, true, true, true, true, true, true, true, true, true, true, true, true, false, false, true, true, false, false] _ _
              refine a_all (rs := [14]) (by kernel_rfl) (by simp) ?_
              refine a_cons ⟨_, rfl, ?_⟩ (fun x hx => absurd hx (by simp))
              refine s_call [.pointer (some ⟨l12, 0, none⟩)] pl_23 rfl rfl (Lk_Out l12 (sendS P.e1 ac.body) (endOk_send hI.b.ok) (i := 13) rfl H66) ?_
              rintro _ w98 ⟨pp96, cc97, rfl, H99⟩
              change AnyG _ _ _ _ #[true, true, true, true, true, true, true, true, true, true, true, true, true, true, true, false, true, true, false, false] _ _
              refine a_all (rs := [15]) (by kernel_rfl) (by simp) ?_
              refine a_cons ⟨_, rfl, ?_⟩ (fun x hx => absurd hx (by simp))
              have H100 := H99.move 0 rfl
              obtain ⟨⟨D101, hD102⟩, H103⟩ := St.open_ex H100
              have H104 := St.open_star H103
              change D101.map DgD.d = (outT (sendS P.e1 ac.body)) at hD102
              have H105 : St W w98 (Row 41 6 (.slice pp96 ((outT (sendS P.e1 ac.body)).length) cc97) ((outT (sendS P.e1 ac.body)).length) (D101.flatMap dgdCell) :: byA (D101.map DgD.by) :: BysA pp55 cc56 (P.g1 ++ [ac.body]) :: blk bk48 (.cells #[.slice pp44 ac.body.length cc45] 26 (0, 0)) :: Im 1 (.slice pp44 ac.body.length cc45) ac.body.length (ac.body.flatMap u8c) :: byA D39 :: blk g (.cells #[.pointer (some ⟨l11, 0, none⟩), .pointer (some ⟨l12, 0, none⟩), .slice pp13 P.g0.length cc14, .slice pp55 ((P.g1 ++ [ac.body]).length) cc56, .slice pp17 P.c0.length cc18, .slice pp19 P.c1.length cc20, .slice pp21 P.t0.length cc22, .slice pp23 P.t1.length cc24] 37 (0, 0)) :: LkA l11 P.e0 :: BysA pp13 cc14 P.g0 :: BysA pp17 cc18 P.c0 :: BysA pp19 cc20 P.c1 :: DgsA pp21 cc22 P.t0 :: DgsA pp23 cc24 P.t1 :: blk bk6 (.cells #[.int .i64 ac.do_.v, .int .i64 ac.who.v, .int .i64 ac.n.v, .slice pp1 ac.body.length cc2] 28 (0, 0)) :: Im 1 (.slice pp1 ac.body.length cc2) ac.body.length (ac.body.flatMap u8c) :: LkA l12 (outS (sendS P.e1 ac.body)) :: F) := H104
              have H106 := H105.move 12 rfl
              obtain ⟨⟨D107, hD108⟩, H109⟩ := St.open_ex H106
              have H110 := St.open_star H109
              change D107.map DgD.d = P.t1 at hD108
              have H111 : St W w98 (Row 41 6 (.slice pp23 P.t1.length cc24) P.t1.length (D107.flatMap dgdCell) :: byA (D107.map DgD.by) :: Row 41 6 (.slice pp96 ((outT (sendS P.e1 ac.body)).length) cc97) ((outT (sendS P.e1 ac.body)).length) (D101.flatMap dgdCell) :: byA (D101.map DgD.by) :: BysA pp55 cc56 (P.g1 ++ [ac.body]) :: blk bk48 (.cells #[.slice pp44 ac.body.length cc45] 26 (0, 0)) :: Im 1 (.slice pp44 ac.body.length cc45) ac.body.length (ac.body.flatMap u8c) :: byA D39 :: blk g (.cells #[.pointer (some ⟨l11, 0, none⟩), .pointer (some ⟨l12, 0, none⟩), .slice pp13 P.g0.length cc14, .slice pp55 ((P.g1 ++ [ac.body]).length) cc56, .slice pp17 P.c0.length cc18, .slice pp19 P.c1.length cc20, .slice pp21 P.t0.length cc22, .slice pp23 P.t1.length cc24] 37 (0, 0)) :: LkA l11 P.e0 :: BysA pp13 cc14 P.g0 :: BysA pp17 cc18 P.c0 :: BysA pp19 cc20 P.c1 :: DgsA pp21 cc22 P.t0 :: blk bk6 (.cells #[.int .i64 ac.do_.v, .int .i64 ac.who.v, .int .i64 ac.n.v, .slice pp1 ac.body.length cc2] 28 (0, 0)) :: Im 1 (.slice pp1 ac.body.length cc2) ac.body.length (ac.body.flatMap u8c) :: LkA l12 (outS (sendS P.e1 ac.body)) :: F) := H110
              have hz3 := Row.lenOf H111 (i := 0) rfl; have hz4 := Row.lenOf H111 (i := 2) rfl
              have hz5 := hI.swp.a.tl; have hz6 : (outT (sendS P.e1 ac.body)).length ≤ 128 := Nat.le_trans (outT_len _ (endOk_send hI.swp.a.ok)) (by decide)
              change P.t1.length ≤ 192 * n at hz5
              refine s_append H111 0 rfl rfl rfl (Row.rd H111 (i := 2) rfl) ap_34 (by decide) (by unfold maxLen; omega) (by omega) (n' := P.t1.length + (outT (sendS P.e1 ac.body)).length) (xs' := D107.flatMap dgdCell ++ D101.flatMap dgdCell) (by omega) (by first | rfl | simp) rfl ?_; intro vv112 w113 H114 hn115
              obtain ⟨pp116, cc117, rfl⟩ := Row.slice H114 (i := 0) rfl
              have H118 := byA_app (M := (D107 ++ D101).map DgD.by) H114 (i := 1) (j := 3) rfl rfl app_dg
              have H119 : St W w113 (Row 41 6 (.slice pp116 (P.t1.length + (outT (sendS P.e1 ac.body)).length) cc117) (P.t1.length + (outT (sendS P.e1 ac.body)).length) (D107.flatMap dgdCell ++ D101.flatMap dgdCell) :: byA ((D107 ++ D101).map DgD.by) :: byA (D107.map DgD.by) :: Row 41 6 (.slice pp96 ((outT (sendS P.e1 ac.body)).length) cc97) ((outT (sendS P.e1 ac.body)).length) (D101.flatMap dgdCell) :: byA (D101.map DgD.by) :: BysA pp55 cc56 (P.g1 ++ [ac.body]) :: blk bk48 (.cells #[.slice pp44 ac.body.length cc45] 26 (0, 0)) :: Im 1 (.slice pp44 ac.body.length cc45) ac.body.length (ac.body.flatMap u8c) :: byA D39 :: blk g (.cells #[.pointer (some ⟨l11, 0, none⟩), .pointer (some ⟨l12, 0, none⟩), .slice pp13 P.g0.length cc14, .slice pp55 ((P.g1 ++ [ac.body]).length) cc56, .slice pp17 P.c0.length cc18, .slice pp19 P.c1.length cc20, .slice pp21 P.t0.length cc22, .slice pp23 P.t1.length cc24] 37 (0, 0)) :: LkA l11 P.e0 :: BysA pp13 cc14 P.g0 :: BysA pp17 cc18 P.c0 :: BysA pp19 cc20 P.c1 :: DgsA pp21 cc22 P.t0 :: blk bk6 (.cells #[.int .i64 ac.do_.v, .int .i64 ac.who.v, .int .i64 ac.n.v, .slice pp1 ac.body.length cc2] 28 (0, 0)) :: Im 1 (.slice pp1 ac.body.length cc2) ac.body.length (ac.body.flatMap u8c) :: LkA l12 (outS (sendS P.e1 ac.body)) :: F) := (H118.move 1 rfl)
              have hn120 : (P.t1 ++ (outT (sendS P.e1 ac.body))).length = P.t1.length + (outT (sendS P.e1 ac.body)).length := (List.length_append ..)
              have H121 : St W w113 (Row 41 6 (.slice pp116 ((P.t1 ++ (outT (sendS P.e1 ac.body))).length) cc117) ((P.t1 ++ (outT (sendS P.e1 ac.body))).length) ((D107 ++ D101).flatMap dgdCell) :: byA ((D107 ++ D101).map DgD.by) :: byA (D107.map DgD.by) :: Row 41 6 (.slice pp96 ((outT (sendS P.e1 ac.body)).length) cc97) ((outT (sendS P.e1 ac.body)).length) (D101.flatMap dgdCell) :: byA (D101.map DgD.by) :: BysA pp55 cc56 (P.g1 ++ [ac.body]) :: blk bk48 (.cells #[.slice pp44 ac.body.length cc45] 26 (0, 0)) :: Im 1 (.slice pp44 ac.body.length cc45) ac.body.length (ac.body.flatMap u8c) :: byA D39 :: blk g (.cells #[.pointer (some ⟨l11, 0, none⟩), .pointer (some ⟨l12, 0, none⟩), .slice pp13 P.g0.length cc14, .slice pp55 ((P.g1 ++ [ac.body]).length) cc56, .slice pp17 P.c0.length cc18, .slice pp19 P.c1.length cc20, .slice pp21 P.t0.length cc22, .slice pp23 P.t1.length cc24] 37 (0, 0)) :: LkA l11 P.e0 :: BysA pp13 cc14 P.g0 :: BysA pp17 cc18 P.c0 :: BysA pp19 cc20 P.c1 :: DgsA pp21 cc22 P.t0 :: blk bk6 (.cells #[.int .i64 ac.do_.v, .int .i64 ac.who.v, .int .i64 ac.n.v, .slice pp1 ac.body.length cc2] 28 (0, 0)) :: Im 1 (.slice pp1 ac.body.length cc2) ac.body.length (ac.body.flatMap u8c) :: LkA l12 (outS (sendS P.e1 ac.body)) :: F) := by rw [hn120]; rw [flat_app]; exact H119
              have H122 : St W w113 (DgsA pp116 cc117 (P.t1 ++ (outT (sendS P.e1 ac.body))) :: byA (D107.map DgD.by) :: Row 41 6 (.slice pp96 ((outT (sendS P.e1 ac.body)).length) cc97) ((outT (sendS P.e1 ac.body)).length) (D101.flatMap dgdCell) :: byA (D101.map DgD.by) :: BysA pp55 cc56 (P.g1 ++ [ac.body]) :: blk bk48 (.cells #[.slice pp44 ac.body.length cc45] 26 (0, 0)) :: Im 1 (.slice pp44 ac.body.length cc45) ac.body.length (ac.body.flatMap u8c) :: byA D39 :: blk g (.cells #[.pointer (some ⟨l11, 0, none⟩), .pointer (some ⟨l12, 0, none⟩), .slice pp13 P.g0.length cc14, .slice pp55 ((P.g1 ++ [ac.body]).length) cc56, .slice pp17 P.c0.length cc18, .slice pp19 P.c1.length cc20, .slice pp21 P.t0.length cc22, .slice pp23 P.t1.length cc24] 37 (0, 0)) :: LkA l11 P.e0 :: BysA pp13 cc14 P.g0 :: BysA pp17 cc18 P.c0 :: BysA pp19 cc20 P.c1 :: DgsA pp21 cc22 P.t0 :: blk bk6 (.cells #[.int .i64 ac.do_.v, .int .i64 ac.who.v, .int .i64 ac.n.v, .slice pp1 ac.body.length cc2] 28 (0, 0)) :: Im 1 (.slice pp1 ac.body.length cc2) ac.body.length (ac.body.flatMap u8c) :: LkA l12 (outS (sendS P.e1 ac.body)) :: F) := St.shut_ex ⟨(D107 ++ D101), (show (D107 ++ D101).map DgD.d = (P.t1 ++ (outT (sendS P.e1 ac.body))) from app_map hD108 hD102)⟩ (St.shut_star (ls := [Row 41 6 (.slice pp116 ((P.t1 ++ (outT (sendS P.e1 ac.body))).length) cc117) ((P.t1 ++ (outT (sendS P.e1 ac.body))).length) ((D107 ++ D101).flatMap dgdCell), byA ((D107 ++ D101).map DgD.by)]) H121)
              change AnyG _ _ _ _ #[true, true, true, true, true, true, true, true, true, true, true, true, true, true, true, true, true, true, false, false] _ _
              refine a_take 18 (listed' := #[true, true, true, true, true, true, true, true, true, true, true, true, true, true, true, true, true, true, true, false]) rfl (by kernel_rfl) (by kernel_rfl) (by kernel_rfl) rfl rfl rfl rfl (fun w => x_indexAddr_arr 1 1 7 rfl rfl ar_35 (by omega) rfl w) ?_
              refine a_all (rs := [19]) (by kernel_rfl) (by simp) ?_
              refine a_cons ⟨_, rfl, ?_⟩ (fun x hx => absurd hx (by simp))
              refine s_store H122 8 (.slice pp116 (P.t1.length + (outT (sendS P.e1 ac.body)).length) cc117) rfl rfl rfl sz_34 rfl (Nat.le_of_ble_eq_true rfl) rfl (cs' := #[.pointer (some ⟨l11, 0, none⟩), .pointer (some ⟨l12, 0, none⟩), .slice pp13 P.g0.length cc14, .slice pp55 ((P.g1 ++ [ac.body]).length) cc56, .slice pp17 P.c0.length cc18, .slice pp19 P.c1.length cc20, .slice pp21 P.t0.length cc22, .slice pp116 (P.t1.length + (outT (sendS P.e1 ac.body)).length) cc117]) rfl ?_; intro w123 H124
              change AnyG _ _ _ _ #[true, true, true, true, true, true, true, true, true, true, true, true, true, true, true, true, true, true, true, true] _ _
              refine a_done (by kernel_rfl) ?_
              exact join56 (pp116, cc117, D107, pp96, cc97, D101) _ _ H124 ⟨rfl, trivial⟩
            · skip
              refine s_call [.pointer (some ⟨l12, 0, none⟩)] pl_23 rfl rfl (Lk_Out l12 (sendS P.e1 ac.body) (endOk_send hI.b.ok) (i := 13) rfl H66) ?_
              rintro _ w127 ⟨pp125, cc126, rfl, H128⟩
              change AnyG _ _ _ _ #[true, true, true, true, true, true, true, false, true, true, true, true, true, true, true, false, true, true, false, false] _ _
              refine a_all (rs := [7]) (by kernel_rfl) (by simp) ?_
              refine a_cons ⟨_, rfl, ?_⟩ (fun x hx => absurd hx (by simp))
              refine s_load (.slice pp23 P.t1.length cc24) ag_34 rfl (H128.blk_at (i := 5) rfl) rfl rfl ?_
              change AnyG _ _ _ _ #[true, true, true, true, true, true, true, true, true, true, true, true, true, true, true, false, true, true, false, false] _ _
              refine a_all (rs := [15]) (by kernel_rfl) (by simp) ?_
              refine a_cons ⟨_, rfl, ?_⟩ (fun x hx => absurd hx (by simp))
              have H129 := H128.move 0 rfl
              obtain ⟨⟨D130, hD131⟩, H132⟩ := St.open_ex H129
              have H133 := St.open_star H132
              change D130.map DgD.d = (outT (sendS P.e1 ac.body)) at hD131
              have H134 : St W w127 (Row 41 6 (.slice pp125 ((outT (sendS P.e1 ac.body)).length) cc126) ((outT (sendS P.e1 ac.body)).length) (D130.flatMap dgdCell) :: byA (D130.map DgD.by) :: BysA pp55 cc56 (P.g1 ++ [ac.body]) :: blk bk48 (.cells #[.slice pp44 ac.body.length cc45] 26 (0, 0)) :: Im 1 (.slice pp44 ac.body.length cc45) ac.body.length (ac.body.flatMap u8c) :: byA D39 :: blk g (.cells #[.pointer (some ⟨l11, 0, none⟩), .pointer (some ⟨l12, 0, none⟩), .slice pp13 P.g0.length cc14, .slice pp55 ((P.g1 ++ [ac.body]).length) cc56, .slice pp17 P.c0.length cc18, .slice pp19 P.c1.length cc20, .slice pp21 P.t0.length cc22, .slice pp23 P.t1.length cc24] 37 (0, 0)) :: LkA l11 P.e0 :: BysA pp13 cc14 P.g0 :: BysA pp17 cc18 P.c0 :: BysA pp19 cc20 P.c1 :: DgsA pp21 cc22 P.t0 :: DgsA pp23 cc24 P.t1 :: blk bk6 (.cells #[.int .i64 ac.do_.v, .int .i64 ac.who.v, .int .i64 ac.n.v, .slice pp1 ac.body.length cc2] 28 (0, 0)) :: Im 1 (.slice pp1 ac.body.length cc2) ac.body.length (ac.body.flatMap u8c) :: LkA l12 (outS (sendS P.e1 ac.body)) :: F) := H133
              have H135 := H134.move 12 rfl
              obtain ⟨⟨D136, hD137⟩, H138⟩ := St.open_ex H135
              have H139 := St.open_star H138
              change D136.map DgD.d = P.t1 at hD137
              have H140 : St W w127 (Row 41 6 (.slice pp23 P.t1.length cc24) P.t1.length (D136.flatMap dgdCell) :: byA (D136.map DgD.by) :: Row 41 6 (.slice pp125 ((outT (sendS P.e1 ac.body)).length) cc126) ((outT (sendS P.e1 ac.body)).length) (D130.flatMap dgdCell) :: byA (D130.map DgD.by) :: BysA pp55 cc56 (P.g1 ++ [ac.body]) :: blk bk48 (.cells #[.slice pp44 ac.body.length cc45] 26 (0, 0)) :: Im 1 (.slice pp44 ac.body.length cc45) ac.body.length (ac.body.flatMap u8c) :: byA D39 :: blk g (.cells #[.pointer (some ⟨l11, 0, none⟩), .pointer (some ⟨l12, 0, none⟩), .slice pp13 P.g0.length cc14, .slice pp55 ((P.g1 ++ [ac.body]).length) cc56, .slice pp17 P.c0.length cc18, .slice pp19 P.c1.length cc20, .slice pp21 P.t0.length cc22, .slice pp23 P.t1.length cc24] 37 (0, 0)) :: LkA l11 P.e0 :: BysA pp13 cc14 P.g0 :: BysA pp17 cc18 P.c0 :: BysA pp19 cc20 P.c1 :: DgsA pp21 cc22 P.t0 :: blk bk6 (.cells #[.int .i64 ac.do_.v, .int .i64 ac.who.v, .int .i64 ac.n.v, .slice pp1 ac.body.length cc2] 28 (0, 0)) :: Im 1 (.slice pp1 ac.body.length cc2) ac.body.length (ac.body.flatMap u8c) :: LkA l12 (outS (sendS P.e1 ac.body)) :: F) := H139
              have hz3 := Row.lenOf H140 (i := 0) rfl; have hz4 := Row.lenOf H140 (i := 2) rfl
              have hz5 := hI.swp.a.tl; have hz6 : (outT (sendS P.e1 ac.body)).length ≤ 128 := Nat.le_trans (outT_len _ (endOk_send hI.swp.a.ok)) (by decide)
              change P.t1.length ≤ 192 * n at hz5
              refine s_append H140 0 rfl rfl rfl (Row.rd H140 (i := 2) rfl) ap_34 (by decide) (by unfold maxLen; omega) (by omega) (n' := P.t1.length + (outT (sendS P.e1 ac.body)).length) (xs' := D136.flatMap dgdCell ++ D130.flatMap dgdCell) (by omega) (by first | rfl | simp) rfl ?_; intro vv141 w142 H143 hn144
              obtain ⟨pp145, cc146, rfl⟩ := Row.slice H143 (i := 0) rfl
              have H147 := byA_app (M := (D136 ++ D130).map DgD.by) H143 (i := 1) (j := 3) rfl rfl app_dg
              have H148 : St W w142 (Row 41 6 (.slice pp145 (P.t1.length + (outT (sendS P.e1 ac.body)).length) cc146) (P.t1.length + (outT (sendS P.e1 ac.body)).length) (D136.flatMap dgdCell ++ D130.flatMap dgdCell) :: byA ((D136 ++ D130).map DgD.by) :: byA (D136.map DgD.by) :: Row 41 6 (.slice pp125 ((outT (sendS P.e1 ac.body)).length) cc126) ((outT (sendS P.e1 ac.body)).length) (D130.flatMap dgdCell) :: byA (D130.map DgD.by) :: BysA pp55 cc56 (P.g1 ++ [ac.body]) :: blk bk48 (.cells #[.slice pp44 ac.body.length cc45] 26 (0, 0)) :: Im 1 (.slice pp44 ac.body.length cc45) ac.body.length (ac.body.flatMap u8c) :: byA D39 :: blk g (.cells #[.pointer (some ⟨l11, 0, none⟩), .pointer (some ⟨l12, 0, none⟩), .slice pp13 P.g0.length cc14, .slice pp55 ((P.g1 ++ [ac.body]).length) cc56, .slice pp17 P.c0.length cc18, .slice pp19 P.c1.length cc20, .slice pp21 P.t0.length cc22, .slice pp23 P.t1.length cc24] 37 (0, 0)) :: LkA l11 P.e0 :: BysA pp13 cc14 P.g0 :: BysA pp17 cc18 P.c0 :: BysA pp19 cc20 P.c1 :: DgsA pp21 cc22 P.t0 :: blk bk6 (.cells #[.int .i64 ac.do_.v, .int .i64 ac.who.v, .int .i64 ac.n.v, .slice pp1 ac.body.length cc2] 28 (0, 0)) :: Im 1 (.slice pp1 ac.body.length cc2) ac.body.length (ac.body.flatMap u8c) :: LkA l12 (outS (sendS P.e1 ac.body)) :: F) := (H147.move 1 rfl)
              have hn149 : (P.t1 ++ (outT (sendS P.e1 ac.body))).length = P.t1.length + (outT (sendS P.e1 ac.body)).length := (List.length_append ..)
              have H150 : St W w142 (Row 41 6 (.slice pp145 ((P.t1 ++ (outT (sendS P.e1 ac.body))).length) cc146) ((P.t1 ++ (outT (sendS P.e1 ac.body))).length) ((D136 ++ D130).flatMap dgdCell) :: byA ((D136 ++ D130).map DgD.by) :: byA (D136.map DgD.by) :: Row 41 6 (.slice pp125 ((outT (sendS P.e1 ac.body)).length) cc126) ((outT (sendS P.e1 ac.body)).length) (D130.flatMap dgdCell) :: byA (D130.map DgD.by) :: BysA pp55 cc56 (P.g1 ++ [ac.body]) :: blk bk48 (.cells #[.slice pp44 ac.body.length cc45] 26 (0, 0)) :: Im 1 (.slice pp44 ac.body.length cc45) ac.body.length (ac.body.flatMap u8c) :: byA D39 :: blk g (.cells #[.pointer (some ⟨l11, 0, none⟩), .pointer (some ⟨l12, 0, none⟩), .slice pp13 P.g0.length cc14, .slice pp55 ((P.g1 ++ [ac.body]).length) cc56, .slice pp17 P.c0.length cc18, .slice pp19 P.c1.length cc20, .slice pp21 P.t0.length cc22, .slice pp23 P.t1.length cc24] 37 (0, 0)) :: LkA l11 P.e0 :: BysA pp13 cc14 P.g0 :: BysA pp17 cc18 P.c0 :: BysA pp19 cc20 P.c1 :: DgsA pp21 cc22 P.t0 :: blk bk6 (.cells #[.int .i64 ac.do_.v, .int .i64 ac.who.v, .int .i64 ac.n.v, .slice pp1 ac.body.length cc2] 28 (0, 0)) :: Im 1 (.slice pp1 ac.body.length cc2) ac.body.length (ac.body.flatMap u8c) :: LkA l12 (outS (sendS P.e1 ac.body)) :: F) := by rw [hn149]; rw [flat_app]; exact H148
              have H151 : St W w142 (DgsA pp145 cc146 (P.t1 ++ (outT (sendS P.e1 ac.body))) :: byA (D136.map DgD.by) :: Row 41 6 (.slice pp125 ((outT (sendS P.e1 ac.body)).length) cc126) ((outT (sendS P.e1 ac.body)).length) (D130.flatMap dgdCell) :: byA (D130.map DgD.by) :: BysA pp55 cc56 (P.g1 ++ [ac.body]) :: blk bk48 (.cells #[.slice pp44 ac.body.length cc45] 26 (0, 0)) :: Im 1 (.slice pp44 ac.body.length cc45) ac.body.length (ac.body.flatMap u8c) :: byA D39 :: blk g (.cells #[.pointer (some ⟨l11, 0, none⟩), .pointer (some ⟨l12, 0, none⟩), .slice pp13 P.g0.length cc14, .slice pp55 ((P.g1 ++ [ac.body]).length) cc56, .slice pp17 P.c0.length cc18, .slice pp19 P.c1.length cc20, .slice pp21 P.t0.length cc22, .slice pp23 P.t1.length cc24] 37 (0, 0)) :: LkA l11 P.e0 :: BysA pp13 cc14 P.g0 :: BysA pp17 cc18 P.c0 :: BysA pp19 cc20 P.c1 :: DgsA pp21 cc22 P.t0 :: blk bk6 (.cells #[.int .i64 ac.do_.v, .int .i64 ac.who.v, .int .i64 ac.n.v, .slice pp1 ac.body.length cc2] 28 (0, 0)) :: Im 1 (.slice pp1 ac.body.length cc2) ac.body.length (ac.body.flatMap u8c) :: LkA l12 (outS (sendS P.e1 ac.body)) :: F) := St.shut_ex ⟨(D136 ++ D130), (show (D136 ++ D130).map DgD.d = (P.t1 ++ (outT (sendS P.e1 ac.body))) from app_map hD137 hD131)⟩ (St.shut_star (ls := [Row 41 6 (.slice pp145 ((P.t1 ++ (outT (sendS P.e1 ac.body))).length) cc146) ((P.t1 ++ (outT (sendS P.e1 ac.body))).length) ((D136 ++ D130).flatMap dgdCell), byA ((D136 ++ D130).map DgD.by)]) H150)
              change AnyG _ _ _ _ #[true, true, true, true, true, true, true, true, true, true, true, true, true, true, true, true, true, true, false, false] _ _
              refine a_take 18 (listed' := #[true, true, true, true, true, true, true, true, true, true, true, true, true, true, true, true, true, true, true, false]) rfl (by kernel_rfl) (by kernel_rfl) (by kernel_rfl) rfl rfl rfl rfl (fun w => x_indexAddr_arr 1 1 7 rfl rfl ar_35 (by omega) rfl w) ?_
              refine a_all (rs := [19]) (by kernel_rfl) (by simp) ?_
              refine a_cons ⟨_, rfl, ?_⟩ (fun x hx => absurd hx (by simp))
              refine s_store H151 8 (.slice pp145 (P.t1.length + (outT (sendS P.e1 ac.body)).length) cc146) rfl rfl rfl sz_34 rfl (Nat.le_of_ble_eq_true rfl) rfl (cs' := #[.pointer (some ⟨l11, 0, none⟩), .pointer (some ⟨l12, 0, none⟩), .slice pp13 P.g0.length cc14, .slice pp55 ((P.g1 ++ [ac.body]).length) cc56, .slice pp17 P.c0.length cc18, .slice pp19 P.c1.length cc20, .slice pp21 P.t0.length cc22, .slice pp145 (P.t1.length + (outT (sendS P.e1 ac.body)).length) cc146]) rfl ?_; intro w152 H153
              change AnyG _ _ _ _ #[true, true, true, true, true, true, true, true, true, true, true, true, true, true, true, true, true, true, true, true] _ _
              refine a_done (by kernel_rfl) ?_
              exact join56 (pp145, cc146, D136, pp125, cc126, D130) _ _ H153 ⟨rfl, trivial⟩
      · intro join44
        refine g_any mixed 17 rfl ?_
        intro w154 hw155
        have H156 := H43.drew
        rw [← hw155] at H156
        clear hw155
        refine a_take 0 (listed' := #[true, false, false, false, false, false, false, false, false, false, false, false, false, false, false, false, false]) rfl (by kernel_rfl) (by kernel_rfl) (by kernel_rfl) rfl rfl rfl rfl (fun w => x_move (.pointer (some ⟨g, 0, none⟩)) rfl w) ?_
        refine a_take 1 (listed' := #[true, true, false, false, false, false, false, false, false, false, false, false, false, false, false, false, false]) rfl (by kernel_rfl) (by kernel_rfl) (by kernel_rfl) rfl rfl rfl rfl (fun w => x_move (.int .i64 1) rfl w) ?_
        refine a_take 2 (listed' := #[true, true, true, false, false, false, false, false, false, false, false, false, false, false, false, false, false]) rfl (by kernel_rfl) (by kernel_rfl) (by kernel_rfl) rfl rfl rfl rfl (fun w => x_move (.pointer (some ⟨g, 0, none⟩)) rfl w) ?_
        refine a_take 3 (listed' := #[true, true, true, true, false, false, false, false, false, false, false, false, false, false, false, false, false]) rfl (by kernel_rfl) (by kernel_rfl) (by kernel_rfl) rfl rfl rfl rfl (fun w => x_move (.int .i64 1) rfl w) ?_
        refine a_take 4 (listed' := #[true, true, true, true, true, false, false, false, false, false, false, false, false, false, false, false, false]) rfl (by kernel_rfl) (by kernel_rfl) (by kernel_rfl) rfl rfl rfl rfl (fun w => x_nilCheck (.pointer (some ⟨g, 0, none⟩)) rfl ⟨_, rfl⟩ w) ?_
        refine a_take 5 (listed' := #[true, true, true, true, true, true, false, false, false, false, false, false, false, false, false, false, false]) rfl (by kernel_rfl) (by kernel_rfl) (by kernel_rfl) rfl rfl rfl rfl (fun w => x_fieldAddr 37 1 2 2 33 rfl fi_37_1 rfl w) ?_
        refine a_take 6 (listed' := #[true, true, true, true, true, true, true, false, false, false, false, false, false, false, false, false, false]) rfl (by kernel_rfl) (by kernel_rfl) (by kernel_rfl) rfl rfl rfl rfl (fun w => x_indexAddr_arr 1 1 3 rfl rfl ar_33 (by omega) rfl w) ?_
        refine a_take 8 (listed' := #[true, true, true, true, true, true, true, false, true, false, false, false, false, false, false, false, false]) rfl (by kernel_rfl) (by kernel_rfl) (by kernel_rfl) rfl rfl rfl rfl (fun w => x_fieldAddr 28 3 3 3 26 rfl fi_28_3 rfl w) ?_
        refine a_take 13 (listed' := #[true, true, true, true, true, true, true, false, true, false, false, false, false, true, false, false, false]) rfl (by kernel_rfl) (by kernel_rfl) (by kernel_rfl) rfl rfl rfl rfl (fun w => x_nilCheck (.pointer (some ⟨g, 0, none⟩)) rfl ⟨_, rfl⟩ w) ?_
        refine a_take 14 (listed' := #[true, true, true, true, true, true, true, false, true, false, false, false, false, true, true, false, false]) rfl (by kernel_rfl) (by kernel_rfl) (by kernel_rfl) rfl rfl rfl rfl (fun w => x_fieldAddr 37 1 2 2 33 rfl fi_37_1 rfl w) ?_
        refine a_all (rs := [7, 9]) (by kernel_rfl) (by simp) ?_
        refine a_cons ⟨_, rfl, ?_⟩ (a_cons ⟨_, rfl, ?_⟩ (fun x hx => absurd hx (by simp)))
        · skip
          refine s_load (.slice pp15 P.g1.length cc16) ag_32 rfl (H156.blk_at (i := 2) rfl) rfl rfl ?_
          change AnyG _ _ _ _ #[true, true, true, true, true, true, true, true, true, false, false, false, false, true, true, false, false] _ _
          refine a_all (rs := [9]) (by kernel_rfl) (by simp) ?_
          refine a_cons ⟨_, rfl, ?_⟩ (fun x hx => absurd hx (by simp))
          refine s_load (.slice pp1 ac.body.length cc2) ag_26 rfl (H156.blk_at (i := 9) rfl) rfl rfl ?_
          change AnyG _ _ _ _ #[true, true, true, true, true, true, true, true, true, true, false, false, false, true, true, false, false] _ _
          refine a_all (rs := [10]) (by kernel_rfl) (by simp) ?_
          refine a_cons ⟨_, rfl, ?_⟩ (fun x hx => absurd hx (by simp))
          refine s_call [.slice pp1 ac.body.length cc2] pl_29 rfl rfl (bytes_Clone _ _ ac.body.length (ac.body.flatMap u8c) RdA.im (by first | omega | (have hlp := Nat.le_refl 0; omega)) (j := 10) rfl H156) ?_
          rintro _ w159 ⟨pp157, cc158, rfl, H160⟩
          change AnyG _ _ _ _ #[true, true, true, true, true, true, true, true, true, true, true, false, false, true, true, false, false] _ _
          refine a_all (rs := [11]) (by kernel_rfl) (by simp) ?_
          refine a_cons ⟨_, rfl, ?_⟩ (fun x hx => absurd hx (by simp))
          refine s_buildSlice H160 1 1 (cs := #[.slice pp157 ac.body.length cc158]) #[.slice none 0 0] el_32 ze_26 (by decide) (by decide) (by kernel_rfl) rfl ?_; intro bk161 w162 H163
          change AnyG _ _ _ _ #[true, true, true, true, true, true, true, true, true, true, true, true, false, true, true, false, false] _ _
          refine a_all (rs := [12]) (by kernel_rfl) (by simp) ?_
          refine a_cons ⟨_, rfl, ?_⟩ (fun x hx => absurd hx (by simp))
          refine s_append H163 2 rfl rfl rfl (rd_blk (H163.blk_at (i := 0) rfl) rfl (Nat.le_of_ble_eq_true rfl) (by simp [Value.oneCell'])) ap_32 (by decide) (by unfold maxLen; omega) (by omega) (n' := P.g1.length + 1) (xs' := D39.flatMap byCell ++ ([.slice pp157 ac.body.length cc158] : List Value)) (by omega) (by first | rfl | simp) rfl ?_; intro vv164 w165 H166 hn167
          obtain ⟨pp168, cc169, rfl⟩ := Row.slice H166 (i := 2) rfl
          change AnyG _ _ _ _ #[true, true, true, true, true, true, true, true, true, true, true, true, true, true, true, false, false] _ _
          refine a_take 15 (listed' := #[true, true, true, true, true, true, true, true, true, true, true, true, true, true, true, true, false]) rfl (by kernel_rfl) (by kernel_rfl) (by kernel_rfl) rfl rfl rfl rfl (fun w => x_indexAddr_arr 1 1 3 rfl rfl ar_33 (by omega) rfl w) ?_
          refine a_all (rs := [16]) (by kernel_rfl) (by simp) ?_
          refine a_cons ⟨_, rfl, ?_⟩ (fun x hx => absurd hx (by simp))
          refine s_store H166 4 (.slice pp168 (P.g1.length + 1) cc169) rfl rfl rfl sz_32 rfl (Nat.le_of_ble_eq_true rfl) rfl (cs' := #[.pointer (some ⟨l11, 0, none⟩), .pointer (some ⟨l12, 0, none⟩), .slice pp13 P.g0.length cc14, .slice pp168 (P.g1.length + 1) cc169, .slice pp17 P.c0.length cc18, .slice pp19 P.c1.length cc20, .slice pp21 P.t0.length cc22, .slice pp23 P.t1.length cc24]) rfl ?_; intro w170 H171
          change AnyG _ _ _ _ #[true, true, true, true, true, true, true, true, true, true, true, true, true, true, true, true, true] _ _
          refine a_done (by kernel_rfl) ?_
          exact join44 (bk161, pp157, cc158, pp168, cc169) _ _ H171 ⟨rfl, rfl, rfl, trivial⟩
        · skip
          refine s_load (.slice pp1 ac.body.length cc2) ag_26 rfl (H156.blk_at (i := 9) rfl) rfl rfl ?_
          change AnyG _ _ _ _ #[true, true, true, true, true, true, true, false, true, true, false, false, false, true, true, false, false] _ _
          refine a_all (rs := [7, 10]) (by kernel_rfl) (by simp) ?_
          refine a_cons ⟨_, rfl, ?_⟩ (a_cons ⟨_, rfl, ?_⟩ (fun x hx => absurd hx (by simp)))
          · skip
            refine s_load (.slice pp15 P.g1.length cc16) ag_32 rfl (H156.blk_at (i := 2) rfl) rfl rfl ?_
            change AnyG _ _ _ _ #[true, true, true, true, true, true, true, true, true, true, false, false, false, true, true, false, false] _ _
            refine a_all (rs := [10]) (by kernel_rfl) (by simp) ?_
            refine a_cons ⟨_, rfl, ?_⟩ (fun x hx => absurd hx (by simp))
            refine s_call [.slice pp1 ac.body.length cc2] pl_29 rfl rfl (bytes_Clone _ _ ac.body.length (ac.body.flatMap u8c) RdA.im (by first | omega | (have hlp := Nat.le_refl 0; omega)) (j := 10) rfl H156) ?_
            rintro _ w174 ⟨pp172, cc173, rfl, H175⟩
            change AnyG _ _ _ _ #[true, true, true, true, true, true, true, true, true, true, true, false, false, true, true, false, false] _ _
            refine a_all (rs := [11]) (by kernel_rfl) (by simp) ?_
            refine a_cons ⟨_, rfl, ?_⟩ (fun x hx => absurd hx (by simp))
            refine s_buildSlice H175 1 1 (cs := #[.slice pp172 ac.body.length cc173]) #[.slice none 0 0] el_32 ze_26 (by decide) (by decide) (by kernel_rfl) rfl ?_; intro bk176 w177 H178
            change AnyG _ _ _ _ #[true, true, true, true, true, true, true, true, true, true, true, true, false, true, true, false, false] _ _
            refine a_all (rs := [12]) (by kernel_rfl) (by simp) ?_
            refine a_cons ⟨_, rfl, ?_⟩ (fun x hx => absurd hx (by simp))
            refine s_append H178 2 rfl rfl rfl (rd_blk (H178.blk_at (i := 0) rfl) rfl (Nat.le_of_ble_eq_true rfl) (by simp [Value.oneCell'])) ap_32 (by decide) (by unfold maxLen; omega) (by omega) (n' := P.g1.length + 1) (xs' := D39.flatMap byCell ++ ([.slice pp172 ac.body.length cc173] : List Value)) (by omega) (by first | rfl | simp) rfl ?_; intro vv179 w180 H181 hn182
            obtain ⟨pp183, cc184, rfl⟩ := Row.slice H181 (i := 2) rfl
            change AnyG _ _ _ _ #[true, true, true, true, true, true, true, true, true, true, true, true, true, true, true, false, false] _ _
            refine a_take 15 (listed' := #[true, true, true, true, true, true, true, true, true, true, true, true, true, true, true, true, false]) rfl (by kernel_rfl) (by kernel_rfl) (by kernel_rfl) rfl rfl rfl rfl (fun w => x_indexAddr_arr 1 1 3 rfl rfl ar_33 (by omega) rfl w) ?_
            refine a_all (rs := [16]) (by kernel_rfl) (by simp) ?_
            refine a_cons ⟨_, rfl, ?_⟩ (fun x hx => absurd hx (by simp))
            refine s_store H181 4 (.slice pp183 (P.g1.length + 1) cc184) rfl rfl rfl sz_32 rfl (Nat.le_of_ble_eq_true rfl) rfl (cs' := #[.pointer (some ⟨l11, 0, none⟩), .pointer (some ⟨l12, 0, none⟩), .slice pp13 P.g0.length cc14, .slice pp183 (P.g1.length + 1) cc184, .slice pp17 P.c0.length cc18, .slice pp19 P.c1.length cc20, .slice pp21 P.t0.length cc22, .slice pp23 P.t1.length cc24]) rfl ?_; intro w185 H186
            change AnyG _ _ _ _ #[true, true, true, true, true, true, true, true, true, true, true, true, true, true, true, true, true] _ _
            refine a_done (by kernel_rfl) ?_
            exact join44 (bk176, pp172, cc173, pp183, cc184) _ _ H186 ⟨rfl, rfl, rfl, trivial⟩
          · skip
            refine s_call [.slice pp1 ac.body.length cc2] pl_29 rfl rfl (bytes_Clone _ _ ac.body.length (ac.body.flatMap u8c) RdA.im (by first | omega | (have hlp := Nat.le_refl 0; omega)) (j := 10) rfl H156) ?_
            rintro _ w189 ⟨pp187, cc188, rfl, H190⟩
            change AnyG _ _ _ _ #[true, true, true, true, true, true, true, false, true, true, true, false, false, true, true, false, false] _ _
            refine a_all (rs := [7, 11]) (by kernel_rfl) (by simp) ?_
            refine a_cons ⟨_, rfl, ?_⟩ (a_cons ⟨_, rfl, ?_⟩ (fun x hx => absurd hx (by simp)))
            · skip
              refine s_load (.slice pp15 P.g1.length cc16) ag_32 rfl (H190.blk_at (i := 3) rfl) rfl rfl ?_
              change AnyG _ _ _ _ #[true, true, true, true, true, true, true, true, true, true, true, false, false, true, true, false, false] _ _
              refine a_all (rs := [11]) (by kernel_rfl) (by simp) ?_
              refine a_cons ⟨_, rfl, ?_⟩ (fun x hx => absurd hx (by simp))
              refine s_buildSlice H190 1 1 (cs := #[.slice pp187 ac.body.length cc188]) #[.slice none 0 0] el_32 ze_26 (by decide) (by decide) (by kernel_rfl) rfl ?_; intro bk191 w192 H193
              change AnyG _ _ _ _ #[true, true, true, true, true, true, true, true, true, true, true, true, false, true, true, false, false] _ _
              refine a_all (rs := [12]) (by kernel_rfl) (by simp) ?_
              refine a_cons ⟨_, rfl, ?_⟩ (fun x hx => absurd hx (by simp))
              refine s_append H193 2 rfl rfl rfl (rd_blk (H193.blk_at (i := 0) rfl) rfl (Nat.le_of_ble_eq_true rfl) (by simp [Value.oneCell'])) ap_32 (by decide) (by unfold maxLen; omega) (by omega) (n' := P.g1.length + 1) (xs' := D39.flatMap byCell ++ ([.slice pp187 ac.body.length cc188] : List Value)) (by omega) (by first | rfl | simp) rfl ?_; intro vv194 w195 H196 hn197
              obtain ⟨pp198, cc199, rfl⟩ := Row.slice H196 (i := 2) rfl
              change AnyG _ _ _ _ #[true, true, true, true, true, true, true, true, true, true, true, true, true, true, true, false, false] _ _
              refine a_take 15 (listed' := #[true, true, true, true, true, true, true, true, true, true, true, true, true, true, true, true, false]) rfl (by kernel_rfl) (by kernel_rfl) (by kernel_rfl) rfl rfl rfl rfl (fun w => x_indexAddr_arr 1 1 3 rfl rfl ar_33 (by omega) rfl w) ?_
              refine a_all (rs := [16]) (by kernel_rfl) (by simp) ?_
              refine a_cons ⟨_, rfl, ?_⟩ (fun x hx => absurd hx (by simp))
              refine s_store H196 4 (.slice pp198 (P.g1.length + 1) cc199) rfl rfl rfl sz_32 rfl (Nat.le_of_ble_eq_true rfl) rfl (cs' := #[.pointer (some ⟨l11, 0, none⟩), .pointer (some ⟨l12, 0, none⟩), .slice pp13 P.g0.length cc14, .slice pp198 (P.g1.length + 1) cc199, .slice pp17 P.c0.length cc18, .slice pp19 P.c1.length cc20, .slice pp21 P.t0.length cc22, .slice pp23 P.t1.length cc24]) rfl ?_; intro w200 H201
              change AnyG _ _ _ _ #[true, true, true, true, true, true, true, true, true, true, true, true, true, true, true, true, true] _ _
              refine a_done (by kernel_rfl) ?_
              exact join44 (bk191, pp187, cc188, pp198, cc199) _ _ H201 ⟨rfl, rfl, rfl, trivial⟩
            · skip
              refine s_buildSlice H190 1 1 (cs := #[.slice pp187 ac.body.length cc188]) #[.slice none 0 0] el_32 ze_26 (by decide) (by decide) (by kernel_rfl) rfl ?_; intro bk202 w203 H204
              change AnyG _ _ _ _ #[true, true, true, true, true, true, true, false, true, true, true, true, false, true, true, false, false] _ _
              refine a_all (rs := [7]) (by kernel_rfl) (by simp) ?_
              refine a_cons ⟨_, rfl, ?_⟩ (fun x hx => absurd hx (by simp))
              refine s_load (.slice pp15 P.g1.length cc16) ag_32 rfl (H204.blk_at (i := 4) rfl) rfl rfl ?_
              change AnyG _ _ _ _ #[true, true, true, true, true, true, true, true, true, true, true, true, false, true, true, false, false] _ _
              refine a_all (rs := [12]) (by kernel_rfl) (by simp) ?_
              refine a_cons ⟨_, rfl, ?_⟩ (fun x hx => absurd hx (by simp))
              refine s_append H204 2 rfl rfl rfl (rd_blk (H204.blk_at (i := 0) rfl) rfl (Nat.le_of_ble_eq_true rfl) (by simp [Value.oneCell'])) ap_32 (by decide) (by unfold maxLen; omega) (by omega) (n' := P.g1.length + 1) (xs' := D39.flatMap byCell ++ ([.slice pp187 ac.body.length cc188] : List Value)) (by omega) (by first | rfl | simp) rfl ?_; intro vv205 w206 H207 hn208
              obtain ⟨pp209, cc210, rfl⟩ := Row.slice H207 (i := 2) rfl
              change AnyG _ _ _ _ #[true, true, true, true, true, true, true, true, true, true, true, true, true, true, true, false, false] _ _
              refine a_take 15 (listed' := #[true, true, true, true, true, true, true, true, true, true, true, true, true, true, true, true, false]) rfl (by kernel_rfl) (by kernel_rfl) (by kernel_rfl) rfl rfl rfl rfl (fun w => x_indexAddr_arr 1 1 3 rfl rfl ar_33 (by omega) rfl w) ?_
              refine a_all (rs := [16]) (by kernel_rfl) (by simp) ?_
              refine a_cons ⟨_, rfl, ?_⟩ (fun x hx => absurd hx (by simp))
              refine s_store H207 4 (.slice pp209 (P.g1.length + 1) cc210) rfl rfl rfl sz_32 rfl (Nat.le_of_ble_eq_true rfl) rfl (cs' := #[.pointer (some ⟨l11, 0, none⟩), .pointer (some ⟨l12, 0, none⟩), .slice pp13 P.g0.length cc14, .slice pp209 (P.g1.length + 1) cc210, .slice pp17 P.c0.length cc18, .slice pp19 P.c1.length cc20, .slice pp21 P.t0.length cc22, .slice pp23 P.t1.length cc24]) rfl ?_; intro w211 H212
              change AnyG _ _ _ _ #[true, true, true, true, true, true, true, true, true, true, true, true, true, true, true, true, true] _ _
              refine a_done (by kernel_rfl) ?_
              exact join44 (bk202, pp187, cc188, pp209, cc210) _ _ H212 ⟨rfl, rfl, rfl, trivial⟩
    · skip
      refine r_cons (s_eql false rfl rfl (dfalse hc37) rfl ?_)
      refine r_nil ?_
      refine g_false rfl ?_
      refine g_seq ?_
      refine g_region ?_
      refine r_cons (s_fieldAddr 28 3 3 3 26 rfl fi_28_3 rfl rfl ?_)
      refine r_cons (s_load (.slice pp1 ac.body.length cc2) ag_26 rfl (H36.blk_at (i := 8) rfl) rfl rfl ?_)
      refine r_cons (s_len ac.body.length rfl ⟨_, un_26⟩ rfl ?_)
      have hw9 : 16384 < ac.body.length ∨ 4096 ≤ P.e1.l.length := hI.swp.sent_not (b := ac.body) (by omega) (show ¬ sendE P.e1 ac.body = 0 by omega)
      by_cases hc213 : (ac.body.length : Int) ≤ 16384
      · skip
        refine r_cons (s_leq true rfl rfl (dtrue hc213) rfl ?_)
        refine r_cons (s_move (.bool true) rfl rfl ?_)
        refine r_cons (r_take rfl rfl ?_)
        refine s_move (.pointer (some ⟨g, 0, none⟩)) rfl rfl ?_
        refine r_cons (r_take rfl rfl ?_)
        refine s_move (.int .i64 1) rfl rfl ?_
        refine r_cons (r_take rfl rfl ?_)
        refine s_nilCheck (.pointer (some ⟨g, 0, none⟩)) rfl ⟨_, rfl⟩ rfl ?_
        refine r_cons (r_take rfl rfl ?_)
        refine s_fieldAddr 37 0 0 0 31 rfl fi_37_0 rfl rfl ?_
        refine r_cons (r_take rfl rfl ?_)
        refine s_indexAddr_arr 1 1 1 rfl rfl ar_31 (by omega) rfl rfl ?_
        refine r_cons (r_take rfl rfl ?_)
        refine s_load (.pointer (some ⟨l12, 0, none⟩)) ag_30 rfl (H36.blk_at (i := 0) rfl) rfl rfl ?_
        refine r_cons (r_take rfl rfl ?_)
        refine s_call [.pointer (some ⟨l12, 0, none⟩)] pl_10 rfl rfl (Lk_Waiting l12 (sendS P.e1 ac.body) (endOk_send hI.b.ok) (i := 10) rfl H36) ?_
        rintro _ w214 ⟨rfl, H215⟩
        refine r_cons (r_take rfl rfl ?_)
        refine s_lss false rfl rfl (dfalse (by rw [sendS_no (by omega)] at *; omega)) rfl ?_
        refine r_cons (s_pick_t (.bool false) rfl rfl rfl ?_)
        refine r_nil ?_
        refine g_false rfl ?_
        refine g_skip ?_
        have hE9 : ¬ sendE P.e1 ac.body = 0 := by omega
        refine g_cut (fun (x : Option Addr × Nat × List DgD × Option Addr × Nat × List DgD) => match x with | (pp236, cc237, D227, pp216, cc217, D221) => [(4, .bool false)]) (fun (x : Option Addr × Nat × List DgD × Option Addr × Nat × List DgD) w => match x with | (pp236, cc237, D227, pp216, cc217, D221) => St W w (DgsA pp236 cc237 (P.t1 ++ (outT (sendS P.e1 ac.body))) :: byA (D227.map DgD.by) :: Row 41 6 (.slice pp216 ((outT (sendS P.e1 ac.body)).length) cc217) ((outT (sendS P.e1 ac.body)).length) (D221.flatMap dgdCell) :: byA (D221.map DgD.by) :: blk g (.cells #[.pointer (some ⟨l11, 0, none⟩), .pointer (some ⟨l12, 0, none⟩), .slice pp13 P.g0.length cc14, .slice pp15 P.g1.length cc16, .slice pp17 P.c0.length cc18, .slice pp19 P.c1.length cc20, .slice pp21 P.t0.length cc22, .slice pp236 (P.t1.length + (outT (sendS P.e1 ac.body)).length) cc237] 37 (0, 0)) :: LkA l11 P.e0 :: BysA pp13 cc14 P.g0 :: BysA pp15 cc16 P.g1 :: BysA pp17 cc18 P.c0 :: BysA pp19 cc20 P.c1 :: DgsA pp21 cc22 P.t0 :: blk bk6 (.cells #[.int .i64 ac.do_.v, .int .i64 ac.who.v, .int .i64 ac.n.v, .slice pp1 ac.body.length cc2] 28 (0, 0)) :: Im 1 (.slice pp1 ac.body.length cc2) ac.body.length (ac.body.flatMap u8c) :: LkA l12 (outS (sendS P.e1 ac.body)) :: F)) ?_ ?_
        · rintro ⟨pp236, cc237, D227, pp216, cc217, D221⟩ ρ219 w217 H218
          change Ends _ _ (upds ρ219 [(4, .bool false)]) w217
          refine g_inBlock ?_
          refine g_seq ?_
          refine g_region ?_
          refine r_cons (s_assign (.bool true) rfl rfl ?_)
          refine r_nil ?_
          refine g_ret' [.bool true] Try.func9 Try.results9 ⟨rfl, trivial⟩ ?_
          have hdo : ac.do_.v = 0 := by omega
          have H220 : St W w217 (DgsA pp236 cc237 (P.t1 ++ (outT (sendS P.e1 ac.body))) :: byA (D227.map DgD.by) :: Row 41 6 (.slice pp216 ((outT (sendS P.e1 ac.body)).length) cc217) ((outT (sendS P.e1 ac.body)).length) (D221.flatMap dgdCell) :: byA (D221.map DgD.by) :: blk g (.cells #[.pointer (some ⟨l11, 0, none⟩), .pointer (some ⟨l12, 0, none⟩), .slice pp13 P.g0.length cc14, .slice pp15 P.g1.length cc16, .slice pp17 P.c0.length cc18, .slice pp19 P.c1.length cc20, .slice pp21 P.t0.length cc22, .slice pp236 ((P.t1 ++ (outT (sendS P.e1 ac.body))).length) cc237] 37 (0, 0)) :: LkA l11 P.e0 :: BysA pp13 cc14 P.g0 :: BysA pp15 cc16 P.g1 :: BysA pp17 cc18 P.c0 :: BysA pp19 cc20 P.c1 :: DgsA pp21 cc22 P.t0 :: blk bk6 (.cells #[.int .i64 ac.do_.v, .int .i64 ac.who.v, .int .i64 ac.n.v, .slice pp1 ac.body.length cc2] 28 (0, 0)) :: Im 1 (.slice pp1 ac.body.length cc2) ac.body.length (ac.body.flatMap u8c) :: LkA l12 (outS (sendS P.e1 ac.body)) :: F) := by rw [show ((P.t1 ++ (outT (sendS P.e1 ac.body)))).length = P.t1.length + (outT (sendS P.e1 ac.body)).length from List.length_append ..]; exact H218
          have H221 : St W w217 (blk g (.cells #[.pointer (some ⟨l11, 0, none⟩), .pointer (some ⟨l12, 0, none⟩), .slice pp13 P.g0.length cc14, .slice pp15 P.g1.length cc16, .slice pp17 P.c0.length cc18, .slice pp19 P.c1.length cc20, .slice pp21 P.t0.length cc22, .slice pp236 ((P.t1 ++ (outT (sendS P.e1 ac.body))).length) cc237] 37 (0, 0)) :: LkA l11 P.e0 :: LkA l12 (outS (sendS P.e1 ac.body)) :: BysA pp13 cc14 P.g0 :: BysA pp15 cc16 P.g1 :: BysA pp17 cc18 P.c0 :: BysA pp19 cc20 P.c1 :: DgsA pp21 cc22 P.t0 :: DgsA pp236 cc237 (P.t1 ++ (outT (sendS P.e1 ac.body))) :: byA (D227.map DgD.by) :: Row 41 6 (.slice pp216 ((outT (sendS P.e1 ac.body)).length) cc217) ((outT (sendS P.e1 ac.body)).length) (D221.flatMap dgdCell) :: byA (D221.map DgD.by) :: blk bk6 (.cells #[.int .i64 ac.do_.v, .int .i64 ac.who.v, .int .i64 ac.n.v, .slice pp1 ac.body.length cc2] 28 (0, 0)) :: Im 1 (.slice pp1 ac.body.length cc2) ac.body.length (ac.body.flatMap u8c) :: F) := ((((((((H220.move 10 rfl).move 10 rfl).move 10 rfl).move 10 rfl).move 10 rfl).move 13 rfl).move 11 rfl).move 11 rfl)
          have H222 : St W w217 (PairA g ({ P with e1 := outS (sendS P.e1 ac.body), g1 := P.g1, t1 := P.t1 ++ outT (sendS P.e1 ac.body) } : PairV) :: byA (D227.map DgD.by) :: Row 41 6 (.slice pp216 ((outT (sendS P.e1 ac.body)).length) cc217) ((outT (sendS P.e1 ac.body)).length) (D221.flatMap dgdCell) :: byA (D221.map DgD.by) :: blk bk6 (.cells #[.int .i64 ac.do_.v, .int .i64 ac.who.v, .int .i64 ac.n.v, .slice pp1 ac.body.length cc2] 28 (0, 0)) :: Im 1 (.slice pp1 ac.body.length cc2) ac.body.length (ac.body.flatMap u8c) :: F) := St.shut_ex (⟨l11, l12, pp13, cc14, pp15, cc16, pp17, cc18, pp19, cc20, pp21, cc22, pp236, cc237⟩ : PairQ) (St.shut_star (ls := [blk g (.cells #[.pointer (some ⟨l11, 0, none⟩), .pointer (some ⟨l12, 0, none⟩), .slice pp13 P.g0.length cc14, .slice pp15 P.g1.length cc16, .slice pp17 P.c0.length cc18, .slice pp19 P.c1.length cc20, .slice pp21 P.t0.length cc22, .slice pp236 ((P.t1 ++ (outT (sendS P.e1 ac.body))).length) cc237] 37 (0, 0)), LkA l11 P.e0, LkA l12 (outS (sendS P.e1 ac.body)), BysA pp13 cc14 P.g0, BysA pp15 cc16 P.g1, BysA pp17 cc18 P.c0, BysA pp19 cc20 P.c1, DgsA pp21 cc22 P.t0, DgsA pp236 cc237 (P.t1 ++ (outT (sendS P.e1 ac.body)))]) H221)
          have H223 : St W w217 (PairA g ({ P with e1 := outS (sendS P.e1 ac.body), g1 := P.g1, t1 := P.t1 ++ outT (sendS P.e1 ac.body) } : PairV) :: F) := (((((H222.drop 1 rfl).drop 1 rfl).drop 1 rfl).drop 1 rfl).drop 1 rfl)
          exact ⟨rfl, by rw [show act0 (swp P) ac = give0 (swp P) ac.body from if_pos hdo]; unfold give0; rw [if_neg (show ¬ sendE (swp P).e0 ac.body = 0 from hE9)]; exact H223⟩
        · intro join216
          refine g_any mixed 20 rfl ?_
          intro w224 hw225
          have H226 := H215.drew
          rw [← hw225] at H226
          clear hw225
          refine a_take 0 (listed' := #[true, false, false, false, false, false, false, false, false, false, false, false, false, false, false, false, false, false, false, false]) rfl (by kernel_rfl) (by kernel_rfl) (by kernel_rfl) rfl rfl rfl rfl (fun w => x_move (.pointer (some ⟨g, 0, none⟩)) rfl w) ?_
          refine a_take 1 (listed' := #[true, true, false, false, false, false, false, false, false, false, false, false, false, false, false, false, false, false, false, false]) rfl (by kernel_rfl) (by kernel_rfl) (by kernel_rfl) rfl rfl rfl rfl (fun w => x_move (.int .i64 1) rfl w) ?_
          refine a_take 2 (listed' := #[true, true, true, false, false, false, false, false, false, false, false, false, false, false, false, false, false, false, false, false]) rfl (by kernel_rfl) (by kernel_rfl) (by kernel_rfl) rfl rfl rfl rfl (fun w => x_move (.pointer (some ⟨g, 0, none⟩)) rfl w) ?_
          refine a_take 3 (listed' := #[true, true, true, true, false, false, false, false, false, false, false, false, false, false, false, false, false, false, false, false]) rfl (by kernel_rfl) (by kernel_rfl) (by kernel_rfl) rfl rfl rfl rfl (fun w => x_move (.int .i64 1) rfl w) ?_
          refine a_take 4 (listed' := #[true, true, true, true, true, false, false, false, false, false, false, false, false, false, false, false, false, false, false, false]) rfl (by kernel_rfl) (by kernel_rfl) (by kernel_rfl) rfl rfl rfl rfl (fun w => x_nilCheck (.pointer (some ⟨g, 0, none⟩)) rfl ⟨_, rfl⟩ w) ?_
          refine a_take 5 (listed' := #[true, true, true, true, true, true, false, false, false, false, false, false, false, false, false, false, false, false, false, false]) rfl (by kernel_rfl) (by kernel_rfl) (by kernel_rfl) rfl rfl rfl rfl (fun w => x_fieldAddr 37 3 6 6 35 rfl fi_37_3 rfl w) ?_
          refine a_take 6 (listed' := #[true, true, true, true, true, true, true, false, false, false, false, false, false, false, false, false, false, false, false, false]) rfl (by kernel_rfl) (by kernel_rfl) (by kernel_rfl) rfl rfl rfl rfl (fun w => x_indexAddr_arr 1 1 7 rfl rfl ar_35 (by omega) rfl w) ?_
          refine a_take 8 (listed' := #[true, true, true, true, true, true, true, false, true, false, false, false, false, false, false, false, false, false, false, false]) rfl (by kernel_rfl) (by kernel_rfl) (by kernel_rfl) rfl rfl rfl rfl (fun w => x_move (.pointer (some ⟨g, 0, none⟩)) rfl w) ?_
          refine a_take 9 (listed' := #[true, true, true, true, true, true, true, false, true, true, false, false, false, false, false, false, false, false, false, false]) rfl (by kernel_rfl) (by kernel_rfl) (by kernel_rfl) rfl rfl rfl rfl (fun w => x_move (.int .i64 1) rfl w) ?_
          refine a_take 10 (listed' := #[true, true, true, true, true, true, true, false, true, true, true, false, false, false, false, false, false, false, false, false]) rfl (by kernel_rfl) (by kernel_rfl) (by kernel_rfl) rfl rfl rfl rfl (fun w => x_nilCheck (.pointer (some ⟨g, 0, none⟩)) rfl ⟨_, rfl⟩ w) ?_
          refine a_take 11 (listed' := #[true, true, true, true, true, true, true, false, true, true, true, true, false, false, false, false, false, false, false, false]) rfl (by kernel_rfl) (by kernel_rfl) (by kernel_rfl) rfl rfl rfl rfl (fun w => x_fieldAddr 37 0 0 0 31 rfl fi_37_0 rfl w) ?_
          refine a_take 12 (listed' := #[true, true, true, true, true, true, true, false, true, true, true, true, true, false, false, false, false, false, false, false]) rfl (by kernel_rfl) (by kernel_rfl) (by kernel_rfl) rfl rfl rfl rfl (fun w => x_indexAddr_arr 1 1 1 rfl rfl ar_31 (by omega) rfl w) ?_
          refine a_take 16 (listed' := #[true, true, true, true, true, true, true, false, true, true, true, true, true, false, false, false, true, false, false, false]) rfl (by kernel_rfl) (by kernel_rfl) (by kernel_rfl) rfl rfl rfl rfl (fun w => x_nilCheck (.pointer (some ⟨g, 0, none⟩)) rfl ⟨_, rfl⟩ w) ?_
          refine a_take 17 (listed' := #[true, true, true, true, true, true, true, false, true, true, true, true, true, false, false, false, true, true, false, false]) rfl (by kernel_rfl) (by kernel_rfl) (by kernel_rfl) rfl rfl rfl rfl (fun w => x_fieldAddr 37 3 6 6 35 rfl fi_37_3 rfl w) ?_
          refine a_all (rs := [7, 13]) (by kernel_rfl) (by simp) ?_
          refine a_cons ⟨_, rfl, ?_⟩ (a_cons ⟨_, rfl, ?_⟩ (fun x hx => absurd hx (by simp)))
          · skip
            refine s_load (.slice pp23 P.t1.length cc24) ag_34 rfl (H226.blk_at (i := 0) rfl) rfl rfl ?_
            change AnyG _ _ _ _ #[true, true, true, true, true, true, true, true, true, true, true, true, true, false, false, false, true, true, false, false] _ _
            refine a_all (rs := [13]) (by kernel_rfl) (by simp) ?_
            refine a_cons ⟨_, rfl, ?_⟩ (fun x hx => absurd hx (by simp))
            refine s_load (.pointer (some ⟨l12, 0, none⟩)) ag_30 rfl (H226.blk_at (i := 0) rfl) rfl rfl ?_
            change AnyG _ _ _ _ #[true, true, true, true, true, true, true, true, true, true, true, true, true, true, false, false, true, true, false, false] _ _
            refine a_all (rs := [14]) (by kernel_rfl) (by simp) ?_
            refine a_cons ⟨_, rfl, ?_⟩ (fun x hx => absurd hx (by simp))
            refine s_call [.pointer (some ⟨l12, 0, none⟩)] pl_23 rfl rfl (Lk_Out l12 (sendS P.e1 ac.body) (endOk_send hI.b.ok) (i := 10) rfl H226) ?_
            rintro _ w229 ⟨pp227, cc228, rfl, H230⟩
            change AnyG _ _ _ _ #[true, true, true, true, true, true, true, true, true, true, true, true, true, true, true, false, true, true, false, false] _ _
            refine a_all (rs := [15]) (by kernel_rfl) (by simp) ?_
            refine a_cons ⟨_, rfl, ?_⟩ (fun x hx => absurd hx (by simp))
            have H231 := H230.move 0 rfl
            obtain ⟨⟨D232, hD233⟩, H234⟩ := St.open_ex H231
            have H235 := St.open_star H234
            change D232.map DgD.d = (outT (sendS P.e1 ac.body)) at hD233
            have H236 : St W w229 (Row 41 6 (.slice pp227 ((outT (sendS P.e1 ac.body)).length) cc228) ((outT (sendS P.e1 ac.body)).length) (D232.flatMap dgdCell) :: byA (D232.map DgD.by) :: blk g (.cells #[.pointer (some ⟨l11, 0, none⟩), .pointer (some ⟨l12, 0, none⟩), .slice pp13 P.g0.length cc14, .slice pp15 P.g1.length cc16, .slice pp17 P.c0.length cc18, .slice pp19 P.c1.length cc20, .slice pp21 P.t0.length cc22, .slice pp23 P.t1.length cc24] 37 (0, 0)) :: LkA l11 P.e0 :: BysA pp13 cc14 P.g0 :: BysA pp15 cc16 P.g1 :: BysA pp17 cc18 P.c0 :: BysA pp19 cc20 P.c1 :: DgsA pp21 cc22 P.t0 :: DgsA pp23 cc24 P.t1 :: blk bk6 (.cells #[.int .i64 ac.do_.v, .int .i64 ac.who.v, .int .i64 ac.n.v, .slice pp1 ac.body.length cc2] 28 (0, 0)) :: Im 1 (.slice pp1 ac.body.length cc2) ac.body.length (ac.body.flatMap u8c) :: LkA l12 (outS (sendS P.e1 ac.body)) :: F) := H235
            have H237 := H236.move 9 rfl
            obtain ⟨⟨D238, hD239⟩, H240⟩ := St.open_ex H237
            have H241 := St.open_star H240
            change D238.map DgD.d = P.t1 at hD239
            have H242 : St W w229 (Row 41 6 (.slice pp23 P.t1.length cc24) P.t1.length (D238.flatMap dgdCell) :: byA (D238.map DgD.by) :: Row 41 6 (.slice pp227 ((outT (sendS P.e1 ac.body)).length) cc228) ((outT (sendS P.e1 ac.body)).length) (D232.flatMap dgdCell) :: byA (D232.map DgD.by) :: blk g (.cells #[.pointer (some ⟨l11, 0, none⟩), .pointer (some ⟨l12, 0, none⟩), .slice pp13 P.g0.length cc14, .slice pp15 P.g1.length cc16, .slice pp17 P.c0.length cc18, .slice pp19 P.c1.length cc20, .slice pp21 P.t0.length cc22, .slice pp23 P.t1.length cc24] 37 (0, 0)) :: LkA l11 P.e0 :: BysA pp13 cc14 P.g0 :: BysA pp15 cc16 P.g1 :: BysA pp17 cc18 P.c0 :: BysA pp19 cc20 P.c1 :: DgsA pp21 cc22 P.t0 :: blk bk6 (.cells #[.int .i64 ac.do_.v, .int .i64 ac.who.v, .int .i64 ac.n.v, .slice pp1 ac.body.length cc2] 28 (0, 0)) :: Im 1 (.slice pp1 ac.body.length cc2) ac.body.length (ac.body.flatMap u8c) :: LkA l12 (outS (sendS P.e1 ac.body)) :: F) := H241
            have hz3 := Row.lenOf H242 (i := 0) rfl; have hz4 := Row.lenOf H242 (i := 2) rfl
            have hz5 := hI.swp.a.tl; have hz6 : (outT (sendS P.e1 ac.body)).length ≤ 128 := Nat.le_trans (outT_len _ (endOk_send hI.swp.a.ok)) (by decide)
            change P.t1.length ≤ 192 * n at hz5
            refine s_append H242 0 rfl rfl rfl (Row.rd H242 (i := 2) rfl) ap_34 (by decide) (by unfold maxLen; omega) (by omega) (n' := P.t1.length + (outT (sendS P.e1 ac.body)).length) (xs' := D238.flatMap dgdCell ++ D232.flatMap dgdCell) (by omega) (by first | rfl | simp) rfl ?_; intro vv243 w244 H245 hn246
            obtain ⟨pp247, cc248, rfl⟩ := Row.slice H245 (i := 0) rfl
            have H249 := byA_app (M := (D238 ++ D232).map DgD.by) H245 (i := 1) (j := 3) rfl rfl app_dg
            have H250 : St W w244 (Row 41 6 (.slice pp247 (P.t1.length + (outT (sendS P.e1 ac.body)).length) cc248) (P.t1.length + (outT (sendS P.e1 ac.body)).length) (D238.flatMap dgdCell ++ D232.flatMap dgdCell) :: byA ((D238 ++ D232).map DgD.by) :: byA (D238.map DgD.by) :: Row 41 6 (.slice pp227 ((outT (sendS P.e1 ac.body)).length) cc228) ((outT (sendS P.e1 ac.body)).length) (D232.flatMap dgdCell) :: byA (D232.map DgD.by) :: blk g (.cells #[.pointer (some ⟨l11, 0, none⟩), .pointer (some ⟨l12, 0, none⟩), .slice pp13 P.g0.length cc14, .slice pp15 P.g1.length cc16, .slice pp17 P.c0.length cc18, .slice pp19 P.c1.length cc20, .slice pp21 P.t0.length cc22, .slice pp23 P.t1.length cc24] 37 (0, 0)) :: LkA l11 P.e0 :: BysA pp13 cc14 P.g0 :: BysA pp15 cc16 P.g1 :: BysA pp17 cc18 P.c0 :: BysA pp19 cc20 P.c1 :: DgsA pp21 cc22 P.t0 :: blk bk6 (.cells #[.int .i64 ac.do_.v, .int .i64 ac.who.v, .int .i64 ac.n.v, .slice pp1 ac.body.length cc2] 28 (0, 0)) :: Im 1 (.slice pp1 ac.body.length cc2) ac.body.length (ac.body.flatMap u8c) :: LkA l12 (outS (sendS P.e1 ac.body)) :: F) := (H249.move 1 rfl)
            have hn251 : (P.t1 ++ (outT (sendS P.e1 ac.body))).length = P.t1.length + (outT (sendS P.e1 ac.body)).length := (List.length_append ..)
            have H252 : St W w244 (Row 41 6 (.slice pp247 ((P.t1 ++ (outT (sendS P.e1 ac.body))).length) cc248) ((P.t1 ++ (outT (sendS P.e1 ac.body))).length) ((D238 ++ D232).flatMap dgdCell) :: byA ((D238 ++ D232).map DgD.by) :: byA (D238.map DgD.by) :: Row 41 6 (.slice pp227 ((outT (sendS P.e1 ac.body)).length) cc228) ((outT (sendS P.e1 ac.body)).length) (D232.flatMap dgdCell) :: byA (D232.map DgD.by) :: blk g (.cells #[.pointer (some ⟨l11, 0, none⟩), .pointer (some ⟨l12, 0, none⟩), .slice pp13 P.g0.length cc14, .slice pp15 P.g1.length cc16, .slice pp17 P.c0.length cc18, .slice pp19 P.c1.length cc20, .slice pp21 P.t0.length cc22, .slice pp23 P.t1.length cc24] 37 (0, 0)) :: LkA l11 P.e0 :: BysA pp13 cc14 P.g0 :: BysA pp15 cc16 P.g1 :: BysA pp17 cc18 P.c0 :: BysA pp19 cc20 P.c1 :: DgsA pp21 cc22 P.t0 :: blk bk6 (.cells #[.int .i64 ac.do_.v, .int .i64 ac.who.v, .int .i64 ac.n.v, .slice pp1 ac.body.length cc2] 28 (0, 0)) :: Im 1 (.slice pp1 ac.body.length cc2) ac.body.length (ac.body.flatMap u8c) :: LkA l12 (outS (sendS P.e1 ac.body)) :: F) := by rw [hn251]; rw [flat_app]; exact H250
            have H253 : St W w244 (DgsA pp247 cc248 (P.t1 ++ (outT (sendS P.e1 ac.body))) :: byA (D238.map DgD.by) :: Row 41 6 (.slice pp227 ((outT (sendS P.e1 ac.body)).length) cc228) ((outT (sendS P.e1 ac.body)).length) (D232.flatMap dgdCell) :: byA (D232.map DgD.by) :: blk g (.cells #[.pointer (some ⟨l11, 0, none⟩), .pointer (some ⟨l12, 0, none⟩), .slice pp13 P.g0.length cc14, .slice pp15 P.g1.length cc16, .slice pp17 P.c0.length cc18, .slice pp19 P.c1.length cc20, .slice pp21 P.t0.length cc22, .slice pp23 P.t1.length cc24] 37 (0, 0)) :: LkA l11 P.e0 :: BysA pp13 cc14 P.g0 :: BysA pp15 cc16 P.g1 :: BysA pp17 cc18 P.c0 :: BysA pp19 cc20 P.c1 :: DgsA pp21 cc22 P.t0 :: blk bk6 (.cells #[.int .i64 ac.do_.v, .int .i64 ac.who.v, .int .i64 ac.n.v, .slice pp1 ac.body.length cc2] 28 (0, 0)) :: Im 1 (.slice pp1 ac.body.length cc2) ac.body.length (ac.body.flatMap u8c) :: LkA l12 (outS (sendS P.e1 ac.body)) :: F) := St.shut_ex ⟨(D238 ++ D232), (show (D238 ++ D232).map DgD.d = (P.t1 ++ (outT (sendS P.e1 ac.body))) from app_map hD239 hD233)⟩ (St.shut_star (ls := [Row 41 6 (.slice pp247 ((P.t1 ++ (outT (sendS P.e1 ac.body))).length) cc248) ((P.t1 ++ (outT (sendS P.e1 ac.body))).length) ((D238 ++ D232).flatMap dgdCell), byA ((D238 ++ D232).map DgD.by)]) H252)
            change AnyG _ _ _ _ #[true, true, true, true, true, true, true, true, true, true, true, true, true, true, true, true, true, true, false, false] _ _
            refine a_take 18 (listed' := #[true, true, true, true, true, true, true, true, true, true, true, true, true, true, true, true, true, true, true, false]) rfl (by kernel_rfl) (by kernel_rfl) (by kernel_rfl) rfl rfl rfl rfl (fun w => x_indexAddr_arr 1 1 7 rfl rfl ar_35 (by omega) rfl w) ?_
            refine a_all (rs := [19]) (by kernel_rfl) (by simp) ?_
            refine a_cons ⟨_, rfl, ?_⟩ (fun x hx => absurd hx (by simp))
            refine s_store H253 4 (.slice pp247 (P.t1.length + (outT (sendS P.e1 ac.body)).length) cc248) rfl rfl rfl sz_34 rfl (Nat.le_of_ble_eq_true rfl) rfl (cs' := #[.pointer (some ⟨l11, 0, none⟩), .pointer (some ⟨l12, 0, none⟩), .slice pp13 P.g0.length cc14, .slice pp15 P.g1.length cc16, .slice pp17 P.c0.length cc18, .slice pp19 P.c1.length cc20, .slice pp21 P.t0.length cc22, .slice pp247 (P.t1.length + (outT (sendS P.e1 ac.body)).length) cc248]) rfl ?_; intro w254 H255
            change AnyG _ _ _ _ #[true, true, true, true, true, true, true, true, true, true, true, true, true, true, true, true, true, true, true, true] _ _
            refine a_done (by kernel_rfl) ?_
            exact join216 (pp247, cc248, D238, pp227, cc228, D232) _ _ H255 ⟨rfl, trivial⟩
          · skip
            refine s_load (.pointer (some ⟨l12, 0, none⟩)) ag_30 rfl (H226.blk_at (i := 0) rfl) rfl rfl ?_
            change AnyG _ _ _ _ #[true, true, true, true, true, true, true, false, true, true, true, true, true, true, false, false, true, true, false, false] _ _
            refine a_all (rs := [7, 14]) (by kernel_rfl) (by simp) ?_
            refine a_cons ⟨_, rfl, ?_⟩ (a_cons ⟨_, rfl, ?_⟩ (fun x hx => absurd hx (by simp)))
            · skip
              refine s_load (.slice pp23 P.t1.length cc24) ag_34 rfl (H226.blk_at (i := 0) rfl) rfl rfl ?_
              change AnyG _ _ _ _ #[true, true, true, true, true, true, true, true, true, true, true, true, true, true, false, false, true, true, false, false] _ _
              refine a_all (rs := [14]) (by kernel_rfl) (by simp) ?_
              refine a_cons ⟨_, rfl, ?_⟩ (fun x hx => absurd hx (by simp))
              refine s_call [.pointer (some ⟨l12, 0, none⟩)] pl_23 rfl rfl (Lk_Out l12 (sendS P.e1 ac.body) (endOk_send hI.b.ok) (i := 10) rfl H226) ?_
              rintro _ w258 ⟨pp256, cc257, rfl, H259⟩
              change AnyG _ _ _ _ #[true, true, true, true, true, true, true, true, true, true, true, true, true, true, true, false, true, true, false, false] _ _
              refine a_all (rs := [15]) (by kernel_rfl) (by simp) ?_
              refine a_cons ⟨_, rfl, ?_⟩ (fun x hx => absurd hx (by simp))
              have H260 := H259.move 0 rfl
              obtain ⟨⟨D261, hD262⟩, H263⟩ := St.open_ex H260
              have H264 := St.open_star H263
              change D261.map DgD.d = (outT (sendS P.e1 ac.body)) at hD262
              have H265 : St W w258 (Row 41 6 (.slice pp256 ((outT (sendS P.e1 ac.body)).length) cc257) ((outT (sendS P.e1 ac.body)).length) (D261.flatMap dgdCell) :: byA (D261.map DgD.by) :: blk g (.cells #[.pointer (some ⟨l11, 0, none⟩), .pointer (some ⟨l12, 0, none⟩), .slice pp13 P.g0.length cc14, .slice pp15 P.g1.length cc16, .slice pp17 P.c0.length cc18, .slice pp19 P.c1.length cc20, .slice pp21 P.t0.length cc22, .slice pp23 P.t1.length cc24] 37 (0, 0)) :: LkA l11 P.e0 :: BysA pp13 cc14 P.g0 :: BysA pp15 cc16 P.g1 :: BysA pp17 cc18 P.c0 :: BysA pp19 cc20 P.c1 :: DgsA pp21 cc22 P.t0 :: DgsA pp23 cc24 P.t1 :: blk bk6 (.cells #[.int .i64 ac.do_.v, .int .i64 ac.who.v, .int .i64 ac.n.v, .slice pp1 ac.body.length cc2] 28 (0, 0)) :: Im 1 (.slice pp1 ac.body.length cc2) ac.body.length (ac.body.flatMap u8c) :: LkA l12 (outS (sendS P.e1 ac.body)) :: F) := H264
              have H266 := H265.move 9 rfl
              obtain ⟨⟨D267, hD268⟩, H269⟩ := St.open_ex H266
              have H270 := St.open_star H269
              change D267.map DgD.d = P.t1 at hD268
              have H271 : St W w258 (Row 41 6 (.slice pp23 P.t1.length cc24) P.t1.length (D267.flatMap dgdCell) :: byA (D267.map DgD.by) :: Row 41 6 (.slice pp256 ((outT (sendS P.e1 ac.body)).length) cc257) ((outT (sendS P.e1 ac.body)).length) (D261.flatMap dgdCell) :: byA (D261.map DgD.by) :: blk g (.cells #[.pointer (some ⟨l11, 0, none⟩), .pointer (some ⟨l12, 0, none⟩), .slice pp13 P.g0.length cc14, .slice pp15 P.g1.length cc16, .slice pp17 P.c0.length cc18, .slice pp19 P.c1.length cc20, .slice pp21 P.t0.length cc22, .slice pp23 P.t1.length cc24] 37 (0, 0)) :: LkA l11 P.e0 :: BysA pp13 cc14 P.g0 :: BysA pp15 cc16 P.g1 :: BysA pp17 cc18 P.c0 :: BysA pp19 cc20 P.c1 :: DgsA pp21 cc22 P.t0 :: blk bk6 (.cells #[.int .i64 ac.do_.v, .int .i64 ac.who.v, .int .i64 ac.n.v, .slice pp1 ac.body.length cc2] 28 (0, 0)) :: Im 1 (.slice pp1 ac.body.length cc2) ac.body.length (ac.body.flatMap u8c) :: LkA l12 (outS (sendS P.e1 ac.body)) :: F) := H270
              have hz3 := Row.lenOf H271 (i := 0) rfl; have hz4 := Row.lenOf H271 (i := 2) rfl
              have hz5 := hI.swp.a.tl; have hz6 : (outT (sendS P.e1 ac.body)).length ≤ 128 := Nat.le_trans (outT_len _ (endOk_send hI.swp.a.ok)) (by decide)
              change P.t1.length ≤ 192 * n at hz5
              refine s_append H271 0 rfl rfl rfl (Row.rd H271 (i := 2) rfl) ap_34 (by decide) (by unfold maxLen; omega) (by omega) (n' := P.t1.length + (outT (sendS P.e1 ac.body)).length) (xs' := D267.flatMap dgdCell ++ D261.flatMap dgdCell) (by omega) (by first | rfl | simp) rfl ?_; intro vv272 w273 H274 hn275
              obtain ⟨pp276, cc277, rfl⟩ := Row.slice H274 (i := 0) rfl
              have H278 := byA_app (M := (D267 ++ D261).map DgD.by) H274 (i := 1) (j := 3) rfl rfl app_dg
              have H279 : St W w273 (Row 41 6 (.slice pp276 (P.t1.length + (outT (sendS P.e1 ac.body)).length) cc277) (P.t1.length + (outT (sendS P.e1 ac.body)).length) (D267.flatMap dgdCell ++ D261.flatMap dgdCell) :: byA ((D267 ++ D261).map DgD.by) :: byA (D267.map DgD.by) :: Row 41 6 (.slice pp256 ((outT (sendS P.e1 ac.body)).length) cc257) ((outT (sendS P.e1 ac.body)).length) (D261.flatMap dgdCell) :: byA (D261.map DgD.by) :: blk g (.cells #[.pointer (some ⟨l11, 0, none⟩), .pointer (some ⟨l12, 0, none⟩), .slice pp13 P.g0.length cc14, .slice pp15 P.g1.length cc16, .slice pp17 P.c0.length cc18, .slice pp19 P.c1.length cc20, .slice pp21 P.t0.length cc22, .slice pp23 P.t1.length cc24] 37 (0, 0)) :: LkA l11 P.e0 :: BysA pp13 cc14 P.g0 :: BysA pp15 cc16 P.g1 :: BysA pp17 cc18 P.c0 :: BysA pp19 cc20 P.c1 :: DgsA pp21 cc22 P.t0 :: blk bk6 (.cells #[.int .i64 ac.do_.v, .int .i64 ac.who.v, .int .i64 ac.n.v, .slice pp1 ac.body.length cc2] 28 (0, 0)) :: Im 1 (.slice pp1 ac.body.length cc2) ac.body.length (ac.body.flatMap u8c) :: LkA l12 (outS (sendS P.e1 ac.body)) :: F) := (H278.move 1 rfl)
              have hn280 : (P.t1 ++ (outT (sendS P.e1 ac.body))).length = P.t1.length + (outT (sendS P.e1 ac.body)).length := (List.length_append ..)
              have H281 : St W w273 (Row 41 6 (.slice pp276 ((P.t1 ++ (outT (sendS P.e1 ac.body))).length) cc277) ((P.t1 ++ (outT (sendS P.e1 ac.body))).length) ((D267 ++ D261).flatMap dgdCell) :: byA ((D267 ++ D261).map DgD.by) :: byA (D267.map DgD.by) :: Row 41 6 (.slice pp256 ((outT (sendS P.e1 ac.body)).length) cc257) ((outT (sendS P.e1 ac.body)).length) (D261.flatMap dgdCell) :: byA (D261.map DgD.by) :: blk g (.cells #[.pointer (some ⟨l11, 0, none⟩), .pointer (some ⟨l12, 0, none⟩), .slice pp13 P.g0.length cc14, .slice pp15 P.g1.length cc16, .slice pp17 P.c0.length cc18, .slice pp19 P.c1.length cc20, .slice pp21 P.t0.length cc22, .slice pp23 P.t1.length cc24] 37 (0, 0)) :: LkA l11 P.e0 :: BysA pp13 cc14 P.g0 :: BysA pp15 cc16 P.g1 :: BysA pp17 cc18 P.c0 :: BysA pp19 cc20 P.c1 :: DgsA pp21 cc22 P.t0 :: blk bk6 (.cells #[.int .i64 ac.do_.v, .int .i64 ac.who.v, .int .i64 ac.n.v, .slice pp1 ac.body.length cc2] 28 (0, 0)) :: Im 1 (.slice pp1 ac.body.length cc2) ac.body.length (ac.body.flatMap u8c) :: LkA l12 (outS (sendS P.e1 ac.body)) :: F) := by rw [hn280]; rw [flat_app]; exact H279
              have H282 : St W w273 (DgsA pp276 cc277 (P.t1 ++ (outT (sendS P.e1 ac.body))) :: byA (D267.map DgD.by) :: Row 41 6 (.slice pp256 ((outT (sendS P.e1 ac.body)).length) cc257) ((outT (sendS P.e1 ac.body)).length) (D261.flatMap dgdCell) :: byA (D261.map DgD.by) :: blk g (.cells #[.pointer (some ⟨l11, 0, none⟩), .pointer (some ⟨l12, 0, none⟩), .slice pp13 P.g0.length cc14, .slice pp15 P.g1.length cc16, .slice pp17 P.c0.length cc18, .slice pp19 P.c1.length cc20, .slice pp21 P.t0.length cc22, .slice pp23 P.t1.length cc24] 37 (0, 0)) :: LkA l11 P.e0 :: BysA pp13 cc14 P.g0 :: BysA pp15 cc16 P.g1 :: BysA pp17 cc18 P.c0 :: BysA pp19 cc20 P.c1 :: DgsA pp21 cc22 P.t0 :: blk bk6 (.cells #[.int .i64 ac.do_.v, .int .i64 ac.who.v, .int .i64 ac.n.v, .slice pp1 ac.body.length cc2] 28 (0, 0)) :: Im 1 (.slice pp1 ac.body.length cc2) ac.body.length (ac.body.flatMap u8c) :: LkA l12 (outS (sendS P.e1 ac.body)) :: F) := St.shut_ex ⟨(D267 ++ D261), (show (D267 ++ D261).map DgD.d = (P.t1 ++ (outT (sendS P.e1 ac.body))) from app_map hD268 hD262)⟩ (St.shut_star (ls := [Row 41 6 (.slice pp276 ((P.t1 ++ (outT (sendS P.e1 ac.body))).length) cc277) ((P.t1 ++ (outT (sendS P.e1 ac.body))).length) ((D267 ++ D261).flatMap dgdCell), byA ((D267 ++ D261).map DgD.by)]) H281)
              change AnyG _ _ _ _ #[true, true, true, true, true, true, true, true, true, true, true, true, true, true, true, true, true, true, false, false] _ _
              refine a_take 18 (listed' := #[true, true, true, true, true, true, true, true, true, true, true, true, true, true, true, true, true, true, true, false]) rfl (by kernel_rfl) (by kernel_rfl) (by kernel_rfl) rfl rfl rfl rfl (fun w => x_indexAddr_arr 1 1 7 rfl rfl ar_35 (by omega) rfl w) ?_
              refine a_all (rs := [19]) (by kernel_rfl) (by simp) ?_
              refine a_cons ⟨_, rfl, ?_⟩ (fun x hx => absurd hx (by simp))
              refine s_store H282 4 (.slice pp276 (P.t1.length + (outT (sendS P.e1 ac.body)).length) cc277) rfl rfl rfl sz_34 rfl (Nat.le_of_ble_eq_true rfl) rfl (cs' := #[.pointer (some ⟨l11, 0, none⟩), .pointer (some ⟨l12, 0, none⟩), .slice pp13 P.g0.length cc14, .slice pp15 P.g1.length cc16, .slice pp17 P.c0.length cc18, .slice pp19 P.c1.length cc20, .slice pp21 P.t0.length cc22, .slice pp276 (P.t1.length + (outT (sendS P.e1 ac.body)).length) cc277]) rfl ?_; intro w283 H284
              change AnyG _ _ _ _ #[true, true, true, true, true, true, true, true, true, true, true, true, true, true, true, true, true, true, true, true] _ _
              refine a_done (by kernel_rfl) ?_
              exact join216 (pp276, cc277, D267, pp256, cc257, D261) _ _ H284 ⟨rfl, trivial⟩
            · skip
              refine s_call [.pointer (some ⟨l12, 0, none⟩)] pl_23 rfl rfl (Lk_Out l12 (sendS P.e1 ac.body) (endOk_send hI.b.ok) (i := 10) rfl H226) ?_
              rintro _ w287 ⟨pp285, cc286, rfl, H288⟩
              change AnyG _ _ _ _ #[true, true, true, true, true, true, true, false, true, true, true, true, true, true, true, false, true, true, false, false] _ _
              refine a_all (rs := [7]) (by kernel_rfl) (by simp) ?_
              refine a_cons ⟨_, rfl, ?_⟩ (fun x hx => absurd hx (by simp))
              refine s_load (.slice pp23 P.t1.length cc24) ag_34 rfl (H288.blk_at (i := 1) rfl) rfl rfl ?_
              change AnyG _ _ _ _ #[true, true, true, true, true, true, true, true, true, true, true, true, true, true, true, false, true, true, false, false] _ _
              refine a_all (rs := [15]) (by kernel_rfl) (by simp) ?_
              refine a_cons ⟨_, rfl, ?_⟩ (fun x hx => absurd hx (by simp))
              have H289 := H288.move 0 rfl
              obtain ⟨⟨D290, hD291⟩, H292⟩ := St.open_ex H289
              have H293 := St.open_star H292
              change D290.map DgD.d = (outT (sendS P.e1 ac.body)) at hD291
              have H294 : St W w287 (Row 41 6 (.slice pp285 ((outT (sendS P.e1 ac.body)).length) cc286) ((outT (sendS P.e1 ac.body)).length) (D290.flatMap dgdCell) :: byA (D290.map DgD.by) :: blk g (.cells #[.pointer (some ⟨l11, 0, none⟩), .pointer (some ⟨l12, 0, none⟩), .slice pp13 P.g0.length cc14, .slice pp15 P.g1.length cc16, .slice pp17 P.c0.length cc18, .slice pp19 P.c1.length cc20, .slice pp21 P.t0.length cc22, .slice pp23 P.t1.length cc24] 37 (0, 0)) :: LkA l11 P.e0 :: BysA pp13 cc14 P.g0 :: BysA pp15 cc16 P.g1 :: BysA pp17 cc18 P.c0 :: BysA pp19 cc20 P.c1 :: DgsA pp21 cc22 P.t0 :: DgsA pp23 cc24 P.t1 :: blk bk6 (.cells #[.int .i64 ac.do_.v, .int .i64 ac.who.v, .int .i64 ac.n.v, .slice pp1 ac.body.length cc2] 28 (0, 0)) :: Im 1 (.slice pp1 ac.body.length cc2) ac.body.length (ac.body.flatMap u8c) :: LkA l12 (outS (sendS P.e1 ac.body)) :: F) := H293
              have H295 := H294.move 9 rfl
              obtain ⟨⟨D296, hD297⟩, H298⟩ := St.open_ex H295
              have H299 := St.open_star H298
              change D296.map DgD.d = P.t1 at hD297
              have H300 : St W w287 (Row 41 6 (.slice pp23 P.t1.length cc24) P.t1.length (D296.flatMap dgdCell) :: byA (D296.map DgD.by) :: Row 41 6 (.slice pp285 ((outT (sendS P.e1 ac.body)).length) cc286) ((outT (sendS P.e1 ac.body)).length) (D290.flatMap dgdCell) :: byA (D290.map DgD.by) :: blk g (.cells #[.pointer (some ⟨l11, 0, none⟩), .pointer (some ⟨l12, 0, none⟩), .slice pp13 P.g0.length cc14, .slice pp15 P.g1.length cc16, .slice pp17 P.c0.length cc18, .slice pp19 P.c1.length cc20, .slice pp21 P.t0.length cc22, .slice pp23 P.t1.length cc24] 37 (0, 0)) :: LkA l11 P.e0 :: BysA pp13 cc14 P.g0 :: BysA pp15 cc16 P.g1 :: BysA pp17 cc18 P.c0 :: BysA pp19 cc20 P.c1 :: DgsA pp21 cc22 P.t0 :: blk bk6 (.cells #[.int .i64 ac.do_.v, .int .i64 ac.who.v, .int .i64 ac.n.v, .slice pp1 ac.body.length cc2] 28 (0, 0)) :: Im 1 (.slice pp1 ac.body.length cc2) ac.body.length (ac.body.flatMap u8c) :: LkA l12 (outS (sendS P.e1 ac.body)) :: F) := H299
              have hz3 := Row.lenOf H300 (i := 0) rfl; have hz4 := Row.lenOf H300 (i := 2) rfl
              have hz5 := hI.swp.a.tl; have hz6 : (outT (sendS P.e1 ac.body)).length ≤ 128 := Nat.le_trans (outT_len _ (endOk_send hI.swp.a.ok)) (by decide)
              change P.t1.length ≤ 192 * n at hz5
              refine s_append H300 0 rfl rfl rfl (Row.rd H300 (i := 2) rfl) ap_34 (by decide) (by unfold maxLen; omega) (by omega) (n' := P.t1.length + (outT (sendS P.e1 ac.body)).length) (xs' := D296.flatMap dgdCell ++ D290.flatMap dgdCell) (by omega) (by first | rfl | simp) rfl ?_; intro vv301 w302 H303 hn304
              obtain ⟨pp305, cc306, rfl⟩ := Row.slice H303 (i := 0) rfl
              have H307 := byA_app (M := (D296 ++ D290).map DgD.by) H303 (i := 1) (j := 3) rfl rfl app_dg
              have H308 : St W w302 (Row 41 6 (.slice pp305 (P.t1.length + (outT (sendS P.e1 ac.body)).length) cc306) (P.t1.length + (outT (sendS P.e1 ac.body)).length) (D296.flatMap dgdCell ++ D290.flatMap dgdCell) :: byA ((D296 ++ D290).map DgD.by) :: byA (D296.map DgD.by) :: Row 41 6 (.slice pp285 ((outT (sendS P.e1 ac.body)).length) cc286) ((outT (sendS P.e1 ac.body)).length) (D290.flatMap dgdCell) :: byA (D290.map DgD.by) :: blk g (.cells #[.pointer (some ⟨l11, 0, none⟩), .pointer (some ⟨l12, 0, none⟩), .slice pp13 P.g0.length cc14, .slice pp15 P.g1.length cc16, .slice pp17 P.c0.length cc18, .slice pp19 P.c1.length cc20, .slice pp21 P.t0.length cc22, .slice pp23 P.t1.length cc24] 37 (0, 0)) :: LkA l11 P.e0 :: BysA pp13 cc14 P.g0 :: BysA pp15 cc16 P.g1 :: BysA pp17 cc18 P.c0 :: BysA pp19 cc20 P.c1 :: DgsA pp21 cc22 P.t0 :: blk bk6 (.cells #[.int .i64 ac.do_.v, .int .i64 ac.who.v, .int .i64 ac.n.v, .slice pp1 ac.body.length cc2] 28 (0, 0)) :: Im 1 (.slice pp1 ac.body.length cc2) ac.body.length (ac.body.flatMap u8c) :: LkA l12 (outS (sendS P.e1 ac.body)) :: F) := (H307.move 1 rfl)
              have hn309 : (P.t1 ++ (outT (sendS P.e1 ac.body))).length = P.t1.length + (outT (sendS P.e1 ac.body)).length := (List.length_append ..)
              have H310 : St W w302 (Row 41 6 (.slice pp305 ((P.t1 ++ (outT (sendS P.e1 ac.body))).length) cc306) ((P.t1 ++ (outT (sendS P.e1 ac.body))).length) ((D296 ++ D290).flatMap dgdCell) :: byA ((D296 ++ D290).map DgD.by) :: byA (D296.map DgD.by) :: Row 41 6 (.slice pp285 ((outT (sendS P.e1 ac.body)).length) cc286) ((outT (sendS P.e1 ac.body)).length) (D290.flatMap dgdCell) :: byA (D290.map DgD.by) :: blk g (.cells #[.pointer (some ⟨l11, 0, none⟩), .pointer (some ⟨l12, 0, none⟩), .slice pp13 P.g0.length cc14, .slice pp15 P.g1.length cc16, .slice pp17 P.c0.length cc18, .slice pp19 P.c1.length cc20, .slice pp21 P.t0.length cc22, .slice pp23 P.t1.length cc24] 37 (0, 0)) :: LkA l11 P.e0 :: BysA pp13 cc14 P.g0 :: BysA pp15 cc16 P.g1 :: BysA pp17 cc18 P.c0 :: BysA pp19 cc20 P.c1 :: DgsA pp21 cc22 P.t0 :: blk bk6 (.cells #[.int .i64 ac.do_.v, .int .i64 ac.who.v, .int .i64 ac.n.v, .slice pp1 ac.body.length cc2] 28 (0, 0)) :: Im 1 (.slice pp1 ac.body.length cc2) ac.body.length (ac.body.flatMap u8c) :: LkA l12 (outS (sendS P.e1 ac.body)) :: F) := by rw [hn309]; rw [flat_app]; exact H308
              have H311 : St W w302 (DgsA pp305 cc306 (P.t1 ++ (outT (sendS P.e1 ac.body))) :: byA (D296.map DgD.by) :: Row 41 6 (.slice pp285 ((outT (sendS P.e1 ac.body)).length) cc286) ((outT (sendS P.e1 ac.body)).length) (D290.flatMap dgdCell) :: byA (D290.map DgD.by) :: blk g (.cells #[.pointer (some ⟨l11, 0, none⟩), .pointer (some ⟨l12, 0, none⟩), .slice pp13 P.g0.length cc14, .slice pp15 P.g1.length cc16, .slice pp17 P.c0.length cc18, .slice pp19 P.c1.length cc20, .slice pp21 P.t0.length cc22, .slice pp23 P.t1.length cc24] 37 (0, 0)) :: LkA l11 P.e0 :: BysA pp13 cc14 P.g0 :: BysA pp15 cc16 P.g1 :: BysA pp17 cc18 P.c0 :: BysA pp19 cc20 P.c1 :: DgsA pp21 cc22 P.t0 :: blk bk6 (.cells #[.int .i64 ac.do_.v, .int .i64 ac.who.v, .int .i64 ac.n.v, .slice pp1 ac.body.length cc2] 28 (0, 0)) :: Im 1 (.slice pp1 ac.body.length cc2) ac.body.length (ac.body.flatMap u8c) :: LkA l12 (outS (sendS P.e1 ac.body)) :: F) := St.shut_ex ⟨(D296 ++ D290), (show (D296 ++ D290).map DgD.d = (P.t1 ++ (outT (sendS P.e1 ac.body))) from app_map hD297 hD291)⟩ (St.shut_star (ls := [Row 41 6 (.slice pp305 ((P.t1 ++ (outT (sendS P.e1 ac.body))).length) cc306) ((P.t1 ++ (outT (sendS P.e1 ac.body))).length) ((D296 ++ D290).flatMap dgdCell), byA ((D296 ++ D290).map DgD.by)]) H310)
              change AnyG _ _ _ _ #[true, true, true, true, true, true, true, true, true, true, true, true, true, true, true, true, true, true, false, false] _ _
              refine a_take 18 (listed' := #[true, true, true, true, true, true, true, true, true, true, true, true, true, true, true, true, true, true, true, false]) rfl (by kernel_rfl) (by kernel_rfl) (by kernel_rfl) rfl rfl rfl rfl (fun w => x_indexAddr_arr 1 1 7 rfl rfl ar_35 (by omega) rfl w) ?_
              refine a_all (rs := [19]) (by kernel_rfl) (by simp) ?_
              refine a_cons ⟨_, rfl, ?_⟩ (fun x hx => absurd hx (by simp))
              refine s_store H311 4 (.slice pp305 (P.t1.length + (outT (sendS P.e1 ac.body)).length) cc306) rfl rfl rfl sz_34 rfl (Nat.le_of_ble_eq_true rfl) rfl (cs' := #[.pointer (some ⟨l11, 0, none⟩), .pointer (some ⟨l12, 0, none⟩), .slice pp13 P.g0.length cc14, .slice pp15 P.g1.length cc16, .slice pp17 P.c0.length cc18, .slice pp19 P.c1.length cc20, .slice pp21 P.t0.length cc22, .slice pp305 (P.t1.length + (outT (sendS P.e1 ac.body)).length) cc306]) rfl ?_; intro w312 H313
              change AnyG _ _ _ _ #[true, true, true, true, true, true, true, true, true, true, true, true, true, true, true, true, true, true, true, true] _ _
              refine a_done (by kernel_rfl) ?_
              exact join216 (pp305, cc306, D296, pp285, cc286, D290) _ _ H313 ⟨rfl, trivial⟩
      · skip
        refine r_cons (s_leq false rfl rfl (dfalse hc213) rfl ?_)
        refine r_cons (s_move (.bool false) rfl rfl ?_)
        refine r_cons (r_pass rfl rfl rfl rfl rfl ?_)
        refine r_cons (r_pass rfl rfl rfl rfl rfl ?_)
        refine r_cons (r_pass rfl rfl rfl rfl rfl ?_)
        refine r_cons (r_pass rfl rfl rfl rfl rfl ?_)
        refine r_cons (r_pass rfl rfl rfl rfl rfl ?_)
        refine r_cons (r_pass rfl rfl rfl rfl rfl ?_)
        refine r_cons (r_pass rfl rfl rfl rfl rfl ?_)
        refine r_cons (r_pass rfl rfl rfl rfl rfl ?_)
        refine r_cons (s_pick_f (.bool false) rfl rfl rfl ?_)
        refine r_nil ?_
        refine g_false rfl ?_
        refine g_skip ?_
        have hE9 : ¬ sendE P.e1 ac.body = 0 := by omega
        refine g_cut (fun (x : Option Addr × Nat × List DgD × Option Addr × Nat × List DgD) => match x with | (pp334, cc335, D325, pp314, cc315, D319) => [(4, .bool false)]) (fun (x : Option Addr × Nat × List DgD × Option Addr × Nat × List DgD) w => match x with | (pp334, cc335, D325, pp314, cc315, D319) => St W w (DgsA pp334 cc335 (P.t1 ++ (outT (sendS P.e1 ac.body))) :: byA (D325.map DgD.by) :: Row 41 6 (.slice pp314 ((outT (sendS P.e1 ac.body)).length) cc315) ((outT (sendS P.e1 ac.body)).length) (D319.flatMap dgdCell) :: byA (D319.map DgD.by) :: blk g (.cells #[.pointer (some ⟨l11, 0, none⟩), .pointer (some ⟨l12, 0, none⟩), .slice pp13 P.g0.length cc14, .slice pp15 P.g1.length cc16, .slice pp17 P.c0.length cc18, .slice pp19 P.c1.length cc20, .slice pp21 P.t0.length cc22, .slice pp334 (P.t1.length + (outT (sendS P.e1 ac.body)).length) cc335] 37 (0, 0)) :: LkA l11 P.e0 :: BysA pp13 cc14 P.g0 :: BysA pp15 cc16 P.g1 :: BysA pp17 cc18 P.c0 :: BysA pp19 cc20 P.c1 :: DgsA pp21 cc22 P.t0 :: blk bk6 (.cells #[.int .i64 ac.do_.v, .int .i64 ac.who.v, .int .i64 ac.n.v, .slice pp1 ac.body.length cc2] 28 (0, 0)) :: Im 1 (.slice pp1 ac.body.length cc2) ac.body.length (ac.body.flatMap u8c) :: LkA l12 (outS (sendS P.e1 ac.body)) :: F)) ?_ ?_
        · rintro ⟨pp334, cc335, D325, pp314, cc315, D319⟩ ρ317 w315 H316
          change Ends _ _ (upds ρ317 [(4, .bool false)]) w315
          refine g_inBlock ?_
          refine g_seq ?_
          refine g_region ?_
          refine r_cons (s_assign (.bool true) rfl rfl ?_)
          refine r_nil ?_
          refine g_ret' [.bool true] Try.func9 Try.results9 ⟨rfl, trivial⟩ ?_
          have hdo : ac.do_.v = 0 := by omega
          have H318 : St W w315 (DgsA pp334 cc335 (P.t1 ++ (outT (sendS P.e1 ac.body))) :: byA (D325.map DgD.by) :: Row 41 6 (.slice pp314 ((outT (sendS P.e1 ac.body)).length) cc315) ((outT (sendS P.e1 ac.body)).length) (D319.flatMap dgdCell) :: byA (D319.map DgD.by) :: blk g (.cells #[.pointer (some ⟨l11, 0, none⟩), .pointer (some ⟨l12, 0, none⟩), .slice pp13 P.g0.length cc14, .slice pp15 P.g1.length cc16, .slice pp17 P.c0.length cc18, .slice pp19 P.c1.length cc20, .slice pp21 P.t0.length cc22, .slice pp334 ((P.t1 ++ (outT (sendS P.e1 ac.body))).length) cc335] 37 (0, 0)) :: LkA l11 P.e0 :: BysA pp13 cc14 P.g0 :: BysA pp15 cc16 P.g1 :: BysA pp17 cc18 P.c0 :: BysA pp19 cc20 P.c1 :: DgsA pp21 cc22 P.t0 :: blk bk6 (.cells #[.int .i64 ac.do_.v, .int .i64 ac.who.v, .int .i64 ac.n.v, .slice pp1 ac.body.length cc2] 28 (0, 0)) :: Im 1 (.slice pp1 ac.body.length cc2) ac.body.length (ac.body.flatMap u8c) :: LkA l12 (outS (sendS P.e1 ac.body)) :: F) := by rw [show ((P.t1 ++ (outT (sendS P.e1 ac.body)))).length = P.t1.length + (outT (sendS P.e1 ac.body)).length from List.length_append ..]; exact H316
          have H319 : St W w315 (blk g (.cells #[.pointer (some ⟨l11, 0, none⟩), .pointer (some ⟨l12, 0, none⟩), .slice pp13 P.g0.length cc14, .slice pp15 P.g1.length cc16, .slice pp17 P.c0.length cc18, .slice pp19 P.c1.length cc20, .slice pp21 P.t0.length cc22, .slice pp334 ((P.t1 ++ (outT (sendS P.e1 ac.body))).length) cc335] 37 (0, 0)) :: LkA l11 P.e0 :: LkA l12 (outS (sendS P.e1 ac.body)) :: BysA pp13 cc14 P.g0 :: BysA pp15 cc16 P.g1 :: BysA pp17 cc18 P.c0 :: BysA pp19 cc20 P.c1 :: DgsA pp21 cc22 P.t0 :: DgsA pp334 cc335 (P.t1 ++ (outT (sendS P.e1 ac.body))) :: byA (D325.map DgD.by) :: Row 41 6 (.slice pp314 ((outT (sendS P.e1 ac.body)).length) cc315) ((outT (sendS P.e1 ac.body)).length) (D319.flatMap dgdCell) :: byA (D319.map DgD.by) :: blk bk6 (.cells #[.int .i64 ac.do_.v, .int .i64 ac.who.v, .int .i64 ac.n.v, .slice pp1 ac.body.length cc2] 28 (0, 0)) :: Im 1 (.slice pp1 ac.body.length cc2) ac.body.length (ac.body.flatMap u8c) :: F) := ((((((((H318.move 10 rfl).move 10 rfl).move 10 rfl).move 10 rfl).move 10 rfl).move 13 rfl).move 11 rfl).move 11 rfl)
          have H320 : St W w315 (PairA g ({ P with e1 := outS (sendS P.e1 ac.body), g1 := P.g1, t1 := P.t1 ++ outT (sendS P.e1 ac.body) } : PairV) :: byA (D325.map DgD.by) :: Row 41 6 (.slice pp314 ((outT (sendS P.e1 ac.body)).length) cc315) ((outT (sendS P.e1 ac.body)).length) (D319.flatMap dgdCell) :: byA (D319.map DgD.by) :: blk bk6 (.cells #[.int .i64 ac.do_.v, .int .i64 ac.who.v, .int .i64 ac.n.v, .slice pp1 ac.body.length cc2] 28 (0, 0)) :: Im 1 (.slice pp1 ac.body.length cc2) ac.body.length (ac.body.flatMap u8c) :: F) := St.shut_ex (⟨l11, l12, pp13, cc14, pp15, cc16, pp17, cc18, pp19, cc20, pp21, cc22, pp334, cc335⟩ : PairQ) (St.shut_star (ls := [blk g (.cells #[.pointer (some ⟨l11, 0, none⟩), .pointer (some ⟨l12, 0, none⟩), .slice pp13 P.g0.length cc14, .slice pp15 P.g1.length cc16, .slice pp17 P.c0.length cc18, .slice pp19 P.c1.length cc20, .slice pp21 P.t0.length cc22, .slice pp334 ((P.t1 ++ (outT (sendS P.e1 ac.body))).length) cc335] 37 (0, 0)), LkA l11 P.e0, LkA l12 (outS (sendS P.e1 ac.body)), BysA pp13 cc14 P.g0, BysA pp15 cc16 P.g1, BysA pp17 cc18 P.c0, BysA pp19 cc20 P.c1, DgsA pp21 cc22 P.t0, DgsA pp334 cc335 (P.t1 ++ (outT (sendS P.e1 ac.body)))]) H319)
          have H321 : St W w315 (PairA g ({ P with e1 := outS (sendS P.e1 ac.body), g1 := P.g1, t1 := P.t1 ++ outT (sendS P.e1 ac.body) } : PairV) :: F) := (((((H320.drop 1 rfl).drop 1 rfl).drop 1 rfl).drop 1 rfl).drop 1 rfl)
          exact ⟨rfl, by rw [show act0 (swp P) ac = give0 (swp P) ac.body from if_pos hdo]; unfold give0; rw [if_neg (show ¬ sendE (swp P).e0 ac.body = 0 from hE9)]; exact H321⟩
        · intro join314
          refine g_any mixed 20 rfl ?_
          intro w322 hw323
          have H324 := H36.drew
          rw [← hw323] at H324
          clear hw323
          refine a_take 0 (listed' := #[true, false, false, false, false, false, false, false, false, false, false, false, false, false, false, false, false, false, false, false]) rfl (by kernel_rfl) (by kernel_rfl) (by kernel_rfl) rfl rfl rfl rfl (fun w => x_move (.pointer (some ⟨g, 0, none⟩)) rfl w) ?_
          refine a_take 1 (listed' := #[true, true, false, false, false, false, false, false, false, false, false, false, false, false, false, false, false, false, false, false]) rfl (by kernel_rfl) (by kernel_rfl) (by kernel_rfl) rfl rfl rfl rfl (fun w => x_move (.int .i64 1) rfl w) ?_
          refine a_take 2 (listed' := #[true, true, true, false, false, false, false, false, false, false, false, false, false, false, false, false, false, false, false, false]) rfl (by kernel_rfl) (by kernel_rfl) (by kernel_rfl) rfl rfl rfl rfl (fun w => x_move (.pointer (some ⟨g, 0, none⟩)) rfl w) ?_
          refine a_take 3 (listed' := #[true, true, true, true, false, false, false, false, false, false, false, false, false, false, false, false, false, false, false, false]) rfl (by kernel_rfl) (by kernel_rfl) (by kernel_rfl) rfl rfl rfl rfl (fun w => x_move (.int .i64 1) rfl w) ?_
          refine a_take 4 (listed' := #[true, true, true, true, true, false, false, false, false, false, false, false, false, false, false, false, false, false, false, false]) rfl (by kernel_rfl) (by kernel_rfl) (by kernel_rfl) rfl rfl rfl rfl (fun w => x_nilCheck (.pointer (some ⟨g, 0, none⟩)) rfl ⟨_, rfl⟩ w) ?_
          refine a_take 5 (listed' := #[true, true, true, true, true, true, false, false, false, false, false, false, false, false, false, false, false, false, false, false]) rfl (by kernel_rfl) (by kernel_rfl) (by kernel_rfl) rfl rfl rfl rfl (fun w => x_fieldAddr 37 3 6 6 35 rfl fi_37_3 rfl w) ?_
          refine a_take 6 (listed' := #[true, true, true, true, true, true, true, false, false, false, false, false, false, false, false, false, false, false, false, false]) rfl (by kernel_rfl) (by kernel_rfl) (by kernel_rfl) rfl rfl rfl rfl (fun w => x_indexAddr_arr 1 1 7 rfl rfl ar_35 (by omega) rfl w) ?_
          refine a_take 8 (listed' := #[true, true, true, true, true, true, true, false, true, false, false, false, false, false, false, false, false, false, false, false]) rfl (by kernel_rfl) (by kernel_rfl) (by kernel_rfl) rfl rfl rfl rfl (fun w => x_move (.pointer (some ⟨g, 0, none⟩)) rfl w) ?_
          refine a_take 9 (listed' := #[true, true, true, true, true, true, true, false, true, true, false, false, false, false, false, false, false, false, false, false]) rfl (by kernel_rfl) (by kernel_rfl) (by kernel_rfl) rfl rfl rfl rfl (fun w => x_move (.int .i64 1) rfl w) ?_
          refine a_take 10 (listed' := #[true, true, true, true, true, true, true, false, true, true, true, false, false, false, false, false, false, false, false, false]) rfl (by kernel_rfl) (by kernel_rfl) (by kernel_rfl) rfl rfl rfl rfl (fun w => x_nilCheck (.pointer (some ⟨g, 0, none⟩)) rfl ⟨_, rfl⟩ w) ?_
          refine a_take 11 (listed' := #[true, true, true, true, true, true, true, false, true, true, true, true, false, false, false, false, false, false, false, false]) rfl (by kernel_rfl) (by kernel_rfl) (by kernel_rfl) rfl rfl rfl rfl (fun w => x_fieldAddr 37 0 0 0 31 rfl fi_37_0 rfl w) ?_
          refine a_take 12 (listed' := #[true, true, true, true, true, true, true, false, true, true, true, true, true, false, false, false, false, false, false, false]) rfl (by kernel_rfl) (by kernel_rfl) (by kernel_rfl) rfl rfl rfl rfl (fun w => x_indexAddr_arr 1 1 1 rfl rfl ar_31 (by omega) rfl w) ?_
          refine a_take 16 (listed' := #[true, true, true, true, true, true, true, false, true, true, true, true, true, false, false, false, true, false, false, false]) rfl (by kernel_rfl) (by kernel_rfl) (by kernel_rfl) rfl rfl rfl rfl (fun w => x_nilCheck (.pointer (some ⟨g, 0, none⟩)) rfl ⟨_, rfl⟩ w) ?_
          refine a_take 17 (listed' := #[true, true, true, true, true, true, true, false, true, true, true, true, true, false, false, false, true, true, false, false]) rfl (by kernel_rfl) (by kernel_rfl) (by kernel_rfl) rfl rfl rfl rfl (fun w => x_fieldAddr 37 3 6 6 35 rfl fi_37_3 rfl w) ?_
          refine a_all (rs := [7, 13]) (by kernel_rfl) (by simp) ?_
          refine a_cons ⟨_, rfl, ?_⟩ (a_cons ⟨_, rfl, ?_⟩ (fun x hx => absurd hx (by simp)))
          · skip
            refine s_load (.slice pp23 P.t1.length cc24) ag_34 rfl (H324.blk_at (i := 0) rfl) rfl rfl ?_
            change AnyG _ _ _ _ #[true, true, true, true, true, true, true, true, true, true, true, true, true, false, false, false, true, true, false, false] _ _
            refine a_all (rs := [13]) (by kernel_rfl) (by simp) ?_
            refine a_cons ⟨_, rfl, ?_⟩ (fun x hx => absurd hx (by simp))
            refine s_load (.pointer (some ⟨l12, 0, none⟩)) ag_30 rfl (H324.blk_at (i := 0) rfl) rfl rfl ?_
            change AnyG _ _ _ _ #[true, true, true, true, true, true, true, true, true, true, true, true, true, true, false, false, true, true, false, false] _ _
            refine a_all (rs := [14]) (by kernel_rfl) (by simp) ?_
            refine a_cons ⟨_, rfl, ?_⟩ (fun x hx => absurd hx (by simp))
            refine s_call [.pointer (some ⟨l12, 0, none⟩)] pl_23 rfl rfl (Lk_Out l12 (sendS P.e1 ac.body) (endOk_send hI.b.ok) (i := 10) rfl H324) ?_
            rintro _ w327 ⟨pp325, cc326, rfl, H328⟩
            change AnyG _ _ _ _ #[true, true, true, true, true, true, true, true, true, true, true, true, true, true, true, false, true, true, false, false] _ _
            refine a_all (rs := [15]) (by kernel_rfl) (by simp) ?_
            refine a_cons ⟨_, rfl, ?_⟩ (fun x hx => absurd hx (by simp))
            have H329 := H328.move 0 rfl
            obtain ⟨⟨D330, hD331⟩, H332⟩ := St.open_ex H329
            have H333 := St.open_star H332
            change D330.map DgD.d = (outT (sendS P.e1 ac.body)) at hD331
            have H334 : St W w327 (Row 41 6 (.slice pp325 ((outT (sendS P.e1 ac.body)).length) cc326) ((outT (sendS P.e1 ac.body)).length) (D330.flatMap dgdCell) :: byA (D330.map DgD.by) :: blk g (.cells #[.pointer (some ⟨l11, 0, none⟩), .pointer (some ⟨l12, 0, none⟩), .slice pp13 P.g0.length cc14, .slice pp15 P.g1.length cc16, .slice pp17 P.c0.length cc18, .slice pp19 P.c1.length cc20, .slice pp21 P.t0.length cc22, .slice pp23 P.t1.length cc24] 37 (0, 0)) :: LkA l11 P.e0 :: BysA pp13 cc14 P.g0 :: BysA pp15 cc16 P.g1 :: BysA pp17 cc18 P.c0 :: BysA pp19 cc20 P.c1 :: DgsA pp21 cc22 P.t0 :: DgsA pp23 cc24 P.t1 :: blk bk6 (.cells #[.int .i64 ac.do_.v, .int .i64 ac.who.v, .int .i64 ac.n.v, .slice pp1 ac.body.length cc2] 28 (0, 0)) :: Im 1 (.slice pp1 ac.body.length cc2) ac.body.length (ac.body.flatMap u8c) :: LkA l12 (outS (sendS P.e1 ac.body)) :: F) := H333
            have H335 := H334.move 9 rfl
            obtain ⟨⟨D336, hD337⟩, H338⟩ := St.open_ex H335
            have H339 := St.open_star H338
            change D336.map DgD.d = P.t1 at hD337
            have H340 : St W w327 (Row 41 6 (.slice pp23 P.t1.length cc24) P.t1.length (D336.flatMap dgdCell) :: byA (D336.map DgD.by) :: Row 41 6 (.slice pp325 ((outT (sendS P.e1 ac.body)).length) cc326) ((outT (sendS P.e1 ac.body)).length) (D330.flatMap dgdCell) :: byA (D330.map DgD.by) :: blk g (.cells #[.pointer (some ⟨l11, 0, none⟩), .pointer (some ⟨l12, 0, none⟩), .slice pp13 P.g0.length cc14, .slice pp15 P.g1.length cc16, .slice pp17 P.c0.length cc18, .slice pp19 P.c1.length cc20, .slice pp21 P.t0.length cc22, .slice pp23 P.t1.length cc24] 37 (0, 0)) :: LkA l11 P.e0 :: BysA pp13 cc14 P.g0 :: BysA pp15 cc16 P.g1 :: BysA pp17 cc18 P.c0 :: BysA pp19 cc20 P.c1 :: DgsA pp21 cc22 P.t0 :: blk bk6 (.cells #[.int .i64 ac.do_.v, .int .i64 ac.who.v, .int .i64 ac.n.v, .slice pp1 ac.body.length cc2] 28 (0, 0)) :: Im 1 (.slice pp1 ac.body.length cc2) ac.body.length (ac.body.flatMap u8c) :: LkA l12 (outS (sendS P.e1 ac.body)) :: F) := H339
            have hz3 := Row.lenOf H340 (i := 0) rfl; have hz4 := Row.lenOf H340 (i := 2) rfl
            have hz5 := hI.swp.a.tl; have hz6 : (outT (sendS P.e1 ac.body)).length ≤ 128 := Nat.le_trans (outT_len _ (endOk_send hI.swp.a.ok)) (by decide)
            change P.t1.length ≤ 192 * n at hz5
            refine s_append H340 0 rfl rfl rfl (Row.rd H340 (i := 2) rfl) ap_34 (by decide) (by unfold maxLen; omega) (by omega) (n' := P.t1.length + (outT (sendS P.e1 ac.body)).length) (xs' := D336.flatMap dgdCell ++ D330.flatMap dgdCell) (by omega) (by first | rfl | simp) rfl ?_; intro vv341 w342 H343 hn344
            obtain ⟨pp345, cc346, rfl⟩ := Row.slice H343 (i := 0) rfl
            have H347 := byA_app (M := (D336 ++ D330).map DgD.by) H343 (i := 1) (j := 3) rfl rfl app_dg
            have H348 : St W w342 (Row 41 6 (.slice pp345 (P.t1.length + (outT (sendS P.e1 ac.body)).length) cc346) (P.t1.length + (outT (sendS P.e1 ac.body)).length) (D336.flatMap dgdCell ++ D330.flatMap dgdCell) :: byA ((D336 ++ D330).map DgD.by) :: byA (D336.map DgD.by) :: Row 41 6 (.slice pp325 ((outT (sendS P.e1 ac.body)).length) cc326) ((outT (sendS P.e1 ac.body)).length) (D330.flatMap dgdCell) :: byA (D330.map DgD.by) :: blk g (.cells #[.pointer (some ⟨l11, 0, none⟩), .pointer (some ⟨l12, 0, none⟩), .slice pp13 P.g0.length cc14, .slice pp15 P.g1.length cc16, .slice pp17 P.c0.length cc18, .slice pp19 P.c1.length cc20, .slice pp21 P.t0.length cc22, .slice pp23 P.t1.length cc24] 37 (0, 0)) :: LkA l11 P.e0 :: BysA pp13 cc14 P.g0 :: BysA pp15 cc16 P.g1 :: BysA pp17 cc18 P.c0 :: BysA pp19 cc20 P.c1 :: DgsA pp21 cc22 P.t0 :: blk bk6 (.cells #[.int .i64 ac.do_.v, .int .i64 ac.who.v, .int .i64 ac.n.v, .slice pp1 ac.body.length cc2] 28 (0, 0)) :: Im 1 (.slice pp1 ac.body.length cc2) ac.body.length (ac.body.flatMap u8c) :: LkA l12 (outS (sendS P.e1 ac.body)) :: F) := (H347.move 1 rfl)
            have hn349 : (P.t1 ++ (outT (sendS P.e1 ac.body))).length = P.t1.length + (outT (sendS P.e1 ac.body)).length := (List.length_append ..)
            have H350 : St W w342 (Row 41 6 (.slice pp345 ((P.t1 ++ (outT (sendS P.e1 ac.body))).length) cc346) ((P.t1 ++ (outT (sendS P.e1 ac.body))).length) ((D336 ++ D330).flatMap dgdCell) :: byA ((D336 ++ D330).map DgD.by) :: byA (D336.map DgD.by) :: Row 41 6 (.slice pp325 ((outT (sendS P.e1 ac.body)).length) cc326) ((outT (sendS P.e1 ac.body)).length) (D330.flatMap dgdCell) :: byA (D330.map DgD.by) :: blk g (.cells #[.pointer (some ⟨l11, 0, none⟩), .pointer (some ⟨l12, 0, none⟩), .slice pp13 P.g0.length cc14, .slice pp15 P.g1.length cc16, .slice pp17 P.c0.length cc18, .slice pp19 P.c1.length cc20, .slice pp21 P.t0.length cc22, .slice pp23 P.t1.length cc24] 37 (0, 0)) :: LkA l11 P.e0 :: BysA pp13 cc14 P.g0 :: BysA pp15 cc16 P.g1 :: BysA pp17 cc18 P.c0 :: BysA pp19 cc20 P.c1 :: DgsA pp21 cc22 P.t0 :: blk bk6 (.cells #[.int .i64 ac.do_.v, .int .i64 ac.who.v, .int .i64 ac.n.v, .slice pp1 ac.body.length cc2] 28 (0, 0)) :: Im 1 (.slice pp1 ac.body.length cc2) ac.body.length (ac.body.flatMap u8c) :: LkA l12 (outS (sendS P.e1 ac.body)) :: F) := by rw [hn349]; rw [flat_app]; exact H348
            have H351 : St W w342 (DgsA pp345 cc346 (P.t1 ++ (outT (sendS P.e1 ac.body))) :: byA (D336.map DgD.by) :: Row 41 6 (.slice pp325 ((outT (sendS P.e1 ac.body)).length) cc326) ((outT (sendS P.e1 ac.body)).length) (D330.flatMap dgdCell) :: byA (D330.map DgD.by) :: blk g (.cells #[.pointer (some ⟨l11, 0, none⟩), .pointer (some ⟨l12, 0, none⟩), .slice pp13 P.g0.length cc14, .slice pp15 P.g1.length cc16, .slice pp17 P.c0.length cc18, .slice pp19 P.c1.length cc20, .slice pp21 P.t0.length cc22, .slice pp23 P.t1.length cc24] 37 (0, 0)) :: LkA l11 P.e0 :: BysA pp13 cc14 P.g0 :: BysA pp15 cc16 P.g1 :: BysA pp17 cc18 P.c0 :: BysA pp19 cc20 P.c1 :: DgsA pp21 cc22 P.t0 :: blk bk6 (.cells #[.int .i64 ac.do_.v, .int .i64 ac.who.v, .int .i64 ac.n.v, .slice pp1 ac.body.length cc2] 28 (0, 0)) :: Im 1 (.slice pp1 ac.body.length cc2) ac.body.length (ac.body.flatMap u8c) :: LkA l12 (outS (sendS P.e1 ac.body)) :: F) := St.shut_ex ⟨(D336 ++ D330), (show (D336 ++ D330).map DgD.d = (P.t1 ++ (outT (sendS P.e1 ac.body))) from app_map hD337 hD331)⟩ (St.shut_star (ls := [Row 41 6 (.slice pp345 ((P.t1 ++ (outT (sendS P.e1 ac.body))).length) cc346) ((P.t1 ++ (outT (sendS P.e1 ac.body))).length) ((D336 ++ D330).flatMap dgdCell), byA ((D336 ++ D330).map DgD.by)]) H350)
            change AnyG _ _ _ _ #[true, true, true, true, true, true, true, true, true, true, true, true, true, true, true, true, true, true, false, false] _ _
            refine a_take 18 (listed' := #[true, true, true, true, true, true, true, true, true, true, true, true, true, true, true, true, true, true, true, false]) rfl (by kernel_rfl) (by kernel_rfl) (by kernel_rfl) rfl rfl rfl rfl (fun w => x_indexAddr_arr 1 1 7 rfl rfl ar_35 (by omega) rfl w) ?_
            refine a_all (rs := [19]) (by kernel_rfl) (by simp) ?_
            refine a_cons ⟨_, rfl, ?_⟩ (fun x hx => absurd hx (by simp))
            refine s_store H351 4 (.slice pp345 (P.t1.length + (outT (sendS P.e1 ac.body)).length) cc346) rfl rfl rfl sz_34 rfl (Nat.le_of_ble_eq_true rfl) rfl (cs' := #[.pointer (some ⟨l11, 0, none⟩), .pointer (some ⟨l12, 0, none⟩), .slice pp13 P.g0.length cc14, .slice pp15 P.g1.length cc16, .slice pp17 P.c0.length cc18, .slice pp19 P.c1.length cc20, .slice pp21 P.t0.length cc22, .slice pp345 (P.t1.length + (outT (sendS P.e1 ac.body)).length) cc346]) rfl ?_; intro w352 H353
            change AnyG _ _ _ _ #[true, true, true, true, true, true, true, true, true, true, true, true, true, true, true, true, true, true, true, true] _ _
            refine a_done (by kernel_rfl) ?_
            exact join314 (pp345, cc346, D336, pp325, cc326, D330) _ _ H353 ⟨rfl, trivial⟩
          · skip
            refine s_load (.pointer (some ⟨l12, 0, none⟩)) ag_30 rfl (H324.blk_at (i := 0) rfl) rfl rfl ?_
            change AnyG _ _ _ _ #[true, true, true, true, true, true, true, false, true, true, true, true, true, true, false, false, true, true, false, false] _ _
            refine a_all (rs := [7, 14]) (by kernel_rfl) (by simp) ?_
            refine a_cons ⟨_, rfl, ?_⟩ (a_cons ⟨_, rfl, ?_⟩ (fun x hx => absurd hx (by simp)))
            · skip
              refine s_load (.slice pp23 P.t1.length cc24) ag_34 rfl (H324.blk_at (i := 0) rfl) rfl rfl ?_
              change AnyG _ _ _ _ #[true, true, true, true, true, true, true, true, true, true, true, true, true, true, false, false, true, true, false, false] _ _
              refine a_all (rs := [14]) (by kernel_rfl) (by simp) ?_
              refine a_cons ⟨_, rfl, ?_⟩ (fun x hx => absurd hx (by simp))
              refine s_call [.pointer (some ⟨l12, 0, none⟩)] pl_23 rfl rfl (Lk_Out l12 (sendS P.e1 ac.body) (endOk_send hI.b.ok) (i := 10) rfl H324) ?_
              rintro _ w356 ⟨pp354, cc355, rfl, H357⟩
              change AnyG _ _ _ _ #[true, true, true, true, true, true, true, true, true, true, true, true, true, true, true, false, true, true, false, false] _ _
              refine a_all (rs := [15]) (by kernel_rfl) (by simp) ?_
              refine a_cons ⟨_, rfl, ?_⟩ (fun x hx => absurd hx (by simp))
              have H358 := H357.move 0 rfl
              obtain ⟨⟨D359, hD360⟩, H361⟩ := St.open_ex H358
              have H362 := St.open_star H361
              change D359.map DgD.d = (outT (sendS P.e1 ac.body)) at hD360
              have H363 : St W w356 (Row 41 6 (.slice pp354 ((outT (sendS P.e1 ac.body)).length) cc355) ((outT (sendS P.e1 ac.body)).length) (D359.flatMap dgdCell) :: byA (D359.map DgD.by) :: blk g (.cells #[.pointer (some ⟨l11, 0, none⟩), .pointer (some ⟨l12, 0, none⟩), .slice pp13 P.g0.length cc14, .slice pp15 P.g1.length cc16, .slice pp17 P.c0.length cc18, .slice pp19 P.c1.length cc20, .slice pp21 P.t0.length cc22, .slice pp23 P.t1.length cc24] 37 (0, 0)) :: LkA l11 P.e0 :: BysA pp13 cc14 P.g0 :: BysA pp15 cc16 P.g1 :: BysA pp17 cc18 P.c0 :: BysA pp19 cc20 P.c1 :: DgsA pp21 cc22 P.t0 :: DgsA pp23 cc24 P.t1 :: blk bk6 (.cells #[.int .i64 ac.do_.v, .int .i64 ac.who.v, .int .i64 ac.n.v, .slice pp1 ac.body.length cc2] 28 (0, 0)) :: Im 1 (.slice pp1 ac.body.length cc2) ac.body.length (ac.body.flatMap u8c) :: LkA l12 (outS (sendS P.e1 ac.body)) :: F) := H362
              have H364 := H363.move 9 rfl
              obtain ⟨⟨D365, hD366⟩, H367⟩ := St.open_ex H364
              have H368 := St.open_star H367
              change D365.map DgD.d = P.t1 at hD366
              have H369 : St W w356 (Row 41 6 (.slice pp23 P.t1.length cc24) P.t1.length (D365.flatMap dgdCell) :: byA (D365.map DgD.by) :: Row 41 6 (.slice pp354 ((outT (sendS P.e1 ac.body)).length) cc355) ((outT (sendS P.e1 ac.body)).length) (D359.flatMap dgdCell) :: byA (D359.map DgD.by) :: blk g (.cells #[.pointer (some ⟨l11, 0, none⟩), .pointer (some ⟨l12, 0, none⟩), .slice pp13 P.g0.length cc14, .slice pp15 P.g1.length cc16, .slice pp17 P.c0.length cc18, .slice pp19 P.c1.length cc20, .slice pp21 P.t0.length cc22, .slice pp23 P.t1.length cc24] 37 (0, 0)) :: LkA l11 P.e0 :: BysA pp13 cc14 P.g0 :: BysA pp15 cc16 P.g1 :: BysA pp17 cc18 P.c0 :: BysA pp19 cc20 P.c1 :: DgsA pp21 cc22 P.t0 :: blk bk6 (.cells #[.int .i64 ac.do_.v, .int .i64 ac.who.v, .int .i64 ac.n.v, .slice pp1 ac.body.length cc2] 28 (0, 0)) :: Im 1 (.slice pp1 ac.body.length cc2) ac.body.length (ac.body.flatMap u8c) :: LkA l12 (outS (sendS P.e1 ac.body)) :: F) := H368
              have hz3 := Row.lenOf H369 (i := 0) rfl; have hz4 := Row.lenOf H369 (i := 2) rfl
              have hz5 := hI.swp.a.tl; have hz6 : (outT (sendS P.e1 ac.body)).length ≤ 128 := Nat.le_trans (outT_len _ (endOk_send hI.swp.a.ok)) (by decide)
              change P.t1.length ≤ 192 * n at hz5
              refine s_append H369 0 rfl rfl rfl (Row.rd H369 (i := 2) rfl) ap_34 (by decide) (by unfold maxLen; omega) (by omega) (n' := P.t1.length + (outT (sendS P.e1 ac.body)).length) (xs' := D365.flatMap dgdCell ++ D359.flatMap dgdCell) (by omega) (by first | rfl | simp) rfl ?_; intro vv370 w371 H372 hn373
              obtain ⟨pp374, cc375, rfl⟩ := Row.slice H372 (i := 0) rfl
              have H376 := byA_app (M := (D365 ++ D359).map DgD.by) H372 (i := 1) (j := 3) rfl rfl app_dg
              have H377 : St W w371 (Row 41 6 (.slice pp374 (P.t1.length + (outT (sendS P.e1 ac.body)).length) cc375) (P.t1.length + (outT (sendS P.e1 ac.body)).length) (D365.flatMap dgdCell ++ D359.flatMap dgdCell) :: byA ((D365 ++ D359).map DgD.by) :: byA (D365.map DgD.by) :: Row 41 6 (.slice pp354 ((outT (sendS P.e1 ac.body)).length) cc355) ((outT (sendS P.e1 ac.body)).length) (D359.flatMap dgdCell) :: byA (D359.map DgD.by) :: blk g (.cells #[.pointer (some ⟨l11, 0, none⟩), .pointer (some ⟨l12, 0, none⟩), .slice pp13 P.g0.length cc14, .slice pp15 P.g1.length cc16, .slice pp17 P.c0.length cc18, .slice pp19 P.c1.length cc20, .slice pp21 P.t0.length cc22, .slice pp23 P.t1.length cc24] 37 (0, 0)) :: LkA l11 P.e0 :: BysA pp13 cc14 P.g0 :: BysA pp15 cc16 P.g1 :: BysA pp17 cc18 P.c0 :: BysA pp19 cc20 P.c1 :: DgsA pp21 cc22 P.t0 :: blk bk6 (.cells #[.int .i64 ac.do_.v, .int .i64 ac.who.v, .int .i64 ac.n.v, .slice pp1 ac.body.length cc2] 28 (0, 0)) :: Im 1 (.slice pp1 ac.body.length cc2) ac.body.length (ac.body.flatMap u8c) :: LkA l12 (outS (sendS P.e1 ac.body)) :: F) := (H376.move 1 rfl)
              have hn378 : (P.t1 ++ (outT (sendS P.e1 ac.body))).length = P.t1.length + (outT (sendS P.e1 ac.body)).length := (List.length_append ..)
              have H379 : St W w371 (Row 41 6 (.slice pp374 ((P.t1 ++ (outT (sendS P.e1 ac.body))).length) cc375) ((P.t1 ++ (outT (sendS P.e1 ac.body))).length) ((D365 ++ D359).flatMap dgdCell) :: byA ((D365 ++ D359).map DgD.by) :: byA (D365.map DgD.by) :: Row 41 6 (.slice pp354 ((outT (sendS P.e1 ac.body)).length) cc355) ((outT (sendS P.e1 ac.body)).length) (D359.flatMap dgdCell) :: byA (D359.map DgD.by) :: blk g (.cells #[.pointer (some ⟨l11, 0, none⟩), .pointer (some ⟨l12, 0, none⟩), .slice pp13 P.g0.length cc14, .slice pp15 P.g1.length cc16, .slice pp17 P.c0.length cc18, .slice pp19 P.c1.length cc20, .slice pp21 P.t0.length cc22, .slice pp23 P.t1.length cc24] 37 (0, 0)) :: LkA l11 P.e0 :: BysA pp13 cc14 P.g0 :: BysA pp15 cc16 P.g1 :: BysA pp17 cc18 P.c0 :: BysA pp19 cc20 P.c1 :: DgsA pp21 cc22 P.t0 :: blk bk6 (.cells #[.int .i64 ac.do_.v, .int .i64 ac.who.v, .int .i64 ac.n.v, .slice pp1 ac.body.length cc2] 28 (0, 0)) :: Im 1 (.slice pp1 ac.body.length cc2) ac.body.length (ac.body.flatMap u8c) :: LkA l12 (outS (sendS P.e1 ac.body)) :: F) := by rw [hn378]; rw [flat_app]; exact H377
              have H380 : St W w371 (DgsA pp374 cc375 (P.t1 ++ (outT (sendS P.e1 ac.body))) :: byA (D365.map DgD.by) :: Row 41 6 (.slice pp354 ((outT (sendS P.e1 ac.body)).length) cc355) ((outT (sendS P.e1 ac.body)).length) (D359.flatMap dgdCell) :: byA (D359.map DgD.by) :: blk g (.cells #[.pointer (some ⟨l11, 0, none⟩), .pointer (some ⟨l12, 0, none⟩), .slice pp13 P.g0.length cc14, .slice pp15 P.g1.length cc16, .slice pp17 P.c0.length cc18, .slice pp19 P.c1.length cc20, .slice pp21 P.t0.length cc22, .slice pp23 P.t1.length cc24] 37 (0, 0)) :: LkA l11 P.e0 :: BysA pp13 cc14 P.g0 :: BysA pp15 cc16 P.g1 :: BysA pp17 cc18 P.c0 :: BysA pp19 cc20 P.c1 :: DgsA pp21 cc22 P.t0 :: blk bk6 (.cells #[.int .i64 ac.do_.v, .int .i64 ac.who.v, .int .i64 ac.n.v, .slice pp1 ac.body.length cc2] 28 (0, 0)) :: Im 1 (.slice pp1 ac.body.length cc2) ac.body.length (ac.body.flatMap u8c) :: LkA l12 (outS (sendS P.e1 ac.body)) :: F) := St.shut_ex ⟨(D365 ++ D359), (show (D365 ++ D359).map DgD.d = (P.t1 ++ (outT (sendS P.e1 ac.body))) from app_map hD366 hD360)⟩ (St.shut_star (ls := [Row 41 6 (.slice pp374 ((P.t1 ++ (outT (sendS P.e1 ac.body))).length) cc375) ((P.t1 ++ (outT (sendS P.e1 ac.body))).length) ((D365 ++ D359).flatMap dgdCell), byA ((D365 ++ D359).map DgD.by)]) H379)
              change AnyG _ _ _ _ #[true, true, true, true, true, true, true, true, true, true, true, true, true, true, true, true, true, true, false, false] _ _
              refine a_take 18 (listed' := #[true, true, true, true, true, true, true, true, true, true, true, true, true, true, true, true, true, true, true, false]) rfl (by kernel_rfl) (by kernel_rfl) (by kernel_rfl) rfl rfl rfl rfl (fun w => x_indexAddr_arr 1 1 7 rfl rfl ar_35 (by omega) rfl w) ?_
              refine a_all (rs := [19]) (by kernel_rfl) (by simp) ?_
              refine a_cons ⟨_, rfl, ?_⟩ (fun x hx => absurd hx (by simp))
              refine s_store H380 4 (.slice pp374 (P.t1.length + (outT (sendS P.e1 ac.body)).length) cc375) rfl rfl rfl sz_34 rfl (Nat.le_of_ble_eq_true rfl) rfl (cs' := #[.pointer (some ⟨l11, 0, none⟩), .pointer (some ⟨l12, 0, none⟩), .slice pp13 P.g0.length cc14, .slice pp15 P.g1.length cc16, .slice pp17 P.c0.length cc18, .slice pp19 P.c1.length cc20, .slice pp21 P.t0.length cc22, .slice pp374 (P.t1.length + (outT (sendS P.e1 ac.body)).length) cc375]) rfl ?_; intro w381 H382
              change AnyG _ _ _ _ #[true, true, true, true, true, true, true, true, true, true, true, true, true, true, true, true, true, true, true, true] _ _
              refine a_done (by kernel_rfl) ?_
              exact join314 (pp374, cc375, D365, pp354, cc355, D359) _ _ H382 ⟨rfl, trivial⟩
            · skip
              refine s_call [.pointer (some ⟨l12, 0, none⟩)] pl_23 rfl rfl (Lk_Out l12 (sendS P.e1 ac.body) (endOk_send hI.b.ok) (i := 10) rfl H324) ?_
              rintro _ w385 ⟨pp383, cc384, rfl, H386⟩
              change AnyG _ _ _ _ #[true, true, true, true, true, true, true, false, true, true, true, true, true, true, true, false, true, true, false, false] _ _
              refine a_all (rs := [7]) (by kernel_rfl) (by simp) ?_
              refine a_cons ⟨_, rfl, ?_⟩ (fun x hx => absurd hx (by simp))
              refine s_load (.slice pp23 P.t1.length cc24) ag_34 rfl (H386.blk_at (i := 1) rfl) rfl rfl ?_
              change AnyG _ _ _ _ #[true, true, true, true, true, true, true, true, true, true, true, true, true, true, true, false, true, true, false, false] _ _
              refine a_all (rs := [15]) (by kernel_rfl) (by simp) ?_
              refine a_cons ⟨_, rfl, ?_⟩ (fun x hx => absurd hx (by simp))
              have H387 := H386.move 0 rfl
              obtain ⟨⟨D388, hD389⟩, H390⟩ := St.open_ex H387
              have H391 := St.open_star H390
              change D388.map DgD.d = (outT (sendS P.e1 ac.body)) at hD389
              have H392 : St W w385 (Row 41 6 (.slice pp383 ((outT (sendS P.e1 ac.body)).length) cc384) ((outT (sendS P.e1 ac.body)).length) (D388.flatMap dgdCell) :: byA (D388.map DgD.by) :: blk g (.cells #[.pointer (some ⟨l11, 0, none⟩), .pointer (some ⟨l12, 0, none⟩), .slice pp13 P.g0.length cc14, .slice pp15 P.g1.length cc16, .slice pp17 P.c0.length cc18, .slice pp19 P.c1.length cc20, .slice pp21 P.t0.length cc22, .slice pp23 P.t1.length cc24] 37 (0, 0)) :: LkA l11 P.e0 :: BysA pp13 cc14 P.g0 :: BysA pp15 cc16 P.g1 :: BysA pp17 cc18 P.c0 :: BysA pp19 cc20 P.c1 :: DgsA pp21 cc22 P.t0 :: DgsA pp23 cc24 P.t1 :: blk bk6 (.cells #[.int .i64 ac.do_.v, .int .i64 ac.who.v, .int .i64 ac.n.v, .slice pp1 ac.body.length cc2] 28 (0, 0)) :: Im 1 (.slice pp1 ac.body.length cc2) ac.body.length (ac.body.flatMap u8c) :: LkA l12 (outS (sendS P.e1 ac.body)) :: F) := H391
              have H393 := H392.move 9 rfl
              obtain ⟨⟨D394, hD395⟩, H396⟩ := St.open_ex H393
              have H397 := St.open_star H396
              change D394.map DgD.d = P.t1 at hD395
              have H398 : St W w385 (Row 41 6 (.slice pp23 P.t1.length cc24) P.t1.length (D394.flatMap dgdCell) :: byA (D394.map DgD.by) :: Row 41 6 (.slice pp383 ((outT (sendS P.e1 ac.body)).length) cc384) ((outT (sendS P.e1 ac.body)).length) (D388.flatMap dgdCell) :: byA (D388.map DgD.by) :: blk g (.cells #[.pointer (some ⟨l11, 0, none⟩), .pointer (some ⟨l12, 0, none⟩), .slice pp13 P.g0.length cc14, .slice pp15 P.g1.length cc16, .slice pp17 P.c0.length cc18, .slice pp19 P.c1.length cc20, .slice pp21 P.t0.length cc22, .slice pp23 P.t1.length cc24] 37 (0, 0)) :: LkA l11 P.e0 :: BysA pp13 cc14 P.g0 :: BysA pp15 cc16 P.g1 :: BysA pp17 cc18 P.c0 :: BysA pp19 cc20 P.c1 :: DgsA pp21 cc22 P.t0 :: blk bk6 (.cells #[.int .i64 ac.do_.v, .int .i64 ac.who.v, .int .i64 ac.n.v, .slice pp1 ac.body.length cc2] 28 (0, 0)) :: Im 1 (.slice pp1 ac.body.length cc2) ac.body.length (ac.body.flatMap u8c) :: LkA l12 (outS (sendS P.e1 ac.body)) :: F) := H397
              have hz3 := Row.lenOf H398 (i := 0) rfl; have hz4 := Row.lenOf H398 (i := 2) rfl
              have hz5 := hI.swp.a.tl; have hz6 : (outT (sendS P.e1 ac.body)).length ≤ 128 := Nat.le_trans (outT_len _ (endOk_send hI.swp.a.ok)) (by decide)
              change P.t1.length ≤ 192 * n at hz5
              refine s_append H398 0 rfl rfl rfl (Row.rd H398 (i := 2) rfl) ap_34 (by decide) (by unfold maxLen; omega) (by omega) (n' := P.t1.length + (outT (sendS P.e1 ac.body)).length) (xs' := D394.flatMap dgdCell ++ D388.flatMap dgdCell) (by omega) (by first | rfl | simp) rfl ?_; intro vv399 w400 H401 hn402
              obtain ⟨pp403, cc404, rfl⟩ := Row.slice H401 (i := 0) rfl
              have H405 := byA_app (M := (D394 ++ D388).map DgD.by) H401 (i := 1) (j := 3) rfl rfl app_dg
              have H406 : St W w400 (Row 41 6 (.slice pp403 (P.t1.length + (outT (sendS P.e1 ac.body)).length) cc404) (P.t1.length + (outT (sendS P.e1 ac.body)).length) (D394.flatMap dgdCell ++ D388.flatMap dgdCell) :: byA ((D394 ++ D388).map DgD.by) :: byA (D394.map DgD.by) :: Row 41 6 (.slice pp383 ((outT (sendS P.e1 ac.body)).length) cc384) ((outT (sendS P.e1 ac.body)).length) (D388.flatMap dgdCell) :: byA (D388.map DgD.by) :: blk g (.cells #[.pointer (some ⟨l11, 0, none⟩), .pointer (some ⟨l12, 0, none⟩), .slice pp13 P.g0.length cc14, .slice pp15 P.g1.length cc16, .slice pp17 P.c0.length cc18, .slice pp19 P.c1.length cc20, .slice pp21 P.t0.length cc22, .slice pp23 P.t1.length cc24] 37 (0, 0)) :: LkA l11 P.e0 :: BysA pp13 cc14 P.g0 :: BysA pp15 cc16 P.g1 :: BysA pp17 cc18 P.c0 :: BysA pp19 cc20 P.c1 :: DgsA pp21 cc22 P.t0 :: blk bk6 (.cells #[.int .i64 ac.do_.v, .int .i64 ac.who.v, .int .i64 ac.n.v, .slice pp1 ac.body.length cc2] 28 (0, 0)) :: Im 1 (.slice pp1 ac.body.length cc2) ac.body.length (ac.body.flatMap u8c) :: LkA l12 (outS (sendS P.e1 ac.body)) :: F) := (H405.move 1 rfl)
              have hn407 : (P.t1 ++ (outT (sendS P.e1 ac.body))).length = P.t1.length + (outT (sendS P.e1 ac.body)).length := (List.length_append ..)
              have H408 : St W w400 (Row 41 6 (.slice pp403 ((P.t1 ++ (outT (sendS P.e1 ac.body))).length) cc404) ((P.t1 ++ (outT (sendS P.e1 ac.body))).length) ((D394 ++ D388).flatMap dgdCell) :: byA ((D394 ++ D388).map DgD.by) :: byA (D394.map DgD.by) :: Row 41 6 (.slice pp383 ((outT (sendS P.e1 ac.body)).length) cc384) ((outT (sendS P.e1 ac.body)).length) (D388.flatMap dgdCell) :: byA (D388.map DgD.by) :: blk g (.cells #[.pointer (some ⟨l11, 0, none⟩), .pointer (some ⟨l12, 0, none⟩), .slice pp13 P.g0.length cc14, .slice pp15 P.g1.length cc16, .slice pp17 P.c0.length cc18, .slice pp19 P.c1.length cc20, .slice pp21 P.t0.length cc22, .slice pp23 P.t1.length cc24] 37 (0, 0)) :: LkA l11 P.e0 :: BysA pp13 cc14 P.g0 :: BysA pp15 cc16 P.g1 :: BysA pp17 cc18 P.c0 :: BysA pp19 cc20 P.c1 :: DgsA pp21 cc22 P.t0 :: blk bk6 (.cells #[.int .i64 ac.do_.v, .int .i64 ac.who.v, .int .i64 ac.n.v, .slice pp1 ac.body.length cc2] 28 (0, 0)) :: Im 1 (.slice pp1 ac.body.length cc2) ac.body.length (ac.body.flatMap u8c) :: LkA l12 (outS (sendS P.e1 ac.body)) :: F) := by rw [hn407]; rw [flat_app]; exact H406
              have H409 : St W w400 (DgsA pp403 cc404 (P.t1 ++ (outT (sendS P.e1 ac.body))) :: byA (D394.map DgD.by) :: Row 41 6 (.slice pp383 ((outT (sendS P.e1 ac.body)).length) cc384) ((outT (sendS P.e1 ac.body)).length) (D388.flatMap dgdCell) :: byA (D388.map DgD.by) :: blk g (.cells #[.pointer (some ⟨l11, 0, none⟩), .pointer (some ⟨l12, 0, none⟩), .slice pp13 P.g0.length cc14, .slice pp15 P.g1.length cc16, .slice pp17 P.c0.length cc18, .slice pp19 P.c1.length cc20, .slice pp21 P.t0.length cc22, .slice pp23 P.t1.length cc24] 37 (0, 0)) :: LkA l11 P.e0 :: BysA pp13 cc14 P.g0 :: BysA pp15 cc16 P.g1 :: BysA pp17 cc18 P.c0 :: BysA pp19 cc20 P.c1 :: DgsA pp21 cc22 P.t0 :: blk bk6 (.cells #[.int .i64 ac.do_.v, .int .i64 ac.who.v, .int .i64 ac.n.v, .slice pp1 ac.body.length cc2] 28 (0, 0)) :: Im 1 (.slice pp1 ac.body.length cc2) ac.body.length (ac.body.flatMap u8c) :: LkA l12 (outS (sendS P.e1 ac.body)) :: F) := St.shut_ex ⟨(D394 ++ D388), (show (D394 ++ D388).map DgD.d = (P.t1 ++ (outT (sendS P.e1 ac.body))) from app_map hD395 hD389)⟩ (St.shut_star (ls := [Row 41 6 (.slice pp403 ((P.t1 ++ (outT (sendS P.e1 ac.body))).length) cc404) ((P.t1 ++ (outT (sendS P.e1 ac.body))).length) ((D394 ++ D388).flatMap dgdCell), byA ((D394 ++ D388).map DgD.by)]) H408)
              change AnyG _ _ _ _ #[true, true, true, true, true, true, true, true, true, true, true, true, true, true, true, true, true, true, false, false] _ _
              refine a_take 18 (listed' := #[true, true, true, true, true, true, true, true, true, true, true, true, true, true, true, true, true, true, true, false]) rfl (by kernel_rfl) (by kernel_rfl) (by kernel_rfl) rfl rfl rfl rfl (fun w => x_indexAddr_arr 1 1 7 rfl rfl ar_35 (by omega) rfl w) ?_
              refine a_all (rs := [19]) (by kernel_rfl) (by simp) ?_
              refine a_cons ⟨_, rfl, ?_⟩ (fun x hx => absurd hx (by simp))
              refine s_store H409 4 (.slice pp403 (P.t1.length + (outT (sendS P.e1 ac.body)).length) cc404) rfl rfl rfl sz_34 rfl (Nat.le_of_ble_eq_true rfl) rfl (cs' := #[.pointer (some ⟨l11, 0, none⟩), .pointer (some ⟨l12, 0, none⟩), .slice pp13 P.g0.length cc14, .slice pp15 P.g1.length cc16, .slice pp17 P.c0.length cc18, .slice pp19 P.c1.length cc20, .slice pp21 P.t0.length cc22, .slice pp403 (P.t1.length + (outT (sendS P.e1 ac.body)).length) cc404]) rfl ?_; intro w410 H411
              change AnyG _ _ _ _ #[true, true, true, true, true, true, true, true, true, true, true, true, true, true, true, true, true, true, true, true] _ _
              refine a_done (by kernel_rfl) ?_
              exact join314 (pp403, cc404, D394, pp383, cc384, D388) _ _ H411 ⟨rfl, trivial⟩
  · skip
    refine r_cons (s_eql false rfl rfl (dfalse hc9) rfl ?_)
    refine r_cons (s_assign (.bool false) rfl rfl ?_)
    refine r_nil ?_
    refine g_false rfl ?_
    refine g_seq ?_
    refine g_region ?_
    by_cases hc412 : ac.do_.v = 1
    · skip
      refine r_cons (s_eql true rfl rfl (dtrue hc412) rfl ?_)
      refine r_cons (s_assign (.bool true) rfl rfl ?_)
      refine r_nil ?_
      refine g_true rfl ?_
      have H413 := H8.move 2 rfl
      obtain ⟨⟨l414, l415, pp416, cc417, pp418, cc419, pp420, cc421, pp422, cc423, pp424, cc425, pp426, cc427⟩, H428⟩ := St.open_ex H413
      have H429 := St.open_star H428
      have H430 : St W w7 (blk g (.cells #[.pointer (some ⟨l414, 0, none⟩), .pointer (some ⟨l415, 0, none⟩), .slice pp416 P.g0.length cc417, .slice pp418 P.g1.length cc419, .slice pp420 P.c0.length cc421, .slice pp422 P.c1.length cc423, .slice pp424 P.t0.length cc425, .slice pp426 P.t1.length cc427] 37 (0, 0)) :: LkA l414 P.e0 :: LkA l415 P.e1 :: BysA pp416 cc417 P.g0 :: BysA pp418 cc419 P.g1 :: BysA pp420 cc421 P.c0 :: BysA pp422 cc423 P.c1 :: DgsA pp424 cc425 P.t0 :: DgsA pp426 cc427 P.t1 :: blk bk6 (.cells #[.int .i64 ac.do_.v, .int .i64 ac.who.v, .int .i64 ac.n.v, .slice pp1 ac.body.length cc2] 28 (0, 0)) :: Im 1 (.slice pp1 ac.body.length cc2) ac.body.length (ac.body.flatMap u8c) :: F) := H429
      refine g_cut (fun (x : Option Addr × Nat × List DgD × Option Addr × Nat × List DgD) => match x with | (pp451, cc452, D442, pp431, cc432, D436) => [(4, .bool false)]) (fun (x : Option Addr × Nat × List DgD × Option Addr × Nat × List DgD) w => match x with | (pp451, cc452, D442, pp431, cc432, D436) => St W w (DgsA pp451 cc452 (P.t1 ++ (tickT P.e1)) :: byA (D442.map DgD.by) :: Row 41 6 (.slice pp431 ((tickT P.e1).length) cc432) ((tickT P.e1).length) (D436.flatMap dgdCell) :: byA (D436.map DgD.by) :: blk g (.cells #[.pointer (some ⟨l414, 0, none⟩), .pointer (some ⟨l415, 0, none⟩), .slice pp416 P.g0.length cc417, .slice pp418 P.g1.length cc419, .slice pp420 P.c0.length cc421, .slice pp422 P.c1.length cc423, .slice pp424 P.t0.length cc425, .slice pp451 (P.t1.length + (tickT P.e1).length) cc452] 37 (0, 0)) :: LkA l414 P.e0 :: LkA l415 (tickS P.e1) :: BysA pp416 cc417 P.g0 :: BysA pp418 cc419 P.g1 :: BysA pp420 cc421 P.c0 :: BysA pp422 cc423 P.c1 :: DgsA pp424 cc425 P.t0 :: blk bk6 (.cells #[.int .i64 ac.do_.v, .int .i64 ac.who.v, .int .i64 ac.n.v, .slice pp1 ac.body.length cc2] 28 (0, 0)) :: Im 1 (.slice pp1 ac.body.length cc2) ac.body.length (ac.body.flatMap u8c) :: F)) ?_ ?_
      · rintro ⟨pp451, cc452, D442, pp431, cc432, D436⟩ ρ434 w432 H433
        change Ends _ _ (upds ρ434 [(4, .bool false)]) w432
        refine g_inBlock ?_
        refine g_seq ?_
        refine g_region ?_
        refine r_cons (s_assign (.bool true) rfl rfl ?_)
        refine r_nil ?_
        refine g_ret' [.bool true] Try.func9 Try.results9 ⟨rfl, trivial⟩ ?_
        have hdo : ac.do_.v = 1 := by omega
        have H435 : St W w432 (DgsA pp451 cc452 (P.t1 ++ (tickT P.e1)) :: byA (D442.map DgD.by) :: Row 41 6 (.slice pp431 ((tickT P.e1).length) cc432) ((tickT P.e1).length) (D436.flatMap dgdCell) :: byA (D436.map DgD.by) :: blk g (.cells #[.pointer (some ⟨l414, 0, none⟩), .pointer (some ⟨l415, 0, none⟩), .slice pp416 P.g0.length cc417, .slice pp418 P.g1.length cc419, .slice pp420 P.c0.length cc421, .slice pp422 P.c1.length cc423, .slice pp424 P.t0.length cc425, .slice pp451 ((P.t1 ++ (tickT P.e1)).length) cc452] 37 (0, 0)) :: LkA l414 P.e0 :: LkA l415 (tickS P.e1) :: BysA pp416 cc417 P.g0 :: BysA pp418 cc419 P.g1 :: BysA pp420 cc421 P.c0 :: BysA pp422 cc423 P.c1 :: DgsA pp424 cc425 P.t0 :: blk bk6 (.cells #[.int .i64 ac.do_.v, .int .i64 ac.who.v, .int .i64 ac.n.v, .slice pp1 ac.body.length cc2] 28 (0, 0)) :: Im 1 (.slice pp1 ac.body.length cc2) ac.body.length (ac.body.flatMap u8c) :: F) := by rw [show ((P.t1 ++ (tickT P.e1))).length = P.t1.length + (tickT P.e1).length from List.length_append ..]; exact H433
        have H436 : St W w432 (blk g (.cells #[.pointer (some ⟨l414, 0, none⟩), .pointer (some ⟨l415, 0, none⟩), .slice pp416 P.g0.length cc417, .slice pp418 P.g1.length cc419, .slice pp420 P.c0.length cc421, .slice pp422 P.c1.length cc423, .slice pp424 P.t0.length cc425, .slice pp451 ((P.t1 ++ (tickT P.e1)).length) cc452] 37 (0, 0)) :: LkA l414 P.e0 :: LkA l415 (tickS P.e1) :: BysA pp416 cc417 P.g0 :: BysA pp418 cc419 P.g1 :: BysA pp420 cc421 P.c0 :: BysA pp422 cc423 P.c1 :: DgsA pp424 cc425 P.t0 :: DgsA pp451 cc452 (P.t1 ++ (tickT P.e1)) :: byA (D442.map DgD.by) :: Row 41 6 (.slice pp431 ((tickT P.e1).length) cc432) ((tickT P.e1).length) (D436.flatMap dgdCell) :: byA (D436.map DgD.by) :: blk bk6 (.cells #[.int .i64 ac.do_.v, .int .i64 ac.who.v, .int .i64 ac.n.v, .slice pp1 ac.body.length cc2] 28 (0, 0)) :: Im 1 (.slice pp1 ac.body.length cc2) ac.body.length (ac.body.flatMap u8c) :: F) := ((((((((H435.move 11 rfl).move 11 rfl).move 11 rfl).move 11 rfl).move 11 rfl).move 11 rfl).move 11 rfl).move 11 rfl)
        have H437 : St W w432 (PairA g (swp (clock0 (swp P))) :: byA (D442.map DgD.by) :: Row 41 6 (.slice pp431 ((tickT P.e1).length) cc432) ((tickT P.e1).length) (D436.flatMap dgdCell) :: byA (D436.map DgD.by) :: blk bk6 (.cells #[.int .i64 ac.do_.v, .int .i64 ac.who.v, .int .i64 ac.n.v, .slice pp1 ac.body.length cc2] 28 (0, 0)) :: Im 1 (.slice pp1 ac.body.length cc2) ac.body.length (ac.body.flatMap u8c) :: F) := St.shut_ex (⟨l414, l415, pp416, cc417, pp418, cc419, pp420, cc421, pp422, cc423, pp424, cc425, pp451, cc452⟩ : PairQ) (St.shut_star (ls := [blk g (.cells #[.pointer (some ⟨l414, 0, none⟩), .pointer (some ⟨l415, 0, none⟩), .slice pp416 P.g0.length cc417, .slice pp418 P.g1.length cc419, .slice pp420 P.c0.length cc421, .slice pp422 P.c1.length cc423, .slice pp424 P.t0.length cc425, .slice pp451 ((P.t1 ++ (tickT P.e1)).length) cc452] 37 (0, 0)), LkA l414 P.e0, LkA l415 (tickS P.e1), BysA pp416 cc417 P.g0, BysA pp418 cc419 P.g1, BysA pp420 cc421 P.c0, BysA pp422 cc423 P.c1, DgsA pp424 cc425 P.t0, DgsA pp451 cc452 (P.t1 ++ (tickT P.e1))]) H436)
        have H438 : St W w432 (PairA g (swp (clock0 (swp P))) :: F) := (((((H437.drop 1 rfl).drop 1 rfl).drop 1 rfl).drop 1 rfl).drop 1 rfl)
        exact ⟨rfl, by rw [show act0 (swp P) ac = clock0 (swp P) from by unfold act0; rw [if_neg (by omega), if_pos hdo]]; exact H438⟩
      · intro join431
        refine g_any mixed 20 rfl ?_
        intro w439 hw440
        have H441 := H430.drew
        rw [← hw440] at H441
        clear hw440
        refine a_take 0 (listed' := #[true, false, false, false, false, false, false, false, false, false, false, false, false, false, false, false, false, false, false, false]) rfl (by kernel_rfl) (by kernel_rfl) (by kernel_rfl) rfl rfl rfl rfl (fun w => x_move (.pointer (some ⟨g, 0, none⟩)) rfl w) ?_
        refine a_take 1 (listed' := #[true, true, false, false, false, false, false, false, false, false, false, false, false, false, false, false, false, false, false, false]) rfl (by kernel_rfl) (by kernel_rfl) (by kernel_rfl) rfl rfl rfl rfl (fun w => x_move (.int .i64 1) rfl w) ?_
        refine a_take 2 (listed' := #[true, true, true, false, false, false, false, false, false, false, false, false, false, false, false, false, false, false, false, false]) rfl (by kernel_rfl) (by kernel_rfl) (by kernel_rfl) rfl rfl rfl rfl (fun w => x_move (.pointer (some ⟨g, 0, none⟩)) rfl w) ?_
        refine a_take 3 (listed' := #[true, true, true, true, false, false, false, false, false, false, false, false, false, false, false, false, false, false, false, false]) rfl (by kernel_rfl) (by kernel_rfl) (by kernel_rfl) rfl rfl rfl rfl (fun w => x_move (.int .i64 1) rfl w) ?_
        refine a_take 4 (listed' := #[true, true, true, true, true, false, false, false, false, false, false, false, false, false, false, false, false, false, false, false]) rfl (by kernel_rfl) (by kernel_rfl) (by kernel_rfl) rfl rfl rfl rfl (fun w => x_nilCheck (.pointer (some ⟨g, 0, none⟩)) rfl ⟨_, rfl⟩ w) ?_
        refine a_take 5 (listed' := #[true, true, true, true, true, true, false, false, false, false, false, false, false, false, false, false, false, false, false, false]) rfl (by kernel_rfl) (by kernel_rfl) (by kernel_rfl) rfl rfl rfl rfl (fun w => x_fieldAddr 37 3 6 6 35 rfl fi_37_3 rfl w) ?_
        refine a_take 6 (listed' := #[true, true, true, true, true, true, true, false, false, false, false, false, false, false, false, false, false, false, false, false]) rfl (by kernel_rfl) (by kernel_rfl) (by kernel_rfl) rfl rfl rfl rfl (fun w => x_indexAddr_arr 1 1 7 rfl rfl ar_35 (by omega) rfl w) ?_
        refine a_take 8 (listed' := #[true, true, true, true, true, true, true, false, true, false, false, false, false, false, false, false, false, false, false, false]) rfl (by kernel_rfl) (by kernel_rfl) (by kernel_rfl) rfl rfl rfl rfl (fun w => x_move (.pointer (some ⟨g, 0, none⟩)) rfl w) ?_
        refine a_take 9 (listed' := #[true, true, true, true, true, true, true, false, true, true, false, false, false, false, false, false, false, false, false, false]) rfl (by kernel_rfl) (by kernel_rfl) (by kernel_rfl) rfl rfl rfl rfl (fun w => x_move (.int .i64 1) rfl w) ?_
        refine a_take 10 (listed' := #[true, true, true, true, true, true, true, false, true, true, true, false, false, false, false, false, false, false, false, false]) rfl (by kernel_rfl) (by kernel_rfl) (by kernel_rfl) rfl rfl rfl rfl (fun w => x_nilCheck (.pointer (some ⟨g, 0, none⟩)) rfl ⟨_, rfl⟩ w) ?_
        refine a_take 11 (listed' := #[true, true, true, true, true, true, true, false, true, true, true, true, false, false, false, false, false, false, false, false]) rfl (by kernel_rfl) (by kernel_rfl) (by kernel_rfl) rfl rfl rfl rfl (fun w => x_fieldAddr 37 0 0 0 31 rfl fi_37_0 rfl w) ?_
        refine a_take 12 (listed' := #[true, true, true, true, true, true, true, false, true, true, true, true, true, false, false, false, false, false, false, false]) rfl (by kernel_rfl) (by kernel_rfl) (by kernel_rfl) rfl rfl rfl rfl (fun w => x_indexAddr_arr 1 1 1 rfl rfl ar_31 (by omega) rfl w) ?_
        refine a_take 16 (listed' := #[true, true, true, true, true, true, true, false, true, true, true, true, true, false, false, false, true, false, false, false]) rfl (by kernel_rfl) (by kernel_rfl) (by kernel_rfl) rfl rfl rfl rfl (fun w => x_nilCheck (.pointer (some ⟨g, 0, none⟩)) rfl ⟨_, rfl⟩ w) ?_
        refine a_take 17 (listed' := #[true, true, true, true, true, true, true, false, true, true, true, true, true, false, false, false, true, true, false, false]) rfl (by kernel_rfl) (by kernel_rfl) (by kernel_rfl) rfl rfl rfl rfl (fun w => x_fieldAddr 37 3 6 6 35 rfl fi_37_3 rfl w) ?_
        refine a_all (rs := [7, 13]) (by kernel_rfl) (by simp) ?_
        refine a_cons ⟨_, rfl, ?_⟩ (a_cons ⟨_, rfl, ?_⟩ (fun x hx => absurd hx (by simp)))
        · skip
          refine s_load (.slice pp426 P.t1.length cc427) ag_34 rfl (H441.blk_at (i := 0) rfl) rfl rfl ?_
          change AnyG _ _ _ _ #[true, true, true, true, true, true, true, true, true, true, true, true, true, false, false, false, true, true, false, false] _ _
          refine a_all (rs := [13]) (by kernel_rfl) (by simp) ?_
          refine a_cons ⟨_, rfl, ?_⟩ (fun x hx => absurd hx (by simp))
          refine s_load (.pointer (some ⟨l415, 0, none⟩)) ag_30 rfl (H441.blk_at (i := 0) rfl) rfl rfl ?_
          change AnyG _ _ _ _ #[true, true, true, true, true, true, true, true, true, true, true, true, true, true, false, false, true, true, false, false] _ _
          refine a_all (rs := [14]) (by kernel_rfl) (by simp) ?_
          refine a_cons ⟨_, rfl, ?_⟩ (fun x hx => absurd hx (by simp))
          refine s_call [.pointer (some ⟨l415, 0, none⟩)] pl_11 rfl rfl (Lk_Tick l415 P.e1 hI.b.ok (by have h9 := hI.swp.a.clk; exact Nat.le_trans (Nat.succ_le_succ h9) (by omega)) (i := 2) rfl H441) ?_
          rintro _ w444 ⟨pp442, cc443, rfl, H445⟩
          change AnyG _ _ _ _ #[true, true, true, true, true, true, true, true, true, true, true, true, true, true, true, false, true, true, false, false] _ _
          refine a_all (rs := [15]) (by kernel_rfl) (by simp) ?_
          refine a_cons ⟨_, rfl, ?_⟩ (fun x hx => absurd hx (by simp))
          have H446 := H445.move 0 rfl
          obtain ⟨⟨D447, hD448⟩, H449⟩ := St.open_ex H446
          have H450 := St.open_star H449
          change D447.map DgD.d = (tickT P.e1) at hD448
          have H451 : St W w444 (Row 41 6 (.slice pp442 ((tickT P.e1).length) cc443) ((tickT P.e1).length) (D447.flatMap dgdCell) :: byA (D447.map DgD.by) :: blk g (.cells #[.pointer (some ⟨l414, 0, none⟩), .pointer (some ⟨l415, 0, none⟩), .slice pp416 P.g0.length cc417, .slice pp418 P.g1.length cc419, .slice pp420 P.c0.length cc421, .slice pp422 P.c1.length cc423, .slice pp424 P.t0.length cc425, .slice pp426 P.t1.length cc427] 37 (0, 0)) :: LkA l414 P.e0 :: LkA l415 (tickS P.e1) :: BysA pp416 cc417 P.g0 :: BysA pp418 cc419 P.g1 :: BysA pp420 cc421 P.c0 :: BysA pp422 cc423 P.c1 :: DgsA pp424 cc425 P.t0 :: DgsA pp426 cc427 P.t1 :: blk bk6 (.cells #[.int .i64 ac.do_.v, .int .i64 ac.who.v, .int .i64 ac.n.v, .slice pp1 ac.body.length cc2] 28 (0, 0)) :: Im 1 (.slice pp1 ac.body.length cc2) ac.body.length (ac.body.flatMap u8c) :: F) := H450
          have H452 := H451.move 10 rfl
          obtain ⟨⟨D453, hD454⟩, H455⟩ := St.open_ex H452
          have H456 := St.open_star H455
          change D453.map DgD.d = P.t1 at hD454
          have H457 : St W w444 (Row 41 6 (.slice pp426 P.t1.length cc427) P.t1.length (D453.flatMap dgdCell) :: byA (D453.map DgD.by) :: Row 41 6 (.slice pp442 ((tickT P.e1).length) cc443) ((tickT P.e1).length) (D447.flatMap dgdCell) :: byA (D447.map DgD.by) :: blk g (.cells #[.pointer (some ⟨l414, 0, none⟩), .pointer (some ⟨l415, 0, none⟩), .slice pp416 P.g0.length cc417, .slice pp418 P.g1.length cc419, .slice pp420 P.c0.length cc421, .slice pp422 P.c1.length cc423, .slice pp424 P.t0.length cc425, .slice pp426 P.t1.length cc427] 37 (0, 0)) :: LkA l414 P.e0 :: LkA l415 (tickS P.e1) :: BysA pp416 cc417 P.g0 :: BysA pp418 cc419 P.g1 :: BysA pp420 cc421 P.c0 :: BysA pp422 cc423 P.c1 :: DgsA pp424 cc425 P.t0 :: blk bk6 (.cells #[.int .i64 ac.do_.v, .int .i64 ac.who.v, .int .i64 ac.n.v, .slice pp1 ac.body.length cc2] 28 (0, 0)) :: Im 1 (.slice pp1 ac.body.length cc2) ac.body.length (ac.body.flatMap u8c) :: F) := H456
          have hz3 := Row.lenOf H457 (i := 0) rfl; have hz4 := Row.lenOf H457 (i := 2) rfl
          have hz5 := hI.swp.a.tl; have hz6 : (tickT P.e1).length ≤ 128 := tickT_len _ hI.swp.a.ok (by have h9 := hI.swp.a.clk; exact Nat.le_trans (Nat.succ_le_succ h9) (by omega))
          change P.t1.length ≤ 192 * n at hz5
          refine s_append H457 0 rfl rfl rfl (Row.rd H457 (i := 2) rfl) ap_34 (by decide) (by unfold maxLen; omega) (by omega) (n' := P.t1.length + (tickT P.e1).length) (xs' := D453.flatMap dgdCell ++ D447.flatMap dgdCell) (by omega) (by first | rfl | simp) rfl ?_; intro vv458 w459 H460 hn461
          obtain ⟨pp462, cc463, rfl⟩ := Row.slice H460 (i := 0) rfl
          have H464 := byA_app (M := (D453 ++ D447).map DgD.by) H460 (i := 1) (j := 3) rfl rfl app_dg
          have H465 : St W w459 (Row 41 6 (.slice pp462 (P.t1.length + (tickT P.e1).length) cc463) (P.t1.length + (tickT P.e1).length) (D453.flatMap dgdCell ++ D447.flatMap dgdCell) :: byA ((D453 ++ D447).map DgD.by) :: byA (D453.map DgD.by) :: Row 41 6 (.slice pp442 ((tickT P.e1).length) cc443) ((tickT P.e1).length) (D447.flatMap dgdCell) :: byA (D447.map DgD.by) :: blk g (.cells #[.pointer (some ⟨l414, 0, none⟩), .pointer (some ⟨l415, 0, none⟩), .slice pp416 P.g0.length cc417, .slice pp418 P.g1.length cc419, .slice pp420 P.c0.length cc421, .slice pp422 P.c1.length cc423, .slice pp424 P.t0.length cc425, .slice pp426 P.t1.length cc427] 37 (0, 0)) :: LkA l414 P.e0 :: LkA l415 (tickS P.e1) :: BysA pp416 cc417 P.g0 :: BysA pp418 cc419 P.g1 :: BysA pp420 cc421 P.c0 :: BysA pp422 cc423 P.c1 :: DgsA pp424 cc425 P.t0 :: blk bk6 (.cells #[.int .i64 ac.do_.v, .int .i64 ac.who.v, .int .i64 ac.n.v, .slice pp1 ac.body.length cc2] 28 (0, 0)) :: Im 1 (.slice pp1 ac.body.length cc2) ac.body.length (ac.body.flatMap u8c) :: F) := (H464.move 1 rfl)
          have hn466 : (P.t1 ++ (tickT P.e1)).length = P.t1.length + (tickT P.e1).length := (List.length_append ..)
          have H467 : St W w459 (Row 41 6 (.slice pp462 ((P.t1 ++ (tickT P.e1)).length) cc463) ((P.t1 ++ (tickT P.e1)).length) ((D453 ++ D447).flatMap dgdCell) :: byA ((D453 ++ D447).map DgD.by) :: byA (D453.map DgD.by) :: Row 41 6 (.slice pp442 ((tickT P.e1).length) cc443) ((tickT P.e1).length) (D447.flatMap dgdCell) :: byA (D447.map DgD.by) :: blk g (.cells #[.pointer (some ⟨l414, 0, none⟩), .pointer (some ⟨l415, 0, none⟩), .slice pp416 P.g0.length cc417, .slice pp418 P.g1.length cc419, .slice pp420 P.c0.length cc421, .slice pp422 P.c1.length cc423, .slice pp424 P.t0.length cc425, .slice pp426 P.t1.length cc427] 37 (0, 0)) :: LkA l414 P.e0 :: LkA l415 (tickS P.e1) :: BysA pp416 cc417 P.g0 :: BysA pp418 cc419 P.g1 :: BysA pp420 cc421 P.c0 :: BysA pp422 cc423 P.c1 :: DgsA pp424 cc425 P.t0 :: blk bk6 (.cells #[.int .i64 ac.do_.v, .int .i64 ac.who.v, .int .i64 ac.n.v, .slice pp1 ac.body.length cc2] 28 (0, 0)) :: Im 1 (.slice pp1 ac.body.length cc2) ac.body.length (ac.body.flatMap u8c) :: F) := by rw [hn466]; rw [flat_app]; exact H465
          have H468 : St W w459 (DgsA pp462 cc463 (P.t1 ++ (tickT P.e1)) :: byA (D453.map DgD.by) :: Row 41 6 (.slice pp442 ((tickT P.e1).length) cc443) ((tickT P.e1).length) (D447.flatMap dgdCell) :: byA (D447.map DgD.by) :: blk g (.cells #[.pointer (some ⟨l414, 0, none⟩), .pointer (some ⟨l415, 0, none⟩), .slice pp416 P.g0.length cc417, .slice pp418 P.g1.length cc419, .slice pp420 P.c0.length cc421, .slice pp422 P.c1.length cc423, .slice pp424 P.t0.length cc425, .slice pp426 P.t1.length cc427] 37 (0, 0)) :: LkA l414 P.e0 :: LkA l415 (tickS P.e1) :: BysA pp416 cc417 P.g0 :: BysA pp418 cc419 P.g1 :: BysA pp420 cc421 P.c0 :: BysA pp422 cc423 P.c1 :: DgsA pp424 cc425 P.t0 :: blk bk6 (.cells #[.int .i64 ac.do_.v, .int .i64 ac.who.v, .int .i64 ac.n.v, .slice pp1 ac.body.length cc2] 28 (0, 0)) :: Im 1 (.slice pp1 ac.body.length cc2) ac.body.length (ac.body.flatMap u8c) :: F) := St.shut_ex ⟨(D453 ++ D447), (show (D453 ++ D447).map DgD.d = (P.t1 ++ (tickT P.e1)) from app_map hD454 hD448)⟩ (St.shut_star (ls := [Row 41 6 (.slice pp462 ((P.t1 ++ (tickT P.e1)).length) cc463) ((P.t1 ++ (tickT P.e1)).length) ((D453 ++ D447).flatMap dgdCell), byA ((D453 ++ D447).map DgD.by)]) H467)
          change AnyG _ _ _ _ #[true, true, true, true, true, true, true, true, true, true, true, true, true, true, true, true, true, true, false, false] _ _
          refine a_take 18 (listed' := #[true, true, true, true, true, true, true, true, true, true, true, true, true, true, true, true, true, true, true, false]) rfl (by kernel_rfl) (by kernel_rfl) (by kernel_rfl) rfl rfl rfl rfl (fun w => x_indexAddr_arr 1 1 7 rfl rfl ar_35 (by omega) rfl w) ?_
          refine a_all (rs := [19]) (by kernel_rfl) (by simp) ?_
          refine a_cons ⟨_, rfl, ?_⟩ (fun x hx => absurd hx (by simp))
          refine s_store H468 4 (.slice pp462 (P.t1.length + (tickT P.e1).length) cc463) rfl rfl rfl sz_34 rfl (Nat.le_of_ble_eq_true rfl) rfl (cs' := #[.pointer (some ⟨l414, 0, none⟩), .pointer (some ⟨l415, 0, none⟩), .slice pp416 P.g0.length cc417, .slice pp418 P.g1.length cc419, .slice pp420 P.c0.length cc421, .slice pp422 P.c1.length cc423, .slice pp424 P.t0.length cc425, .slice pp462 (P.t1.length + (tickT P.e1).length) cc463]) rfl ?_; intro w469 H470
          change AnyG _ _ _ _ #[true, true, true, true, true, true, true, true, true, true, true, true, true, true, true, true, true, true, true, true] _ _
          refine a_done (by kernel_rfl) ?_
          exact join431 (pp462, cc463, D453, pp442, cc443, D447) _ _ H470 ⟨rfl, trivial⟩
        · skip
          refine s_load (.pointer (some ⟨l415, 0, none⟩)) ag_30 rfl (H441.blk_at (i := 0) rfl) rfl rfl ?_
          change AnyG _ _ _ _ #[true, true, true, true, true, true, true, false, true, true, true, true, true, true, false, false, true, true, false, false] _ _
          refine a_all (rs := [7, 14]) (by kernel_rfl) (by simp) ?_
          refine a_cons ⟨_, rfl, ?_⟩ (a_cons ⟨_, rfl, ?_⟩ (fun x hx => absurd hx (by simp)))
          · skip
            refine s_load (.slice pp426 P.t1.length cc427) ag_34 rfl (H441.blk_at (i := 0) rfl) rfl rfl ?_
            change AnyG _ _ _ _ #[true, true, true, true, true, true, true, true, true, true, true, true, true, true, false, false, true, true, false, false] _ _
            refine a_all (rs := [14]) (by kernel_rfl) (by simp) ?_
            refine a_cons ⟨_, rfl, ?_⟩ (fun x hx => absurd hx (by simp))
            refine s_call [.pointer (some ⟨l415, 0, none⟩)] pl_11 rfl rfl (Lk_Tick l415 P.e1 hI.b.ok (by have h9 := hI.swp.a.clk; exact Nat.le_trans (Nat.succ_le_succ h9) (by omega)) (i := 2) rfl H441) ?_
            rintro _ w473 ⟨pp471, cc472, rfl, H474⟩
            change AnyG _ _ _ _ #[true, true, true, true, true, true, true, true, true, true, true, true, true, true, true, false, true, true, false, false] _ _
            refine a_all (rs := [15]) (by kernel_rfl) (by simp) ?_
            refine a_cons ⟨_, rfl, ?_⟩ (fun x hx => absurd hx (by simp))
            have H475 := H474.move 0 rfl
            obtain ⟨⟨D476, hD477⟩, H478⟩ := St.open_ex H475
            have H479 := St.open_star H478
            change D476.map DgD.d = (tickT P.e1) at hD477
            have H480 : St W w473 (Row 41 6 (.slice pp471 ((tickT P.e1).length) cc472) ((tickT P.e1).length) (D476.flatMap dgdCell) :: byA (D476.map DgD.by) :: blk g (.cells #[.pointer (some ⟨l414, 0, none⟩), .pointer (some ⟨l415, 0, none⟩), .slice pp416 P.g0.length cc417, .slice pp418 P.g1.length cc419, .slice pp420 P.c0.length cc421, .slice pp422 P.c1.length cc423, .slice pp424 P.t0.length cc425, .slice pp426 P.t1.length cc427] 37 (0, 0)) :: LkA l414 P.e0 :: LkA l415 (tickS P.e1) :: BysA pp416 cc417 P.g0 :: BysA pp418 cc419 P.g1 :: BysA pp420 cc421 P.c0 :: BysA pp422 cc423 P.c1 :: DgsA pp424 cc425 P.t0 :: DgsA pp426 cc427 P.t1 :: blk bk6 (.cells #[.int .i64 ac.do_.v, .int .i64 ac.who.v, .int .i64 ac.n.v, .slice pp1 ac.body.length cc2] 28 (0, 0)) :: Im 1 (.slice pp1 ac.body.length cc2) ac.body.length (ac.body.flatMap u8c) :: F) := H479
            have H481 := H480.move 10 rfl
            obtain ⟨⟨D482, hD483⟩, H484⟩ := St.open_ex H481
            have H485 := St.open_star H484
            change D482.map DgD.d = P.t1 at hD483
            have H486 : St W w473 (Row 41 6 (.slice pp426 P.t1.length cc427) P.t1.length (D482.flatMap dgdCell) :: byA (D482.map DgD.by) :: Row 41 6 (.slice pp471 ((tickT P.e1).length) cc472) ((tickT P.e1).length) (D476.flatMap dgdCell) :: byA (D476.map DgD.by) :: blk g (.cells #[.pointer (some ⟨l414, 0, none⟩), .pointer (some ⟨l415, 0, none⟩), .slice pp416 P.g0.length cc417, .slice pp418 P.g1.length cc419, .slice pp420 P.c0.length cc421, .slice pp422 P.c1.length cc423, .slice pp424 P.t0.length cc425, .slice pp426 P.t1.length cc427] 37 (0, 0)) :: LkA l414 P.e0 :: LkA l415 (tickS P.e1) :: BysA pp416 cc417 P.g0 :: BysA pp418 cc419 P.g1 :: BysA pp420 cc421 P.c0 :: BysA pp422 cc423 P.c1 :: DgsA pp424 cc425 P.t0 :: blk bk6 (.cells #[.int .i64 ac.do_.v, .int .i64 ac.who.v, .int .i64 ac.n.v, .slice pp1 ac.body.length cc2] 28 (0, 0)) :: Im 1 (.slice pp1 ac.body.length cc2) ac.body.length (ac.body.flatMap u8c) :: F) := H485
            have hz3 := Row.lenOf H486 (i := 0) rfl; have hz4 := Row.lenOf H486 (i := 2) rfl
            have hz5 := hI.swp.a.tl; have hz6 : (tickT P.e1).length ≤ 128 := tickT_len _ hI.swp.a.ok (by have h9 := hI.swp.a.clk; exact Nat.le_trans (Nat.succ_le_succ h9) (by omega))
            change P.t1.length ≤ 192 * n at hz5
            refine s_append H486 0 rfl rfl rfl (Row.rd H486 (i := 2) rfl) ap_34 (by decide) (by unfold maxLen; omega) (by omega) (n' := P.t1.length + (tickT P.e1).length) (xs' := D482.flatMap dgdCell ++ D476.flatMap dgdCell) (by omega) (by first | rfl | simp) rfl ?_; intro vv487 w488 H489 hn490
            obtain ⟨pp491, cc492, rfl⟩ := Row.slice H489 (i := 0) rfl
            have H493 := byA_app (M := (D482 ++ D476).map DgD.by) H489 (i := 1) (j := 3) rfl rfl app_dg
            have H494 : St W w488 (Row 41 6 (.slice pp491 (P.t1.length + (tickT P.e1).length) cc492) (P.t1.length + (tickT P.e1).length) (D482.flatMap dgdCell ++ D476.flatMap dgdCell) :: byA ((D482 ++ D476).map DgD.by) :: byA (D482.map DgD.by) :: Row 41 6 (.slice pp471 ((tickT P.e1).length) cc472) ((tickT P.e1).length) (D476.flatMap dgdCell) :: byA (D476.map DgD.by) :: blk g (.cells #[.pointer (some ⟨l414, 0, none⟩), .pointer (some ⟨l415, 0, none⟩), .slice pp416 P.g0.length cc417, .slice pp418 P.g1.length cc419, .slice pp420 P.c0.length cc421, .slice pp422 P.c1.length cc423, .slice pp424 P.t0.length cc425, .slice pp426 P.t1.length cc427] 37 (0, 0)) :: LkA l414 P.e0 :: LkA l415 (tickS P.e1) :: BysA pp416 cc417 P.g0 :: BysA pp418 cc419 P.g1 :: BysA pp420 cc421 P.c0 :: BysA pp422 cc423 P.c1 :: DgsA pp424 cc425 P.t0 :: blk bk6 (.cells #[.int .i64 ac.do_.v, .int .i64 ac.who.v, .int .i64 ac.n.v, .slice pp1 ac.body.length cc2] 28 (0, 0)) :: Im 1 (.slice pp1 ac.body.length cc2) ac.body.length (ac.body.flatMap u8c) :: F) := (H493.move 1 rfl)
            have hn495 : (P.t1 ++ (tickT P.e1)).length = P.t1.length + (tickT P.e1).length := (List.length_append ..)
            have H496 : St W w488 (Row 41 6 (.slice pp491 ((P.t1 ++ (tickT P.e1)).length) cc492) ((P.t1 ++ (tickT P.e1)).length) ((D482 ++ D476).flatMap dgdCell) :: byA ((D482 ++ D476).map DgD.by) :: byA (D482.map DgD.by) :: Row 41 6 (.slice pp471 ((tickT P.e1).length) cc472) ((tickT P.e1).length) (D476.flatMap dgdCell) :: byA (D476.map DgD.by) :: blk g (.cells #[.pointer (some ⟨l414, 0, none⟩), .pointer (some ⟨l415, 0, none⟩), .slice pp416 P.g0.length cc417, .slice pp418 P.g1.length cc419, .slice pp420 P.c0.length cc421, .slice pp422 P.c1.length cc423, .slice pp424 P.t0.length cc425, .slice pp426 P.t1.length cc427] 37 (0, 0)) :: LkA l414 P.e0 :: LkA l415 (tickS P.e1) :: BysA pp416 cc417 P.g0 :: BysA pp418 cc419 P.g1 :: BysA pp420 cc421 P.c0 :: BysA pp422 cc423 P.c1 :: DgsA pp424 cc425 P.t0 :: blk bk6 (.cells #[.int .i64 ac.do_.v, .int .i64 ac.who.v, .int .i64 ac.n.v, .slice pp1 ac.body.length cc2] 28 (0, 0)) :: Im 1 (.slice pp1 ac.body.length cc2) ac.body.length (ac.body.flatMap u8c) :: F) := by rw [hn495]; rw [flat_app]; exact H494
            have H497 : St W w488 (DgsA pp491 cc492 (P.t1 ++ (tickT P.e1)) :: byA (D482.map DgD.by) :: Row 41 6 (.slice pp471 ((tickT P.e1).length) cc472) ((tickT P.e1).length) (D476.flatMap dgdCell) :: byA (D476.map DgD.by) :: blk g (.cells #[.pointer (some ⟨l414, 0, none⟩), .pointer (some ⟨l415, 0, none⟩), .slice pp416 P.g0.length cc417, .slice pp418 P.g1.length cc419, .slice pp420 P.c0.length cc421, .slice pp422 P.c1.length cc423, .slice pp424 P.t0.length cc425, .slice pp426 P.t1.length cc427] 37 (0, 0)) :: LkA l414 P.e0 :: LkA l415 (tickS P.e1) :: BysA pp416 cc417 P.g0 :: BysA pp418 cc419 P.g1 :: BysA pp420 cc421 P.c0 :: BysA pp422 cc423 P.c1 :: DgsA pp424 cc425 P.t0 :: blk bk6 (.cells #[.int .i64 ac.do_.v, .int .i64 ac.who.v, .int .i64 ac.n.v, .slice pp1 ac.body.length cc2] 28 (0, 0)) :: Im 1 (.slice pp1 ac.body.length cc2) ac.body.length (ac.body.flatMap u8c) :: F) := St.shut_ex ⟨(D482 ++ D476), (show (D482 ++ D476).map DgD.d = (P.t1 ++ (tickT P.e1)) from app_map hD483 hD477)⟩ (St.shut_star (ls := [Row 41 6 (.slice pp491 ((P.t1 ++ (tickT P.e1)).length) cc492) ((P.t1 ++ (tickT P.e1)).length) ((D482 ++ D476).flatMap dgdCell), byA ((D482 ++ D476).map DgD.by)]) H496)
            change AnyG _ _ _ _ #[true, true, true, true, true, true, true, true, true, true, true, true, true, true, true, true, true, true, false, false] _ _
            refine a_take 18 (listed' := #[true, true, true, true, true, true, true, true, true, true, true, true, true, true, true, true, true, true, true, false]) rfl (by kernel_rfl) (by kernel_rfl) (by kernel_rfl) rfl rfl rfl rfl (fun w => x_indexAddr_arr 1 1 7 rfl rfl ar_35 (by omega) rfl w) ?_
            refine a_all (rs := [19]) (by kernel_rfl) (by simp) ?_
            refine a_cons ⟨_, rfl, ?_⟩ (fun x hx => absurd hx (by simp))
            refine s_store H497 4 (.slice pp491 (P.t1.length + (tickT P.e1).length) cc492) rfl rfl rfl sz_34 rfl (Nat.le_of_ble_eq_true rfl) rfl (cs' := #[.pointer (some ⟨l414, 0, none⟩), .pointer (some ⟨l415, 0, none⟩), .slice pp416 P.g0.length cc417, .slice pp418 P.g1.length cc419, .slice pp420 P.c0.length cc421, .slice pp422 P.c1.length cc423, .slice pp424 P.t0.length cc425, .slice pp491 (P.t1.length + (tickT P.e1).length) cc492]) rfl ?_; intro w498 H499
            change AnyG _ _ _ _ #[true, true, true, true, true, true, true, true, true, true, true, true, true, true, true, true, true, true, true, true] _ _
            refine a_done (by kernel_rfl) ?_
            exact join431 (pp491, cc492, D482, pp471, cc472, D476) _ _ H499 ⟨rfl, trivial⟩
          · skip
            refine s_call [.pointer (some ⟨l415, 0, none⟩)] pl_11 rfl rfl (Lk_Tick l415 P.e1 hI.b.ok (by have h9 := hI.swp.a.clk; exact Nat.le_trans (Nat.succ_le_succ h9) (by omega)) (i := 2) rfl H441) ?_
            rintro _ w502 ⟨pp500, cc501, rfl, H503⟩
            change AnyG _ _ _ _ #[true, true, true, true, true, true, true, false, true, true, true, true, true, true, true, false, true, true, false, false] _ _
            refine a_all (rs := [7]) (by kernel_rfl) (by simp) ?_
            refine a_cons ⟨_, rfl, ?_⟩ (fun x hx => absurd hx (by simp))
            refine s_load (.slice pp426 P.t1.length cc427) ag_34 rfl (H503.blk_at (i := 1) rfl) rfl rfl ?_
            change AnyG _ _ _ _ #[true, true, true, true, true, true, true, true, true, true, true, true, true, true, true, false, true, true, false, false] _ _
            refine a_all (rs := [15]) (by kernel_rfl) (by simp) ?_
            refine a_cons ⟨_, rfl, ?_⟩ (fun x hx => absurd hx (by simp))
            have H504 := H503.move 0 rfl
            obtain ⟨⟨D505, hD506⟩, H507⟩ := St.open_ex H504
            have H508 := St.open_star H507
            change D505.map DgD.d = (tickT P.e1) at hD506
            have H509 : St W w502 (Row 41 6 (.slice pp500 ((tickT P.e1).length) cc501) ((tickT P.e1).length) (D505.flatMap dgdCell) :: byA (D505.map DgD.by) :: blk g (.cells #[.pointer (some ⟨l414, 0, none⟩), .pointer (some ⟨l415, 0, none⟩), .slice pp416 P.g0.length cc417, .slice pp418 P.g1.length cc419, .slice pp420 P.c0.length cc421, .slice pp422 P.c1.length cc423, .slice pp424 P.t0.length cc425, .slice pp426 P.t1.length cc427] 37 (0, 0)) :: LkA l414 P.e0 :: LkA l415 (tickS P.e1) :: BysA pp416 cc417 P.g0 :: BysA pp418 cc419 P.g1 :: BysA pp420 cc421 P.c0 :: BysA pp422 cc423 P.c1 :: DgsA pp424 cc425 P.t0 :: DgsA pp426 cc427 P.t1 :: blk bk6 (.cells #[.int .i64 ac.do_.v, .int .i64 ac.who.v, .int .i64 ac.n.v, .slice pp1 ac.body.length cc2] 28 (0, 0)) :: Im 1 (.slice pp1 ac.body.length cc2) ac.body.length (ac.body.flatMap u8c) :: F) := H508
            have H510 := H509.move 10 rfl
            obtain ⟨⟨D511, hD512⟩, H513⟩ := St.open_ex H510
            have H514 := St.open_star H513
            change D511.map DgD.d = P.t1 at hD512
            have H515 : St W w502 (Row 41 6 (.slice pp426 P.t1.length cc427) P.t1.length (D511.flatMap dgdCell) :: byA (D511.map DgD.by) :: Row 41 6 (.slice pp500 ((tickT P.e1).length) cc501) ((tickT P.e1).length) (D505.flatMap dgdCell) :: byA (D505.map DgD.by) :: blk g (.cells #[.pointer (some ⟨l414, 0, none⟩), .pointer (some ⟨l415, 0, none⟩), .slice pp416 P.g0.length cc417, .slice pp418 P.g1.length cc419, .slice pp420 P.c0.length cc421, .slice pp422 P.c1.length cc423, .slice pp424 P.t0.length cc425, .slice pp426 P.t1.length cc427] 37 (0, 0)) :: LkA l414 P.e0 :: LkA l415 (tickS P.e1) :: BysA pp416 cc417 P.g0 :: BysA pp418 cc419 P.g1 :: BysA pp420 cc421 P.c0 :: BysA pp422 cc423 P.c1 :: DgsA pp424 cc425 P.t0 :: blk bk6 (.cells #[.int .i64 ac.do_.v, .int .i64 ac.who.v, .int .i64 ac.n.v, .slice pp1 ac.body.length cc2] 28 (0, 0)) :: Im 1 (.slice pp1 ac.body.length cc2) ac.body.length (ac.body.flatMap u8c) :: F) := H514
            have hz3 := Row.lenOf H515 (i := 0) rfl; have hz4 := Row.lenOf H515 (i := 2) rfl
            have hz5 := hI.swp.a.tl; have hz6 : (tickT P.e1).length ≤ 128 := tickT_len _ hI.swp.a.ok (by have h9 := hI.swp.a.clk; exact Nat.le_trans (Nat.succ_le_succ h9) (by omega))
            change P.t1.length ≤ 192 * n at hz5
            refine s_append H515 0 rfl rfl rfl (Row.rd H515 (i := 2) rfl) ap_34 (by decide) (by unfold maxLen; omega) (by omega) (n' := P.t1.length + (tickT P.e1).length) (xs' := D511.flatMap dgdCell ++ D505.flatMap dgdCell) (by omega) (by first | rfl | simp) rfl ?_; intro vv516 w517 H518 hn519
            obtain ⟨pp520, cc521, rfl⟩ := Row.slice H518 (i := 0) rfl
            have H522 := byA_app (M := (D511 ++ D505).map DgD.by) H518 (i := 1) (j := 3) rfl rfl app_dg
            have H523 : St W w517 (Row 41 6 (.slice pp520 (P.t1.length + (tickT P.e1).length) cc521) (P.t1.length + (tickT P.e1).length) (D511.flatMap dgdCell ++ D505.flatMap dgdCell) :: byA ((D511 ++ D505).map DgD.by) :: byA (D511.map DgD.by) :: Row 41 6 (.slice pp500 ((tickT P.e1).length) cc501) ((tickT P.e1).length) (D505.flatMap dgdCell) :: byA (D505.map DgD.by) :: blk g (.cells #[.pointer (some ⟨l414, 0, none⟩), .pointer (some ⟨l415, 0, none⟩), .slice pp416 P.g0.length cc417, .slice pp418 P.g1.length cc419, .slice pp420 P.c0.length cc421, .slice pp422 P.c1.length cc423, .slice pp424 P.t0.length cc425, .slice pp426 P.t1.length cc427] 37 (0, 0)) :: LkA l414 P.e0 :: LkA l415 (tickS P.e1) :: BysA pp416 cc417 P.g0 :: BysA pp418 cc419 P.g1 :: BysA pp420 cc421 P.c0 :: BysA pp422 cc423 P.c1 :: DgsA pp424 cc425 P.t0 :: blk bk6 (.cells #[.int .i64 ac.do_.v, .int .i64 ac.who.v, .int .i64 ac.n.v, .slice pp1 ac.body.length cc2] 28 (0, 0)) :: Im 1 (.slice pp1 ac.body.length cc2) ac.body.length (ac.body.flatMap u8c) :: F) := (H522.move 1 rfl)
            have hn524 : (P.t1 ++ (tickT P.e1)).length = P.t1.length + (tickT P.e1).length := (List.length_append ..)
            have H525 : St W w517 (Row 41 6 (.slice pp520 ((P.t1 ++ (tickT P.e1)).length) cc521) ((P.t1 ++ (tickT P.e1)).length) ((D511 ++ D505).flatMap dgdCell) :: byA ((D511 ++ D505).map DgD.by) :: byA (D511.map DgD.by) :: Row 41 6 (.slice pp500 ((tickT P.e1).length) cc501) ((tickT P.e1).length) (D505.flatMap dgdCell) :: byA (D505.map DgD.by) :: blk g (.cells #[.pointer (some ⟨l414, 0, none⟩), .pointer (some ⟨l415, 0, none⟩), .slice pp416 P.g0.length cc417, .slice pp418 P.g1.length cc419, .slice pp420 P.c0.length cc421, .slice pp422 P.c1.length cc423, .slice pp424 P.t0.length cc425, .slice pp426 P.t1.length cc427] 37 (0, 0)) :: LkA l414 P.e0 :: LkA l415 (tickS P.e1) :: BysA pp416 cc417 P.g0 :: BysA pp418 cc419 P.g1 :: BysA pp420 cc421 P.c0 :: BysA pp422 cc423 P.c1 :: DgsA pp424 cc425 P.t0 :: blk bk6 (.cells #[.int .i64 ac.do_.v, .int .i64 ac.who.v, .int .i64 ac.n.v, .slice pp1 ac.body.length cc2] 28 (0, 0)) :: Im 1 (.slice pp1 ac.body.length cc2) ac.body.length (ac.body.flatMap u8c) :: F) := by rw [hn524]; rw [flat_app]; exact H523
            have H526 : St W w517 (DgsA pp520 cc521 (P.t1 ++ (tickT P.e1)) :: byA (D511.map DgD.by) :: Row 41 6 (.slice pp500 ((tickT P.e1).length) cc501) ((tickT P.e1).length) (D505.flatMap dgdCell) :: byA (D505.map DgD.by) :: blk g (.cells #[.pointer (some ⟨l414, 0, none⟩), .pointer (some ⟨l415, 0, none⟩), .slice pp416 P.g0.length cc417, .slice pp418 P.g1.length cc419, .slice pp420 P.c0.length cc421, .slice pp422 P.c1.length cc423, .slice pp424 P.t0.length cc425, .slice pp426 P.t1.length cc427] 37 (0, 0)) :: LkA l414 P.e0 :: LkA l415 (tickS P.e1) :: BysA pp416 cc417 P.g0 :: BysA pp418 cc419 P.g1 :: BysA pp420 cc421 P.c0 :: BysA pp422 cc423 P.c1 :: DgsA pp424 cc425 P.t0 :: blk bk6 (.cells #[.int .i64 ac.do_.v, .int .i64 ac.who.v, .int .i64 ac.n.v, .slice pp1 ac.body.length cc2] 28 (0, 0)) :: Im 1 (.slice pp1 ac.body.length cc2) ac.body.length (ac.body.flatMap u8c) :: F) := St.shut_ex ⟨(D511 ++ D505), (show (D511 ++ D505).map DgD.d = (P.t1 ++ (tickT P.e1)) from app_map hD512 hD506)⟩ (St.shut_star (ls := [Row 41 6 (.slice pp520 ((P.t1 ++ (tickT P.e1)).length) cc521) ((P.t1 ++ (tickT P.e1)).length) ((D511 ++ D505).flatMap dgdCell), byA ((D511 ++ D505).map DgD.by)]) H525)
            change AnyG _ _ _ _ #[true, true, true, true, true, true, true, true, true, true, true, true, true, true, true, true, true, true, false, false] _ _
            refine a_take 18 (listed' := #[true, true, true, true, true, true, true, true, true, true, true, true, true, true, true, true, true, true, true, false]) rfl (by kernel_rfl) (by kernel_rfl) (by kernel_rfl) rfl rfl rfl rfl (fun w => x_indexAddr_arr 1 1 7 rfl rfl ar_35 (by omega) rfl w) ?_
            refine a_all (rs := [19]) (by kernel_rfl) (by simp) ?_
            refine a_cons ⟨_, rfl, ?_⟩ (fun x hx => absurd hx (by simp))
            refine s_store H526 4 (.slice pp520 (P.t1.length + (tickT P.e1).length) cc521) rfl rfl rfl sz_34 rfl (Nat.le_of_ble_eq_true rfl) rfl (cs' := #[.pointer (some ⟨l414, 0, none⟩), .pointer (some ⟨l415, 0, none⟩), .slice pp416 P.g0.length cc417, .slice pp418 P.g1.length cc419, .slice pp420 P.c0.length cc421, .slice pp422 P.c1.length cc423, .slice pp424 P.t0.length cc425, .slice pp520 (P.t1.length + (tickT P.e1).length) cc521]) rfl ?_; intro w527 H528
            change AnyG _ _ _ _ #[true, true, true, true, true, true, true, true, true, true, true, true, true, true, true, true, true, true, true, true] _ _
            refine a_done (by kernel_rfl) ?_
            exact join431 (pp520, cc521, D511, pp500, cc501, D505) _ _ H528 ⟨rfl, trivial⟩
    · skip
      refine r_cons (s_eql false rfl rfl (dfalse hc412) rfl ?_)
      refine r_cons (s_assign (.bool false) rfl rfl ?_)
      refine r_nil ?_
      refine g_false rfl ?_
      refine g_seq ?_
      refine g_region ?_
      by_cases hc529 : ac.do_.v = 2
      · skip
        refine r_cons (s_eql true rfl rfl (dtrue hc529) rfl ?_)
        refine r_cons (s_assign (.bool true) rfl rfl ?_)
        refine r_nil ?_
        refine g_true rfl ?_
        refine g_seq ?_
        refine g_region ?_
        refine r_cons (s_move (.pointer (some ⟨g, 0, none⟩)) rfl rfl ?_)
        refine r_cons (s_move (.int .i64 1) rfl rfl ?_)
        refine r_cons (s_nilCheck (.pointer (some ⟨g, 0, none⟩)) rfl ⟨_, rfl⟩ rfl ?_)
        refine r_cons (s_fieldAddr 37 3 6 6 35 rfl fi_37_3 rfl rfl ?_)
        refine r_cons (s_indexAddr_arr 1 1 7 rfl rfl ar_35 (by omega) rfl rfl ?_)
        have H530 := H8.move 2 rfl
        obtain ⟨⟨l531, l532, pp533, cc534, pp535, cc536, pp537, cc538, pp539, cc540, pp541, cc542, pp543, cc544⟩, H545⟩ := St.open_ex H530
        have H546 := St.open_star H545
        have H547 : St W w7 (blk g (.cells #[.pointer (some ⟨l531, 0, none⟩), .pointer (some ⟨l532, 0, none⟩), .slice pp533 P.g0.length cc534, .slice pp535 P.g1.length cc536, .slice pp537 P.c0.length cc538, .slice pp539 P.c1.length cc540, .slice pp541 P.t0.length cc542, .slice pp543 P.t1.length cc544] 37 (0, 0)) :: LkA l531 P.e0 :: LkA l532 P.e1 :: BysA pp533 cc534 P.g0 :: BysA pp535 cc536 P.g1 :: BysA pp537 cc538 P.c0 :: BysA pp539 cc540 P.c1 :: DgsA pp541 cc542 P.t0 :: DgsA pp543 cc544 P.t1 :: blk bk6 (.cells #[.int .i64 ac.do_.v, .int .i64 ac.who.v, .int .i64 ac.n.v, .slice pp1 ac.body.length cc2] 28 (0, 0)) :: Im 1 (.slice pp1 ac.body.length cc2) ac.body.length (ac.body.flatMap u8c) :: F) := H546
        refine r_cons (s_load (.slice pp543 P.t1.length cc544) ag_34 rfl (H547.blk_at (i := 0) rfl) rfl rfl ?_)
        refine r_cons (s_len P.t1.length rfl ⟨_, un_34⟩ rfl ?_)
        refine r_cons (s_assign (.int .i64 (P.t1.length : Int)) rfl rfl ?_)
        refine r_nil ?_
        refine g_seq ?_
        refine g_region ?_
        refine r_cons (s_move (.int .i64 (P.t1.length : Int)) rfl rfl ?_)
        by_cases hc548 : (0 : Int) < (P.t1.length : Int)
        · skip
          refine r_cons (s_gtr true rfl rfl (dtrue hc548) rfl ?_)
          refine r_nil ?_
          refine g_true rfl ?_
          refine g_seq ?_
          have hl0 : 0 < (swp P).t0.length := by first | assumption | (show 0 < P.t1.length; omega)
          have H549 := H547.move 8 rfl
          obtain ⟨⟨D550, hD551⟩, H552⟩ := St.open_ex H549
          have H553 := St.open_star H552
          change D550.map DgD.d = P.t1 at hD551
          have H554 : St W w7 (Row 41 6 (.slice pp543 P.t1.length cc544) P.t1.length (D550.flatMap dgdCell) :: byA (D550.map DgD.by) :: blk g (.cells #[.pointer (some ⟨l531, 0, none⟩), .pointer (some ⟨l532, 0, none⟩), .slice pp533 P.g0.length cc534, .slice pp535 P.g1.length cc536, .slice pp537 P.c0.length cc538, .slice pp539 P.c1.length cc540, .slice pp541 P.t0.length cc542, .slice pp543 P.t1.length cc544] 37 (0, 0)) :: LkA l531 P.e0 :: LkA l532 P.e1 :: BysA pp533 cc534 P.g0 :: BysA pp535 cc536 P.g1 :: BysA pp537 cc538 P.c0 :: BysA pp539 cc540 P.c1 :: DgsA pp541 cc542 P.t0 :: blk bk6 (.cells #[.int .i64 ac.do_.v, .int .i64 ac.who.v, .int .i64 ac.n.v, .slice pp1 ac.body.length cc2] 28 (0, 0)) :: Im 1 (.slice pp1 ac.body.length cc2) ac.body.length (ac.body.flatMap u8c) :: F) := H553
          have hz7 := Row.lenOf H554 (i := 0) rfl; have hwl : whichN ac.n P.t1.length < P.t1.length := whichN_lt (n := ac.n) hl0; have hDl := lenOf hD551
          obtain ⟨bk555, cur556, hp557, h558, h559, h560, h561, h562, H563⟩ := Row.open2 H554 (i := 0) rfl (by omega)
          have H564 : St W w7 (Im 1 (.slice ((D550.getD (whichN ac.n P.t1.length) default).p) ((D550.getD (whichN ac.n P.t1.length) default).d.body.length) ((D550.getD (whichN ac.n P.t1.length) default).c)) (((D550.getD (whichN ac.n P.t1.length) default).d.body).length) (((D550.getD (whichN ac.n P.t1.length) default).d.body).flatMap u8c) :: blk bk555 (.cells cur556 41 (0, 0)) :: byA (D550.map DgD.by) :: blk g (.cells #[.pointer (some ⟨l531, 0, none⟩), .pointer (some ⟨l532, 0, none⟩), .slice pp533 P.g0.length cc534, .slice pp535 P.g1.length cc536, .slice pp537 P.c0.length cc538, .slice pp539 P.c1.length cc540, .slice pp541 P.t0.length cc542, .slice pp543 P.t1.length cc544] 37 (0, 0)) :: LkA l531 P.e0 :: LkA l532 P.e1 :: BysA pp533 cc534 P.g0 :: BysA pp535 cc536 P.g1 :: BysA pp537 cc538 P.c0 :: BysA pp539 cc540 P.c1 :: DgsA pp541 cc542 P.t0 :: blk bk6 (.cells #[.int .i64 ac.do_.v, .int .i64 ac.who.v, .int .i64 ac.n.v, .slice pp1 ac.body.length cc2] 28 (0, 0)) :: Im 1 (.slice pp1 ac.body.length cc2) ac.body.length (ac.body.flatMap u8c) :: F) := byA_at H563 (i := 1) rfl (dg_at (k := whichN ac.n P.t1.length) (by omega))
          have hd9 : (D550.getD (whichN ac.n P.t1.length) default).d = (swp P).t0.getD (whichN ac.n (swp P).t0.length) default := dgAt hD551 _
          have hT9 : TOk P.e1 (swp P).g0 (D550.getD (whichN ac.n P.t1.length) default).d := by rw [hd9]; exact hI.swp.picked ac.n hl0
          have H565 : St W w7 (BysA pp533 cc534 P.g0 :: BysA pp535 cc536 P.g1 :: BysA pp537 cc538 P.c0 :: BysA pp539 cc540 P.c1 :: DgsA pp541 cc542 P.t0 :: Im 1 (.slice ((D550.getD (whichN ac.n P.t1.length) default).p) ((D550.getD (whichN ac.n P.t1.length) default).d.body.length) ((D550.getD (whichN ac.n P.t1.length) default).c)) (((D550.getD (whichN ac.n P.t1.length) default).d.body).length) (((D550.getD (whichN ac.n P.t1.length) default).d.body).flatMap u8c) :: blk bk555 (.cells cur556 41 (0, 0)) :: byA (D550.map DgD.by) :: blk g (.cells #[.pointer (some ⟨l531, 0, none⟩), .pointer (some ⟨l532, 0, none⟩), .slice pp533 P.g0.length cc534, .slice pp535 P.g1.length cc536, .slice pp537 P.c0.length cc538, .slice pp539 P.c1.length cc540, .slice pp541 P.t0.length cc542, .slice pp543 P.t1.length cc544] 37 (0, 0)) :: LkA l531 P.e0 :: LkA l532 P.e1 :: blk bk6 (.cells #[.int .i64 ac.do_.v, .int .i64 ac.who.v, .int .i64 ac.n.v, .slice pp1 ac.body.length cc2] 28 (0, 0)) :: Im 1 (.slice pp1 ac.body.length cc2) ac.body.length (ac.body.flatMap u8c) :: F) := (((((H564.move 10 rfl).move 10 rfl).move 10 rfl).move 10 rfl).move 10 rfl)
          have H566 : St W w7 (blk bk555 (.cells cur556 41 (0, 0)) :: byA (D550.map DgD.by) :: blk g (.cells #[.pointer (some ⟨l531, 0, none⟩), .pointer (some ⟨l532, 0, none⟩), .slice pp533 P.g0.length cc534, .slice pp535 P.g1.length cc536, .slice pp537 P.c0.length cc538, .slice pp539 P.c1.length cc540, .slice pp541 P.t0.length cc542, .slice pp543 P.t1.length cc544] 37 (0, 0)) :: LkA l531 P.e0 :: LkA l532 P.e1 :: BysA pp533 cc534 P.g0 :: BysA pp535 cc536 P.g1 :: BysA pp537 cc538 P.c0 :: BysA pp539 cc540 P.c1 :: DgsA pp541 cc542 P.t0 :: Im 1 (.slice ((D550.getD (whichN ac.n P.t1.length) default).p) ((D550.getD (whichN ac.n P.t1.length) default).d.body.length) ((D550.getD (whichN ac.n P.t1.length) default).c)) (((D550.getD (whichN ac.n P.t1.length) default).d.body).length) (((D550.getD (whichN ac.n P.t1.length) default).d.body).flatMap u8c) :: blk bk6 (.cells #[.int .i64 ac.do_.v, .int .i64 ac.who.v, .int .i64 ac.n.v, .slice pp1 ac.body.length cc2] 28 (0, 0)) :: Im 1 (.slice pp1 ac.body.length cc2) ac.body.length (ac.body.flatMap u8c) :: F) := (((((H565.move 10 rfl).move 10 rfl).move 10 rfl).move 10 rfl).move 10 rfl)
          have H567 : St W w7 (Im 1 (.slice ((D550.getD (whichN ac.n P.t1.length) default).p) ((D550.getD (whichN ac.n P.t1.length) default).d.body.length) ((D550.getD (whichN ac.n P.t1.length) default).c)) (((D550.getD (whichN ac.n P.t1.length) default).d.body).length) (((D550.getD (whichN ac.n P.t1.length) default).d.body).flatMap u8c) :: blk bk6 (.cells #[.int .i64 ac.do_.v, .int .i64 ac.who.v, .int .i64 ac.n.v, .slice pp1 ac.body.length cc2] 28 (0, 0)) :: Im 1 (.slice pp1 ac.body.length cc2) ac.body.length (ac.body.flatMap u8c) :: blk bk555 (.cells cur556 41 (0, 0)) :: byA (D550.map DgD.by) :: blk g (.cells #[.pointer (some ⟨l531, 0, none⟩), .pointer (some ⟨l532, 0, none⟩), .slice pp533 P.g0.length cc534, .slice pp535 P.g1.length cc536, .slice pp537 P.c0.length cc538, .slice pp539 P.c1.length cc540, .slice pp541 P.t0.length cc542, .slice pp543 P.t1.length cc544] 37 (0, 0)) :: LkA l531 P.e0 :: LkA l532 P.e1 :: BysA pp533 cc534 P.g0 :: BysA pp535 cc536 P.g1 :: BysA pp537 cc538 P.c0 :: BysA pp539 cc540 P.c1 :: DgsA pp541 cc542 P.t0 :: F) := (((H566.move 12 rfl).move 12 rfl).move 12 rfl)
          refine g_mix (fun t_ w => St W w (Im 1 (.slice ((D550.getD (whichN ac.n P.t1.length) default).p) ((D550.getD (whichN ac.n P.t1.length) default).d.body.length) ((D550.getD (whichN ac.n P.t1.length) default).c)) (((D550.getD (whichN ac.n P.t1.length) default).d.body).length) (((D550.getD (whichN ac.n P.t1.length) default).d.body).flatMap u8c) :: blk bk6 (.cells #[.int .i64 ac.do_.v, .int .i64 ac.who.v, .int .i64 ac.n.v, .slice pp1 ac.body.length cc2] 28 (0, 0)) :: Im 1 (.slice pp1 ac.body.length cc2) ac.body.length (ac.body.flatMap u8c) :: t_)) (blk bk555 (.cells cur556 41 (0, 0)) :: byA (D550.map DgD.by) :: blk g (.cells #[.pointer (some ⟨l531, 0, none⟩), .pointer (some ⟨l532, 0, none⟩), .slice pp533 P.g0.length cc534, .slice pp535 P.g1.length cc536, .slice pp537 P.c0.length cc538, .slice pp539 P.c1.length cc540, .slice pp541 P.t0.length cc542, .slice pp543 P.t1.length cc544] 37 (0, 0)) :: LkA l531 P.e0 :: LkA l532 P.e1 :: BysA pp533 cc534 P.g0 :: BysA pp535 cc536 P.g1 :: BysA pp537 cc538 P.c0 :: BysA pp539 cc540 P.c1 :: DgsA pp541 cc542 P.t0 :: F) mixed 18 rfl H567.drew ?_
          refine f_first 0 (listed' := #[true, false, false, false, false, false, false, false, false, false, false, false, false, false, false, false, false, false]) rfl (by kernel_rfl) (by kernel_rfl) (by kernel_rfl) rfl ?_
          refine f_val rfl rfl rfl (by intro t_ w hw; exact x_move (.pointer (some ⟨g, 0, none⟩)) rfl w) ?_
          refine f_first 1 (listed' := #[true, true, false, false, false, false, false, false, false, false, false, false, false, false, false, false, false, false]) rfl (by kernel_rfl) (by kernel_rfl) (by kernel_rfl) rfl ?_
          refine f_val rfl rfl rfl (by intro t_ w hw; exact x_move (.int .i64 1) rfl w) ?_
          refine f_first 2 (listed' := #[true, true, true, false, false, false, false, false, false, false, false, false, false, false, false, false, false, false]) rfl (by kernel_rfl) (by kernel_rfl) (by kernel_rfl) rfl ?_
          refine f_val rfl rfl rfl (by intro t_ w hw; exact x_move (.pointer (some ⟨g, 0, none⟩)) rfl w) ?_
          refine f_first 3 (listed' := #[true, true, true, true, false, false, false, false, false, false, false, false, false, false, false, false, false, false]) rfl (by kernel_rfl) (by kernel_rfl) (by kernel_rfl) rfl ?_
          refine f_val rfl rfl rfl (by intro t_ w hw; exact x_move (.int .i64 1) rfl w) ?_
          refine f_first 4 (listed' := #[true, true, true, true, true, false, false, false, false, false, false, false, false, false, false, false, false, false]) rfl (by kernel_rfl) (by kernel_rfl) (by kernel_rfl) rfl ?_
          refine f_val rfl rfl rfl (by intro t_ w hw; exact x_nilCheck (.pointer (some ⟨g, 0, none⟩)) rfl ⟨_, rfl⟩ w) ?_
          refine f_first 5 (listed' := #[true, true, true, true, true, true, false, false, false, false, false, false, false, false, false, false, false, false]) rfl (by kernel_rfl) (by kernel_rfl) (by kernel_rfl) rfl ?_
          refine f_val rfl rfl rfl (by intro t_ w hw; exact x_fieldAddr 37 3 6 6 35 rfl fi_37_3 rfl w) ?_
          refine f_first 6 (listed' := #[true, true, true, true, true, true, true, false, false, false, false, false, false, false, false, false, false, false]) rfl (by kernel_rfl) (by kernel_rfl) (by kernel_rfl) rfl ?_
          refine f_val rfl rfl rfl (by intro t_ w hw; exact x_indexAddr_arr 1 1 7 rfl rfl ar_35 (by omega) rfl w) ?_
          refine f_first 8 (listed' := #[true, true, true, true, true, true, true, false, true, false, false, false, false, false, false, false, false, false]) rfl (by kernel_rfl) (by kernel_rfl) (by kernel_rfl) rfl ?_
          refine f_val rfl rfl rfl (by intro t_ w hw; exact x_fieldAddr 28 2 2 2 3 rfl fi_28_2 rfl w) ?_
          refine f_first 9 (listed' := #[true, true, true, true, true, true, true, false, true, true, false, false, false, false, false, false, false, false]) rfl (by kernel_rfl) (by kernel_rfl) (by kernel_rfl) rfl ?_
          refine f_val rfl rfl rfl (by intro t_ w hw; exact x_load (.int .i64 ac.n.v) ag_3 rfl (hw.blk_at (i := 1) rfl) rfl) ?_
          refine f_first 10 (listed' := #[true, true, true, true, true, true, true, false, true, true, true, false, false, false, false, false, false, false]) rfl (by kernel_rfl) (by kernel_rfl) (by kernel_rfl) rfl ?_
          refine f_val rfl rfl rfl (by intro t_ w hw; exact x_conv ((natU64 ac.n.v : Nat) : Int) rfl us_3 ik_76 (conv_u64 _) w) ?_
          refine f_first 11 (listed' := #[true, true, true, true, true, true, true, false, true, true, true, true, false, false, false, false, false, false]) rfl (by kernel_rfl) (by kernel_rfl) (by kernel_rfl) rfl ?_
          refine f_val rfl rfl rfl (by intro t_ w hw; exact x_move (.int .i64 (P.t1.length : Int)) rfl w) ?_
          refine f_first 12 (listed' := #[true, true, true, true, true, true, true, false, true, true, true, true, true, false, false, false, false, false]) rfl (by kernel_rfl) (by kernel_rfl) (by kernel_rfl) rfl ?_
          refine f_val rfl rfl rfl (by intro t_ w hw; exact x_conv (P.t1.length : Int) rfl us_3 ik_76 (wu64 (by omega)) w) ?_
          refine f_first 13 (listed' := #[true, true, true, true, true, true, true, false, true, true, true, true, true, true, false, false, false, false]) rfl (by kernel_rfl) (by kernel_rfl) (by kernel_rfl) rfl ?_
          refine f_val rfl rfl rfl (by intro t_ w hw; exact x_rem ((whichN ac.n P.t1.length : Nat) : Int) rfl rfl (by omega) (tmod_pos (by have := natU64_lt ac.n.v; omega)) w) ?_
          refine f_all (rs := [7]) (by kernel_rfl) (by simp) ?_
          refine a_cons ⟨_, rfl, ?_⟩ (fun x hx => absurd hx (by simp))
          intro w568 H569
          try dsimp only at H569
          refine s_load (.slice pp543 P.t1.length cc544) ag_34 rfl (H569.blk_at (i := 5) rfl) rfl rfl ?_
          refine ⟨blk bk555 (.cells cur556 41 (0, 0)) :: byA (D550.map DgD.by) :: blk g (.cells #[.pointer (some ⟨l531, 0, none⟩), .pointer (some ⟨l532, 0, none⟩), .slice pp533 P.g0.length cc534, .slice pp535 P.g1.length cc536, .slice pp537 P.c0.length cc538, .slice pp539 P.c1.length cc540, .slice pp541 P.t0.length cc542, .slice pp543 P.t1.length cc544] 37 (0, 0)) :: LkA l531 P.e0 :: LkA l532 P.e1 :: BysA pp533 cc534 P.g0 :: BysA pp535 cc536 P.g1 :: BysA pp537 cc538 P.c0 :: BysA pp539 cc540 P.c1 :: DgsA pp541 cc542 P.t0 :: F, ?_, H569⟩
          change FReg _ _ _ _ _ #[true, true, true, true, true, true, true, true, true, true, true, true, true, true, false, false, false, false] _ _
          refine f_first 14 (listed' := #[true, true, true, true, true, true, true, true, true, true, true, true, true, true, true, false, false, false]) rfl (by kernel_rfl) (by kernel_rfl) (by kernel_rfl) rfl ?_
          refine f_val rfl rfl rfl (by intro t_ w hw; exact x_indexAddr bk555 (off := 0) ((whichN ac.n P.t1.length : Nat) : Int) 6 (0 + (whichN ac.n P.t1.length) * 6) (by exact congrArg (fun z_ => Value.slice z_ P.t1.length cc544) ((fun (_ : 0 < 1) => hp557) (by omega))) rfl el_34 (by omega) rfl w) ?_
          refine f_all (rs := [15]) (by kernel_rfl) (by simp) ?_
          refine a_cons ⟨_, rfl, ?_⟩ (fun x hx => absurd hx (by simp))
          intro w570 H571
          try dsimp only at H571
          refine s_loadAgg [.int .i64 ((D550.getD (whichN ac.n P.t1.length) default).d.frm.v), .int .i64 ((D550.getD (whichN ac.n P.t1.length) default).d.to_.v), .int .i64 ((D550.getD (whichN ac.n P.t1.length) default).d.kind.v), .int .i64 ((D550.getD (whichN ac.n P.t1.length) default).d.seq.v), .int .i64 ((D550.getD (whichN ac.n P.t1.length) default).d.ack.v), .slice ((D550.getD (whichN ac.n P.t1.length) default).p) ((D550.getD (whichN ac.n P.t1.length) default).d.body.length) ((D550.getD (whichN ac.n P.t1.length) default).c)] 6 ag_41 rfl (H571.blk_at (i := 3) rfl) (by have := elem_size (i := whichN ac.n P.t1.length) (s := 6) (show 0 + D550.length * 6 ≤ cur556.size by have := (show D550.length * 6 ≤ cur556.size by rw [(lenOf hD551), h560]; exact Nat.mul_le_mul_right 6 h558); omega) (by have hh : D550.length = P.t1.length := (lenOf hD551); omega); omega) (elem_take dgdCell_len (by rw [(lenOf hD551)]; exact h561) (by have hh : D550.length = P.t1.length := (lenOf hD551); omega) default) rfl ?_
          refine ⟨blk bk555 (.cells cur556 41 (0, 0)) :: byA (D550.map DgD.by) :: blk g (.cells #[.pointer (some ⟨l531, 0, none⟩), .pointer (some ⟨l532, 0, none⟩), .slice pp533 P.g0.length cc534, .slice pp535 P.g1.length cc536, .slice pp537 P.c0.length cc538, .slice pp539 P.c1.length cc540, .slice pp541 P.t0.length cc542, .slice pp543 P.t1.length cc544] 37 (0, 0)) :: LkA l531 P.e0 :: LkA l532 P.e1 :: BysA pp533 cc534 P.g0 :: BysA pp535 cc536 P.g1 :: BysA pp537 cc538 P.c0 :: BysA pp539 cc540 P.c1 :: DgsA pp541 cc542 P.t0 :: F, ?_, H571⟩
          change FReg _ _ _ _ _ #[true, true, true, true, true, true, true, true, true, true, true, true, true, true, true, true, false, false] _ _
          refine f_all (rs := [16]) (by kernel_rfl) (by simp) ?_
          refine a_cons ⟨_, rfl, ?_⟩ (fun x hx => absurd hx (by simp))
          intro w572 H573
          try dsimp only at H573
          have H574 := Row.shut2 (p := pp543) (n := P.t1.length) (c := cc544) (size := 6) (xs := D550.flatMap dgdCell) H573 (i := 3) rfl hp557 h558 h559 h560 (by have hh : (cur556.toList.drop 0).take (D550.length * 6) = D550.flatMap dgdCell := (by rw [(lenOf hD551)]; exact h561); have hk : D550.length = P.t1.length := (lenOf hD551); rw [hk] at hh; exact hh) (fun x_ hx_ => by obtain ⟨a_, _, ha_⟩ := List.mem_flatMap.1 hx_; exact one_dg a_ x_ ha_)
          have H575 : St W w572 (Row 41 6 (.slice pp543 P.t1.length cc544) P.t1.length (D550.flatMap dgdCell) :: byA (D550.map DgD.by) :: Im 1 (.slice ((D550.getD (whichN ac.n P.t1.length) default).p) ((D550.getD (whichN ac.n P.t1.length) default).d.body.length) ((D550.getD (whichN ac.n P.t1.length) default).c)) (((D550.getD (whichN ac.n P.t1.length) default).d.body).length) (((D550.getD (whichN ac.n P.t1.length) default).d.body).flatMap u8c) :: blk bk6 (.cells #[.int .i64 ac.do_.v, .int .i64 ac.who.v, .int .i64 ac.n.v, .slice pp1 ac.body.length cc2] 28 (0, 0)) :: Im 1 (.slice pp1 ac.body.length cc2) ac.body.length (ac.body.flatMap u8c) :: blk g (.cells #[.pointer (some ⟨l531, 0, none⟩), .pointer (some ⟨l532, 0, none⟩), .slice pp533 P.g0.length cc534, .slice pp535 P.g1.length cc536, .slice pp537 P.c0.length cc538, .slice pp539 P.c1.length cc540, .slice pp541 P.t0.length cc542, .slice pp543 P.t1.length cc544] 37 (0, 0)) :: LkA l531 P.e0 :: LkA l532 P.e1 :: BysA pp533 cc534 P.g0 :: BysA pp535 cc536 P.g1 :: BysA pp537 cc538 P.c0 :: BysA pp539 cc540 P.c1 :: DgsA pp541 cc542 P.t0 :: F) := ((H574.move 4 rfl).move 4 rfl)
          have H576 : St W w572 (DgsA pp543 cc544 P.t1 :: Im 1 (.slice ((D550.getD (whichN ac.n P.t1.length) default).p) ((D550.getD (whichN ac.n P.t1.length) default).d.body.length) ((D550.getD (whichN ac.n P.t1.length) default).c)) (((D550.getD (whichN ac.n P.t1.length) default).d.body).length) (((D550.getD (whichN ac.n P.t1.length) default).d.body).flatMap u8c) :: blk bk6 (.cells #[.int .i64 ac.do_.v, .int .i64 ac.who.v, .int .i64 ac.n.v, .slice pp1 ac.body.length cc2] 28 (0, 0)) :: Im 1 (.slice pp1 ac.body.length cc2) ac.body.length (ac.body.flatMap u8c) :: blk g (.cells #[.pointer (some ⟨l531, 0, none⟩), .pointer (some ⟨l532, 0, none⟩), .slice pp533 P.g0.length cc534, .slice pp535 P.g1.length cc536, .slice pp537 P.c0.length cc538, .slice pp539 P.c1.length cc540, .slice pp541 P.t0.length cc542, .slice pp543 P.t1.length cc544] 37 (0, 0)) :: LkA l531 P.e0 :: LkA l532 P.e1 :: BysA pp533 cc534 P.g0 :: BysA pp535 cc536 P.g1 :: BysA pp537 cc538 P.c0 :: BysA pp539 cc540 P.c1 :: DgsA pp541 cc542 P.t0 :: F) := St.shut_ex ⟨D550, hD551⟩ (St.shut_star (ls := [Row 41 6 (.slice pp543 P.t1.length cc544) P.t1.length (D550.flatMap dgdCell), byA (D550.map DgD.by)]) H575)
          have H577 : St W w572 (blk g (.cells #[.pointer (some ⟨l531, 0, none⟩), .pointer (some ⟨l532, 0, none⟩), .slice pp533 P.g0.length cc534, .slice pp535 P.g1.length cc536, .slice pp537 P.c0.length cc538, .slice pp539 P.c1.length cc540, .slice pp541 P.t0.length cc542, .slice pp543 P.t1.length cc544] 37 (0, 0)) :: LkA l531 P.e0 :: LkA l532 P.e1 :: BysA pp533 cc534 P.g0 :: BysA pp535 cc536 P.g1 :: BysA pp537 cc538 P.c0 :: BysA pp539 cc540 P.c1 :: DgsA pp541 cc542 P.t0 :: DgsA pp543 cc544 P.t1 :: Im 1 (.slice ((D550.getD (whichN ac.n P.t1.length) default).p) ((D550.getD (whichN ac.n P.t1.length) default).d.body.length) ((D550.getD (whichN ac.n P.t1.length) default).c)) (((D550.getD (whichN ac.n P.t1.length) default).d.body).length) (((D550.getD (whichN ac.n P.t1.length) default).d.body).flatMap u8c) :: blk bk6 (.cells #[.int .i64 ac.do_.v, .int .i64 ac.who.v, .int .i64 ac.n.v, .slice pp1 ac.body.length cc2] 28 (0, 0)) :: Im 1 (.slice pp1 ac.body.length cc2) ac.body.length (ac.body.flatMap u8c) :: F) := ((((((((H576.move 11 rfl).move 11 rfl).move 11 rfl).move 11 rfl).move 11 rfl).move 11 rfl).move 11 rfl).move 11 rfl)
          have H578 : St W w572 (PairA g P :: Im 1 (.slice ((D550.getD (whichN ac.n P.t1.length) default).p) ((D550.getD (whichN ac.n P.t1.length) default).d.body.length) ((D550.getD (whichN ac.n P.t1.length) default).c)) (((D550.getD (whichN ac.n P.t1.length) default).d.body).length) (((D550.getD (whichN ac.n P.t1.length) default).d.body).flatMap u8c) :: blk bk6 (.cells #[.int .i64 ac.do_.v, .int .i64 ac.who.v, .int .i64 ac.n.v, .slice pp1 ac.body.length cc2] 28 (0, 0)) :: Im 1 (.slice pp1 ac.body.length cc2) ac.body.length (ac.body.flatMap u8c) :: F) := St.shut_ex (⟨l531, l532, pp533, cc534, pp535, cc536, pp537, cc538, pp539, cc540, pp541, cc542, pp543, cc544⟩ : PairQ) (St.shut_star (ls := [blk g (.cells #[.pointer (some ⟨l531, 0, none⟩), .pointer (some ⟨l532, 0, none⟩), .slice pp533 P.g0.length cc534, .slice pp535 P.g1.length cc536, .slice pp537 P.c0.length cc538, .slice pp539 P.c1.length cc540, .slice pp541 P.t0.length cc542, .slice pp543 P.t1.length cc544] 37 (0, 0)), LkA l531 P.e0, LkA l532 P.e1, BysA pp533 cc534 P.g0, BysA pp535 cc536 P.g1, BysA pp537 cc538 P.c0, BysA pp539 cc540 P.c1, DgsA pp541 cc542 P.t0, DgsA pp543 cc544 P.t1]) H577)
          refine s_call [.pointer (some ⟨g, 0, none⟩), .int .i64 1, .agg #[.int .i64 ((D550.getD (whichN ac.n P.t1.length) default).d.frm.v), .int .i64 ((D550.getD (whichN ac.n P.t1.length) default).d.to_.v), .int .i64 ((D550.getD (whichN ac.n P.t1.length) default).d.kind.v), .int .i64 ((D550.getD (whichN ac.n P.t1.length) default).d.seq.v), .int .i64 ((D550.getD (whichN ac.n P.t1.length) default).d.ack.v), .slice ((D550.getD (whichN ac.n P.t1.length) default).p) ((D550.getD (whichN ac.n P.t1.length) default).d.body.length) ((D550.getD (whichN ac.n P.t1.length) default).c)]] pl_12 rfl rfl (passes_1 g P ((D550.getD (whichN ac.n P.t1.length) default).d) (.slice ((D550.getD (whichN ac.n P.t1.length) default).p) ((D550.getD (whichN ac.n P.t1.length) default).d.body.length) ((D550.getD (whichN ac.n P.t1.length) default).c)) hI.swp.b.ok (hI.swp.takes hT9) (hI.swp.heldN (by omega)) (Nat.le_trans hI.swp.begins.2.1 (Nat.le_trans hI.swp.a.g (by omega))) (hI.swp.takeN (by omega) hT9) (j := 0) rfl H578) ?_
          rintro _ w579 ⟨rfl, H580⟩
          have H581 : St W w579 (Im 1 (.slice ((D550.getD (whichN ac.n P.t1.length) default).p) ((D550.getD (whichN ac.n P.t1.length) default).d.body.length) ((D550.getD (whichN ac.n P.t1.length) default).c)) (((D550.getD (whichN ac.n P.t1.length) default).d.body).length) (((D550.getD (whichN ac.n P.t1.length) default).d.body).flatMap u8c) :: blk bk6 (.cells #[.int .i64 ac.do_.v, .int .i64 ac.who.v, .int .i64 ac.n.v, .slice pp1 ac.body.length cc2] 28 (0, 0)) :: Im 1 (.slice pp1 ac.body.length cc2) ac.body.length (ac.body.flatMap u8c) :: PairA g (swp (pass0 (swp P) ((D550.getD (whichN ac.n P.t1.length) default).d))) :: F) := (((H580.move 3 rfl).move 3 rfl).move 3 rfl)
          refine ⟨PairA g (swp (pass0 (swp P) ((D550.getD (whichN ac.n P.t1.length) default).d))) :: F, ?_, H581⟩
          change FReg _ _ _ _ _ #[true, true, true, true, true, true, true, true, true, true, true, true, true, true, true, true, true, false] _ _
          refine f_first 17 (listed' := #[true, true, true, true, true, true, true, true, true, true, true, true, true, true, true, true, true, true]) rfl (by kernel_rfl) (by kernel_rfl) (by kernel_rfl) rfl ?_
          refine f_val rfl rfl rfl (by intro t_ w hw; exact x_assign (.bool true) rfl w) ?_
          refine f_done (by kernel_rfl) ?_
          intro w582 H583
          refine g_ret' [.bool true] Try.func9 Try.results9 ⟨rfl, trivial⟩ ?_
          have hdo : ac.do_.v = 2 := by omega
          have H584 : St W w582 (PairA g (swp (pass0 (swp P) ((D550.getD (whichN ac.n P.t1.length) default).d))) :: F) := ((((H583.move 3 rfl).drop 1 rfl).drop 1 rfl).drop 1 rfl)
          exact ⟨rfl, by rw [show act0 (swp P) ac = pass0 (swp P) (D550.getD (whichN ac.n P.t1.length) default).d from by unfold act0; rw [if_neg (by omega), if_neg (by omega), if_pos ⟨hdo, hl0⟩, hd9]]; exact H584⟩
        · skip
          refine r_cons (s_gtr false rfl rfl (dfalse hc548) rfl ?_)
          refine r_nil ?_
          refine g_false rfl ?_
          refine g_skip ?_
          refine g_inBlock ?_
          refine g_seq ?_
          refine g_region ?_
          refine r_cons (s_assign (.bool true) rfl rfl ?_)
          refine r_nil ?_
          refine g_ret' [.bool true] Try.func9 Try.results9 ⟨rfl, trivial⟩ ?_
          have hdo : ac.do_.v = 2 := by omega
          have H585 : St W w7 (PairA g P :: blk bk6 (.cells #[.int .i64 ac.do_.v, .int .i64 ac.who.v, .int .i64 ac.n.v, .slice pp1 ac.body.length cc2] 28 (0, 0)) :: Im 1 (.slice pp1 ac.body.length cc2) ac.body.length (ac.body.flatMap u8c) :: F) := St.shut_ex (⟨l531, l532, pp533, cc534, pp535, cc536, pp537, cc538, pp539, cc540, pp541, cc542, pp543, cc544⟩ : PairQ) (St.shut_star (ls := [blk g (.cells #[.pointer (some ⟨l531, 0, none⟩), .pointer (some ⟨l532, 0, none⟩), .slice pp533 P.g0.length cc534, .slice pp535 P.g1.length cc536, .slice pp537 P.c0.length cc538, .slice pp539 P.c1.length cc540, .slice pp541 P.t0.length cc542, .slice pp543 P.t1.length cc544] 37 (0, 0)), LkA l531 P.e0, LkA l532 P.e1, BysA pp533 cc534 P.g0, BysA pp535 cc536 P.g1, BysA pp537 cc538 P.c0, BysA pp539 cc540 P.c1, DgsA pp541 cc542 P.t0, DgsA pp543 cc544 P.t1]) H547)
          have H586 : St W w7 (PairA g P :: F) := ((H585.drop 1 rfl).drop 1 rfl)
          exact ⟨rfl, by rw [show act0 (swp P) ac = (swp P) from by unfold act0; rw [if_neg (by omega), if_neg (by omega), if_neg (fun e => by have e2 : 0 < P.t1.length := e.2; omega)]]; exact H586⟩
      · skip
        refine r_cons (s_eql false rfl rfl (dfalse hc529) rfl ?_)
        refine r_cons (s_assign (.bool false) rfl rfl ?_)
        refine r_nil ?_
        refine g_false rfl ?_
        refine g_skip ?_
        refine g_inBlock ?_
        refine g_seq ?_
        refine g_region ?_
        refine r_cons (s_assign (.bool true) rfl rfl ?_)
        refine r_nil ?_
        refine g_ret' [.bool true] Try.func9 Try.results9 ⟨rfl, trivial⟩ ?_
        have hdo : ¬ ac.do_.v = 0 ∧ ¬ ac.do_.v = 1 ∧ ¬ ac.do_.v = 2 := by omega
        have H587 : St W w7 (PairA g P :: F) := (((H8.move 2 rfl).drop 1 rfl).drop 1 rfl)
        exact ⟨rfl, by rw [show act0 (swp P) ac = (swp P) from by unfold act0; rw [if_neg (by omega), if_neg (by omega), if_neg (fun e => by have e2 : 0 < P.t1.length := e.2; omega)]]; exact H587⟩
theorem act_ {W w : World} {F : List Atom} (sl n g : Nat) (P : PairV) (ac : ActV) (v0 : Value) (hI : Inv sl n P) (hn : n < 268435456) {j : Nat} (hj : F[j]? = some (Im 1 v0 ac.body.length (ac.body.flatMap u8c))) (H : St W w (PairA g P :: F)) : Calls Try.prog 9 #[.pointer (some ⟨g, 0, none⟩), .agg #[.int .i64 ac.do_.v, .int .i64 ac.who.v, .int .i64 ac.n.v, v0]] w (Ret fun v w' => v = .bool true ∧ St W w' (PairA g (actP P ac) :: F)) := by
  rcases mask1 ac.who.v with h | h
  · rw [show actP P ac = act0 P ac from if_pos h]
    exact act_0 sl n g P ac v0 hI hn h hj H
  · rw [show actP P ac = swp (act0 (swp P) ac) from if_neg (by omega)]
    exact act_1 sl n g P ac v0 hI hn h hj H
set_option maxHeartbeats 4000000 in
set_option maxRecDepth 100000 in
theorem beginning_ {W w : World} {F : List Atom} (sl n g : Nat) (P : PairV) (hI : Inv sl n P) (H : St W w (PairA g P :: F)) : Calls Try.prog 15 #[.pointer (some ⟨g, 0, none⟩)] w (Ret fun v w' => v = .bool true ∧ St W w' (PairA g P :: F)) := by
  obtain ⟨b1, b2, b3, _⟩ := hI.begins
  obtain ⟨b5, b6, b7, _⟩ := hI.swp.begins
  change P.c0 = P.g1.take P.c0.length at b5; change P.c0.length ≤ P.g1.length at b6; change P.e0.came = P.c0.length at b7
  refine calls_of_go (n := 49) Try.func15 rfl Try.ntmps15 rfl ?_
  refine g_seq ?_
  refine g_region ?_
  refine r_cons (s_assign (.bool false) rfl rfl ?_)
  refine r_nil ?_
  refine g_seq ?_
  refine g_seq ?_
  refine g_region ?_
  refine r_cons (s_move (.int .i64 0) rfl rfl ?_)
  refine r_nil ?_
  refine g_block ?_
  refine g_loop ?_
  refine g_seq ?_
  refine g_region ?_
  refine r_cons (s_lss true rfl rfl (dtrue (by decide)) rfl ?_)
  refine r_nil ?_
  refine g_seq ?_
  refine g_true rfl ?_
  refine g_skip ?_
  refine g_seq ?_
  refine g_block ?_
  refine g_seq ?_
  refine g_region ?_
  refine r_cons (s_move (.int .i64 0) rfl rfl ?_)
  refine r_cons (s_assign (.int .i64 0) rfl rfl ?_)
  refine r_nil ?_
  refine g_seq ?_
  have H1 := H.move 0 rfl
  obtain ⟨⟨l2, l3, pp4, cc5, pp6, cc7, pp8, cc9, pp10, cc11, pp12, cc13, pp14, cc15⟩, H16⟩ := St.open_ex H1
  have H17 := St.open_star H16
  have H18 : St W w (blk g (.cells #[.pointer (some ⟨l2, 0, none⟩), .pointer (some ⟨l3, 0, none⟩), .slice pp4 P.g0.length cc5, .slice pp6 P.g1.length cc7, .slice pp8 P.c0.length cc9, .slice pp10 P.c1.length cc11, .slice pp12 P.t0.length cc13, .slice pp14 P.t1.length cc15] 37 (0, 0)) :: LkA l2 P.e0 :: LkA l3 P.e1 :: BysA pp4 cc5 P.g0 :: BysA pp6 cc7 P.g1 :: BysA pp8 cc9 P.c0 :: BysA pp10 cc11 P.c1 :: DgsA pp12 cc13 P.t0 :: DgsA pp14 cc15 P.t1 :: F) := H17
  refine g_quiet (fun w' => St W w' (blk g (.cells #[.pointer (some ⟨l2, 0, none⟩), .pointer (some ⟨l3, 0, none⟩), .slice pp4 P.g0.length cc5, .slice pp6 P.g1.length cc7, .slice pp8 P.c0.length cc9, .slice pp10 P.c1.length cc11, .slice pp12 P.t0.length cc13, .slice pp14 P.t1.length cc15] 37 (0, 0)) :: LkA l2 P.e0 :: LkA l3 P.e1 :: BysA pp4 cc5 P.g0 :: BysA pp6 cc7 P.g1 :: BysA pp8 cc9 P.c0 :: BysA pp10 cc11 P.c1 :: DgsA pp12 cc13 P.t0 :: DgsA pp14 cc15 P.t1 :: F)) mixed (by kernel_rfl) H18.drew ?_
  refine q_cons (q_val rfl rfl rfl (by intro w hw; exact x_move (.pointer (some ⟨g, 0, none⟩)) rfl w) ?_)
  refine q_cons (q_val rfl rfl rfl (by intro w hw; exact x_move (.int .i64 0) rfl w) ?_)
  refine q_cons (q_val rfl rfl rfl (by intro w hw; exact x_nilCheck (.pointer (some ⟨g, 0, none⟩)) rfl ⟨_, rfl⟩ w) ?_)
  refine q_cons (q_val rfl rfl rfl (by intro w hw; exact x_fieldAddr 37 2 4 4 33 rfl fi_37_2 rfl w) ?_)
  refine q_cons (q_val rfl rfl rfl (by intro w hw; exact x_indexAddr_arr 0 1 4 rfl rfl ar_33 (by omega) rfl w) ?_)
  refine q_cons (q_val rfl rfl rfl (by intro w hw; exact x_load (.slice pp8 P.c0.length cc9) ag_32 rfl (hw.blk_at (i := 0) rfl) rfl) ?_)
  refine q_cons (q_val rfl rfl rfl (by intro w hw; exact x_move (.pointer (some ⟨g, 0, none⟩)) rfl w) ?_)
  refine q_cons (q_val rfl rfl rfl (by intro w hw; exact x_move (.int .i64 0) rfl w) ?_)
  refine q_cons (q_val rfl rfl rfl (by intro w hw; exact x_sub 1 rfl rfl (wi64 (by omega)) w) ?_)
  refine q_cons (q_val rfl rfl rfl (by intro w hw; exact x_nilCheck (.pointer (some ⟨g, 0, none⟩)) rfl ⟨_, rfl⟩ w) ?_)
  refine q_cons (q_val rfl rfl rfl (by intro w hw; exact x_fieldAddr 37 1 2 2 33 rfl fi_37_1 rfl w) ?_)
  refine q_cons (q_val rfl rfl rfl (by intro w hw; exact x_indexAddr_arr 1 1 3 rfl rfl ar_33 (by omega) rfl w) ?_)
  refine q_cons (q_val rfl rfl rfl (by intro w hw; exact x_load (.slice pp6 P.g1.length cc7) ag_32 rfl (hw.blk_at (i := 0) rfl) rfl) ?_)
  refine q_cons (q_val rfl rfl rfl (by intro w hw; exact x_assign (.slice pp8 P.c0.length cc9) rfl w) ?_)
  refine q_cons (q_val rfl rfl rfl (by intro w hw; exact x_assign (.slice pp6 P.g1.length cc7) rfl w) ?_)
  refine q_nil ?_
  intro w19 H20
  refine g_seq ?_
  refine g_region ?_
  have H21 := H20.move 5 rfl
  obtain ⟨⟨D22, hD23⟩, H24⟩ := St.open_ex H21
  have H25 := St.open_star H24
  change D22.map BytesD.data = P.c0 at hD23
  have H26 : St W w19 (Row 26 1 (.slice pp8 P.c0.length cc9) P.c0.length (D22.flatMap byCell) :: byA D22 :: blk g (.cells #[.pointer (some ⟨l2, 0, none⟩), .pointer (some ⟨l3, 0, none⟩), .slice pp4 P.g0.length cc5, .slice pp6 P.g1.length cc7, .slice pp8 P.c0.length cc9, .slice pp10 P.c1.length cc11, .slice pp12 P.t0.length cc13, .slice pp14 P.t1.length cc15] 37 (0, 0)) :: LkA l2 P.e0 :: LkA l3 P.e1 :: BysA pp4 cc5 P.g0 :: BysA pp6 cc7 P.g1 :: BysA pp10 cc11 P.c1 :: DgsA pp12 cc13 P.t0 :: DgsA pp14 cc15 P.t1 :: F) := H25
  have H27 := H26.move 6 rfl
  obtain ⟨⟨D28, hD29⟩, H30⟩ := St.open_ex H27
  have H31 := St.open_star H30
  change D28.map BytesD.data = P.g1 at hD29
  have H32 : St W w19 (Row 26 1 (.slice pp6 P.g1.length cc7) P.g1.length (D28.flatMap byCell) :: byA D28 :: Row 26 1 (.slice pp8 P.c0.length cc9) P.c0.length (D22.flatMap byCell) :: byA D22 :: blk g (.cells #[.pointer (some ⟨l2, 0, none⟩), .pointer (some ⟨l3, 0, none⟩), .slice pp4 P.g0.length cc5, .slice pp6 P.g1.length cc7, .slice pp8 P.c0.length cc9, .slice pp10 P.c1.length cc11, .slice pp12 P.t0.length cc13, .slice pp14 P.t1.length cc15] 37 (0, 0)) :: LkA l2 P.e0 :: LkA l3 P.e1 :: BysA pp4 cc5 P.g0 :: BysA pp10 cc11 P.c1 :: DgsA pp12 cc13 P.t0 :: DgsA pp14 cc15 P.t1 :: F) := H31
  have hcg := Row.capOf H32 (i := 0) rfl; have hzl := Row.lenOf H32 (i := 0) rfl; have hzm := Row.lenOf H32 (i := 2) rfl
  refine r_cons (s_move (.slice pp8 P.c0.length cc9) rfl rfl ?_)
  refine r_cons (s_len P.c0.length rfl ⟨_, un_32⟩ rfl ?_)
  refine r_cons (s_move (.slice pp6 P.g1.length cc7) rfl rfl ?_)
  refine r_cons (s_len P.g1.length rfl ⟨_, un_32⟩ rfl ?_)
  refine r_cons (s_gtr false rfl rfl (dfalse (by omega)) rfl ?_)
  refine r_cons (s_move (.bool false) rfl rfl ?_)
  refine r_cons (r_take rfl rfl ?_)
  refine s_move (.slice pp8 P.c0.length cc9) rfl rfl ?_
  refine r_cons (r_take rfl rfl ?_)
  refine s_move (.slice pp6 P.g1.length cc7) rfl rfl ?_
  refine r_cons (r_take rfl rfl ?_)
  refine s_move (.slice pp8 P.c0.length cc9) rfl rfl ?_
  refine r_cons (r_take rfl rfl ?_)
  refine s_len P.c0.length rfl ⟨_, un_32⟩ rfl ?_
  refine r_cons (r_take rfl rfl ?_)
  refine s_slice_h pp6 (P.c0.length : Int) 1 (.slice pp6 P.c0.length cc7) rfl rfl el_32 (by omega) (by first | rfl | (congr 1; omega)) rfl ?_
  refine r_cons (r_take rfl rfl ?_)
  have H33 := byA_app (M := (D22 ++ D28)) H32 (i := 3) (j := 1) rfl rfl app_b
  refine s_call [.slice pp8 P.c0.length cc9, .slice pp6 P.c0.length cc7] pl_14 rfl rfl (sameBodies_rows D22 D28 P.c0.length P.c0.length P.g1.length pp8 pp6 cc9 cc7 (lenOf hD23) (lenOf hD29) (by omega) rfl (by rw [hD23, hD29]; exact b5) (i := 3) (j := 1) (a := 0) rfl rfl rfl H33) ?_
  rintro _ w34 ⟨rfl, H35⟩
  refine r_cons (r_take rfl rfl ?_)
  refine s_not true rfl false rfl rfl ?_
  refine r_cons (s_pick_f (.bool false) rfl rfl rfl ?_)
  refine r_cons (s_move (.bool false) rfl rfl ?_)
  refine r_cons (r_take rfl rfl ?_)
  refine s_move (.pointer (some ⟨g, 0, none⟩)) rfl rfl ?_
  refine r_cons (r_take rfl rfl ?_)
  refine s_move (.int .i64 0) rfl rfl ?_
  refine r_cons (r_take rfl rfl ?_)
  refine s_nilCheck (.pointer (some ⟨g, 0, none⟩)) rfl ⟨_, rfl⟩ rfl ?_
  refine r_cons (r_take rfl rfl ?_)
  refine s_fieldAddr 37 0 0 0 31 rfl fi_37_0 rfl rfl ?_
  refine r_cons (r_take rfl rfl ?_)
  refine s_indexAddr_arr 0 1 0 rfl rfl ar_31 (by omega) rfl rfl ?_
  refine r_cons (r_take rfl rfl ?_)
  refine s_load (.pointer (some ⟨l2, 0, none⟩)) ag_30 rfl (H35.blk_at (i := 5) rfl) rfl rfl ?_
  refine r_cons (r_take rfl rfl ?_)
  refine s_call [.pointer (some ⟨l2, 0, none⟩)] pl_25 rfl rfl (Lk_Came l2 P.e0 hI.a.ok (i := 6) rfl H35) ?_
  rintro _ w36 ⟨rfl, H37⟩
  refine r_cons (r_take rfl rfl ?_)
  refine s_move (.slice pp8 P.c0.length cc9) rfl rfl ?_
  refine r_cons (r_take rfl rfl ?_)
  refine s_len P.c0.length rfl ⟨_, un_32⟩ rfl ?_
  refine r_cons (r_take rfl rfl ?_)
  refine s_neq false rfl rfl (ntrue (by omega)) rfl ?_
  refine r_cons (s_pick_f (.bool false) rfl rfl rfl ?_)
  refine r_nil ?_
  refine g_false rfl ?_
  refine g_skip ?_
  refine g_inBlock ?_
  refine g_region ?_
  refine r_cons (s_add 1 rfl rfl (wi64 (by omega)) rfl ?_)
  refine r_cons (s_move (.int .i64 1) rfl rfl ?_)
  refine r_nil ?_
  refine g_inLoop ?_
  refine g_seq ?_
  refine g_region ?_
  refine r_cons (s_lss true rfl rfl (dtrue (by decide)) rfl ?_)
  refine r_nil ?_
  refine g_seq ?_
  refine g_true rfl ?_
  refine g_skip ?_
  refine g_seq ?_
  refine g_block ?_
  refine g_seq ?_
  refine g_region ?_
  refine r_cons (s_move (.int .i64 1) rfl rfl ?_)
  refine r_cons (s_assign (.int .i64 1) rfl rfl ?_)
  refine r_nil ?_
  refine g_seq ?_
  have H38 : St W w36 (Row 26 1 (.slice pp8 P.c0.length cc9) P.c0.length (D22.flatMap byCell) :: byA D22 :: byA (D22 ++ D28) :: Row 26 1 (.slice pp6 P.g1.length cc7) P.g1.length (D28.flatMap byCell) :: byA D28 :: blk g (.cells #[.pointer (some ⟨l2, 0, none⟩), .pointer (some ⟨l3, 0, none⟩), .slice pp4 P.g0.length cc5, .slice pp6 P.g1.length cc7, .slice pp8 P.c0.length cc9, .slice pp10 P.c1.length cc11, .slice pp12 P.t0.length cc13, .slice pp14 P.t1.length cc15] 37 (0, 0)) :: LkA l2 P.e0 :: LkA l3 P.e1 :: BysA pp4 cc5 P.g0 :: BysA pp10 cc11 P.c1 :: DgsA pp12 cc13 P.t0 :: DgsA pp14 cc15 P.t1 :: F) := ((H37.move 4 rfl).move 4 rfl)
  have H39 : St W w36 (BysA pp8 cc9 P.c0 :: byA (D22 ++ D28) :: Row 26 1 (.slice pp6 P.g1.length cc7) P.g1.length (D28.flatMap byCell) :: byA D28 :: blk g (.cells #[.pointer (some ⟨l2, 0, none⟩), .pointer (some ⟨l3, 0, none⟩), .slice pp4 P.g0.length cc5, .slice pp6 P.g1.length cc7, .slice pp8 P.c0.length cc9, .slice pp10 P.c1.length cc11, .slice pp12 P.t0.length cc13, .slice pp14 P.t1.length cc15] 37 (0, 0)) :: LkA l2 P.e0 :: LkA l3 P.e1 :: BysA pp4 cc5 P.g0 :: BysA pp10 cc11 P.c1 :: DgsA pp12 cc13 P.t0 :: DgsA pp14 cc15 P.t1 :: F) := St.shut_ex ⟨D22, hD23⟩ (St.shut_star (ls := [Row 26 1 (.slice pp8 P.c0.length cc9) P.c0.length (D22.flatMap byCell), byA D22]) H38)
  have H40 : St W w36 (Row 26 1 (.slice pp6 P.g1.length cc7) P.g1.length (D28.flatMap byCell) :: byA D28 :: BysA pp8 cc9 P.c0 :: byA (D22 ++ D28) :: blk g (.cells #[.pointer (some ⟨l2, 0, none⟩), .pointer (some ⟨l3, 0, none⟩), .slice pp4 P.g0.length cc5, .slice pp6 P.g1.length cc7, .slice pp8 P.c0.length cc9, .slice pp10 P.c1.length cc11, .slice pp12 P.t0.length cc13, .slice pp14 P.t1.length cc15] 37 (0, 0)) :: LkA l2 P.e0 :: LkA l3 P.e1 :: BysA pp4 cc5 P.g0 :: BysA pp10 cc11 P.c1 :: DgsA pp12 cc13 P.t0 :: DgsA pp14 cc15 P.t1 :: F) := ((H39.move 3 rfl).move 3 rfl)
  have H41 : St W w36 (BysA pp6 cc7 P.g1 :: BysA pp8 cc9 P.c0 :: byA (D22 ++ D28) :: blk g (.cells #[.pointer (some ⟨l2, 0, none⟩), .pointer (some ⟨l3, 0, none⟩), .slice pp4 P.g0.length cc5, .slice pp6 P.g1.length cc7, .slice pp8 P.c0.length cc9, .slice pp10 P.c1.length cc11, .slice pp12 P.t0.length cc13, .slice pp14 P.t1.length cc15] 37 (0, 0)) :: LkA l2 P.e0 :: LkA l3 P.e1 :: BysA pp4 cc5 P.g0 :: BysA pp10 cc11 P.c1 :: DgsA pp12 cc13 P.t0 :: DgsA pp14 cc15 P.t1 :: F) := St.shut_ex ⟨D28, hD29⟩ (St.shut_star (ls := [Row 26 1 (.slice pp6 P.g1.length cc7) P.g1.length (D28.flatMap byCell), byA D28]) H40)
  have H42 : St W w36 (blk g (.cells #[.pointer (some ⟨l2, 0, none⟩), .pointer (some ⟨l3, 0, none⟩), .slice pp4 P.g0.length cc5, .slice pp6 P.g1.length cc7, .slice pp8 P.c0.length cc9, .slice pp10 P.c1.length cc11, .slice pp12 P.t0.length cc13, .slice pp14 P.t1.length cc15] 37 (0, 0)) :: LkA l2 P.e0 :: LkA l3 P.e1 :: BysA pp4 cc5 P.g0 :: BysA pp6 cc7 P.g1 :: BysA pp8 cc9 P.c0 :: BysA pp10 cc11 P.c1 :: DgsA pp12 cc13 P.t0 :: DgsA pp14 cc15 P.t1 :: byA (D22 ++ D28) :: F) := (((((((((H41.move 9 rfl).move 9 rfl).move 9 rfl).move 4 rfl).move 4 rfl).move 9 rfl).move 9 rfl).move 9 rfl).move 9 rfl)
  have H43 : St W w36 (PairA g P :: byA (D22 ++ D28) :: F) := St.shut_ex (⟨l2, l3, pp4, cc5, pp6, cc7, pp8, cc9, pp10, cc11, pp12, cc13, pp14, cc15⟩ : PairQ) (St.shut_star (ls := [blk g (.cells #[.pointer (some ⟨l2, 0, none⟩), .pointer (some ⟨l3, 0, none⟩), .slice pp4 P.g0.length cc5, .slice pp6 P.g1.length cc7, .slice pp8 P.c0.length cc9, .slice pp10 P.c1.length cc11, .slice pp12 P.t0.length cc13, .slice pp14 P.t1.length cc15] 37 (0, 0)), LkA l2 P.e0, LkA l3 P.e1, BysA pp4 cc5 P.g0, BysA pp6 cc7 P.g1, BysA pp8 cc9 P.c0, BysA pp10 cc11 P.c1, DgsA pp12 cc13 P.t0, DgsA pp14 cc15 P.t1]) H42)
  have H44 := H43.move 0 rfl
  obtain ⟨⟨l45, l46, pp47, cc48, pp49, cc50, pp51, cc52, pp53, cc54, pp55, cc56, pp57, cc58⟩, H59⟩ := St.open_ex H44
  have H60 := St.open_star H59
  have H61 : St W w36 (blk g (.cells #[.pointer (some ⟨l45, 0, none⟩), .pointer (some ⟨l46, 0, none⟩), .slice pp47 P.g0.length cc48, .slice pp49 P.g1.length cc50, .slice pp51 P.c0.length cc52, .slice pp53 P.c1.length cc54, .slice pp55 P.t0.length cc56, .slice pp57 P.t1.length cc58] 37 (0, 0)) :: LkA l45 P.e0 :: LkA l46 P.e1 :: BysA pp47 cc48 P.g0 :: BysA pp49 cc50 P.g1 :: BysA pp51 cc52 P.c0 :: BysA pp53 cc54 P.c1 :: DgsA pp55 cc56 P.t0 :: DgsA pp57 cc58 P.t1 :: byA (D22 ++ D28) :: F) := H60
  refine g_quiet (fun w' => St W w' (blk g (.cells #[.pointer (some ⟨l45, 0, none⟩), .pointer (some ⟨l46, 0, none⟩), .slice pp47 P.g0.length cc48, .slice pp49 P.g1.length cc50, .slice pp51 P.c0.length cc52, .slice pp53 P.c1.length cc54, .slice pp55 P.t0.length cc56, .slice pp57 P.t1.length cc58] 37 (0, 0)) :: LkA l45 P.e0 :: LkA l46 P.e1 :: BysA pp47 cc48 P.g0 :: BysA pp49 cc50 P.g1 :: BysA pp51 cc52 P.c0 :: BysA pp53 cc54 P.c1 :: DgsA pp55 cc56 P.t0 :: DgsA pp57 cc58 P.t1 :: byA (D22 ++ D28) :: F)) mixed (by kernel_rfl) H61.drew ?_
  refine q_cons (q_val rfl rfl rfl (by intro w hw; exact x_move (.pointer (some ⟨g, 0, none⟩)) rfl w) ?_)
  refine q_cons (q_val rfl rfl rfl (by intro w hw; exact x_move (.int .i64 1) rfl w) ?_)
  refine q_cons (q_val rfl rfl rfl (by intro w hw; exact x_nilCheck (.pointer (some ⟨g, 0, none⟩)) rfl ⟨_, rfl⟩ w) ?_)
  refine q_cons (q_val rfl rfl rfl (by intro w hw; exact x_fieldAddr 37 2 4 4 33 rfl fi_37_2 rfl w) ?_)
  refine q_cons (q_val rfl rfl rfl (by intro w hw; exact x_indexAddr_arr 1 1 5 rfl rfl ar_33 (by omega) rfl w) ?_)
  refine q_cons (q_val rfl rfl rfl (by intro w hw; exact x_load (.slice pp53 P.c1.length cc54) ag_32 rfl (hw.blk_at (i := 0) rfl) rfl) ?_)
  refine q_cons (q_val rfl rfl rfl (by intro w hw; exact x_move (.pointer (some ⟨g, 0, none⟩)) rfl w) ?_)
  refine q_cons (q_val rfl rfl rfl (by intro w hw; exact x_move (.int .i64 1) rfl w) ?_)
  refine q_cons (q_val rfl rfl rfl (by intro w hw; exact x_sub 0 rfl rfl (wi64 (by omega)) w) ?_)
  refine q_cons (q_val rfl rfl rfl (by intro w hw; exact x_nilCheck (.pointer (some ⟨g, 0, none⟩)) rfl ⟨_, rfl⟩ w) ?_)
  refine q_cons (q_val rfl rfl rfl (by intro w hw; exact x_fieldAddr 37 1 2 2 33 rfl fi_37_1 rfl w) ?_)
  refine q_cons (q_val rfl rfl rfl (by intro w hw; exact x_indexAddr_arr 0 1 2 rfl rfl ar_33 (by omega) rfl w) ?_)
  refine q_cons (q_val rfl rfl rfl (by intro w hw; exact x_load (.slice pp47 P.g0.length cc48) ag_32 rfl (hw.blk_at (i := 0) rfl) rfl) ?_)
  refine q_cons (q_val rfl rfl rfl (by intro w hw; exact x_assign (.slice pp53 P.c1.length cc54) rfl w) ?_)
  refine q_cons (q_val rfl rfl rfl (by intro w hw; exact x_assign (.slice pp47 P.g0.length cc48) rfl w) ?_)
  refine q_nil ?_
  intro w62 H63
  refine g_seq ?_
  refine g_region ?_
  have H64 := H63.move 6 rfl
  obtain ⟨⟨D65, hD66⟩, H67⟩ := St.open_ex H64
  have H68 := St.open_star H67
  change D65.map BytesD.data = P.c1 at hD66
  have H69 : St W w62 (Row 26 1 (.slice pp53 P.c1.length cc54) P.c1.length (D65.flatMap byCell) :: byA D65 :: blk g (.cells #[.pointer (some ⟨l45, 0, none⟩), .pointer (some ⟨l46, 0, none⟩), .slice pp47 P.g0.length cc48, .slice pp49 P.g1.length cc50, .slice pp51 P.c0.length cc52, .slice pp53 P.c1.length cc54, .slice pp55 P.t0.length cc56, .slice pp57 P.t1.length cc58] 37 (0, 0)) :: LkA l45 P.e0 :: LkA l46 P.e1 :: BysA pp47 cc48 P.g0 :: BysA pp49 cc50 P.g1 :: BysA pp51 cc52 P.c0 :: DgsA pp55 cc56 P.t0 :: DgsA pp57 cc58 P.t1 :: byA (D22 ++ D28) :: F) := H68
  have H70 := H69.move 5 rfl
  obtain ⟨⟨D71, hD72⟩, H73⟩ := St.open_ex H70
  have H74 := St.open_star H73
  change D71.map BytesD.data = P.g0 at hD72
  have H75 : St W w62 (Row 26 1 (.slice pp47 P.g0.length cc48) P.g0.length (D71.flatMap byCell) :: byA D71 :: Row 26 1 (.slice pp53 P.c1.length cc54) P.c1.length (D65.flatMap byCell) :: byA D65 :: blk g (.cells #[.pointer (some ⟨l45, 0, none⟩), .pointer (some ⟨l46, 0, none⟩), .slice pp47 P.g0.length cc48, .slice pp49 P.g1.length cc50, .slice pp51 P.c0.length cc52, .slice pp53 P.c1.length cc54, .slice pp55 P.t0.length cc56, .slice pp57 P.t1.length cc58] 37 (0, 0)) :: LkA l45 P.e0 :: LkA l46 P.e1 :: BysA pp49 cc50 P.g1 :: BysA pp51 cc52 P.c0 :: DgsA pp55 cc56 P.t0 :: DgsA pp57 cc58 P.t1 :: byA (D22 ++ D28) :: F) := H74
  have hcg := Row.capOf H75 (i := 0) rfl; have hzl := Row.lenOf H75 (i := 0) rfl; have hzm := Row.lenOf H75 (i := 2) rfl
  refine r_cons (s_move (.slice pp53 P.c1.length cc54) rfl rfl ?_)
  refine r_cons (s_len P.c1.length rfl ⟨_, un_32⟩ rfl ?_)
  refine r_cons (s_move (.slice pp47 P.g0.length cc48) rfl rfl ?_)
  refine r_cons (s_len P.g0.length rfl ⟨_, un_32⟩ rfl ?_)
  refine r_cons (s_gtr false rfl rfl (dfalse (by omega)) rfl ?_)
  refine r_cons (s_move (.bool false) rfl rfl ?_)
  refine r_cons (r_take rfl rfl ?_)
  refine s_move (.slice pp53 P.c1.length cc54) rfl rfl ?_
  refine r_cons (r_take rfl rfl ?_)
  refine s_move (.slice pp47 P.g0.length cc48) rfl rfl ?_
  refine r_cons (r_take rfl rfl ?_)
  refine s_move (.slice pp53 P.c1.length cc54) rfl rfl ?_
  refine r_cons (r_take rfl rfl ?_)
  refine s_len P.c1.length rfl ⟨_, un_32⟩ rfl ?_
  refine r_cons (r_take rfl rfl ?_)
  refine s_slice_h pp47 (P.c1.length : Int) 1 (.slice pp47 P.c1.length cc48) rfl rfl el_32 (by omega) (by first | rfl | (congr 1; omega)) rfl ?_
  refine r_cons (r_take rfl rfl ?_)
  have H76 := byA_app (M := (D65 ++ D71)) H75 (i := 3) (j := 1) rfl rfl app_b
  refine s_call [.slice pp53 P.c1.length cc54, .slice pp47 P.c1.length cc48] pl_14 rfl rfl (sameBodies_rows D65 D71 P.c1.length P.c1.length P.g0.length pp53 pp47 cc54 cc48 (lenOf hD66) (lenOf hD72) (by omega) rfl (by rw [hD66, hD72]; exact b1) (i := 3) (j := 1) (a := 0) rfl rfl rfl H76) ?_
  rintro _ w77 ⟨rfl, H78⟩
  refine r_cons (r_take rfl rfl ?_)
  refine s_not true rfl false rfl rfl ?_
  refine r_cons (s_pick_f (.bool false) rfl rfl rfl ?_)
  refine r_cons (s_move (.bool false) rfl rfl ?_)
  refine r_cons (r_take rfl rfl ?_)
  refine s_move (.pointer (some ⟨g, 0, none⟩)) rfl rfl ?_
  refine r_cons (r_take rfl rfl ?_)
  refine s_move (.int .i64 1) rfl rfl ?_
  refine r_cons (r_take rfl rfl ?_)
  refine s_nilCheck (.pointer (some ⟨g, 0, none⟩)) rfl ⟨_, rfl⟩ rfl ?_
  refine r_cons (r_take rfl rfl ?_)
  refine s_fieldAddr 37 0 0 0 31 rfl fi_37_0 rfl rfl ?_
  refine r_cons (r_take rfl rfl ?_)
  refine s_indexAddr_arr 1 1 1 rfl rfl ar_31 (by omega) rfl rfl ?_
  refine r_cons (r_take rfl rfl ?_)
  refine s_load (.pointer (some ⟨l46, 0, none⟩)) ag_30 rfl (H78.blk_at (i := 5) rfl) rfl rfl ?_
  refine r_cons (r_take rfl rfl ?_)
  refine s_call [.pointer (some ⟨l46, 0, none⟩)] pl_25 rfl rfl (Lk_Came l46 P.e1 hI.b.ok (i := 7) rfl H78) ?_
  rintro _ w79 ⟨rfl, H80⟩
  refine r_cons (r_take rfl rfl ?_)
  refine s_move (.slice pp53 P.c1.length cc54) rfl rfl ?_
  refine r_cons (r_take rfl rfl ?_)
  refine s_len P.c1.length rfl ⟨_, un_32⟩ rfl ?_
  refine r_cons (r_take rfl rfl ?_)
  refine s_neq false rfl rfl (ntrue (by omega)) rfl ?_
  refine r_cons (s_pick_f (.bool false) rfl rfl rfl ?_)
  refine r_nil ?_
  refine g_false rfl ?_
  refine g_skip ?_
  refine g_inBlock ?_
  refine g_region ?_
  refine r_cons (s_add 2 rfl rfl (wi64 (by omega)) rfl ?_)
  refine r_cons (s_move (.int .i64 2) rfl rfl ?_)
  refine r_nil ?_
  refine g_inLoop ?_
  refine g_seq ?_
  refine g_region ?_
  refine r_cons (s_lss false rfl rfl (dfalse (by decide)) rfl ?_)
  refine r_nil ?_
  refine g_seq ?_
  refine g_false rfl ?_
  refine g_exit (by rfl) ?_
  refine g_seq ?_
  refine g_region ?_
  refine r_cons (s_assign (.bool true) rfl rfl ?_)
  refine r_nil ?_
  refine g_ret' [.bool true] Try.func15 Try.results15 ⟨rfl, trivial⟩ ?_
  have H81 : St W w79 (Row 26 1 (.slice pp53 P.c1.length cc54) P.c1.length (D65.flatMap byCell) :: byA D65 :: byA (D65 ++ D71) :: Row 26 1 (.slice pp47 P.g0.length cc48) P.g0.length (D71.flatMap byCell) :: byA D71 :: blk g (.cells #[.pointer (some ⟨l45, 0, none⟩), .pointer (some ⟨l46, 0, none⟩), .slice pp47 P.g0.length cc48, .slice pp49 P.g1.length cc50, .slice pp51 P.c0.length cc52, .slice pp53 P.c1.length cc54, .slice pp55 P.t0.length cc56, .slice pp57 P.t1.length cc58] 37 (0, 0)) :: LkA l45 P.e0 :: LkA l46 P.e1 :: BysA pp49 cc50 P.g1 :: BysA pp51 cc52 P.c0 :: DgsA pp55 cc56 P.t0 :: DgsA pp57 cc58 P.t1 :: byA (D22 ++ D28) :: F) := ((H80.move 4 rfl).move 4 rfl)
  have H82 : St W w79 (BysA pp53 cc54 P.c1 :: byA (D65 ++ D71) :: Row 26 1 (.slice pp47 P.g0.length cc48) P.g0.length (D71.flatMap byCell) :: byA D71 :: blk g (.cells #[.pointer (some ⟨l45, 0, none⟩), .pointer (some ⟨l46, 0, none⟩), .slice pp47 P.g0.length cc48, .slice pp49 P.g1.length cc50, .slice pp51 P.c0.length cc52, .slice pp53 P.c1.length cc54, .slice pp55 P.t0.length cc56, .slice pp57 P.t1.length cc58] 37 (0, 0)) :: LkA l45 P.e0 :: LkA l46 P.e1 :: BysA pp49 cc50 P.g1 :: BysA pp51 cc52 P.c0 :: DgsA pp55 cc56 P.t0 :: DgsA pp57 cc58 P.t1 :: byA (D22 ++ D28) :: F) := St.shut_ex ⟨D65, hD66⟩ (St.shut_star (ls := [Row 26 1 (.slice pp53 P.c1.length cc54) P.c1.length (D65.flatMap byCell), byA D65]) H81)
  have H83 : St W w79 (Row 26 1 (.slice pp47 P.g0.length cc48) P.g0.length (D71.flatMap byCell) :: byA D71 :: BysA pp53 cc54 P.c1 :: byA (D65 ++ D71) :: blk g (.cells #[.pointer (some ⟨l45, 0, none⟩), .pointer (some ⟨l46, 0, none⟩), .slice pp47 P.g0.length cc48, .slice pp49 P.g1.length cc50, .slice pp51 P.c0.length cc52, .slice pp53 P.c1.length cc54, .slice pp55 P.t0.length cc56, .slice pp57 P.t1.length cc58] 37 (0, 0)) :: LkA l45 P.e0 :: LkA l46 P.e1 :: BysA pp49 cc50 P.g1 :: BysA pp51 cc52 P.c0 :: DgsA pp55 cc56 P.t0 :: DgsA pp57 cc58 P.t1 :: byA (D22 ++ D28) :: F) := ((H82.move 3 rfl).move 3 rfl)
  have H84 : St W w79 (BysA pp47 cc48 P.g0 :: BysA pp53 cc54 P.c1 :: byA (D65 ++ D71) :: blk g (.cells #[.pointer (some ⟨l45, 0, none⟩), .pointer (some ⟨l46, 0, none⟩), .slice pp47 P.g0.length cc48, .slice pp49 P.g1.length cc50, .slice pp51 P.c0.length cc52, .slice pp53 P.c1.length cc54, .slice pp55 P.t0.length cc56, .slice pp57 P.t1.length cc58] 37 (0, 0)) :: LkA l45 P.e0 :: LkA l46 P.e1 :: BysA pp49 cc50 P.g1 :: BysA pp51 cc52 P.c0 :: DgsA pp55 cc56 P.t0 :: DgsA pp57 cc58 P.t1 :: byA (D22 ++ D28) :: F) := St.shut_ex ⟨D71, hD72⟩ (St.shut_star (ls := [Row 26 1 (.slice pp47 P.g0.length cc48) P.g0.length (D71.flatMap byCell), byA D71]) H83)
  have H85 : St W w79 (blk g (.cells #[.pointer (some ⟨l45, 0, none⟩), .pointer (some ⟨l46, 0, none⟩), .slice pp47 P.g0.length cc48, .slice pp49 P.g1.length cc50, .slice pp51 P.c0.length cc52, .slice pp53 P.c1.length cc54, .slice pp55 P.t0.length cc56, .slice pp57 P.t1.length cc58] 37 (0, 0)) :: LkA l45 P.e0 :: LkA l46 P.e1 :: BysA pp47 cc48 P.g0 :: BysA pp49 cc50 P.g1 :: BysA pp51 cc52 P.c0 :: BysA pp53 cc54 P.c1 :: DgsA pp55 cc56 P.t0 :: DgsA pp57 cc58 P.t1 :: byA (D65 ++ D71) :: byA (D22 ++ D28) :: F) := (((((((((H84.move 9 rfl).move 9 rfl).move 3 rfl).move 9 rfl).move 9 rfl).move 5 rfl).move 9 rfl).move 9 rfl).move 9 rfl)
  have H86 : St W w79 (PairA g P :: byA (D65 ++ D71) :: byA (D22 ++ D28) :: F) := St.shut_ex (⟨l45, l46, pp47, cc48, pp49, cc50, pp51, cc52, pp53, cc54, pp55, cc56, pp57, cc58⟩ : PairQ) (St.shut_star (ls := [blk g (.cells #[.pointer (some ⟨l45, 0, none⟩), .pointer (some ⟨l46, 0, none⟩), .slice pp47 P.g0.length cc48, .slice pp49 P.g1.length cc50, .slice pp51 P.c0.length cc52, .slice pp53 P.c1.length cc54, .slice pp55 P.t0.length cc56, .slice pp57 P.t1.length cc58] 37 (0, 0)), LkA l45 P.e0, LkA l46 P.e1, BysA pp47 cc48 P.g0, BysA pp49 cc50 P.g1, BysA pp51 cc52 P.c0, BysA pp53 cc54 P.c1, DgsA pp55 cc56 P.t0, DgsA pp57 cc58 P.t1]) H85)
  have H87 : St W w79 (PairA g P :: F) := ((H86.drop 1 rfl).drop 1 rfl)
  exact ⟨rfl, H87⟩
end Sl
