/- Walks of the program's functions. Printed by a program of this claim's author. No condition. -/
import Derived.Test.YtfflafpcpbeciaaSlCP
import Derived.Test.YtfflafpcpbeciaaSlQ
import Derived.Test.YtfflafpcpbeciaaProg
import Derived.Test.YtfflafpcpbeciaaWalkNormalOrder4
namespace Sl
open _root_.Go _root_.Go.RowKit _root_.Go.Proofs
set_option linter.all false
set_option maxHeartbeats 4000000 in
set_option maxRecDepth 100000 in
theorem normal_alts_r (N : Nat) : ∀ (n : NodeD), sizeOf n < N → ∀ {W w : World} {F : List Atom}  {i : Nat} (hi : F[i]? = some (NodeA n)) (hz : sizeN n ≤ 1048576) (ha : (altsT n).length ≤ 1048576) (H : St W w F), Calls Try.prog 54 #[.agg #[.int .i64 n.kind.v, .string n.var.v, .string n.typ.v, .slice n.tp n.tests.length n.tc, .slice n.kp n.kids.length n.kc]] w (Ret fun v w' => ∃ p c, ∃ R : List NodeD, v = .slice p R.length c ∧ R.map eraseN = altsT n ∧ St W w' (Row 25 5 (.slice p R.length c) R.length (R.flatMap nodeCell) :: NodesA R :: F)) := by
  induction N with | zero => exact fun n hN => absurd hN (Nat.not_lt_zero _) | succ N ih => ?_
  intro n hN W w F i hi hz ha H
  have hbd := NodeA.bounds H hi
  have hkl9 := kids_len n
  have H1 := NodeA.kids H (i := i + 0) (by exact hi)
  have H2 : St W w (Im 5 (.slice n.kp n.kids.length n.kc) n.kids.length (n.kids.flatMap nodeCell) :: NodesA n.kids :: F) := H1
  have H3 := H2.dup (i := i + 2) (by exact hi) (NodeA_pers _)
  have H4 : St W w (NodeA n :: Im 5 (.slice n.kp n.kids.length n.kc) n.kids.length (n.kids.flatMap nodeCell) :: NodesA n.kids :: F) := H3
  refine calls_of_go (n := 43) Try.func54 rfl Try.ntmps54 rfl ?_
  refine g_seq ?_
  refine g_region ?_
  refine r_cons (s_box H4 25 (.agg #[.int .i64 n.kind.v, .string n.var.v, .string n.typ.v, .slice n.tp n.tests.length n.tc, .slice n.kp n.kids.length n.kc]) rfl (cs := #[.int .i64 n.kind.v, .string n.var.v, .string n.typ.v, .slice n.tp n.tests.length n.tc, .slice n.kp n.kids.length n.kc]) rfl rfl ?_); intro bk5 w6 H7
  refine r_cons (s_assign (.slice none 0 0) rfl rfl ?_)
  refine r_nil ?_
  refine g_seq ?_
  refine g_seq ?_
  refine g_region ?_
  refine r_cons (s_fieldAddr 25 4 4 4 23 rfl fi_25_4 rfl rfl ?_)
  refine r_cons (s_load (.slice n.kp n.kids.length n.kc) ag_23 rfl (H7.blk_at (i := 0) rfl) rfl rfl ?_)
  refine r_cons (s_len n.kids.length rfl ⟨_, un_23⟩ rfl ?_)
  by_cases hc8 : (n.kids.length : Int) = 0
  · skip
    refine r_cons (s_eql true rfl rfl (dtrue hc8) rfl ?_)
    refine r_nil ?_
    refine g_true rfl ?_
    refine g_seq ?_
    refine g_region ?_
    refine r_cons (s_loadAgg [.int .i64 n.kind.v, .string n.var.v, .string n.typ.v, .slice n.tp n.tests.length n.tc, .slice n.kp n.kids.length n.kc] 5 ag_25 rfl (H7.blk_at (i := 0) rfl) (Nat.le_of_ble_eq_true rfl) rfl rfl ?_)
    have H9 : St W w6 (Im 5 (.slice none 0 0) (([] : List NodeD).length) (([] : List NodeD).flatMap nodeCell) :: blk bk5 (.cells #[.int .i64 n.kind.v, .string n.var.v, .string n.typ.v, .slice n.tp n.tests.length n.tc, .slice n.kp n.kids.length n.kc] 25 (0, 0)) :: NodeA n :: Im 5 (.slice n.kp n.kids.length n.kc) n.kids.length (n.kids.flatMap nodeCell) :: NodesA n.kids :: F) := Row.im (Row.nil_intro H7 25 5) (i := 0) rfl
    have H10 : St W w6 (NodesA [] :: Im 5 (.slice none 0 0) (([] : List NodeD).length) (([] : List NodeD).flatMap nodeCell) :: blk bk5 (.cells #[.int .i64 n.kind.v, .string n.var.v, .string n.typ.v, .slice n.tp n.tests.length n.tc, .slice n.kp n.kids.length n.kc] 25 (0, 0)) :: NodeA n :: Im 5 (.slice n.kp n.kids.length n.kc) n.kids.length (n.kids.flatMap nodeCell) :: NodesA n.kids :: F) := NodesA.nil H9
    refine r_cons (s_call [.agg #[.int .i64 n.kind.v, .string n.var.v, .string n.typ.v, .slice n.tp n.tests.length n.tc, .slice n.kp n.kids.length n.kc], .slice none 0 0] pl_70 rfl rfl (normal_with n none 0 0 (i := 3) rfl H10) ?_)
    rintro _ w13 ⟨pp11, cc12, rfl, H14⟩
    refine r_cons (s_buildSlice H14 5 1 (cs := #[.int .i64 n.kind.v, .string n.var.v, .string n.typ.v, .slice pp11 n.tests.length cc12, .slice none 0 0]) #[.int .i64 0, .string ByteArray.empty, .string ByteArray.empty, .slice none 0 0, .slice none 0 0] el_23 ze_25 (by decide) (by decide) (by kernel_rfl) rfl ?_); intro bk15 w16 H17
    refine r_cons (s_assign (.slice (some ⟨bk15, 0, none⟩) 1 1) rfl rfl ?_)
    refine r_nil ?_
    refine g_ret' [.slice (some ⟨bk15, 0, none⟩) 1 1] Try.func54 Try.results54 ⟨rfl, trivial⟩ ?_
    have H18 : St W w16 (NodeA (NodeD.mk n.kind n.var n.typ pp11 cc12 n.tests none 0 []) :: blk bk15 (.cells #[.int .i64 n.kind.v, .string n.var.v, .string n.typ.v, .slice pp11 n.tests.length cc12, .slice none 0 0] 25 (0, 0)) :: Im 11 (.slice pp11 n.tests.length cc12) n.tests.length (n.tests.flatMap condCell) :: NodesA [] :: Im 5 (.slice none 0 0) (([] : List NodeD).length) (([] : List NodeD).flatMap nodeCell) :: blk bk5 (.cells #[.int .i64 n.kind.v, .string n.var.v, .string n.typ.v, .slice n.tp n.tests.length n.tc, .slice n.kp n.kids.length n.kc] 25 (0, 0)) :: NodeA n :: Im 5 (.slice n.kp n.kids.length n.kc) n.kids.length (n.kids.flatMap nodeCell) :: NodesA n.kids :: F) := NodeA.make (a := 1) (b := 3) (c := 2) (.mk n.kind n.var n.typ pp11 cc12 n.tests none 0 []) H17 rfl rfl rfl ⟨by show n.tests.length * 136 ≤ _; omega, by show 0 * 88 ≤ _; omega⟩
    have H19 : St W w16 (NodesA [(NodeD.mk n.kind n.var n.typ pp11 cc12 n.tests none 0 [])] :: NodeA (NodeD.mk n.kind n.var n.typ pp11 cc12 n.tests none 0 []) :: blk bk15 (.cells #[.int .i64 n.kind.v, .string n.var.v, .string n.typ.v, .slice pp11 n.tests.length cc12, .slice none 0 0] 25 (0, 0)) :: Im 11 (.slice pp11 n.tests.length cc12) n.tests.length (n.tests.flatMap condCell) :: NodesA [] :: Im 5 (.slice none 0 0) (([] : List NodeD).length) (([] : List NodeD).flatMap nodeCell) :: blk bk5 (.cells #[.int .i64 n.kind.v, .string n.var.v, .string n.typ.v, .slice n.tp n.tests.length n.tc, .slice n.kp n.kids.length n.kc] 25 (0, 0)) :: NodeA n :: Im 5 (.slice n.kp n.kids.length n.kc) n.kids.length (n.kids.flatMap nodeCell) :: NodesA n.kids :: F) := NodesA.snoc' H18 (a := 3) (b := 0) rfl rfl
    have H20 : St W w16 (NodesA [(NodeD.mk n.kind n.var n.typ pp11 cc12 n.tests none 0 [])] :: NodeA (NodeD.mk n.kind n.var n.typ pp11 cc12 n.tests none 0 []) :: Row 25 5 (.slice (some ⟨bk15, 0, none⟩) 1 1) 1 ([(NodeD.mk n.kind n.var n.typ pp11 cc12 n.tests none 0 [])].flatMap nodeCell) :: Im 11 (.slice pp11 n.tests.length cc12) n.tests.length (n.tests.flatMap condCell) :: NodesA [] :: Im 5 (.slice none 0 0) (([] : List NodeD).length) (([] : List NodeD).flatMap nodeCell) :: blk bk5 (.cells #[.int .i64 n.kind.v, .string n.var.v, .string n.typ.v, .slice n.tp n.tests.length n.tc, .slice n.kp n.kids.length n.kc] 25 (0, 0)) :: NodeA n :: Im 5 (.slice n.kp n.kids.length n.kc) n.kids.length (n.kids.flatMap nodeCell) :: NodesA n.kids :: F) := Row.of_blk (n := 1) (size := 5) H19 (i := 2) rfl (by unfold maxLen; omega) (by simp) (by simp [Value.oneCell'])
    have H21 : St W w16 (Row 25 5 (.slice (some ⟨bk15, 0, none⟩) 1 1) 1 ([(NodeD.mk n.kind n.var n.typ pp11 cc12 n.tests none 0 [])].flatMap nodeCell) :: NodesA [(NodeD.mk n.kind n.var n.typ pp11 cc12 n.tests none 0 [])] :: F) := (((((((((H20.move 2 rfl).drop 2 rfl).drop 2 rfl).drop 2 rfl).drop 2 rfl).drop 2 rfl).drop 2 rfl).drop 2 rfl).drop 2 rfl)
    exact ⟨_, _, [(NodeD.mk n.kind n.var n.typ pp11 cc12 n.tests none 0 [])], rfl, alts_leaf (by omega) rfl, H21⟩
  · skip
    refine r_cons (s_eql false rfl rfl (dfalse hc8) rfl ?_)
    refine r_nil ?_
    refine g_false rfl ?_
    refine g_skip ?_
    refine g_seq ?_
    refine g_region ?_
    refine r_cons (s_alloc H7 23 ze_23 rfl ?_); intro bk22 w23 H24
    refine r_nil ?_
    refine g_seq ?_
    refine g_region ?_
    refine r_cons (s_assign (.slice none 0 0) rfl rfl ?_)
    refine r_nil ?_
    refine g_seq ?_
    refine g_seq ?_
    refine g_region ?_
    refine r_cons (s_fieldAddr 25 4 4 4 23 rfl fi_25_4 rfl rfl ?_)
    refine r_cons (s_load (.slice n.kp n.kids.length n.kc) ag_23 rfl (H24.blk_at (i := 1) rfl) rfl rfl ?_)
    refine r_cons (s_len n.kids.length rfl ⟨_, un_23⟩ rfl ?_)
    refine r_cons (s_move (.int .i64 0) rfl rfl ?_)
    refine r_nil ?_
    refine g_block ?_
    have H25 := Row.nil_intro H24 25 5
    have H26 : St W w23 (NodesA [] :: Row 25 5 (.slice none 0 0) 0 [] :: blk bk22 (.cells #[.slice none 0 0] 23 (0, 0)) :: blk bk5 (.cells #[.int .i64 n.kind.v, .string n.var.v, .string n.typ.v, .slice n.tp n.tests.length n.tc, .slice n.kp n.kids.length n.kc] 25 (0, 0)) :: NodeA n :: Im 5 (.slice n.kp n.kids.length n.kc) n.kids.length (n.kids.flatMap nodeCell) :: NodesA n.kids :: F) := NodesA.nil H25
    have H27 := Row.nil_intro H26 23 1
    have H28 : St W w23 (AltsA [] :: Row 23 1 (.slice none 0 0) 0 [] :: NodesA [] :: Row 25 5 (.slice none 0 0) 0 [] :: blk bk22 (.cells #[.slice none 0 0] 23 (0, 0)) :: blk bk5 (.cells #[.int .i64 n.kind.v, .string n.var.v, .string n.typ.v, .slice n.tp n.tests.length n.tc, .slice n.kp n.kids.length n.kc] 25 (0, 0)) :: NodeA n :: Im 5 (.slice n.kp n.kids.length n.kc) n.kids.length (n.kids.flatMap nodeCell) :: NodesA n.kids :: F) := AltsA.nil H27
    obtain ⟨pA29, cA30, gA31, oA32, kA33, eA34, zA35, he41, hn36, hp37, hx38, hs39, hml, H40⟩ := Im.open_ H28 (i := 7) rfl
    obtain ⟨rfl, rfl⟩ : n.kp = pA29 ∧ n.kc = cA30 := by injection he41 with a_ b_ c_; exact ⟨a_, c_⟩
    have hon9 : ([] : List NodeD) = outL n [] := (outL_nil n).symm
    have H42 : St W w23 (imi (0 < n.kids.length) gA31 (.cells kA33 eA34 zA35) :: AltsA ([] : List AltD) :: Row 23 1 (.slice none (([] : List AltD).length) 0) (([] : List AltD).length) (([] : List AltD).flatMap altCell) :: NodesA (outL n []) :: Row 25 5 (.slice none ((outL n []).length) 0) ((outL n []).length) ((outL n []).flatMap nodeCell) :: blk bk22 (.cells #[.slice none ((outL n []).length) 0] 23 (0, 0)) :: blk bk5 (.cells #[.int .i64 n.kind.v, .string n.var.v, .string n.typ.v, .slice n.tp n.tests.length n.tc, .slice n.kp n.kids.length n.kc] 25 (0, 0)) :: NodeA n :: Im 5 (.slice n.kp n.kids.length n.kc) n.kids.length (n.kids.flatMap nodeCell) :: NodesA n.kids :: F) := by rw [← hon9]; exact H40
    have H43 : St W w23 (imi (0 < n.kids.length) gA31 (.cells kA33 eA34 zA35) :: AltsA ([] : List AltD) :: Row 23 1 (.slice none (([] : List AltD).length) 0) (([] : List AltD).length) (([] : List AltD).flatMap altCell) :: NodesA (outL n []) :: Row 25 5 (.slice none ((outL n []).length) 0) ((outL n []).length) ((outL n []).flatMap nodeCell) :: blk bk22 (.cells #[.slice none ((outL n []).length) 0] 23 (0, 0)) :: blk bk5 (.cells #[.int .i64 n.kind.v, .string n.var.v, .string n.typ.v, .slice n.tp n.tests.length n.tc, .slice n.kp n.kids.length n.kc] 25 (0, 0)) :: NodeA n :: Im 5 (.slice n.kp n.kids.length n.kc) n.kids.length (n.kids.flatMap nodeCell) :: NodesA n.kids :: F) := ((((((((((H42.move 9 rfl).move 9 rfl).move 9 rfl).move 9 rfl).move 9 rfl).move 9 rfl).move 9 rfl).move 9 rfl).move 9 rfl).move 9 rfl)
    refine g_loop_inv (fun (x_ : (List AltD) × (Option Addr) × Nat × (Option Addr) × Nat × Nat) => match x_ with | (Ls, po, co, lp, lc, j) => [(1, .pointer (some ⟨bk5, 0, none⟩)), (2, .slice none 0 0), (3, .pointer (some ⟨bk22, 0, none⟩)), (4, .slice lp Ls.length lc), (16, .slice n.kp n.kids.length n.kc), (17, .int .i64 (n.kids.length : Int)), (18, .int .i64 (j : Int))]) (fun (x_ : (List AltD) × (Option Addr) × Nat × (Option Addr) × Nat × Nat) w => match x_ with | (Ls, po, co, lp, lc, j) => (j ≤ n.kids.length) ∧ (Ls.length = j) ∧ (altsOf Ls = (n.kids.take j).map altsT) ∧ St W w (imi (0 < n.kids.length) gA31 (.cells kA33 eA34 zA35) :: AltsA Ls :: Row 23 1 (.slice lp Ls.length lc) Ls.length (Ls.flatMap altCell) :: NodesA (outL n Ls) :: Row 25 5 (.slice po ((outL n Ls).length) co) ((outL n Ls).length) ((outL n Ls).flatMap nodeCell) :: blk bk22 (.cells #[.slice po ((outL n Ls).length) co] 23 (0, 0)) :: blk bk5 (.cells #[.int .i64 n.kind.v, .string n.var.v, .string n.typ.v, .slice n.tp n.tests.length n.tc, .slice n.kp n.kids.length n.kc] 25 (0, 0)) :: NodeA n :: Im 5 (.slice n.kp n.kids.length n.kc) n.kids.length (n.kids.flatMap nodeCell) :: NodesA n.kids :: F)) (fun (x_ : (List AltD) × (Option Addr) × Nat × (Option Addr) × Nat × Nat) => match x_ with | (Ls, po, co, lp, lc, j) => n.kids.length - j) ([], none, 0, none, 0, 0) ?_ ?_ ?_
    · exact ⟨by first | rfl | exact vint (by omega), by first | rfl | exact vint (by omega), by first | rfl | exact vint (by omega), by first | rfl | exact vint (by omega), by first | rfl | exact vint (by omega), by first | rfl | exact vint (by omega), by first | rfl | exact vint (by omega), trivial⟩
    · exact ⟨(by omega), rfl, rfl, H43⟩
    · rintro ⟨Ls, po, co, lp, lc, j⟩ ρ44 w45 ⟨hj, hLl, hL, H46⟩ nx47
      change Ends _ _ (upds ρ44 [(1, .pointer (some ⟨bk5, 0, none⟩)), (2, .slice none 0 0), (3, .pointer (some ⟨bk22, 0, none⟩)), (4, .slice lp Ls.length lc), (16, .slice n.kp n.kids.length n.kc), (17, .int .i64 (n.kids.length : Int)), (18, .int .i64 (j : Int))]) w45
      refine g_seq ?_
      refine g_region ?_
      by_cases hc48 : (j : Int) < (n.kids.length : Int)
      · skip
        refine r_cons (s_lss true rfl rfl (dtrue hc48) rfl ?_)
        refine r_nil ?_
        refine g_seq ?_
        refine g_true rfl ?_
        refine g_skip ?_
        refine g_seq ?_
        refine g_block ?_
        refine g_seq ?_
        refine g_region ?_
        refine r_cons (s_indexAddr gA31 (off := oA32) (j : Int) 5 (oA32 + j * 5) (by exact congrArg (fun z_ => Value.slice z_ n.kids.length n.kc) (hp37 (by omega))) rfl el_23 (by omega) rfl rfl ?_)
        refine r_cons (s_loadAgg [.int .i64 ((n.kids.getD j default).kind.v), .string ((n.kids.getD j default).var.v), .string ((n.kids.getD j default).typ.v), .slice ((n.kids.getD j default).tp) ((n.kids.getD j default).tests.length) ((n.kids.getD j default).tc), .slice ((n.kids.getD j default).kp) ((n.kids.getD j default).kids.length) ((n.kids.getD j default).kc)] 5 ag_25 rfl (H46.imi_at (i := 0) rfl (by omega)) (by have := elem_size (i := j) (s := 5) (hs39 (by omega)) (by omega); omega) (elem_take nodeCell_len (hx38 (by omega)) (by omega) default) rfl ?_)
        refine r_cons (s_alloc H46 25 ze_25 rfl ?_); intro bk49 w50 H51
        refine r_cons (s_storeAgg H51 0 #[.int .i64 ((n.kids.getD j default).kind.v), .string ((n.kids.getD j default).var.v), .string ((n.kids.getD j default).typ.v), .slice ((n.kids.getD j default).tp) ((n.kids.getD j default).tests.length) ((n.kids.getD j default).tc), .slice ((n.kids.getD j default).kp) ((n.kids.getD j default).kids.length) ((n.kids.getD j default).kc)] 5 rfl rfl rfl sz_25 rfl (by simp [Value.oneCell']) (Nat.le_of_ble_eq_true rfl) (fun o h1 h2 => by first | (simp; done) | (simp; omega)) (cs' := #[.int .i64 ((n.kids.getD j default).kind.v), .string ((n.kids.getD j default).var.v), .string ((n.kids.getD j default).typ.v), .slice ((n.kids.getD j default).tp) ((n.kids.getD j default).tests.length) ((n.kids.getD j default).tc), .slice ((n.kids.getD j default).kp) ((n.kids.getD j default).kids.length) ((n.kids.getD j default).kc)]) rfl ?_); intro w52 H53
        refine r_nil ?_
        refine g_seq ?_
        refine g_region ?_
        refine r_cons (s_loadAgg [.int .i64 ((n.kids.getD j default).kind.v), .string ((n.kids.getD j default).var.v), .string ((n.kids.getD j default).typ.v), .slice ((n.kids.getD j default).tp) ((n.kids.getD j default).tests.length) ((n.kids.getD j default).tc), .slice ((n.kids.getD j default).kp) ((n.kids.getD j default).kids.length) ((n.kids.getD j default).kc)] 5 ag_25 rfl (H53.blk_at (i := 0) rfl) (Nat.le_of_ble_eq_true rfl) rfl rfl ?_)
        have H54 := NodesA.at H53 (i := 10) rfl (j := j) (by omega)
        refine r_cons (s_call [.agg #[.int .i64 ((n.kids.getD j default).kind.v), .string ((n.kids.getD j default).var.v), .string ((n.kids.getD j default).typ.v), .slice ((n.kids.getD j default).tp) ((n.kids.getD j default).tests.length) ((n.kids.getD j default).tc), .slice ((n.kids.getD j default).kp) ((n.kids.getD j default).kids.length) ((n.kids.getD j default).kc)]] pl_54 rfl rfl (ih (n.kids.getD j default) (by have h9 := kid_lt (n := n) (j := j) (by omega); omega) (i := 0) rfl (by have h9 := sizeN_kid (n := n) (j := j) (by omega); omega) (Nat.le_trans (altsT_kid (getD_mem' (by omega))) ha) H54) ?_)
        rintro _ w59 ⟨pp55, cc56, R57, rfl, hR58, H60⟩
        have H61 : St W w59 (Im 5 (.slice pp55 R57.length cc56) R57.length (R57.flatMap nodeCell) :: NodesA R57 :: NodeA (n.kids.getD j default) :: blk bk49 (.cells #[.int .i64 ((n.kids.getD j default).kind.v), .string ((n.kids.getD j default).var.v), .string ((n.kids.getD j default).typ.v), .slice ((n.kids.getD j default).tp) ((n.kids.getD j default).tests.length) ((n.kids.getD j default).tc), .slice ((n.kids.getD j default).kp) ((n.kids.getD j default).kids.length) ((n.kids.getD j default).kc)] 25 (0, 0)) :: imi (0 < n.kids.length) gA31 (.cells kA33 eA34 zA35) :: AltsA Ls :: Row 23 1 (.slice lp Ls.length lc) Ls.length (Ls.flatMap altCell) :: NodesA (outL n Ls) :: Row 25 5 (.slice po ((outL n Ls).length) co) ((outL n Ls).length) ((outL n Ls).flatMap nodeCell) :: blk bk22 (.cells #[.slice po ((outL n Ls).length) co] 23 (0, 0)) :: blk bk5 (.cells #[.int .i64 n.kind.v, .string n.var.v, .string n.typ.v, .slice n.tp n.tests.length n.tc, .slice n.kp n.kids.length n.kc] 25 (0, 0)) :: NodeA n :: Im 5 (.slice n.kp n.kids.length n.kc) n.kids.length (n.kids.flatMap nodeCell) :: NodesA n.kids :: F) := Row.im H60 (i := 0) rfl
        refine r_cons (s_assign (.slice pp55 R57.length cc56) rfl rfl ?_)
        refine r_nil ?_
        refine g_seq ?_
        refine g_seq ?_
        refine g_region ?_
        refine r_cons (s_fieldAddr 25 0 0 0 3 rfl fi_25_0 rfl rfl ?_)
        refine r_cons (s_load (.int .i64 n.kind.v) ag_3 rfl (H61.blk_at (i := 10) rfl) rfl rfl ?_)
        by_cases hc62 : n.kind.v = 4
        · skip
          refine r_cons (s_eql true rfl rfl (dtrue hc62) rfl ?_)
          refine r_nil ?_
          refine g_true rfl ?_
          refine g_region ?_
          refine r_cons (s_load (.slice po ((outL n Ls).length) co) ag_23 rfl (H61.blk_at (i := 9) rfl) rfl rfl ?_)
          have hrm9 := alts_room hL
          refine r_cons (s_move (.slice pp55 R57.length cc56) rfl rfl ?_)
          have hrx9 := alts_room (alts_snoc (a := (⟨pp55, cc56, R57⟩ : AltD)) hL (by omega) hR58)
          rw [outL_in hc62, List.length_append] at hrx9
          change _ + R57.length ≤ _ at hrx9
          refine r_cons (s_append H61 8 rfl rfl rfl (Im.rd H61 (i := 0) rfl) ap_23 (by decide) (by unfold maxLen; omega) (by omega) (n' := (outL n Ls).length + R57.length) (xs' := (outL n Ls).flatMap nodeCell ++ R57.flatMap nodeCell) (by omega) (by first | rfl | simp) rfl ?_); intro vv63 w64 H65 hn66
          obtain ⟨pp67, cc68, rfl⟩ := Row.slice H65 (i := 8) rfl
          refine r_cons (s_store H65 9 (.slice pp67 ((outL n Ls).length + R57.length) cc68) rfl rfl rfl sz_23 rfl (Nat.le_of_ble_eq_true rfl) rfl (cs' := #[.slice pp67 ((outL n Ls).length + R57.length) cc68]) rfl ?_); intro w69 H70
          refine r_nil ?_
          refine g_region ?_
          refine r_cons (s_move (.slice lp Ls.length lc) rfl rfl ?_)
          refine r_cons (s_move (.slice pp55 R57.length cc56) rfl rfl ?_)
          refine r_cons (s_buildSlice H70 1 1 (cs := #[.slice pp55 R57.length cc56]) #[.slice none 0 0] el_86 ze_23 (by decide) (by decide) (by kernel_rfl) rfl ?_); intro bk71 w72 H73
          refine r_cons (s_append H73 7 rfl rfl rfl (rd_blk (H73.blk_at (i := 0) rfl) rfl (Nat.le_of_ble_eq_true rfl) (by simp [Value.oneCell'])) ap_86 (by decide) (by unfold maxLen; omega) (by omega) (n' := Ls.length + 1) (xs' := Ls.flatMap altCell ++ ([.slice pp55 R57.length cc56] : List Value)) (by omega) (by first | rfl | simp) rfl ?_); intro vv74 w75 H76 hn77
          obtain ⟨pp78, cc79, rfl⟩ := Row.slice H76 (i := 7) rfl
          refine r_cons (s_assign (.slice pp78 (Ls.length + 1) cc79) rfl rfl ?_)
          refine r_nil ?_
          refine g_inBlock ?_
          refine g_region ?_
          refine r_cons (s_add ((j : Int) + 1) rfl rfl (wi64 (by omega)) rfl ?_)
          refine r_cons (s_move (.int .i64 ((j : Int) + 1)) rfl rfl ?_)
          refine r_nil ?_
          have hl81 : (Ls ++ [(⟨pp55, cc56, R57⟩ : AltD)]).length = Ls.length + 1 := by simp
          have H82 : St W w75 (blk bk71 (.cells #[.slice pp55 R57.length cc56] 23 (0, 0)) :: Im 5 (.slice pp55 R57.length cc56) R57.length (R57.flatMap nodeCell) :: NodesA R57 :: NodeA (n.kids.getD j default) :: blk bk49 (.cells #[.int .i64 ((n.kids.getD j default).kind.v), .string ((n.kids.getD j default).var.v), .string ((n.kids.getD j default).typ.v), .slice ((n.kids.getD j default).tp) ((n.kids.getD j default).tests.length) ((n.kids.getD j default).tc), .slice ((n.kids.getD j default).kp) ((n.kids.getD j default).kids.length) ((n.kids.getD j default).kc)] 25 (0, 0)) :: imi (0 < n.kids.length) gA31 (.cells kA33 eA34 zA35) :: AltsA Ls :: Row 23 1 (.slice pp78 ((Ls ++ [(⟨pp55, cc56, R57⟩ : AltD)]).length) cc79) ((Ls ++ [(⟨pp55, cc56, R57⟩ : AltD)]).length) ((Ls ++ [(⟨pp55, cc56, R57⟩ : AltD)]).flatMap altCell) :: NodesA (outL n Ls) :: Row 25 5 (.slice pp67 ((outL n Ls).length + R57.length) cc68) ((outL n Ls).length + R57.length) ((outL n Ls).flatMap nodeCell ++ R57.flatMap nodeCell) :: blk bk22 (.cells #[.slice pp67 ((outL n Ls).length + R57.length) cc68] 23 (0, 0)) :: blk bk5 (.cells #[.int .i64 n.kind.v, .string n.var.v, .string n.typ.v, .slice n.tp n.tests.length n.tc, .slice n.kp n.kids.length n.kc] 25 (0, 0)) :: NodeA n :: Im 5 (.slice n.kp n.kids.length n.kc) n.kids.length (n.kids.flatMap nodeCell) :: NodesA n.kids :: F) := by rw [hl81, List.flatMap_append]; first | exact H76 | simpa using H76
          have ho80 : (outL n (Ls ++ [(⟨pp55, cc56, R57⟩ : AltD)])) = (outL n Ls) ++ R57 := outL_in hc62
          have H83 : St W w75 (NodesA ((outL n Ls) ++ R57) :: blk bk71 (.cells #[.slice pp55 R57.length cc56] 23 (0, 0)) :: Im 5 (.slice pp55 R57.length cc56) R57.length (R57.flatMap nodeCell) :: NodesA R57 :: NodeA (n.kids.getD j default) :: blk bk49 (.cells #[.int .i64 ((n.kids.getD j default).kind.v), .string ((n.kids.getD j default).var.v), .string ((n.kids.getD j default).typ.v), .slice ((n.kids.getD j default).tp) ((n.kids.getD j default).tests.length) ((n.kids.getD j default).tc), .slice ((n.kids.getD j default).kp) ((n.kids.getD j default).kids.length) ((n.kids.getD j default).kc)] 25 (0, 0)) :: imi (0 < n.kids.length) gA31 (.cells kA33 eA34 zA35) :: AltsA Ls :: Row 23 1 (.slice pp78 ((Ls ++ [(⟨pp55, cc56, R57⟩ : AltD)]).length) cc79) ((Ls ++ [(⟨pp55, cc56, R57⟩ : AltD)]).length) ((Ls ++ [(⟨pp55, cc56, R57⟩ : AltD)]).flatMap altCell) :: NodesA (outL n Ls) :: Row 25 5 (.slice pp67 ((outL n Ls).length + R57.length) cc68) ((outL n Ls).length + R57.length) ((outL n Ls).flatMap nodeCell ++ R57.flatMap nodeCell) :: blk bk22 (.cells #[.slice pp67 ((outL n Ls).length + R57.length) cc68] 23 (0, 0)) :: blk bk5 (.cells #[.int .i64 n.kind.v, .string n.var.v, .string n.typ.v, .slice n.tp n.tests.length n.tc, .slice n.kp n.kids.length n.kc] 25 (0, 0)) :: NodeA n :: Im 5 (.slice n.kp n.kids.length n.kc) n.kids.length (n.kids.flatMap nodeCell) :: NodesA n.kids :: F) := NodesA.app H82 (a := 8) (b := 2) rfl rfl
          have H84 : St W w75 (NodesA (outL n (Ls ++ [(⟨pp55, cc56, R57⟩ : AltD)])) :: blk bk71 (.cells #[.slice pp55 R57.length cc56] 23 (0, 0)) :: Im 5 (.slice pp55 R57.length cc56) R57.length (R57.flatMap nodeCell) :: NodesA R57 :: NodeA (n.kids.getD j default) :: blk bk49 (.cells #[.int .i64 ((n.kids.getD j default).kind.v), .string ((n.kids.getD j default).var.v), .string ((n.kids.getD j default).typ.v), .slice ((n.kids.getD j default).tp) ((n.kids.getD j default).tests.length) ((n.kids.getD j default).tc), .slice ((n.kids.getD j default).kp) ((n.kids.getD j default).kids.length) ((n.kids.getD j default).kc)] 25 (0, 0)) :: imi (0 < n.kids.length) gA31 (.cells kA33 eA34 zA35) :: AltsA Ls :: Row 23 1 (.slice pp78 ((Ls ++ [(⟨pp55, cc56, R57⟩ : AltD)]).length) cc79) ((Ls ++ [(⟨pp55, cc56, R57⟩ : AltD)]).length) ((Ls ++ [(⟨pp55, cc56, R57⟩ : AltD)]).flatMap altCell) :: NodesA (outL n Ls) :: Row 25 5 (.slice pp67 ((outL n (Ls ++ [(⟨pp55, cc56, R57⟩ : AltD)])).length) cc68) ((outL n (Ls ++ [(⟨pp55, cc56, R57⟩ : AltD)])).length) ((outL n (Ls ++ [(⟨pp55, cc56, R57⟩ : AltD)])).flatMap nodeCell) :: blk bk22 (.cells #[.slice pp67 ((outL n (Ls ++ [(⟨pp55, cc56, R57⟩ : AltD)])).length) cc68] 23 (0, 0)) :: blk bk5 (.cells #[.int .i64 n.kind.v, .string n.var.v, .string n.typ.v, .slice n.tp n.tests.length n.tc, .slice n.kp n.kids.length n.kc] 25 (0, 0)) :: NodeA n :: Im 5 (.slice n.kp n.kids.length n.kc) n.kids.length (n.kids.flatMap nodeCell) :: NodesA n.kids :: F) := by rw [ho80, (List.length_append : ((outL n Ls) ++ R57).length = _), (List.flatMap_append : ((outL n Ls) ++ R57).flatMap nodeCell = _)]; exact H83
          have H85 : St W w75 (AltsA (Ls ++ [(⟨pp55, cc56, R57⟩ : AltD)]) :: NodesA (outL n (Ls ++ [(⟨pp55, cc56, R57⟩ : AltD)])) :: blk bk71 (.cells #[.slice pp55 R57.length cc56] 23 (0, 0)) :: Im 5 (.slice pp55 R57.length cc56) R57.length (R57.flatMap nodeCell) :: NodesA R57 :: NodeA (n.kids.getD j default) :: blk bk49 (.cells #[.int .i64 ((n.kids.getD j default).kind.v), .string ((n.kids.getD j default).var.v), .string ((n.kids.getD j default).typ.v), .slice ((n.kids.getD j default).tp) ((n.kids.getD j default).tests.length) ((n.kids.getD j default).tc), .slice ((n.kids.getD j default).kp) ((n.kids.getD j default).kids.length) ((n.kids.getD j default).kc)] 25 (0, 0)) :: imi (0 < n.kids.length) gA31 (.cells kA33 eA34 zA35) :: AltsA Ls :: Row 23 1 (.slice pp78 ((Ls ++ [(⟨pp55, cc56, R57⟩ : AltD)]).length) cc79) ((Ls ++ [(⟨pp55, cc56, R57⟩ : AltD)]).length) ((Ls ++ [(⟨pp55, cc56, R57⟩ : AltD)]).flatMap altCell) :: NodesA (outL n Ls) :: Row 25 5 (.slice pp67 ((outL n (Ls ++ [(⟨pp55, cc56, R57⟩ : AltD)])).length) cc68) ((outL n (Ls ++ [(⟨pp55, cc56, R57⟩ : AltD)])).length) ((outL n (Ls ++ [(⟨pp55, cc56, R57⟩ : AltD)])).flatMap nodeCell) :: blk bk22 (.cells #[.slice pp67 ((outL n (Ls ++ [(⟨pp55, cc56, R57⟩ : AltD)])).length) cc68] 23 (0, 0)) :: blk bk5 (.cells #[.int .i64 n.kind.v, .string n.var.v, .string n.typ.v, .slice n.tp n.tests.length n.tc, .slice n.kp n.kids.length n.kc] 25 (0, 0)) :: NodeA n :: Im 5 (.slice n.kp n.kids.length n.kc) n.kids.length (n.kids.flatMap nodeCell) :: NodesA n.kids :: F) := AltsA.snoc H84 (i := 7) (j := 2) (k := 3) (a := (⟨pp55, cc56, R57⟩ : AltD)) rfl rfl rfl
          have H86 : St W w75 (imi (0 < n.kids.length) gA31 (.cells kA33 eA34 zA35) :: AltsA (Ls ++ [(⟨pp55, cc56, R57⟩ : AltD)]) :: Row 23 1 (.slice pp78 ((Ls ++ [(⟨pp55, cc56, R57⟩ : AltD)]).length) cc79) ((Ls ++ [(⟨pp55, cc56, R57⟩ : AltD)]).length) ((Ls ++ [(⟨pp55, cc56, R57⟩ : AltD)]).flatMap altCell) :: NodesA (outL n (Ls ++ [(⟨pp55, cc56, R57⟩ : AltD)])) :: Row 25 5 (.slice pp67 ((outL n (Ls ++ [(⟨pp55, cc56, R57⟩ : AltD)])).length) cc68) ((outL n (Ls ++ [(⟨pp55, cc56, R57⟩ : AltD)])).length) ((outL n (Ls ++ [(⟨pp55, cc56, R57⟩ : AltD)])).flatMap nodeCell) :: blk bk22 (.cells #[.slice pp67 ((outL n (Ls ++ [(⟨pp55, cc56, R57⟩ : AltD)])).length) cc68] 23 (0, 0)) :: blk bk5 (.cells #[.int .i64 n.kind.v, .string n.var.v, .string n.typ.v, .slice n.tp n.tests.length n.tc, .slice n.kp n.kids.length n.kc] 25 (0, 0)) :: NodeA n :: Im 5 (.slice n.kp n.kids.length n.kc) n.kids.length (n.kids.flatMap nodeCell) :: NodesA n.kids :: F) := (((((((((((((((((H85.move 16 rfl).move 16 rfl).move 16 rfl).move 16 rfl).move 16 rfl).move 16 rfl).move 7 rfl).move 15 rfl).move 8 rfl).move 14 rfl).drop 10 rfl).drop 10 rfl).drop 10 rfl).drop 10 rfl).drop 10 rfl).drop 10 rfl).drop 10 rfl)
          exact nx47 ((Ls ++ [(⟨pp55, cc56, R57⟩ : AltD)]), pp67, cc68, pp78, cc79, j + 1) _ _ ⟨(by omega), (by rw [List.length_append, hLl]; rfl), (alts_snoc hL (by omega) hR58), H86⟩ (by first | (dsimp only; omega) | omega) ⟨by first | rfl | exact vint (by omega), by first | rfl | exact vint (by omega), by first | rfl | exact vint (by omega), (show (.slice pp78 (Ls.length + 1) cc79 : Value) = .slice pp78 ((Ls ++ [(⟨pp55, cc56, R57⟩ : AltD)]).length) cc79 from by rw [hl81]), by first | rfl | exact vint (by omega), by first | rfl | exact vint (by omega), by first | rfl | exact vint (by omega), trivial⟩
        · skip
          refine r_cons (s_eql false rfl rfl (dfalse hc62) rfl ?_)
          refine r_nil ?_
          refine g_false rfl ?_
          refine g_skip ?_
          refine g_region ?_
          refine r_cons (s_move (.slice lp Ls.length lc) rfl rfl ?_)
          refine r_cons (s_move (.slice pp55 R57.length cc56) rfl rfl ?_)
          refine r_cons (s_buildSlice H61 1 1 (cs := #[.slice pp55 R57.length cc56]) #[.slice none 0 0] el_86 ze_23 (by decide) (by decide) (by kernel_rfl) rfl ?_); intro bk87 w88 H89
          refine r_cons (s_append H89 7 rfl rfl rfl (rd_blk (H89.blk_at (i := 0) rfl) rfl (Nat.le_of_ble_eq_true rfl) (by simp [Value.oneCell'])) ap_86 (by decide) (by unfold maxLen; omega) (by omega) (n' := Ls.length + 1) (xs' := Ls.flatMap altCell ++ ([.slice pp55 R57.length cc56] : List Value)) (by omega) (by first | rfl | simp) rfl ?_); intro vv90 w91 H92 hn93
          obtain ⟨pp94, cc95, rfl⟩ := Row.slice H92 (i := 7) rfl
          refine r_cons (s_assign (.slice pp94 (Ls.length + 1) cc95) rfl rfl ?_)
          refine r_nil ?_
          refine g_inBlock ?_
          refine g_region ?_
          refine r_cons (s_add ((j : Int) + 1) rfl rfl (wi64 (by omega)) rfl ?_)
          refine r_cons (s_move (.int .i64 ((j : Int) + 1)) rfl rfl ?_)
          refine r_nil ?_
          have hl97 : (Ls ++ [(⟨pp55, cc56, R57⟩ : AltD)]).length = Ls.length + 1 := by simp
          have H98 : St W w91 (blk bk87 (.cells #[.slice pp55 R57.length cc56] 23 (0, 0)) :: Im 5 (.slice pp55 R57.length cc56) R57.length (R57.flatMap nodeCell) :: NodesA R57 :: NodeA (n.kids.getD j default) :: blk bk49 (.cells #[.int .i64 ((n.kids.getD j default).kind.v), .string ((n.kids.getD j default).var.v), .string ((n.kids.getD j default).typ.v), .slice ((n.kids.getD j default).tp) ((n.kids.getD j default).tests.length) ((n.kids.getD j default).tc), .slice ((n.kids.getD j default).kp) ((n.kids.getD j default).kids.length) ((n.kids.getD j default).kc)] 25 (0, 0)) :: imi (0 < n.kids.length) gA31 (.cells kA33 eA34 zA35) :: AltsA Ls :: Row 23 1 (.slice pp94 ((Ls ++ [(⟨pp55, cc56, R57⟩ : AltD)]).length) cc95) ((Ls ++ [(⟨pp55, cc56, R57⟩ : AltD)]).length) ((Ls ++ [(⟨pp55, cc56, R57⟩ : AltD)]).flatMap altCell) :: NodesA (outL n Ls) :: Row 25 5 (.slice po ((outL n Ls).length) co) ((outL n Ls).length) ((outL n Ls).flatMap nodeCell) :: blk bk22 (.cells #[.slice po ((outL n Ls).length) co] 23 (0, 0)) :: blk bk5 (.cells #[.int .i64 n.kind.v, .string n.var.v, .string n.typ.v, .slice n.tp n.tests.length n.tc, .slice n.kp n.kids.length n.kc] 25 (0, 0)) :: NodeA n :: Im 5 (.slice n.kp n.kids.length n.kc) n.kids.length (n.kids.flatMap nodeCell) :: NodesA n.kids :: F) := by rw [hl97, List.flatMap_append]; first | exact H92 | simpa using H92
          have ho96 : (outL n (Ls ++ [(⟨pp55, cc56, R57⟩ : AltD)])) = (outL n Ls) := (outL_out hc62).trans (outL_out hc62).symm
          have H99 : St W w91 (blk bk87 (.cells #[.slice pp55 R57.length cc56] 23 (0, 0)) :: Im 5 (.slice pp55 R57.length cc56) R57.length (R57.flatMap nodeCell) :: NodesA R57 :: NodeA (n.kids.getD j default) :: blk bk49 (.cells #[.int .i64 ((n.kids.getD j default).kind.v), .string ((n.kids.getD j default).var.v), .string ((n.kids.getD j default).typ.v), .slice ((n.kids.getD j default).tp) ((n.kids.getD j default).tests.length) ((n.kids.getD j default).tc), .slice ((n.kids.getD j default).kp) ((n.kids.getD j default).kids.length) ((n.kids.getD j default).kc)] 25 (0, 0)) :: imi (0 < n.kids.length) gA31 (.cells kA33 eA34 zA35) :: AltsA Ls :: Row 23 1 (.slice pp94 ((Ls ++ [(⟨pp55, cc56, R57⟩ : AltD)]).length) cc95) ((Ls ++ [(⟨pp55, cc56, R57⟩ : AltD)]).length) ((Ls ++ [(⟨pp55, cc56, R57⟩ : AltD)]).flatMap altCell) :: NodesA (outL n (Ls ++ [(⟨pp55, cc56, R57⟩ : AltD)])) :: Row 25 5 (.slice po ((outL n (Ls ++ [(⟨pp55, cc56, R57⟩ : AltD)])).length) co) ((outL n (Ls ++ [(⟨pp55, cc56, R57⟩ : AltD)])).length) ((outL n (Ls ++ [(⟨pp55, cc56, R57⟩ : AltD)])).flatMap nodeCell) :: blk bk22 (.cells #[.slice po ((outL n (Ls ++ [(⟨pp55, cc56, R57⟩ : AltD)])).length) co] 23 (0, 0)) :: blk bk5 (.cells #[.int .i64 n.kind.v, .string n.var.v, .string n.typ.v, .slice n.tp n.tests.length n.tc, .slice n.kp n.kids.length n.kc] 25 (0, 0)) :: NodeA n :: Im 5 (.slice n.kp n.kids.length n.kc) n.kids.length (n.kids.flatMap nodeCell) :: NodesA n.kids :: F) := by rw [ho96]; exact H98
          have H100 : St W w91 (AltsA (Ls ++ [(⟨pp55, cc56, R57⟩ : AltD)]) :: blk bk87 (.cells #[.slice pp55 R57.length cc56] 23 (0, 0)) :: Im 5 (.slice pp55 R57.length cc56) R57.length (R57.flatMap nodeCell) :: NodesA R57 :: NodeA (n.kids.getD j default) :: blk bk49 (.cells #[.int .i64 ((n.kids.getD j default).kind.v), .string ((n.kids.getD j default).var.v), .string ((n.kids.getD j default).typ.v), .slice ((n.kids.getD j default).tp) ((n.kids.getD j default).tests.length) ((n.kids.getD j default).tc), .slice ((n.kids.getD j default).kp) ((n.kids.getD j default).kids.length) ((n.kids.getD j default).kc)] 25 (0, 0)) :: imi (0 < n.kids.length) gA31 (.cells kA33 eA34 zA35) :: AltsA Ls :: Row 23 1 (.slice pp94 ((Ls ++ [(⟨pp55, cc56, R57⟩ : AltD)]).length) cc95) ((Ls ++ [(⟨pp55, cc56, R57⟩ : AltD)]).length) ((Ls ++ [(⟨pp55, cc56, R57⟩ : AltD)]).flatMap altCell) :: NodesA (outL n (Ls ++ [(⟨pp55, cc56, R57⟩ : AltD)])) :: Row 25 5 (.slice po ((outL n (Ls ++ [(⟨pp55, cc56, R57⟩ : AltD)])).length) co) ((outL n (Ls ++ [(⟨pp55, cc56, R57⟩ : AltD)])).length) ((outL n (Ls ++ [(⟨pp55, cc56, R57⟩ : AltD)])).flatMap nodeCell) :: blk bk22 (.cells #[.slice po ((outL n (Ls ++ [(⟨pp55, cc56, R57⟩ : AltD)])).length) co] 23 (0, 0)) :: blk bk5 (.cells #[.int .i64 n.kind.v, .string n.var.v, .string n.typ.v, .slice n.tp n.tests.length n.tc, .slice n.kp n.kids.length n.kc] 25 (0, 0)) :: NodeA n :: Im 5 (.slice n.kp n.kids.length n.kc) n.kids.length (n.kids.flatMap nodeCell) :: NodesA n.kids :: F) := AltsA.snoc H99 (i := 6) (j := 1) (k := 2) (a := (⟨pp55, cc56, R57⟩ : AltD)) rfl rfl rfl
          have H101 : St W w91 (imi (0 < n.kids.length) gA31 (.cells kA33 eA34 zA35) :: AltsA (Ls ++ [(⟨pp55, cc56, R57⟩ : AltD)]) :: Row 23 1 (.slice pp94 ((Ls ++ [(⟨pp55, cc56, R57⟩ : AltD)]).length) cc95) ((Ls ++ [(⟨pp55, cc56, R57⟩ : AltD)]).length) ((Ls ++ [(⟨pp55, cc56, R57⟩ : AltD)]).flatMap altCell) :: NodesA (outL n (Ls ++ [(⟨pp55, cc56, R57⟩ : AltD)])) :: Row 25 5 (.slice po ((outL n (Ls ++ [(⟨pp55, cc56, R57⟩ : AltD)])).length) co) ((outL n (Ls ++ [(⟨pp55, cc56, R57⟩ : AltD)])).length) ((outL n (Ls ++ [(⟨pp55, cc56, R57⟩ : AltD)])).flatMap nodeCell) :: blk bk22 (.cells #[.slice po ((outL n (Ls ++ [(⟨pp55, cc56, R57⟩ : AltD)])).length) co] 23 (0, 0)) :: blk bk5 (.cells #[.int .i64 n.kind.v, .string n.var.v, .string n.typ.v, .slice n.tp n.tests.length n.tc, .slice n.kp n.kids.length n.kc] 25 (0, 0)) :: NodeA n :: Im 5 (.slice n.kp n.kids.length n.kc) n.kids.length (n.kids.flatMap nodeCell) :: NodesA n.kids :: F) := ((((((((((((((((H100.move 15 rfl).move 15 rfl).move 15 rfl).move 15 rfl).move 15 rfl).move 15 rfl).move 15 rfl).move 15 rfl).move 8 rfl).move 14 rfl).drop 10 rfl).drop 10 rfl).drop 10 rfl).drop 10 rfl).drop 10 rfl).drop 10 rfl)
          exact nx47 ((Ls ++ [(⟨pp55, cc56, R57⟩ : AltD)]), po, co, pp94, cc95, j + 1) _ _ ⟨(by omega), (by rw [List.length_append, hLl]; rfl), (alts_snoc hL (by omega) hR58), H101⟩ (by first | (dsimp only; omega) | omega) ⟨by first | rfl | exact vint (by omega), by first | rfl | exact vint (by omega), by first | rfl | exact vint (by omega), (show (.slice pp94 (Ls.length + 1) cc95 : Value) = .slice pp94 ((Ls ++ [(⟨pp55, cc56, R57⟩ : AltD)]).length) cc95 from by rw [hl97]), by first | rfl | exact vint (by omega), by first | rfl | exact vint (by omega), by first | rfl | exact vint (by omega), trivial⟩
      · skip
        refine r_cons (s_lss false rfl rfl (dfalse hc48) rfl ?_)
        refine r_nil ?_
        refine g_seq ?_
        refine g_false rfl ?_
        refine g_exit (by rfl) ?_
        refine g_seq ?_
        refine g_seq ?_
        refine g_region ?_
        refine r_cons (s_fieldAddr 25 0 0 0 3 rfl fi_25_0 rfl rfl ?_)
        refine r_cons (s_load (.int .i64 n.kind.v) ag_3 rfl (H46.blk_at (i := 6) rfl) rfl rfl ?_)
        by_cases hc102 : n.kind.v = 4
        · skip
          refine r_cons (s_eql true rfl rfl (dtrue hc102) rfl ?_)
          refine r_nil ?_
          refine g_true rfl ?_
          refine g_seq ?_
          refine g_region ?_
          refine r_cons (s_load (.slice po ((outL n Ls).length) co) ag_23 rfl (H46.blk_at (i := 5) rfl) rfl rfl ?_)
          refine r_cons (s_assign (.slice po ((outL n Ls).length) co) rfl rfl ?_)
          refine r_nil ?_
          refine g_ret' [.slice po ((outL n Ls).length) co] Try.func54 Try.results54 ⟨rfl, trivial⟩ ?_
          have H103 : St W w45 (Row 25 5 (.slice po ((outL n Ls).length) co) ((outL n Ls).length) ((outL n Ls).flatMap nodeCell) :: NodesA (outL n Ls) :: F) := ((((((((((H46.move 3 rfl).move 4 rfl).drop 2 rfl).drop 2 rfl).drop 2 rfl).drop 2 rfl).drop 2 rfl).drop 2 rfl).drop 2 rfl).drop 2 rfl)
          exact ⟨po, co, outL n Ls, rfl, alts_or hL (by omega) (by omega) hc102, H103⟩
        · skip
          refine r_cons (s_eql false rfl rfl (dfalse hc102) rfl ?_)
          refine r_nil ?_
          refine g_false rfl ?_
          refine g_skip ?_
          refine g_seq ?_
          refine g_region ?_
          refine r_cons (s_move (.slice lp Ls.length lc) rfl rfl ?_)
          refine r_cons (s_makeFunc (.func (.func 72) #[] #[.pointer (some ⟨bk22, 0, none⟩), .pointer (some ⟨bk5, 0, none⟩)]) rfl rfl ?_)
          have ho104 : outL n Ls = [] := outL_out hc102
          have H105 : St W w45 (imi (0 < n.kids.length) gA31 (.cells kA33 eA34 zA35) :: AltsA Ls :: Row 23 1 (.slice lp Ls.length lc) Ls.length (Ls.flatMap altCell) :: NodesA ([] : List NodeD) :: Row 25 5 (.slice po (([] : List NodeD).length) co) (([] : List NodeD).length) (([] : List NodeD).flatMap nodeCell) :: blk bk22 (.cells #[.slice po (([] : List NodeD).length) co] 23 (0, 0)) :: blk bk5 (.cells #[.int .i64 n.kind.v, .string n.var.v, .string n.typ.v, .slice n.tp n.tests.length n.tc, .slice n.kp n.kids.length n.kc] 25 (0, 0)) :: NodeA n :: Im 5 (.slice n.kp n.kids.length n.kc) n.kids.length (n.kids.flatMap nodeCell) :: NodesA n.kids :: F) := by rw [ho104] at H46; exact H46
          have H106 : St W w45 (Im 5 (.slice none 0 0) (([] : List NodeD).length) (([] : List NodeD).flatMap nodeCell) :: imi (0 < n.kids.length) gA31 (.cells kA33 eA34 zA35) :: AltsA Ls :: Row 23 1 (.slice lp Ls.length lc) Ls.length (Ls.flatMap altCell) :: NodesA ([] : List NodeD) :: Row 25 5 (.slice po (([] : List NodeD).length) co) (([] : List NodeD).length) (([] : List NodeD).flatMap nodeCell) :: blk bk22 (.cells #[.slice po (([] : List NodeD).length) co] 23 (0, 0)) :: blk bk5 (.cells #[.int .i64 n.kind.v, .string n.var.v, .string n.typ.v, .slice n.tp n.tests.length n.tc, .slice n.kp n.kids.length n.kc] 25 (0, 0)) :: NodeA n :: Im 5 (.slice n.kp n.kids.length n.kc) n.kids.length (n.kids.flatMap nodeCell) :: NodesA n.kids :: F) := Row.im (Row.nil_intro H105 25 5) (i := 0) rfl
          have H107 : St W w45 (NodesA [] :: Im 5 (.slice none 0 0) (([] : List NodeD).length) (([] : List NodeD).flatMap nodeCell) :: imi (0 < n.kids.length) gA31 (.cells kA33 eA34 zA35) :: AltsA Ls :: Row 23 1 (.slice lp Ls.length lc) Ls.length (Ls.flatMap altCell) :: NodesA ([] : List NodeD) :: Row 25 5 (.slice po (([] : List NodeD).length) co) (([] : List NodeD).length) (([] : List NodeD).flatMap nodeCell) :: blk bk22 (.cells #[.slice po (([] : List NodeD).length) co] 23 (0, 0)) :: blk bk5 (.cells #[.int .i64 n.kind.v, .string n.var.v, .string n.typ.v, .slice n.tp n.tests.length n.tc, .slice n.kp n.kids.length n.kc] 25 (0, 0)) :: NodeA n :: Im 5 (.slice n.kp n.kids.length n.kc) n.kids.length (n.kids.flatMap nodeCell) :: NodesA n.kids :: F) := NodesA.nil H106
          have H108 : St W w45 (NodesA [] :: Im 5 (.slice none 0 0) (([] : List NodeD).length) (([] : List NodeD).flatMap nodeCell) :: imi (0 < n.kids.length) gA31 (.cells kA33 eA34 zA35) :: AltsA Ls :: Im 1 (.slice lp Ls.length lc) Ls.length (Ls.flatMap altCell) :: NodesA ([] : List NodeD) :: Row 25 5 (.slice po (([] : List NodeD).length) co) (([] : List NodeD).length) (([] : List NodeD).flatMap nodeCell) :: blk bk22 (.cells #[.slice po (([] : List NodeD).length) co] 23 (0, 0)) :: blk bk5 (.cells #[.int .i64 n.kind.v, .string n.var.v, .string n.typ.v, .slice n.tp n.tests.length n.tc, .slice n.kp n.kids.length n.kc] 25 (0, 0)) :: NodeA n :: Im 5 (.slice n.kp n.kids.length n.kc) n.kids.length (n.kids.flatMap nodeCell) :: NodesA n.kids :: F) := Row.im H107 (i := 4) rfl
          have H109 : St W w45 (blk bk22 (.cells #[.slice po (([] : List NodeD).length) co] 23 (0, 0)) :: blk bk5 (.cells #[.int .i64 n.kind.v, .string n.var.v, .string n.typ.v, .slice n.tp n.tests.length n.tc, .slice n.kp n.kids.length n.kc] 25 (0, 0)) :: Row 25 5 (.slice po (([] : List NodeD).length) co) (([] : List NodeD).length) (([] : List NodeD).flatMap nodeCell) :: NodesA ([] : List NodeD) :: NodesA [] :: Im 5 (.slice none 0 0) (([] : List NodeD).length) (([] : List NodeD).flatMap nodeCell) :: imi (0 < n.kids.length) gA31 (.cells kA33 eA34 zA35) :: AltsA Ls :: Im 1 (.slice lp Ls.length lc) Ls.length (Ls.flatMap altCell) :: NodeA n :: Im 5 (.slice n.kp n.kids.length n.kc) n.kids.length (n.kids.flatMap nodeCell) :: NodesA n.kids :: F) := ((((H108.move 5 rfl).move 6 rfl).move 8 rfl).move 8 rfl)
          refine r_cons (s_call [.slice lp Ls.length lc, .slice none 0 0, .func (.func 72) #[] #[.pointer (some ⟨bk22, 0, none⟩), .pointer (some ⟨bk5, 0, none⟩)]] pl_71 rfl rfl (normal_ways n Ls [] [] (.slice lp Ls.length lc) none po 0 co bk22 bk5 (i := 5) rfl (m := 4) rfl (q := 3) rfl (k := 1) rfl (l := 0) rfl (show 0 + Ls.length ≤ _ by have h9 := kids_len n; omega) (show 0 + _ ≤ _ by rw [alts_comb hL (by omega) (by omega) hc102]; omega) H109) ?_)
          rintro _ w114 ⟨rfl, pp110, cc111, R112, hR113, H115⟩
          refine r_nil ?_
          refine g_seq ?_
          refine g_region ?_
          refine r_cons (s_load (.slice pp110 ((([] : List NodeD) ++ R112).length) cc111) ag_23 rfl (H115.blk_at (i := 0) rfl) rfl rfl ?_)
          refine r_cons (s_assign (.slice pp110 ((([] : List NodeD) ++ R112).length) cc111) rfl rfl ?_)
          refine r_nil ?_
          refine g_ret' [.slice pp110 ((([] : List NodeD) ++ R112).length) cc111] Try.func54 Try.results54 ⟨rfl, trivial⟩ ?_
          have H116 : St W w114 (Row 25 5 (.slice pp110 ((([] : List NodeD) ++ R112).length) cc111) ((([] : List NodeD) ++ R112).length) ((([] : List NodeD) ++ R112).flatMap nodeCell) :: NodesA (([] : List NodeD) ++ R112) :: imi (0 < n.kids.length) gA31 (.cells kA33 eA34 zA35) :: AltsA Ls :: Im 1 (.slice lp Ls.length lc) Ls.length (Ls.flatMap altCell) :: NodeA n :: Im 5 (.slice n.kp n.kids.length n.kc) n.kids.length (n.kids.flatMap nodeCell) :: NodesA n.kids :: F) := ((((((H115.move 3 rfl).move 3 rfl).drop 2 rfl).drop 2 rfl).drop 2 rfl).drop 2 rfl)
          have H117 : St W w114 (Row 25 5 (.slice pp110 ((([] : List NodeD) ++ R112).length) cc111) ((([] : List NodeD) ++ R112).length) ((([] : List NodeD) ++ R112).flatMap nodeCell) :: NodesA (([] : List NodeD) ++ R112) :: Im 5 (.slice n.kp n.kids.length n.kc) n.kids.length (n.kids.flatMap nodeCell) :: NodesA n.kids :: F) := ((((H116.drop 2 rfl).drop 2 rfl).drop 2 rfl).drop 2 rfl)
          have H118 : St W w114 (Row 25 5 (.slice pp110 ((([] : List NodeD) ++ R112).length) cc111) ((([] : List NodeD) ++ R112).length) ((([] : List NodeD) ++ R112).flatMap nodeCell) :: NodesA (([] : List NodeD) ++ R112) :: F) := ((H117.drop 2 rfl).drop 2 rfl)
          exact ⟨pp110, cc111, R112, rfl, hR113.trans (alts_and hL (by omega) (by omega) hc102), H118⟩
theorem normal_alts {W w : World} {F : List Atom} (n : NodeD)  {i : Nat} (hi : F[i]? = some (NodeA n)) (hz : sizeN n ≤ 1048576) (ha : (altsT n).length ≤ 1048576) (H : St W w F) : Calls Try.prog 54 #[.agg #[.int .i64 n.kind.v, .string n.var.v, .string n.typ.v, .slice n.tp n.tests.length n.tc, .slice n.kp n.kids.length n.kc]] w (Ret fun v w' => ∃ p c, ∃ R : List NodeD, v = .slice p R.length c ∧ R.map eraseN = altsT n ∧ St W w' (Row 25 5 (.slice p R.length c) R.length (R.flatMap nodeCell) :: NodesA R :: F)) := normal_alts_r (sizeOf n + 1) n (Nat.lt_succ_self _) hi hz ha H
set_option maxHeartbeats 4000000 in
set_option maxRecDepth 100000 in
theorem normal_Alts_ok {W w : World} {F : List Atom} (n : NodeD) {i : Nat} (hi : F[i]? = some (NodeA n)) (hz : sizeN n ≤ 1048576) (ha : ¬ 64 < altsN n) (H : St W w F) : Calls Try.prog 19 #[.agg #[.int .i64 n.kind.v, .string n.var.v, .string n.typ.v, .slice n.tp n.tests.length n.tc, .slice n.kp n.kids.length n.kc]] w (Ret fun v w' => ∃ p c, ∃ R : List NodeD, v = .tuple #[.slice p R.length c, .int .i64 0] ∧ R.map eraseN = altsT n ∧ St W w' (Row 25 5 (.slice p R.length c) R.length (R.flatMap nodeCell) :: NodesA R :: F)) := by
  have hfew := alts_few ha
  have H1 := H.dup (i := i + 0) (by exact hi) (NodeA_pers _)
  have H2 : St W w (NodeA n :: F) := H1
  refine calls_of_go (n := 9) Try.func19 rfl Try.ntmps19 rfl ?_
  refine g_seq ?_
  refine g_region ?_
  refine r_cons (s_box H2 25 (.agg #[.int .i64 n.kind.v, .string n.var.v, .string n.typ.v, .slice n.tp n.tests.length n.tc, .slice n.kp n.kids.length n.kc]) rfl (cs := #[.int .i64 n.kind.v, .string n.var.v, .string n.typ.v, .slice n.tp n.tests.length n.tc, .slice n.kp n.kids.length n.kc]) rfl rfl ?_); intro bk3 w4 H5
  refine r_cons (s_assign (.slice none 0 0) rfl rfl ?_)
  refine r_cons (s_assign (.int .i64 0) rfl rfl ?_)
  refine r_nil ?_
  refine g_seq ?_
  refine g_seq ?_
  refine g_region ?_
  refine r_cons (s_loadAgg [.int .i64 n.kind.v, .string n.var.v, .string n.typ.v, .slice n.tp n.tests.length n.tc, .slice n.kp n.kids.length n.kc] 5 ag_25 rfl (H5.blk_at (i := 0) rfl) (Nat.le_of_ble_eq_true rfl) rfl rfl ?_)
  refine r_cons (s_call [.agg #[.int .i64 n.kind.v, .string n.var.v, .string n.typ.v, .slice n.tp n.tests.length n.tc, .slice n.kp n.kids.length n.kc]] pl_53 rfl rfl (check_Alts n (i := 1) rfl H5) ?_)
  rintro _ w6 ⟨rfl, H7⟩
  refine r_cons (s_gtr false rfl rfl (dfalse (by omega)) rfl ?_)
  refine r_nil ?_
  refine g_false rfl ?_
  refine g_skip ?_
  refine g_seq ?_
  refine g_region ?_
  refine r_cons (s_loadAgg [.int .i64 n.kind.v, .string n.var.v, .string n.typ.v, .slice n.tp n.tests.length n.tc, .slice n.kp n.kids.length n.kc] 5 ag_25 rfl (H7.blk_at (i := 0) rfl) (Nat.le_of_ble_eq_true rfl) rfl rfl ?_)
  refine r_cons (s_call [.agg #[.int .i64 n.kind.v, .string n.var.v, .string n.typ.v, .slice n.tp n.tests.length n.tc, .slice n.kp n.kids.length n.kc]] pl_54 rfl rfl (normal_alts n (i := 1) rfl hz (by omega) H7) ?_)
  rintro _ w12 ⟨pp8, cc9, R10, rfl, hR11, H13⟩
  refine r_cons (s_assign (.slice pp8 R10.length cc9) rfl rfl ?_)
  refine r_cons (s_assign (.int .i64 0) rfl rfl ?_)
  refine r_nil ?_
  refine g_ret' [.slice pp8 R10.length cc9, .int .i64 0] Try.func19 Try.results19 ⟨rfl, rfl, trivial⟩ ?_
  have H14 : St W w12 (Row 25 5 (.slice pp8 R10.length cc9) R10.length (R10.flatMap nodeCell) :: NodesA R10 :: F) := ((((H13.move 1 rfl).move 1 rfl).drop 2 rfl).drop 2 rfl)
  exact ⟨pp8, cc9, R10, rfl, hR11, H14⟩
set_option maxHeartbeats 4000000 in
set_option maxRecDepth 100000 in
theorem normal_Tree_ok {W w : World} {F : List Atom} (n : NodeD) {i : Nat} (hi : F[i]? = some (NodeA n)) (hz : sizeN n ≤ 1048576) (ha : ¬ 64 < altsN n) (H : St W w F) : Calls Try.prog 13 #[.agg #[.int .i64 n.kind.v, .string n.var.v, .string n.typ.v, .slice n.tp n.tests.length n.tc, .slice n.kp n.kids.length n.kc]] w (Ret fun v w' => ∃ r : NodeD, v = .tuple #[.agg #[.int .i64 r.kind.v, .string r.var.v, .string r.typ.v, .slice r.tp r.tests.length r.tc, .slice r.kp r.kids.length r.kc], .int .i64 0] ∧ eraseN r = treeN n ∧ St W w' (NodeA r :: F)) := by
  have hfew := alts_few ha
  have H1 := H.dup (i := i + 0) (by exact hi) (NodeA_pers _)
  have H2 : St W w (NodeA n :: F) := H1
  refine calls_of_go (n := 43) Try.func13 rfl Try.ntmps13 rfl ?_
  refine g_seq ?_
  refine g_region ?_
  refine r_cons (s_box H2 25 (.agg #[.int .i64 n.kind.v, .string n.var.v, .string n.typ.v, .slice n.tp n.tests.length n.tc, .slice n.kp n.kids.length n.kc]) rfl (cs := #[.int .i64 n.kind.v, .string n.var.v, .string n.typ.v, .slice n.tp n.tests.length n.tc, .slice n.kp n.kids.length n.kc]) rfl rfl ?_); intro bk3 w4 H5
  refine r_cons (s_alloc H5 25 ze_25 rfl ?_); intro bk6 w7 H8
  refine r_cons (s_assign (.int .i64 0) rfl rfl ?_)
  refine r_nil ?_
  refine g_seq ?_
  refine g_region ?_
  refine r_cons (s_loadAgg [.int .i64 n.kind.v, .string n.var.v, .string n.typ.v, .slice n.tp n.tests.length n.tc, .slice n.kp n.kids.length n.kc] 5 ag_25 rfl (H8.blk_at (i := 1) rfl) (Nat.le_of_ble_eq_true rfl) rfl rfl ?_)
  refine r_cons (s_call [.agg #[.int .i64 n.kind.v, .string n.var.v, .string n.typ.v, .slice n.tp n.tests.length n.tc, .slice n.kp n.kids.length n.kc]] pl_19 rfl rfl (normal_Alts_ok n (i := 2) rfl hz ha H8) ?_)
  rintro _ w13 ⟨pp9, cc10, R11, rfl, hR12, H14⟩
  refine r_cons (s_move (.tuple #[.slice pp9 R11.length cc10, .int .i64 0]) rfl rfl ?_)
  refine r_cons (s_extract (.slice pp9 R11.length cc10) #[.slice pp9 R11.length cc10, .int .i64 0] rfl rfl rfl ?_)
  refine r_cons (s_extract (.int .i64 0) #[.slice pp9 R11.length cc10, .int .i64 0] rfl rfl rfl ?_)
  refine r_cons (s_assign (.slice pp9 R11.length cc10) rfl rfl ?_)
  refine r_cons (s_assign (.int .i64 0) rfl rfl ?_)
  refine r_nil ?_
  refine g_seq ?_
  refine g_seq ?_
  refine g_region ?_
  refine r_cons (s_move (.int .i64 0) rfl rfl ?_)
  refine r_cons (s_neq false rfl rfl (ntrue (by decide)) rfl ?_)
  refine r_nil ?_
  refine g_false rfl ?_
  refine g_skip ?_
  refine g_seq ?_
  refine g_seq ?_
  refine g_region ?_
  refine r_cons (s_move (.slice pp9 R11.length cc10) rfl rfl ?_)
  refine r_cons (s_len R11.length rfl ⟨_, un_23⟩ rfl ?_)
  refine r_cons (s_move (.int .i64 0) rfl rfl ?_)
  refine r_nil ?_
  refine g_block ?_
  have H15 : St W w13 (NodesA [] :: Row 25 5 (.slice pp9 R11.length cc10) R11.length (R11.flatMap nodeCell) :: NodesA R11 :: blk bk6 (.cells #[.int .i64 0, .string ByteArray.empty, .string ByteArray.empty, .slice none 0 0, .slice none 0 0] 25 (0, 0)) :: blk bk3 (.cells #[.int .i64 n.kind.v, .string n.var.v, .string n.typ.v, .slice n.tp n.tests.length n.tc, .slice n.kp n.kids.length n.kc] 25 (0, 0)) :: NodeA n :: F) := NodesA.nil H14
  have H16 : St W w13 (NodesA [] :: Row 25 5 (.slice pp9 R11.length cc10) R11.length ((([] : List NodeD) ++ R11.drop 0).flatMap nodeCell) :: NodesA R11 :: blk bk6 (.cells #[.int .i64 0, .string ByteArray.empty, .string ByteArray.empty, .slice none 0 0, .slice none 0 0] 25 (0, 0)) :: blk bk3 (.cells #[.int .i64 n.kind.v, .string n.var.v, .string n.typ.v, .slice n.tp n.tests.length n.tc, .slice n.kp n.kids.length n.kc] 25 (0, 0)) :: NodeA n :: F) := H15
  have hlR9 := res_len (f := id) (l := altsT n) (C := R11) (by rw [hR12]; simp)
  have H17 : St W w13 (NodesA [] :: Row 25 5 (.slice pp9 R11.length cc10) R11.length ((([] : List NodeD) ++ R11.drop 0).flatMap nodeCell) :: NodesA R11 :: blk bk6 (.cells #[.int .i64 0, .string ByteArray.empty, .string ByteArray.empty, .slice none 0 0, .slice none 0 0] 25 (0, 0)) :: NodeA n :: F) := ((((((H16.move 5 rfl).move 4 rfl).move 4 rfl).move 4 rfl).move 4 rfl).drop 5 rfl)
  refine g_loop_inv (fun (x_ : (List NodeD) × Nat) => match x_ with | (S, j) => [(2, .pointer (some ⟨bk6, 0, none⟩)), (3, .int .i64 0), (4, .slice pp9 R11.length cc10), (17, .slice pp9 R11.length cc10), (18, .int .i64 (R11.length : Int)), (19, .int .i64 (j : Int))]) (fun (x_ : (List NodeD) × Nat) w => match x_ with | (S, j) => (j ≤ R11.length) ∧ (S.length = j) ∧ (S.map eraseN = (R11.take j).map normF) ∧ St W w (NodesA S :: Row 25 5 (.slice pp9 R11.length cc10) R11.length ((S ++ R11.drop j).flatMap nodeCell) :: NodesA R11 :: blk bk6 (.cells #[.int .i64 0, .string ByteArray.empty, .string ByteArray.empty, .slice none 0 0, .slice none 0 0] 25 (0, 0)) :: NodeA n :: F)) (fun (x_ : (List NodeD) × Nat) => match x_ with | (S, j) => R11.length - j) ([], 0) ?_ ?_ ?_
  · exact ⟨by first | rfl | exact vint (by omega), by first | rfl | exact vint (by omega), by first | rfl | exact vint (by omega), by first | rfl | exact vint (by omega), by first | rfl | exact vint (by omega), by first | rfl | exact vint (by omega), trivial⟩
  · exact ⟨(by omega), rfl, rfl, H17⟩
  · rintro ⟨S, j⟩ ρ18 w19 ⟨hj, hS, hSe, H20⟩ nx21
    change Ends _ _ (upds ρ18 [(2, .pointer (some ⟨bk6, 0, none⟩)), (3, .int .i64 0), (4, .slice pp9 R11.length cc10), (17, .slice pp9 R11.length cc10), (18, .int .i64 (R11.length : Int)), (19, .int .i64 (j : Int))]) w19
    refine g_seq ?_
    refine g_region ?_
    by_cases hc22 : (j : Int) < (R11.length : Int)
    · skip
      refine r_cons (s_lss true rfl rfl (dtrue hc22) rfl ?_)
      refine r_nil ?_
      refine g_seq ?_
      refine g_true rfl ?_
      refine g_skip ?_
      refine g_seq ?_
      refine g_block ?_
      refine g_seq ?_
      refine g_region ?_
      refine r_cons (s_move (.int .i64 (j : Int)) rfl rfl ?_)
      obtain ⟨bk23, cur24, hp25, h26, h27, h28, h29, h30, H31⟩ := Row.open2 H20 (i := 1) rfl (by omega)
      refine r_cons (s_indexAddr bk23 (off := 0) (j : Int) 5 (0 + j * 5) (by exact congrArg (fun z_ => Value.slice z_ R11.length cc10) ((fun (_ : 0 < 1) => hp25) (by omega))) rfl el_23 (by omega) rfl rfl ?_)
      refine r_cons (s_loadAgg [.int .i64 (((S ++ R11.drop j).getD j default).kind.v), .string (((S ++ R11.drop j).getD j default).var.v), .string (((S ++ R11.drop j).getD j default).typ.v), .slice (((S ++ R11.drop j).getD j default).tp) (((S ++ R11.drop j).getD j default).tests.length) (((S ++ R11.drop j).getD j default).tc), .slice (((S ++ R11.drop j).getD j default).kp) (((S ++ R11.drop j).getD j default).kids.length) (((S ++ R11.drop j).getD j default).kc)] 5 ag_25 rfl (H31.blk_at (i := 1) rfl) (by have := elem_size (i := j) (s := 5) (show 0 + (S ++ R11.drop j).length * 5 ≤ cur24.size by have := (show (S ++ R11.drop j).length * 5 ≤ cur24.size by rw [(drop_len hS (by omega)), h28]; exact Nat.mul_le_mul_right 5 h26); omega) (by have hh : (S ++ R11.drop j).length = R11.length := (drop_len hS (by omega)); omega); omega) (elem_take nodeCell_len (by rw [(drop_len hS (by omega))]; exact h29) (by have hh : (S ++ R11.drop j).length = R11.length := (drop_len hS (by omega)); omega) default) rfl ?_)
      rw [clone_get hS (by omega)]
      refine r_cons (s_alloc H31 25 ze_25 rfl ?_); intro bk32 w33 H34
      refine r_cons (s_assign (.int .i64 (j : Int)) rfl rfl ?_)
      refine r_cons (s_storeAgg H34 0 #[.int .i64 ((R11.getD j default).kind.v), .string ((R11.getD j default).var.v), .string ((R11.getD j default).typ.v), .slice ((R11.getD j default).tp) ((R11.getD j default).tests.length) ((R11.getD j default).tc), .slice ((R11.getD j default).kp) ((R11.getD j default).kids.length) ((R11.getD j default).kc)] 5 rfl rfl rfl sz_25 rfl (by simp [Value.oneCell']) (Nat.le_of_ble_eq_true rfl) (fun o h1 h2 => by first | (simp; done) | (simp; omega)) (cs' := #[.int .i64 ((R11.getD j default).kind.v), .string ((R11.getD j default).var.v), .string ((R11.getD j default).typ.v), .slice ((R11.getD j default).tp) ((R11.getD j default).tests.length) ((R11.getD j default).tc), .slice ((R11.getD j default).kp) ((R11.getD j default).kids.length) ((R11.getD j default).kc)]) rfl ?_); intro w35 H36
      refine r_nil ?_
      refine g_region ?_
      refine r_cons (s_move (.slice pp9 R11.length cc10) rfl rfl ?_)
      refine r_cons (s_move (.int .i64 (j : Int)) rfl rfl ?_)
      refine r_cons (s_loadAgg [.int .i64 ((R11.getD j default).kind.v), .string ((R11.getD j default).var.v), .string ((R11.getD j default).typ.v), .slice ((R11.getD j default).tp) ((R11.getD j default).tests.length) ((R11.getD j default).tc), .slice ((R11.getD j default).kp) ((R11.getD j default).kids.length) ((R11.getD j default).kc)] 5 ag_25 rfl (H36.blk_at (i := 0) rfl) (Nat.le_of_ble_eq_true rfl) rfl rfl ?_)
      have H37 := NodesA.at H36 (i := 3) rfl (j := j) (by omega)
      have hsx9 := alt_size hR12 (getD_mem' (show j < R11.length by omega))
      refine r_cons (s_call [.agg #[.int .i64 ((R11.getD j default).kind.v), .string ((R11.getD j default).var.v), .string ((R11.getD j default).typ.v), .slice ((R11.getD j default).tp) ((R11.getD j default).tests.length) ((R11.getD j default).tc), .slice ((R11.getD j default).kp) ((R11.getD j default).kids.length) ((R11.getD j default).kc)]] pl_17 rfl rfl (normal_Flat (R11.getD j default) (i := 0) rfl (by omega) H37) ?_)
      rintro _ w40 ⟨nn38, rfl, hq39, H41⟩
      have hsy9 : sizeN nn38 ≤ sizeN n := by have h9 := flatN_size (R11.getD j default); have h8 := erase_size nn38; rw [hq39] at h8; omega
      refine r_cons (s_call [.agg #[.int .i64 nn38.kind.v, .string nn38.var.v, .string nn38.typ.v, .slice nn38.tp nn38.tests.length nn38.tc, .slice nn38.kp nn38.kids.length nn38.kc]] pl_18 rfl rfl (normal_Sort nn38 (i := 0) rfl (by omega) H41) ?_)
      rintro _ w44 ⟨nn42, rfl, hq43, H45⟩
      refine r_cons (s_indexAddr bk23 (off := 0) (j : Int) 5 (0 + j * 5) (by exact congrArg (fun z_ => Value.slice z_ R11.length cc10) ((fun (_ : 0 < 1) => hp25) (by omega))) rfl el_23 (by omega) rfl rfl ?_)
      have hx48 := row_setN (f := nodeCell) (L := (S ++ R11.drop j)) (cur := cur24) nodeCell_len (by decide) (by rw [(drop_len hS (by omega))]; exact h29) (show (S ++ R11.drop j).length * 5 ≤ cur24.size by rw [(drop_len hS (by omega)), h28]; exact Nat.mul_le_mul_right 5 h26) (j := j) (by have hh := (drop_len hS (by omega)); omega) nn42
      refine r_cons (s_storeAgg H45 5 #[.int .i64 nn42.kind.v, .string nn42.var.v, .string nn42.typ.v, .slice nn42.tp nn42.tests.length nn42.tc, .slice nn42.kp nn42.kids.length nn42.kc] 5 rfl rfl rfl sz_25 rfl (fun v_ hv_ => one_node nn42 v_ hv_) (by have hh := (drop_len hS (by omega)); have hk := (show (S ++ R11.drop j).length * 5 ≤ cur24.size by rw [(drop_len hS (by omega)), h28]; exact Nat.mul_le_mul_right 5 h26); omega) (fun o_ h1_ h2_ => by simp) (cs' := (writes cur24 (0 + j * 5) (nodeCell nn42))) rfl ?_); intro w46 H47
      refine r_nil ?_
      refine g_inBlock ?_
      refine g_region ?_
      refine r_cons (s_add ((j : Int) + 1) rfl rfl (wi64 (by omega)) rfl ?_)
      refine r_cons (s_move (.int .i64 ((j : Int) + 1)) rfl rfl ?_)
      refine r_nil ?_
      have hL49 : ((S ++ R11.drop j).set j nn42) = (S ++ [nn42]) ++ R11.drop (j + 1) := set_clone hS (by omega) nn42
      have H50 := Row.shut2 (p := pp9) (n := R11.length) (c := cc10) (size := 5) (xs := ((S ++ [nn42]) ++ R11.drop (j + 1)).flatMap nodeCell) H47 (i := 5) rfl hp25 h26 h27 (show (writes cur24 (0 + j * 5) (nodeCell nn42)).size = cc10 * 5 from by rw [writes_size]; exact h28) (by have hh : ((writes cur24 (0 + j * 5) (nodeCell nn42)).toList.drop 0).take (((S ++ R11.drop j).set j nn42).length * 5) = ((S ++ R11.drop j).set j nn42).flatMap nodeCell := hx48; have hk : ((S ++ R11.drop j).set j nn42).length = R11.length := (show (((S ++ R11.drop j).set j nn42)).length = R11.length from by first | (rw [List.length_set]; exact (drop_len hS (by omega))) | rw [List.length_set]); rw [hk] at hh; rw [hL49] at hh; exact hh) (fun x_ hx_ => by obtain ⟨a_, _, ha_⟩ := List.mem_flatMap.1 hx_; exact one_node a_ x_ ha_)
      have H51 : St W w46 (NodesA (S ++ [nn42]) :: NodeA nn42 :: NodeA nn38 :: NodeA (R11.getD j default) :: blk bk32 (.cells #[.int .i64 ((R11.getD j default).kind.v), .string ((R11.getD j default).var.v), .string ((R11.getD j default).typ.v), .slice ((R11.getD j default).tp) ((R11.getD j default).tests.length) ((R11.getD j default).tc), .slice ((R11.getD j default).kp) ((R11.getD j default).kids.length) ((R11.getD j default).kc)] 25 (0, 0)) :: NodesA S :: Row 25 5 (.slice pp9 R11.length cc10) R11.length (((S ++ [nn42]) ++ R11.drop (j + 1)).flatMap nodeCell) :: NodesA R11 :: blk bk6 (.cells #[.int .i64 0, .string ByteArray.empty, .string ByteArray.empty, .slice none 0 0, .slice none 0 0] 25 (0, 0)) :: NodeA n :: F) := NodesA.snoc' H50 (a := 4) (b := 0) rfl rfl
      have H52 : St W w46 (NodesA (S ++ [nn42]) :: Row 25 5 (.slice pp9 R11.length cc10) R11.length (((S ++ [nn42]) ++ R11.drop (j + 1)).flatMap nodeCell) :: NodesA R11 :: blk bk6 (.cells #[.int .i64 0, .string ByteArray.empty, .string ByteArray.empty, .slice none 0 0, .slice none 0 0] 25 (0, 0)) :: NodeA n :: F) := ((((((((((H51.move 9 rfl).move 9 rfl).move 9 rfl).move 9 rfl).move 4 rfl).drop 5 rfl).drop 5 rfl).drop 5 rfl).drop 5 rfl).drop 5 rfl)
      exact nx21 ((S ++ [nn42]), j + 1) _ _ ⟨(by omega), (by rw [List.length_append, hS]; rfl), (res_snoc (f := normF) hSe (by omega) (norm_two hq39 hq43)), H52⟩ (by first | (dsimp only; omega) | omega) ⟨by first | rfl | exact vint (by omega), by first | rfl | exact vint (by omega), by first | rfl | exact vint (by omega), by first | rfl | exact vint (by omega), by first | rfl | exact vint (by omega), by first | rfl | exact vint (by omega), trivial⟩
    · skip
      refine r_cons (s_lss false rfl rfl (dfalse hc22) rfl ?_)
      refine r_nil ?_
      refine g_seq ?_
      refine g_false rfl ?_
      refine g_exit (by rfl) ?_
      refine g_seq ?_
      refine g_region ?_
      have hjR9 : j = R11.length := by omega
      have hDC9 : S ++ R11.drop j = S := by rw [List.drop_of_length_le (by omega), List.append_nil]
      have hSR9 : S.length = R11.length := by omega
      have hSf9 : S.map eraseN = R11.map normF := by rw [hSe, List.take_of_length_le (by omega)]
      have H54 : St W w19 (NodesA S :: Row 25 5 (.slice pp9 R11.length cc10) R11.length (S.flatMap nodeCell) :: NodesA R11 :: blk bk6 (.cells #[.int .i64 0, .string ByteArray.empty, .string ByteArray.empty, .slice none 0 0, .slice none 0 0] 25 (0, 0)) :: NodeA n :: F) := by rw [hDC9] at H20; exact H20
      have hlS9 : S.length = (altsT n).length := by rw [hSR9]; simpa using congrArg List.length hR12
      refine r_cons (s_move (.slice pp9 R11.length cc10) rfl rfl ?_)
      have H55 : St W w19 (Row 25 5 (.slice pp9 R11.length cc10) R11.length (S.flatMap nodeCell) :: NodesA S :: NodesA R11 :: blk bk6 (.cells #[.int .i64 0, .string ByteArray.empty, .string ByteArray.empty, .slice none 0 0, .slice none 0 0] 25 (0, 0)) :: NodeA n :: F) := (H54.move 1 rfl)
      have H56 : St W w19 (DataA 25 pp9 R11.length cc10 S :: NodesA R11 :: blk bk6 (.cells #[.int .i64 0, .string ByteArray.empty, .string ByteArray.empty, .slice none 0 0, .slice none 0 0] 25 (0, 0)) :: NodeA n :: F) := DataA.make (show S.length = R11.length from hSR9) H55
      refine r_cons (s_call [.slice pp9 R11.length cc10, .func (.func 8) #[] #[]] pl_49 rfl rfl (SortStable_ (p := pp9) (N := R11.length) (c := cc10) S (by omega) H56) ?_)
      rintro _ w59 ⟨rfl, K57, hf58, H60⟩
      obtain ⟨hD61, H62⟩ := DataA.open H60
      have H63 : St W w59 (Row 25 5 (.slice pp9 R11.length cc10) R11.length (K57.flatMap nodeCell) :: NodesA K57 :: NodesA R11 :: blk bk6 (.cells #[.int .i64 0, .string ByteArray.empty, .string ByteArray.empty, .slice none 0 0, .slice none 0 0] 25 (0, 0)) :: NodeA n :: F) := H62
      refine r_nil ?_
      refine g_seq ?_
      refine g_region ?_
      refine r_cons (s_move (.slice pp9 R11.length cc10) rfl rfl ?_)
      have H64 : St W w59 (DataA 25 pp9 R11.length cc10 K57 :: NodesA R11 :: blk bk6 (.cells #[.int .i64 0, .string ByteArray.empty, .string ByteArray.empty, .slice none 0 0, .slice none 0 0] 25 (0, 0)) :: NodeA n :: F) := DataA.make (show K57.length = R11.length from hD61) H63
      refine r_cons (s_call [.slice pp9 R11.length cc10] pl_50 rfl rfl (once_ (p := pp9) (N := R11.length) (c := cc10) K57 (by omega) H64) ?_)
      rintro _ w65 ⟨rfl, H66⟩
      have H67 := (DataA.open H66).2
      have H68 : St W w65 (Row 25 5 (.slice pp9 ((compact K57).length) cc10) ((compact K57).length) ((compact K57).flatMap nodeCell) :: NodesA (compact K57) :: NodesA R11 :: blk bk6 (.cells #[.int .i64 0, .string ByteArray.empty, .string ByteArray.empty, .slice none 0 0, .slice none 0 0] 25 (0, 0)) :: NodeA n :: F) := H67
      refine r_cons (s_assign (.slice pp9 ((compact K57).length) cc10) rfl rfl ?_)
      refine r_nil ?_
      refine g_seq ?_
      refine g_seq ?_
      refine g_region ?_
      refine r_cons (s_move (.slice pp9 ((compact K57).length) cc10) rfl rfl ?_)
      have hCu9 := tree_uniq hR12 hSf9 hf58 hSR9
      have hCl9 := compact_len K57
      refine r_cons (s_len ((compact K57).length) rfl ⟨_, un_23⟩ rfl ?_)
      by_cases hc69 : ((compact K57).length : Int) = 1
      · skip
        refine r_cons (s_eql true rfl rfl (dtrue hc69) rfl ?_)
        refine r_nil ?_
        refine g_true rfl ?_
        refine g_seq ?_
        refine g_region ?_
        refine r_cons (s_move (.slice pp9 ((compact K57).length) cc10) rfl rfl ?_)
        have hC1 : (compact K57).length = 1 := by omega
        obtain ⟨bk70, cur71, hp72, h73, h74, h75, h76, h77, H78⟩ := Row.open2 H68 (i := 0) rfl (by omega)
        refine r_cons (s_indexAddr bk70 (off := 0) 0 5 (0 + 0 * 5) (by exact congrArg (fun z_ => Value.slice z_ ((compact K57).length) cc10) ((fun (_ : 0 < 1) => hp72) (by omega))) rfl el_23 (by omega) rfl rfl ?_)
        refine r_cons (s_loadAgg [.int .i64 (((compact K57).getD 0 default).kind.v), .string (((compact K57).getD 0 default).var.v), .string (((compact K57).getD 0 default).typ.v), .slice (((compact K57).getD 0 default).tp) (((compact K57).getD 0 default).tests.length) (((compact K57).getD 0 default).tc), .slice (((compact K57).getD 0 default).kp) (((compact K57).getD 0 default).kids.length) (((compact K57).getD 0 default).kc)] 5 ag_25 rfl (H78.blk_at (i := 0) rfl) (by have := elem_size (i := 0) (s := 5) (show 0 + (compact K57).length * 5 ≤ cur71.size by have := (show (compact K57).length * 5 ≤ cur71.size by rw [(show (compact K57).length = (compact K57).length from rfl), h75]; exact Nat.mul_le_mul_right 5 h73); omega) (by have hh : (compact K57).length = (compact K57).length := (show (compact K57).length = (compact K57).length from rfl); omega); omega) (elem_take nodeCell_len (by rw [(show (compact K57).length = (compact K57).length from rfl)]; exact h76) (by have hh : (compact K57).length = (compact K57).length := (show (compact K57).length = (compact K57).length from rfl); omega) default) rfl ?_)
        refine r_cons (s_storeAgg H78 3 #[.int .i64 (((compact K57).getD 0 default).kind.v), .string (((compact K57).getD 0 default).var.v), .string (((compact K57).getD 0 default).typ.v), .slice (((compact K57).getD 0 default).tp) (((compact K57).getD 0 default).tests.length) (((compact K57).getD 0 default).tc), .slice (((compact K57).getD 0 default).kp) (((compact K57).getD 0 default).kids.length) (((compact K57).getD 0 default).kc)] 5 rfl rfl rfl sz_25 rfl (by simp [Value.oneCell']) (Nat.le_of_ble_eq_true rfl) (fun o h1 h2 => by first | (simp; done) | (simp; omega)) (cs' := #[.int .i64 (((compact K57).getD 0 default).kind.v), .string (((compact K57).getD 0 default).var.v), .string (((compact K57).getD 0 default).typ.v), .slice (((compact K57).getD 0 default).tp) (((compact K57).getD 0 default).tests.length) (((compact K57).getD 0 default).tc), .slice (((compact K57).getD 0 default).kp) (((compact K57).getD 0 default).kids.length) (((compact K57).getD 0 default).kc)]) rfl ?_); intro w79 H80
        refine r_cons (s_assign (.int .i64 0) rfl rfl ?_)
        refine r_nil ?_
        refine g_ret' [.agg #[.int .i64 (((compact K57).getD 0 default).kind.v), .string (((compact K57).getD 0 default).var.v), .string (((compact K57).getD 0 default).typ.v), .slice (((compact K57).getD 0 default).tp) (((compact K57).getD 0 default).tests.length) (((compact K57).getD 0 default).tc), .slice (((compact K57).getD 0 default).kp) (((compact K57).getD 0 default).kids.length) (((compact K57).getD 0 default).kc)], .int .i64 0] Try.func13 Try.results13 ⟨(res_cellN rfl ag_25 (H80.blk_at (i := 3) rfl) (Nat.le_of_ble_eq_true rfl) rfl), rfl, trivial⟩ ?_
        have H81 : St W w79 (NodeA ((compact K57).getD 0 default) :: blk bk70 (.cells cur71 25 (0, 0)) :: NodesA (compact K57) :: NodesA R11 :: blk bk6 (.cells #[.int .i64 (((compact K57).getD 0 default).kind.v), .string (((compact K57).getD 0 default).var.v), .string (((compact K57).getD 0 default).typ.v), .slice (((compact K57).getD 0 default).tp) (((compact K57).getD 0 default).tests.length) (((compact K57).getD 0 default).tc), .slice (((compact K57).getD 0 default).kp) (((compact K57).getD 0 default).kids.length) (((compact K57).getD 0 default).kc)] 25 (0, 0)) :: NodeA n :: F) := NodesA.at H80 (i := 1) rfl (j := 0) (by omega)
        have H82 : St W w79 (NodeA ((compact K57).getD 0 default) :: F) := (((((H81.drop 1 rfl).drop 1 rfl).drop 1 rfl).drop 1 rfl).drop 1 rfl)
        exact ⟨((compact K57).getD 0 default), rfl, tree_one hCu9 hC1, H82⟩
      · skip
        refine r_cons (s_eql false rfl rfl (dfalse hc69) rfl ?_)
        refine r_nil ?_
        refine g_false rfl ?_
        refine g_skip ?_
        refine g_seq ?_
        refine g_region ?_
        refine r_cons (s_move (.slice pp9 ((compact K57).length) cc10) rfl rfl ?_)
        refine r_cons (s_build (cs := #[.int .i64 4, .string ByteArray.empty, .string ByteArray.empty, .slice none 0 0, .slice pp9 ((compact K57).length) cc10]) (by kernel_rfl) rfl ?_)
        refine r_cons (s_storeAgg H68 3 #[.int .i64 4, .string ByteArray.empty, .string ByteArray.empty, .slice none 0 0, .slice pp9 ((compact K57).length) cc10] 5 rfl rfl rfl sz_25 rfl (by simp [Value.oneCell']) (Nat.le_of_ble_eq_true rfl) (fun o h1 h2 => by first | (simp; done) | (simp; omega)) (cs' := #[.int .i64 4, .string ByteArray.empty, .string ByteArray.empty, .slice none 0 0, .slice pp9 ((compact K57).length) cc10]) rfl ?_); intro w83 H84
        refine r_cons (s_assign (.int .i64 0) rfl rfl ?_)
        refine r_nil ?_
        refine g_ret' [.agg #[.int .i64 4, .string ByteArray.empty, .string ByteArray.empty, .slice none 0 0, .slice pp9 ((compact K57).length) cc10], .int .i64 0] Try.func13 Try.results13 ⟨(res_cellN rfl ag_25 (H84.blk_at (i := 3) rfl) (Nat.le_of_ble_eq_true rfl) rfl), rfl, trivial⟩ ?_
        have H85 : St W w83 (Im 5 (.slice pp9 ((compact K57).length) cc10) ((compact K57).length) ((compact K57).flatMap nodeCell) :: NodesA (compact K57) :: NodesA R11 :: blk bk6 (.cells #[.int .i64 4, .string ByteArray.empty, .string ByteArray.empty, .slice none 0 0, .slice pp9 ((compact K57).length) cc10] 25 (0, 0)) :: NodeA n :: F) := Row.im H84 (i := 0) rfl
        have H86 : St W w83 (Im 11 (.slice none 0 0) (([] : List CondV).length) (([] : List CondV).flatMap condCell) :: Im 5 (.slice pp9 ((compact K57).length) cc10) ((compact K57).length) ((compact K57).flatMap nodeCell) :: NodesA (compact K57) :: NodesA R11 :: blk bk6 (.cells #[.int .i64 4, .string ByteArray.empty, .string ByteArray.empty, .slice none 0 0, .slice pp9 ((compact K57).length) cc10] 25 (0, 0)) :: NodeA n :: F) := Row.im (Row.nil_intro H85 46 11) (i := 0) rfl
        have H87 : St W w83 (NodeA (NodeD.mk ⟨4, by decide, by decide⟩ Str.none Str.none none 0 [] pp9 cc10 (compact K57)) :: Im 11 (.slice none 0 0) (([] : List CondV).length) (([] : List CondV).flatMap condCell) :: Im 5 (.slice pp9 ((compact K57).length) cc10) ((compact K57).length) ((compact K57).flatMap nodeCell) :: NodesA (compact K57) :: NodesA R11 :: blk bk6 (.cells #[.int .i64 4, .string ByteArray.empty, .string ByteArray.empty, .slice none 0 0, .slice pp9 ((compact K57).length) cc10] 25 (0, 0)) :: NodeA n :: F) := NodeA.make (a := 0) (b := 1) (c := 2) (.mk ⟨4, by decide, by decide⟩ Str.none Str.none none 0 [] pp9 cc10 (compact K57)) H86 rfl rfl rfl ⟨by show 0 * 136 ≤ _; omega, by show (compact K57).length * 88 ≤ _; omega⟩
        have H88 : St W w83 (NodeA (NodeD.mk ⟨4, by decide, by decide⟩ Str.none Str.none none 0 [] pp9 cc10 (compact K57)) :: F) := ((((((H87.drop 1 rfl).drop 1 rfl).drop 1 rfl).drop 1 rfl).drop 1 rfl).drop 1 rfl)
        exact ⟨(.mk ⟨4, by decide, by decide⟩ Str.none Str.none none 0 [] pp9 cc10 (compact K57)), rfl, tree_many hCu9 (by omega), H88⟩
set_option maxHeartbeats 4000000 in
set_option maxRecDepth 100000 in
theorem law_term {W w : World} {F : List Atom} (s : ByteArray) (H : St W w F) : Calls Try.prog 39 #[.string s] w (Ret fun v w' => v = .agg #[.int .i64 1, .string s, .string (⟨#[84]⟩), .slice none 0 0, .slice none 0 0] ∧ St W w' F) := by
  refine calls_of_go (n := 5) Try.func39 rfl Try.ntmps39 rfl ?_
  refine g_seq ?_
  refine g_region ?_
  refine r_cons (s_alloc H 25 ze_25 rfl ?_); intro bk1 w2 H3
  refine r_nil ?_
  refine g_seq ?_
  refine g_region ?_
  refine r_cons (s_move (.string s) rfl rfl ?_)
  refine r_cons (s_build (cs := #[.int .i64 1, .string s, .string (⟨#[84]⟩), .slice none 0 0, .slice none 0 0]) (by kernel_rfl) rfl ?_)
  refine r_cons (s_storeAgg H3 0 #[.int .i64 1, .string s, .string (⟨#[84]⟩), .slice none 0 0, .slice none 0 0] 5 rfl rfl rfl sz_25 rfl (by simp [Value.oneCell']) (Nat.le_of_ble_eq_true rfl) (fun o h1 h2 => by first | (simp; done) | (simp; omega)) (cs' := #[.int .i64 1, .string s, .string (⟨#[84]⟩), .slice none 0 0, .slice none 0 0]) rfl ?_); intro w4 H5
  refine r_nil ?_
  refine g_ret' [.agg #[.int .i64 1, .string s, .string (⟨#[84]⟩), .slice none 0 0, .slice none 0 0]] Try.func39 Try.results39 ⟨(res_cellN rfl ag_25 (H5.blk_at (i := 0) rfl) (Nat.le_of_ble_eq_true rfl) rfl), trivial⟩ ?_
  have H6 : St W w4 F := (H5.drop 0 rfl)
  exact ⟨rfl, H6⟩
set_option maxHeartbeats 4000000 in
set_option maxRecDepth 100000 in
theorem law_begun {W w : World} {F : List Atom}  (H : St W w F) : Calls Try.prog 9 #[] w (Ret fun v w' => v = .bool true ∧ St W w' F) := by
  refine calls_of_go (n := 55) Try.func9 rfl Try.ntmps9 rfl ?_
  refine g_seq ?_
  refine g_region ?_
  refine r_cons (s_assign (.bool false) rfl rfl ?_)
  refine r_nil ?_
  refine g_seq ?_
  refine g_region ?_
  refine r_cons (s_call [.string (⟨#[97]⟩)] pl_39 rfl rfl (law_term (⟨#[97]⟩) H) ?_)
  rintro _ w1 ⟨rfl, H2⟩
  refine r_cons (s_call [.string (⟨#[99]⟩)] pl_39 rfl rfl (law_term (⟨#[99]⟩) H2) ?_)
  rintro _ w3 ⟨rfl, H4⟩
  refine r_cons (s_call [.string (⟨#[98]⟩)] pl_39 rfl rfl (law_term (⟨#[98]⟩) H4) ?_)
  rintro _ w5 ⟨rfl, H6⟩
  have H7 : St W w5 (Im 11 (.slice none 0 0) (([] : List CondV).length) (([] : List CondV).flatMap condCell) :: F) := Row.im (Row.nil_intro H6 46 11) (i := 0) rfl
  have H8 : St W w5 (Im 5 (.slice none 0 0) (([] : List NodeD).length) (([] : List NodeD).flatMap nodeCell) :: Im 11 (.slice none 0 0) (([] : List CondV).length) (([] : List CondV).flatMap condCell) :: F) := Row.im (Row.nil_intro H7 25 5) (i := 0) rfl
  have H9 : St W w5 (NodesA [] :: Im 5 (.slice none 0 0) (([] : List NodeD).length) (([] : List NodeD).flatMap nodeCell) :: Im 11 (.slice none 0 0) (([] : List CondV).length) (([] : List CondV).flatMap condCell) :: F) := NodesA.nil H8
  have H10 : St W w5 (NodeA (bgT 97) :: NodesA [] :: Im 5 (.slice none 0 0) (([] : List NodeD).length) (([] : List NodeD).flatMap nodeCell) :: Im 11 (.slice none 0 0) (([] : List CondV).length) (([] : List CondV).flatMap condCell) :: F) := NodeA.make (a := 2) (b := 1) (c := 0) (bgT 97) H9 rfl rfl rfl ⟨Nat.le_of_ble_eq_true rfl, Nat.le_of_ble_eq_true rfl⟩
  have H11 : St W w5 (NodeA (bgT 99) :: NodeA (bgT 97) :: NodesA [] :: Im 5 (.slice none 0 0) (([] : List NodeD).length) (([] : List NodeD).flatMap nodeCell) :: Im 11 (.slice none 0 0) (([] : List CondV).length) (([] : List CondV).flatMap condCell) :: F) := NodeA.make (a := 3) (b := 2) (c := 1) (bgT 99) H10 rfl rfl rfl ⟨Nat.le_of_ble_eq_true rfl, Nat.le_of_ble_eq_true rfl⟩
  have H12 : St W w5 (NodeA (bgT 98) :: NodeA (bgT 99) :: NodeA (bgT 97) :: NodesA [] :: Im 5 (.slice none 0 0) (([] : List NodeD).length) (([] : List NodeD).flatMap nodeCell) :: Im 11 (.slice none 0 0) (([] : List CondV).length) (([] : List CondV).flatMap condCell) :: F) := NodeA.make (a := 4) (b := 3) (c := 2) (bgT 98) H11 rfl rfl rfl ⟨Nat.le_of_ble_eq_true rfl, Nat.le_of_ble_eq_true rfl⟩
  refine r_cons (s_buildSlice H12 5 2 (cs := #[.int .i64 1, .string (⟨#[99]⟩), .string (⟨#[84]⟩), .slice none 0 0, .slice none 0 0, .int .i64 1, .string (⟨#[98]⟩), .string (⟨#[84]⟩), .slice none 0 0, .slice none 0 0]) #[.int .i64 0, .string ByteArray.empty, .string ByteArray.empty, .slice none 0 0, .slice none 0 0] el_23 ze_25 (by decide) (by decide) (by kernel_rfl) rfl ?_); intro bk13 w14 H15
  have H16 := Row.cut (n := 0) (m := 2) (c := 2) (size := 5) (xs := [.int .i64 1, .string (⟨#[99]⟩), .string (⟨#[84]⟩), .slice none 0 0, .slice none 0 0, .int .i64 1, .string (⟨#[98]⟩), .string (⟨#[84]⟩), .slice none 0 0, .slice none 0 0]) H15 (i := 0) rfl (by decide) (by decide +kernel) rfl rfl (by simp [Value.oneCell'])
  have H17 : St W w14 (Row 25 5 (.slice (some ⟨bk13, 0, none⟩) 2 2) 2 [.int .i64 1, .string (⟨#[99]⟩), .string (⟨#[84]⟩), .slice none 0 0, .slice none 0 0, .int .i64 1, .string (⟨#[98]⟩), .string (⟨#[84]⟩), .slice none 0 0, .slice none 0 0] :: NodeA (bgT 98) :: NodeA (bgT 99) :: NodeA (bgT 97) :: NodesA [] :: Im 5 (.slice none 0 0) (([] : List NodeD).length) (([] : List NodeD).flatMap nodeCell) :: Im 11 (.slice none 0 0) (([] : List CondV).length) (([] : List CondV).flatMap condCell) :: F) := H16
  have H18 : St W w14 (Im 5 (.slice (some ⟨bk13, 0, none⟩) 2 2) 2 ([(bgT 99), (bgT 98)].flatMap nodeCell) :: NodeA (bgT 98) :: NodeA (bgT 99) :: NodeA (bgT 97) :: NodesA [] :: Im 5 (.slice none 0 0) (([] : List NodeD).length) (([] : List NodeD).flatMap nodeCell) :: Im 11 (.slice none 0 0) (([] : List CondV).length) (([] : List CondV).flatMap condCell) :: F) := Row.im H17 (i := 0) rfl
  have H19 : St W w14 (NodesA [(bgT 99)] :: Im 5 (.slice (some ⟨bk13, 0, none⟩) 2 2) 2 ([(bgT 99), (bgT 98)].flatMap nodeCell) :: NodeA (bgT 98) :: NodeA (bgT 99) :: NodeA (bgT 97) :: NodesA [] :: Im 5 (.slice none 0 0) (([] : List NodeD).length) (([] : List NodeD).flatMap nodeCell) :: Im 11 (.slice none 0 0) (([] : List CondV).length) (([] : List CondV).flatMap condCell) :: F) := NodesA.snoc' H18 (a := 4) (b := 2) rfl rfl
  have H20 : St W w14 (NodesA [(bgT 99), (bgT 98)] :: NodesA [(bgT 99)] :: Im 5 (.slice (some ⟨bk13, 0, none⟩) 2 2) 2 ([(bgT 99), (bgT 98)].flatMap nodeCell) :: NodeA (bgT 98) :: NodeA (bgT 99) :: NodeA (bgT 97) :: NodesA [] :: Im 5 (.slice none 0 0) (([] : List NodeD).length) (([] : List NodeD).flatMap nodeCell) :: Im 11 (.slice none 0 0) (([] : List CondV).length) (([] : List CondV).flatMap condCell) :: F) := NodesA.snoc' H19 (a := 0) (b := 2) rfl rfl
  have H21 : St W w14 (NodeA (bgOr bk13) :: NodesA [(bgT 99), (bgT 98)] :: NodesA [(bgT 99)] :: Im 5 (.slice (some ⟨bk13, 0, none⟩) 2 2) 2 ([(bgT 99), (bgT 98)].flatMap nodeCell) :: NodeA (bgT 98) :: NodeA (bgT 99) :: NodeA (bgT 97) :: NodesA [] :: Im 5 (.slice none 0 0) (([] : List NodeD).length) (([] : List NodeD).flatMap nodeCell) :: Im 11 (.slice none 0 0) (([] : List CondV).length) (([] : List CondV).flatMap condCell) :: F) := NodeA.make (a := 8) (b := 2) (c := 0) (bgOr bk13) H20 rfl rfl rfl ⟨Nat.le_of_ble_eq_true rfl, Nat.le_of_ble_eq_true rfl⟩
  refine r_cons (s_build (cs := #[.int .i64 4, .string ByteArray.empty, .string ByteArray.empty, .slice none 0 0, .slice (some ⟨bk13, 0, none⟩) 2 2]) (by kernel_rfl) rfl ?_)
  refine r_cons (s_buildSlice H21 5 2 (cs := #[.int .i64 1, .string (⟨#[97]⟩), .string (⟨#[84]⟩), .slice none 0 0, .slice none 0 0, .int .i64 4, .string ByteArray.empty, .string ByteArray.empty, .slice none 0 0, .slice (some ⟨bk13, 0, none⟩) 2 2]) #[.int .i64 0, .string ByteArray.empty, .string ByteArray.empty, .slice none 0 0, .slice none 0 0] el_23 ze_25 (by decide) (by decide) (by kernel_rfl) rfl ?_); intro bk22 w23 H24
  have H25 := Row.cut (n := 0) (m := 2) (c := 2) (size := 5) (xs := [.int .i64 1, .string (⟨#[97]⟩), .string (⟨#[84]⟩), .slice none 0 0, .slice none 0 0, .int .i64 4, .string ByteArray.empty, .string ByteArray.empty, .slice none 0 0, .slice (some ⟨bk13, 0, none⟩) 2 2]) H24 (i := 0) rfl (by decide) (by decide +kernel) rfl rfl (by simp [Value.oneCell'])
  have H26 : St W w23 (Row 25 5 (.slice (some ⟨bk22, 0, none⟩) 2 2) 2 [.int .i64 1, .string (⟨#[97]⟩), .string (⟨#[84]⟩), .slice none 0 0, .slice none 0 0, .int .i64 4, .string ByteArray.empty, .string ByteArray.empty, .slice none 0 0, .slice (some ⟨bk13, 0, none⟩) 2 2] :: NodeA (bgOr bk13) :: NodesA [(bgT 99), (bgT 98)] :: NodesA [(bgT 99)] :: Im 5 (.slice (some ⟨bk13, 0, none⟩) 2 2) 2 ([(bgT 99), (bgT 98)].flatMap nodeCell) :: NodeA (bgT 98) :: NodeA (bgT 99) :: NodeA (bgT 97) :: NodesA [] :: Im 5 (.slice none 0 0) (([] : List NodeD).length) (([] : List NodeD).flatMap nodeCell) :: Im 11 (.slice none 0 0) (([] : List CondV).length) (([] : List CondV).flatMap condCell) :: F) := H25
  have H27 : St W w23 (Im 5 (.slice (some ⟨bk22, 0, none⟩) 2 2) 2 ([(bgT 97), (bgOr bk13)].flatMap nodeCell) :: NodeA (bgOr bk13) :: NodesA [(bgT 99), (bgT 98)] :: NodesA [(bgT 99)] :: Im 5 (.slice (some ⟨bk13, 0, none⟩) 2 2) 2 ([(bgT 99), (bgT 98)].flatMap nodeCell) :: NodeA (bgT 98) :: NodeA (bgT 99) :: NodeA (bgT 97) :: NodesA [] :: Im 5 (.slice none 0 0) (([] : List NodeD).length) (([] : List NodeD).flatMap nodeCell) :: Im 11 (.slice none 0 0) (([] : List CondV).length) (([] : List CondV).flatMap condCell) :: F) := Row.im H26 (i := 0) rfl
  have H28 : St W w23 (NodesA [(bgT 97)] :: Im 5 (.slice (some ⟨bk22, 0, none⟩) 2 2) 2 ([(bgT 97), (bgOr bk13)].flatMap nodeCell) :: NodeA (bgOr bk13) :: NodesA [(bgT 99), (bgT 98)] :: NodesA [(bgT 99)] :: Im 5 (.slice (some ⟨bk13, 0, none⟩) 2 2) 2 ([(bgT 99), (bgT 98)].flatMap nodeCell) :: NodeA (bgT 98) :: NodeA (bgT 99) :: NodeA (bgT 97) :: NodesA [] :: Im 5 (.slice none 0 0) (([] : List NodeD).length) (([] : List NodeD).flatMap nodeCell) :: Im 11 (.slice none 0 0) (([] : List CondV).length) (([] : List CondV).flatMap condCell) :: F) := NodesA.snoc' H27 (a := 8) (b := 7) rfl rfl
  have H29 : St W w23 (NodesA [(bgT 97), (bgOr bk13)] :: NodesA [(bgT 97)] :: Im 5 (.slice (some ⟨bk22, 0, none⟩) 2 2) 2 ([(bgT 97), (bgOr bk13)].flatMap nodeCell) :: NodeA (bgOr bk13) :: NodesA [(bgT 99), (bgT 98)] :: NodesA [(bgT 99)] :: Im 5 (.slice (some ⟨bk13, 0, none⟩) 2 2) 2 ([(bgT 99), (bgT 98)].flatMap nodeCell) :: NodeA (bgT 98) :: NodeA (bgT 99) :: NodeA (bgT 97) :: NodesA [] :: Im 5 (.slice none 0 0) (([] : List NodeD).length) (([] : List NodeD).flatMap nodeCell) :: Im 11 (.slice none 0 0) (([] : List CondV).length) (([] : List CondV).flatMap condCell) :: F) := NodesA.snoc' H28 (a := 0) (b := 2) rfl rfl
  have H30 : St W w23 (NodeA (bgSeq bk13 bk22) :: NodesA [(bgT 97), (bgOr bk13)] :: NodesA [(bgT 97)] :: Im 5 (.slice (some ⟨bk22, 0, none⟩) 2 2) 2 ([(bgT 97), (bgOr bk13)].flatMap nodeCell) :: NodeA (bgOr bk13) :: NodesA [(bgT 99), (bgT 98)] :: NodesA [(bgT 99)] :: Im 5 (.slice (some ⟨bk13, 0, none⟩) 2 2) 2 ([(bgT 99), (bgT 98)].flatMap nodeCell) :: NodeA (bgT 98) :: NodeA (bgT 99) :: NodeA (bgT 97) :: NodesA [] :: Im 5 (.slice none 0 0) (([] : List NodeD).length) (([] : List NodeD).flatMap nodeCell) :: Im 11 (.slice none 0 0) (([] : List CondV).length) (([] : List CondV).flatMap condCell) :: F) := NodeA.make (a := 12) (b := 2) (c := 0) (bgSeq bk13 bk22) H29 rfl rfl rfl ⟨Nat.le_of_ble_eq_true rfl, Nat.le_of_ble_eq_true rfl⟩
  refine r_cons (s_build (cs := #[.int .i64 2, .string ByteArray.empty, .string ByteArray.empty, .slice none 0 0, .slice (some ⟨bk22, 0, none⟩) 2 2]) (by kernel_rfl) rfl ?_)
  refine r_cons (s_call [.agg #[.int .i64 2, .string ByteArray.empty, .string ByteArray.empty, .slice none 0 0, .slice (some ⟨bk22, 0, none⟩) 2 2]] pl_13 rfl rfl (normal_Tree_ok (bgSeq bk13 bk22) (i := 0) rfl (bg_small _ _) (bg_few _ _) H30) ?_)
  rintro _ w33 ⟨nn31, rfl, hq32, H34⟩
  refine r_cons (s_move (.tuple #[.agg #[.int .i64 nn31.kind.v, .string nn31.var.v, .string nn31.typ.v, .slice nn31.tp nn31.tests.length nn31.tc, .slice nn31.kp nn31.kids.length nn31.kc], .int .i64 0]) rfl rfl ?_)
  refine r_cons (s_extract (.agg #[.int .i64 nn31.kind.v, .string nn31.var.v, .string nn31.typ.v, .slice nn31.tp nn31.tests.length nn31.tc, .slice nn31.kp nn31.kids.length nn31.kc]) #[.agg #[.int .i64 nn31.kind.v, .string nn31.var.v, .string nn31.typ.v, .slice nn31.tp nn31.tests.length nn31.tc, .slice nn31.kp nn31.kids.length nn31.kc], .int .i64 0] rfl rfl rfl ?_)
  refine r_cons (s_extract (.int .i64 0) #[.agg #[.int .i64 nn31.kind.v, .string nn31.var.v, .string nn31.typ.v, .slice nn31.tp nn31.tests.length nn31.tc, .slice nn31.kp nn31.kids.length nn31.kc], .int .i64 0] rfl rfl rfl ?_)
  refine r_cons (s_alloc H34 25 ze_25 rfl ?_); intro bk35 w36 H37
  refine r_cons (s_storeAgg H37 0 #[.int .i64 nn31.kind.v, .string nn31.var.v, .string nn31.typ.v, .slice nn31.tp nn31.tests.length nn31.tc, .slice nn31.kp nn31.kids.length nn31.kc] 5 rfl rfl rfl sz_25 rfl (by simp [Value.oneCell']) (Nat.le_of_ble_eq_true rfl) (fun o h1 h2 => by first | (simp; done) | (simp; omega)) (cs' := #[.int .i64 nn31.kind.v, .string nn31.var.v, .string nn31.typ.v, .slice nn31.tp nn31.tests.length nn31.tc, .slice nn31.kp nn31.kids.length nn31.kc]) rfl ?_); intro w38 H39
  refine r_cons (s_assign (.int .i64 0) rfl rfl ?_)
  refine r_nil ?_
  refine g_seq ?_
  refine g_region ?_
  have H40 : St W w38 (blk bk35 (.cells #[.int .i64 nn31.kind.v, .string nn31.var.v, .string nn31.typ.v, .slice nn31.tp nn31.tests.length nn31.tc, .slice nn31.kp nn31.kids.length nn31.kc] 25 (0, 0)) :: NodeA nn31 :: NodeA (bgOr bk13) :: NodesA [(bgT 99), (bgT 98)] :: NodesA [(bgT 99)] :: Im 5 (.slice (some ⟨bk13, 0, none⟩) 2 2) 2 ([(bgT 99), (bgT 98)].flatMap nodeCell) :: NodeA (bgT 98) :: NodeA (bgT 99) :: NodeA (bgT 97) :: NodesA [] :: Im 5 (.slice none 0 0) (([] : List NodeD).length) (([] : List NodeD).flatMap nodeCell) :: Im 11 (.slice none 0 0) (([] : List CondV).length) (([] : List CondV).flatMap condCell) :: F) := ((((((H39.move 1 rfl).move 1 rfl).drop 2 rfl).drop 2 rfl).drop 2 rfl).drop 2 rfl)
  have H41 : St W w38 (blk bk35 (.cells #[.int .i64 nn31.kind.v, .string nn31.var.v, .string nn31.typ.v, .slice nn31.tp nn31.tests.length nn31.tc, .slice nn31.kp nn31.kids.length nn31.kc] 25 (0, 0)) :: NodeA nn31 :: NodeA (bgT 98) :: NodeA (bgT 99) :: NodeA (bgT 97) :: NodesA [] :: Im 5 (.slice none 0 0) (([] : List NodeD).length) (([] : List NodeD).flatMap nodeCell) :: Im 11 (.slice none 0 0) (([] : List CondV).length) (([] : List CondV).flatMap condCell) :: F) := ((((H40.drop 2 rfl).drop 2 rfl).drop 2 rfl).drop 2 rfl)
  have H42 : St W w38 (blk bk35 (.cells #[.int .i64 nn31.kind.v, .string nn31.var.v, .string nn31.typ.v, .slice nn31.tp nn31.tests.length nn31.tc, .slice nn31.kp nn31.kids.length nn31.kc] 25 (0, 0)) :: NodeA nn31 :: Im 5 (.slice none 0 0) (([] : List NodeD).length) (([] : List NodeD).flatMap nodeCell) :: Im 11 (.slice none 0 0) (([] : List CondV).length) (([] : List CondV).flatMap condCell) :: F) := ((((H41.drop 2 rfl).drop 2 rfl).drop 2 rfl).drop 2 rfl)
  have H43 : St W w38 (blk bk35 (.cells #[.int .i64 nn31.kind.v, .string nn31.var.v, .string nn31.typ.v, .slice nn31.tp nn31.tests.length nn31.tc, .slice nn31.kp nn31.kids.length nn31.kc] 25 (0, 0)) :: NodeA nn31 :: F) := ((H42.drop 2 rfl).drop 2 rfl)
  obtain ⟨hk0, hk1, hk2, hk3, hk4⟩ := bg_is hq32
  have H44 := NodeA.kids H43 (i := 1) rfl
  have H45 : St W w38 (Im 5 (.slice nn31.kp nn31.kids.length nn31.kc) nn31.kids.length (nn31.kids.flatMap nodeCell) :: NodesA nn31.kids :: blk bk35 (.cells #[.int .i64 nn31.kind.v, .string nn31.var.v, .string nn31.typ.v, .slice nn31.tp nn31.tests.length nn31.tc, .slice nn31.kp nn31.kids.length nn31.kc] 25 (0, 0)) :: NodeA nn31 :: F) := H44
  obtain ⟨pA46, cA47, gA48, oA49, kA50, eA51, zA52, he58, hn53, hp54, hx55, hs56, hml, H57⟩ := Im.open_ H45 (i := 0) rfl
  obtain ⟨rfl, rfl⟩ : nn31.kp = pA46 ∧ nn31.kc = cA47 := by injection he58 with a_ b_ c_; exact ⟨a_, c_⟩
  have H59 : St W w38 (NodeA (nn31.kids.getD 0 default) :: imi (0 < nn31.kids.length) gA48 (.cells kA50 eA51 zA52) :: Im 5 (.slice nn31.kp nn31.kids.length nn31.kc) nn31.kids.length (nn31.kids.flatMap nodeCell) :: NodesA nn31.kids :: blk bk35 (.cells #[.int .i64 nn31.kind.v, .string nn31.var.v, .string nn31.typ.v, .slice nn31.tp nn31.tests.length nn31.tc, .slice nn31.kp nn31.kids.length nn31.kc] 25 (0, 0)) :: NodeA nn31 :: F) := NodesA.at H57 (i := 2) rfl (j := 0) (by omega)
  have H60 := NodeA.kids H59 (i := 0) rfl
  have H61 : St W w38 (Im 5 (.slice ((nn31.kids.getD 0 default).kp) ((nn31.kids.getD 0 default).kids.length) ((nn31.kids.getD 0 default).kc)) ((nn31.kids.getD 0 default).kids.length) ((nn31.kids.getD 0 default).kids.flatMap nodeCell) :: NodesA ((nn31.kids.getD 0 default).kids) :: NodeA (nn31.kids.getD 0 default) :: imi (0 < nn31.kids.length) gA48 (.cells kA50 eA51 zA52) :: Im 5 (.slice nn31.kp nn31.kids.length nn31.kc) nn31.kids.length (nn31.kids.flatMap nodeCell) :: NodesA nn31.kids :: blk bk35 (.cells #[.int .i64 nn31.kind.v, .string nn31.var.v, .string nn31.typ.v, .slice nn31.tp nn31.tests.length nn31.tc, .slice nn31.kp nn31.kids.length nn31.kc] 25 (0, 0)) :: NodeA nn31 :: F) := H60
  obtain ⟨pA62, cA63, gA64, oA65, kA66, eA67, zA68, he74, hn69, hp70, hx71, hs72, hml, H73⟩ := Im.open_ H61 (i := 0) rfl
  obtain ⟨rfl, rfl⟩ : (nn31.kids.getD 0 default).kp = pA62 ∧ (nn31.kids.getD 0 default).kc = cA63 := by injection he74 with a_ b_ c_; exact ⟨a_, c_⟩
  refine r_cons (s_move (.int .i64 0) rfl rfl ?_)
  refine r_cons (s_eql true rfl rfl (dtrue (by decide)) rfl ?_)
  refine r_cons (s_move (.bool true) rfl rfl ?_)
  refine r_cons (r_take rfl rfl ?_)
  refine s_fieldAddr 25 0 0 0 3 rfl fi_25_0 rfl rfl ?_
  refine r_cons (r_take rfl rfl ?_)
  refine s_load (.int .i64 nn31.kind.v) ag_3 rfl (H73.blk_at (i := 7) rfl) rfl rfl ?_
  refine r_cons (r_take rfl rfl ?_)
  refine s_eql true rfl rfl (dtrue (by omega)) rfl ?_
  refine r_cons (s_pick_t (.bool true) rfl rfl rfl ?_)
  refine r_cons (s_move (.bool true) rfl rfl ?_)
  refine r_cons (r_take rfl rfl ?_)
  refine s_fieldAddr 25 4 4 4 23 rfl fi_25_4 rfl rfl ?_
  refine r_cons (r_take rfl rfl ?_)
  refine s_load (.slice nn31.kp nn31.kids.length nn31.kc) ag_23 rfl (H73.blk_at (i := 7) rfl) rfl rfl ?_
  refine r_cons (r_take rfl rfl ?_)
  refine s_len nn31.kids.length rfl ⟨_, un_23⟩ rfl ?_
  refine r_cons (r_take rfl rfl ?_)
  refine s_eql true rfl rfl (dtrue (by omega)) rfl ?_
  refine r_cons (s_pick_t (.bool true) rfl rfl rfl ?_)
  refine r_cons (s_move (.bool true) rfl rfl ?_)
  refine r_cons (r_take rfl rfl ?_)
  refine s_fieldAddr 25 4 4 4 23 rfl fi_25_4 rfl rfl ?_
  refine r_cons (r_take rfl rfl ?_)
  refine s_load (.slice nn31.kp nn31.kids.length nn31.kc) ag_23 rfl (H73.blk_at (i := 7) rfl) rfl rfl ?_
  refine r_cons (r_take rfl rfl ?_)
  refine s_indexAddr gA48 (off := oA49) 0 5 (oA49 + 0 * 5) (by exact congrArg (fun z_ => Value.slice z_ nn31.kids.length nn31.kc) (hp54 (by omega))) rfl el_23 (by omega) rfl rfl ?_
  refine r_cons (r_take rfl rfl ?_)
  refine s_fieldAddr 25 0 0 (oA49 + 0 * 5) 3 rfl fi_25_0 rfl rfl ?_
  refine r_cons (r_take rfl rfl ?_)
  refine s_load (.int .i64 ((nn31.kids.getD 0 default).kind.v)) ag_3 rfl (H73.imi_at (i := 4) rfl (by omega)) (elem_cell (L := nn31.kids) (i := 0) nodeCell_len (hx55 (by omega)) (by omega) default 0 (by decide) _ rfl) rfl ?_
  refine r_cons (r_take rfl rfl ?_)
  refine s_eql true rfl rfl (dtrue (by omega)) rfl ?_
  refine r_cons (s_pick_t (.bool true) rfl rfl rfl ?_)
  refine r_cons (s_move (.bool true) rfl rfl ?_)
  refine r_cons (r_take rfl rfl ?_)
  refine s_fieldAddr 25 4 4 4 23 rfl fi_25_4 rfl rfl ?_
  refine r_cons (r_take rfl rfl ?_)
  refine s_load (.slice nn31.kp nn31.kids.length nn31.kc) ag_23 rfl (H73.blk_at (i := 7) rfl) rfl rfl ?_
  refine r_cons (r_take rfl rfl ?_)
  refine s_indexAddr gA48 (off := oA49) 0 5 (oA49 + 0 * 5) (by exact congrArg (fun z_ => Value.slice z_ nn31.kids.length nn31.kc) (hp54 (by omega))) rfl el_23 (by omega) rfl rfl ?_
  refine r_cons (r_take rfl rfl ?_)
  refine s_fieldAddr 25 4 4 (oA49 + 0 * 5 + 4) 23 rfl fi_25_4 rfl rfl ?_
  refine r_cons (r_take rfl rfl ?_)
  refine s_load (.slice ((nn31.kids.getD 0 default).kp) ((nn31.kids.getD 0 default).kids.length) ((nn31.kids.getD 0 default).kc)) ag_23 rfl (H73.imi_at (i := 4) rfl (by omega)) (elem_cell (L := nn31.kids) (i := 0) nodeCell_len (hx55 (by omega)) (by omega) default 4 (by decide) _ rfl) rfl ?_
  refine r_cons (r_take rfl rfl ?_)
  refine s_len ((nn31.kids.getD 0 default).kids.length) rfl ⟨_, un_23⟩ rfl ?_
  refine r_cons (r_take rfl rfl ?_)
  refine s_eql true rfl rfl (dtrue (by omega)) rfl ?_
  refine r_cons (s_pick_t (.bool true) rfl rfl rfl ?_)
  refine r_cons (s_move (.bool true) rfl rfl ?_)
  refine r_cons (r_take rfl rfl ?_)
  refine s_fieldAddr 25 4 4 4 23 rfl fi_25_4 rfl rfl ?_
  refine r_cons (r_take rfl rfl ?_)
  refine s_load (.slice nn31.kp nn31.kids.length nn31.kc) ag_23 rfl (H73.blk_at (i := 7) rfl) rfl rfl ?_
  refine r_cons (r_take rfl rfl ?_)
  refine s_indexAddr gA48 (off := oA49) 0 5 (oA49 + 0 * 5) (by exact congrArg (fun z_ => Value.slice z_ nn31.kids.length nn31.kc) (hp54 (by omega))) rfl el_23 (by omega) rfl rfl ?_
  refine r_cons (r_take rfl rfl ?_)
  refine s_fieldAddr 25 4 4 (oA49 + 0 * 5 + 4) 23 rfl fi_25_4 rfl rfl ?_
  refine r_cons (r_take rfl rfl ?_)
  refine s_load (.slice ((nn31.kids.getD 0 default).kp) ((nn31.kids.getD 0 default).kids.length) ((nn31.kids.getD 0 default).kc)) ag_23 rfl (H73.imi_at (i := 4) rfl (by omega)) (elem_cell (L := nn31.kids) (i := 0) nodeCell_len (hx55 (by omega)) (by omega) default 4 (by decide) _ rfl) rfl ?_
  refine r_cons (r_take rfl rfl ?_)
  refine s_indexAddr gA64 (off := oA65) 1 5 (oA65 + 1 * 5) (by exact congrArg (fun z_ => Value.slice z_ ((nn31.kids.getD 0 default).kids.length) ((nn31.kids.getD 0 default).kc)) (hp70 (by omega))) rfl el_23 (by omega) rfl rfl ?_
  refine r_cons (r_take rfl rfl ?_)
  refine s_fieldAddr 25 1 1 (oA65 + 1 * 5 + 1) 9 rfl fi_25_1 rfl rfl ?_
  refine r_cons (r_take rfl rfl ?_)
  refine s_load (.string (((nn31.kids.getD 0 default).kids.getD 1 default).var.v)) ag_9 rfl (H73.imi_at (i := 0) rfl (by omega)) (elem_cell (L := (nn31.kids.getD 0 default).kids) (i := 1) nodeCell_len (hx71 (by omega)) (by omega) default 1 (by decide) _ rfl) rfl ?_
  refine r_cons (r_take rfl rfl ?_)
  refine s_seql true rfl rfl (dtrue hk4) rfl ?_
  refine r_cons (s_pick_t (.bool true) rfl rfl rfl ?_)
  refine r_cons (s_assign (.bool true) rfl rfl ?_)
  refine r_nil ?_
  refine g_ret' [.bool true] Try.func9 Try.results9 ⟨rfl, trivial⟩ ?_
  have H75 : St W w38 (imi (0 < nn31.kids.length) gA48 (.cells kA50 eA51 zA52) :: Im 5 (.slice nn31.kp nn31.kids.length nn31.kc) nn31.kids.length (nn31.kids.flatMap nodeCell) :: NodesA nn31.kids :: blk bk35 (.cells #[.int .i64 nn31.kind.v, .string nn31.var.v, .string nn31.typ.v, .slice nn31.tp nn31.tests.length nn31.tc, .slice nn31.kp nn31.kids.length nn31.kc] 25 (0, 0)) :: NodeA nn31 :: F) := ((((H73.drop 0 rfl).drop 0 rfl).drop 0 rfl).drop 0 rfl)
  have H76 : St W w38 (NodeA nn31 :: F) := ((((H75.drop 0 rfl).drop 0 rfl).drop 0 rfl).drop 0 rfl)
  have H77 : St W w38 F := (H76.drop 0 rfl)
  exact ⟨rfl, H77⟩
set_option maxHeartbeats 4000000 in
set_option maxRecDepth 100000 in
theorem law_NormalOrder {W w : World} {F : List Atom} (a b c : NodeD) {i1 : Nat} (hi1 : F[i1]? = some (NodeA a)) {i2 : Nat} (hi2 : F[i2]? = some (NodeA b)) {i3 : Nat} (hi3 : F[i3]? = some (NodeA c)) (H : St W w F) : Calls Try.prog 3 #[.agg #[.int .i64 a.kind.v, .string a.var.v, .string a.typ.v, .slice a.tp a.tests.length a.tc, .slice a.kp a.kids.length a.kc], .agg #[.int .i64 b.kind.v, .string b.var.v, .string b.typ.v, .slice b.tp b.tests.length b.tc, .slice b.kp b.kids.length b.kc], .agg #[.int .i64 c.kind.v, .string c.var.v, .string c.typ.v, .slice c.tp c.tests.length c.tc, .slice c.kp c.kids.length c.kc]] w (Ret fun v w' => v = .bool true ∧ St W w' F) := by
  have H1 := H.dup (i := i1 + 0) (by exact hi1) (NodeA_pers _)
  have H2 : St W w (NodeA a :: F) := H1
  have H3 := H2.dup (i := i2 + 1) (by exact hi2) (NodeA_pers _)
  have H4 : St W w (NodeA b :: NodeA a :: F) := H3
  have H5 := H4.dup (i := i3 + 2) (by exact hi3) (NodeA_pers _)
  have H6 : St W w (NodeA c :: NodeA b :: NodeA a :: F) := H5
  refine calls_of_go (n := 54) Try.func3 rfl Try.ntmps3 rfl ?_
  refine g_seq ?_
  refine g_region ?_
  refine r_cons (s_box H6 25 (.agg #[.int .i64 a.kind.v, .string a.var.v, .string a.typ.v, .slice a.tp a.tests.length a.tc, .slice a.kp a.kids.length a.kc]) rfl (cs := #[.int .i64 a.kind.v, .string a.var.v, .string a.typ.v, .slice a.tp a.tests.length a.tc, .slice a.kp a.kids.length a.kc]) rfl rfl ?_); intro bk7 w8 H9
  refine r_cons (s_box H9 25 (.agg #[.int .i64 b.kind.v, .string b.var.v, .string b.typ.v, .slice b.tp b.tests.length b.tc, .slice b.kp b.kids.length b.kc]) rfl (cs := #[.int .i64 b.kind.v, .string b.var.v, .string b.typ.v, .slice b.tp b.tests.length b.tc, .slice b.kp b.kids.length b.kc]) rfl rfl ?_); intro bk10 w11 H12
  refine r_cons (s_box H12 25 (.agg #[.int .i64 c.kind.v, .string c.var.v, .string c.typ.v, .slice c.tp c.tests.length c.tc, .slice c.kp c.kids.length c.kc]) rfl (cs := #[.int .i64 c.kind.v, .string c.var.v, .string c.typ.v, .slice c.tp c.tests.length c.tc, .slice c.kp c.kids.length c.kc]) rfl rfl ?_); intro bk13 w14 H15
  refine r_cons (s_assign (.bool false) rfl rfl ?_)
  refine r_nil ?_
  refine g_seq ?_
  refine g_quiet (fun w' => St W w' (blk bk13 (.cells #[.int .i64 c.kind.v, .string c.var.v, .string c.typ.v, .slice c.tp c.tests.length c.tc, .slice c.kp c.kids.length c.kc] 25 (0, 0)) :: blk bk10 (.cells #[.int .i64 b.kind.v, .string b.var.v, .string b.typ.v, .slice b.tp b.tests.length b.tc, .slice b.kp b.kids.length b.kc] 25 (0, 0)) :: blk bk7 (.cells #[.int .i64 a.kind.v, .string a.var.v, .string a.typ.v, .slice a.tp a.tests.length a.tc, .slice a.kp a.kids.length a.kc] 25 (0, 0)) :: NodeA c :: NodeA b :: NodeA a :: F)) mixed (by kernel_rfl) H15.drew ?_
  refine q_cons (q_val rfl rfl rfl (by intro w hw; exact x_loadAgg [.int .i64 a.kind.v, .string a.var.v, .string a.typ.v, .slice a.tp a.tests.length a.tc, .slice a.kp a.kids.length a.kc] 5 ag_25 rfl (hw.blk_at (i := 2) rfl) (Nat.le_of_ble_eq_true rfl) rfl) ?_)
  refine q_cons (q_val rfl rfl rfl (by intro w hw; exact x_loadAgg [.int .i64 b.kind.v, .string b.var.v, .string b.typ.v, .slice b.tp b.tests.length b.tc, .slice b.kp b.kids.length b.kc] 5 ag_25 rfl (hw.blk_at (i := 1) rfl) (Nat.le_of_ble_eq_true rfl) rfl) ?_)
  refine q_cons (q_enter (args := #[.agg #[.int .i64 a.kind.v, .string a.var.v, .string a.typ.v, .slice a.tp a.tests.length a.tc, .slice a.kp a.kids.length a.kc], .agg #[.int .i64 b.kind.v, .string b.var.v, .string b.typ.v, .slice b.tp b.tests.length b.tc, .slice b.kp b.kids.length b.kc]]) (v := .int .i64 (cmpN a b)) rfl rfl rfl (x_call pl_8 [.agg #[.int .i64 a.kind.v, .string a.var.v, .string a.typ.v, .slice a.tp a.tests.length a.tc, .slice a.kp a.kids.length a.kc], .agg #[.int .i64 b.kind.v, .string b.var.v, .string b.typ.v, .slice b.tp b.tests.length b.tc, .slice b.kp b.kids.length b.kc]] rfl) (fun w hw => normal_Compare a b (i := 5) rfl (i2 := 4) rfl hw) ?_)
  refine q_cons (q_val rfl rfl rfl (by intro w hw; exact x_loadAgg [.int .i64 b.kind.v, .string b.var.v, .string b.typ.v, .slice b.tp b.tests.length b.tc, .slice b.kp b.kids.length b.kc] 5 ag_25 rfl (hw.blk_at (i := 1) rfl) (Nat.le_of_ble_eq_true rfl) rfl) ?_)
  refine q_cons (q_val rfl rfl rfl (by intro w hw; exact x_loadAgg [.int .i64 c.kind.v, .string c.var.v, .string c.typ.v, .slice c.tp c.tests.length c.tc, .slice c.kp c.kids.length c.kc] 5 ag_25 rfl (hw.blk_at (i := 0) rfl) (Nat.le_of_ble_eq_true rfl) rfl) ?_)
  refine q_cons (q_enter (args := #[.agg #[.int .i64 b.kind.v, .string b.var.v, .string b.typ.v, .slice b.tp b.tests.length b.tc, .slice b.kp b.kids.length b.kc], .agg #[.int .i64 c.kind.v, .string c.var.v, .string c.typ.v, .slice c.tp c.tests.length c.tc, .slice c.kp c.kids.length c.kc]]) (v := .int .i64 (cmpN b c)) rfl rfl rfl (x_call pl_8 [.agg #[.int .i64 b.kind.v, .string b.var.v, .string b.typ.v, .slice b.tp b.tests.length b.tc, .slice b.kp b.kids.length b.kc], .agg #[.int .i64 c.kind.v, .string c.var.v, .string c.typ.v, .slice c.tp c.tests.length c.tc, .slice c.kp c.kids.length c.kc]] rfl) (fun w hw => normal_Compare b c (i := 4) rfl (i2 := 3) rfl hw) ?_)
  refine q_cons (q_val rfl rfl rfl (by intro w hw; exact x_loadAgg [.int .i64 a.kind.v, .string a.var.v, .string a.typ.v, .slice a.tp a.tests.length a.tc, .slice a.kp a.kids.length a.kc] 5 ag_25 rfl (hw.blk_at (i := 2) rfl) (Nat.le_of_ble_eq_true rfl) rfl) ?_)
  refine q_cons (q_val rfl rfl rfl (by intro w hw; exact x_loadAgg [.int .i64 c.kind.v, .string c.var.v, .string c.typ.v, .slice c.tp c.tests.length c.tc, .slice c.kp c.kids.length c.kc] 5 ag_25 rfl (hw.blk_at (i := 0) rfl) (Nat.le_of_ble_eq_true rfl) rfl) ?_)
  refine q_cons (q_enter (args := #[.agg #[.int .i64 a.kind.v, .string a.var.v, .string a.typ.v, .slice a.tp a.tests.length a.tc, .slice a.kp a.kids.length a.kc], .agg #[.int .i64 c.kind.v, .string c.var.v, .string c.typ.v, .slice c.tp c.tests.length c.tc, .slice c.kp c.kids.length c.kc]]) (v := .int .i64 (cmpN a c)) rfl rfl rfl (x_call pl_8 [.agg #[.int .i64 a.kind.v, .string a.var.v, .string a.typ.v, .slice a.tp a.tests.length a.tc, .slice a.kp a.kids.length a.kc], .agg #[.int .i64 c.kind.v, .string c.var.v, .string c.typ.v, .slice c.tp c.tests.length c.tc, .slice c.kp c.kids.length c.kc]] rfl) (fun w hw => normal_Compare a c (i := 5) rfl (i2 := 3) rfl hw) ?_)
  refine q_cons (q_val rfl rfl rfl (by intro w hw; exact x_assign (.int .i64 (cmpN a b)) rfl w) ?_)
  refine q_cons (q_val rfl rfl rfl (by intro w hw; exact x_assign (.int .i64 (cmpN b c)) rfl w) ?_)
  refine q_cons (q_val rfl rfl rfl (by intro w hw; exact x_assign (.int .i64 (cmpN a c)) rfl w) ?_)
  refine q_nil ?_
  intro w16 H17
  refine g_seq ?_
  refine g_region ?_
  refine r_cons (s_call [] pl_9 rfl rfl (law_begun H17) ?_)
  rintro _ w18 ⟨rfl, H19⟩
  refine r_cons (s_move (.bool true) rfl rfl ?_)
  refine r_cons (r_take rfl rfl ?_)
  refine s_move (.int .i64 (cmpN a b)) rfl rfl ?_
  refine r_cons (r_take rfl rfl ?_)
  refine s_loadAgg [.int .i64 a.kind.v, .string a.var.v, .string a.typ.v, .slice a.tp a.tests.length a.tc, .slice a.kp a.kids.length a.kc] 5 ag_25 rfl (H19.blk_at (i := 2) rfl) (Nat.le_of_ble_eq_true rfl) rfl rfl ?_
  refine r_cons (r_take rfl rfl ?_)
  refine s_loadAgg [.int .i64 b.kind.v, .string b.var.v, .string b.typ.v, .slice b.tp b.tests.length b.tc, .slice b.kp b.kids.length b.kc] 5 ag_25 rfl (H19.blk_at (i := 1) rfl) (Nat.le_of_ble_eq_true rfl) rfl rfl ?_
  refine r_cons (r_take rfl rfl ?_)
  refine s_call [.agg #[.int .i64 a.kind.v, .string a.var.v, .string a.typ.v, .slice a.tp a.tests.length a.tc, .slice a.kp a.kids.length a.kc], .agg #[.int .i64 b.kind.v, .string b.var.v, .string b.typ.v, .slice b.tp b.tests.length b.tc, .slice b.kp b.kids.length b.kc]] pl_10 rfl rfl (ref08_Compare a b (i := 5) rfl (i2 := 4) rfl H19) ?_
  rintro _ w20 ⟨rfl, H21⟩
  refine r_cons (r_take rfl rfl ?_)
  refine s_eql true rfl rfl (dtrue rfl) rfl ?_
  refine r_cons (s_pick_t (.bool true) rfl rfl rfl ?_)
  refine r_cons (s_move (.bool true) rfl rfl ?_)
  refine r_cons (r_take rfl rfl ?_)
  refine s_loadAgg [.int .i64 b.kind.v, .string b.var.v, .string b.typ.v, .slice b.tp b.tests.length b.tc, .slice b.kp b.kids.length b.kc] 5 ag_25 rfl (H21.blk_at (i := 1) rfl) (Nat.le_of_ble_eq_true rfl) rfl rfl ?_
  refine r_cons (r_take rfl rfl ?_)
  refine s_loadAgg [.int .i64 a.kind.v, .string a.var.v, .string a.typ.v, .slice a.tp a.tests.length a.tc, .slice a.kp a.kids.length a.kc] 5 ag_25 rfl (H21.blk_at (i := 2) rfl) (Nat.le_of_ble_eq_true rfl) rfl rfl ?_
  refine r_cons (r_take rfl rfl ?_)
  refine s_call [.agg #[.int .i64 b.kind.v, .string b.var.v, .string b.typ.v, .slice b.tp b.tests.length b.tc, .slice b.kp b.kids.length b.kc], .agg #[.int .i64 a.kind.v, .string a.var.v, .string a.typ.v, .slice a.tp a.tests.length a.tc, .slice a.kp a.kids.length a.kc]] pl_8 rfl rfl (normal_Compare b a (i := 4) rfl (i2 := 5) rfl H21) ?_
  rintro _ w22 ⟨rfl, H23⟩
  refine r_cons (r_take rfl rfl ?_)
  refine s_move (.int .i64 (cmpN a b)) rfl rfl ?_
  refine r_cons (r_take rfl rfl ?_)
  refine s_neg (-(cmpN a b)) rfl ((wi64 (by have h9 := ord_N.rng a b; omega))) rfl ?_
  refine r_cons (r_take rfl rfl ?_)
  refine s_eql true rfl rfl (dtrue (cmp_anti a b)) rfl ?_
  refine r_cons (s_pick_t (.bool true) rfl rfl rfl ?_)
  refine r_cons (s_move (.bool true) rfl rfl ?_)
  refine r_cons (r_take rfl rfl ?_)
  refine s_loadAgg [.int .i64 a.kind.v, .string a.var.v, .string a.typ.v, .slice a.tp a.tests.length a.tc, .slice a.kp a.kids.length a.kc] 5 ag_25 rfl (H23.blk_at (i := 2) rfl) (Nat.le_of_ble_eq_true rfl) rfl rfl ?_
  refine r_cons (r_take rfl rfl ?_)
  refine s_loadAgg [.int .i64 a.kind.v, .string a.var.v, .string a.typ.v, .slice a.tp a.tests.length a.tc, .slice a.kp a.kids.length a.kc] 5 ag_25 rfl (H23.blk_at (i := 2) rfl) (Nat.le_of_ble_eq_true rfl) rfl rfl ?_
  refine r_cons (r_take rfl rfl ?_)
  refine s_call [.agg #[.int .i64 a.kind.v, .string a.var.v, .string a.typ.v, .slice a.tp a.tests.length a.tc, .slice a.kp a.kids.length a.kc], .agg #[.int .i64 a.kind.v, .string a.var.v, .string a.typ.v, .slice a.tp a.tests.length a.tc, .slice a.kp a.kids.length a.kc]] pl_8 rfl rfl (normal_Compare a a (i := 5) rfl (i2 := 5) rfl H23) ?_
  rintro _ w24 ⟨rfl, H25⟩
  refine r_cons (r_take rfl rfl ?_)
  refine s_eql true rfl rfl (dtrue ((cmp_zero a a).2 rfl)) rfl ?_
  refine r_cons (s_pick_t (.bool true) rfl rfl rfl ?_)
  refine r_cons (s_move (.bool true) rfl rfl ?_)
  refine r_cons (r_take rfl rfl ?_)
  refine s_move (.int .i64 (cmpN a b)) rfl rfl ?_
  refine r_cons (r_take rfl rfl ?_)
  by_cases hc26 : cmpN a b ≤ 0
  · skip
    refine s_leq true rfl rfl (dtrue hc26) rfl ?_
    refine r_cons (r_take rfl rfl ?_)
    refine s_move (.bool true) rfl rfl ?_
    refine r_cons (r_take rfl rfl ?_)
    refine s_move (.int .i64 (cmpN b c)) rfl rfl ?_
    refine r_cons (r_take rfl rfl ?_)
    by_cases hc27 : cmpN b c ≤ 0
    · skip
      refine s_leq true rfl rfl (dtrue hc27) rfl ?_
      refine r_cons (r_take rfl rfl ?_)
      refine s_pick_t (.bool true) rfl rfl rfl ?_
      refine r_cons (r_take rfl rfl ?_)
      refine s_move (.bool true) rfl rfl ?_
      refine r_cons (r_take rfl rfl ?_)
      refine s_move (.int .i64 (cmpN a c)) rfl rfl ?_
      refine r_cons (r_take rfl rfl ?_)
      refine s_gtr false rfl rfl (dfalse (by have h9 := cmp_trans a b c (by omega) (by omega); omega)) rfl ?_
      refine r_cons (r_take rfl rfl ?_)
      refine s_pick_t (.bool false) rfl rfl rfl ?_
      refine r_cons (r_take rfl rfl ?_)
      refine s_not false rfl true rfl rfl ?_
      refine r_cons (s_pick_t (.bool true) rfl rfl rfl ?_)
      refine r_cons (s_assign (.bool true) rfl rfl ?_)
      refine r_nil ?_
      refine g_ret' [.bool true] Try.func3 Try.results3 ⟨rfl, trivial⟩ ?_
      have H28 : St W w24 F := ((((((H25.drop 0 rfl).drop 0 rfl).drop 0 rfl).drop 0 rfl).drop 0 rfl).drop 0 rfl)
      exact ⟨rfl, H28⟩
    · skip
      refine s_leq false rfl rfl (dfalse hc27) rfl ?_
      refine r_cons (r_take rfl rfl ?_)
      refine s_pick_t (.bool false) rfl rfl rfl ?_
      refine r_cons (r_take rfl rfl ?_)
      refine s_move (.bool false) rfl rfl ?_
      refine r_cons (r_pass rfl rfl rfl rfl rfl ?_)
      refine r_cons (r_pass rfl rfl rfl rfl rfl ?_)
      refine r_cons (r_take rfl rfl ?_)
      refine s_pick_f (.bool false) rfl rfl rfl ?_
      refine r_cons (r_take rfl rfl ?_)
      refine s_not false rfl true rfl rfl ?_
      refine r_cons (s_pick_t (.bool true) rfl rfl rfl ?_)
      refine r_cons (s_assign (.bool true) rfl rfl ?_)
      refine r_nil ?_
      refine g_ret' [.bool true] Try.func3 Try.results3 ⟨rfl, trivial⟩ ?_
      have H29 : St W w24 F := ((((((H25.drop 0 rfl).drop 0 rfl).drop 0 rfl).drop 0 rfl).drop 0 rfl).drop 0 rfl)
      exact ⟨rfl, H29⟩
  · skip
    refine s_leq false rfl rfl (dfalse hc26) rfl ?_
    refine r_cons (r_take rfl rfl ?_)
    refine s_move (.bool false) rfl rfl ?_
    refine r_cons (r_pass rfl rfl rfl rfl rfl ?_)
    refine r_cons (r_pass rfl rfl rfl rfl rfl ?_)
    refine r_cons (r_take rfl rfl ?_)
    refine s_pick_f (.bool false) rfl rfl rfl ?_
    refine r_cons (r_take rfl rfl ?_)
    refine s_move (.bool false) rfl rfl ?_
    refine r_cons (r_pass rfl rfl rfl rfl rfl ?_)
    refine r_cons (r_pass rfl rfl rfl rfl rfl ?_)
    refine r_cons (r_take rfl rfl ?_)
    refine s_pick_f (.bool false) rfl rfl rfl ?_
    refine r_cons (r_take rfl rfl ?_)
    refine s_not false rfl true rfl rfl ?_
    refine r_cons (s_pick_t (.bool true) rfl rfl rfl ?_)
    refine r_cons (s_assign (.bool true) rfl rfl ?_)
    refine r_nil ?_
    refine g_ret' [.bool true] Try.func3 Try.results3 ⟨rfl, trivial⟩ ?_
    have H30 : St W w24 F := ((((((H25.drop 0 rfl).drop 0 rfl).drop 0 rfl).drop 0 rfl).drop 0 rfl).drop 0 rfl)
    exact ⟨rfl, H30⟩
end Sl
