/- Walks of the program's functions. Printed by a program of this claim's author. No condition. -/
import Derived.Test.YteogdknlofcpiaaSlBA
import Derived.Test.YteogdknlofcpiaaSlDB
import Derived.Test.YteogdknlofcpiaaSlQ
import Derived.Test.YteogdknlofcpiaaSlP
import Derived.Test.YteogdknlofcpiaaSlDF
import Derived.Test.YteogdknlofcpiaaSlDG
import Derived.Test.YteogdknlofcpiaaProg
import Derived.Test.YteogdknlofcpiaaWalkMigrateMoves1
namespace Sl
open _root_.Go _root_.Go.RowKit _root_.Go.Proofs
set_option linter.all false
set_option maxHeartbeats 4000000 in
set_option maxRecDepth 100000 in
theorem MigrateMoves_ {W w : World} {F : List Atom} (op : I64) (ups : List I64) (script : List MvOp) (uv sv : Value) (hu : ups.length * 8 ≤ 140737488355328) (hst : ∀ i, i < script.length → (script.getD i default).state.length ≤ 140737488355328) {j k a : Nat} (hj : F[j]? = some (Im 1 uv ups.length (ups.flatMap i64c))) (hk : F[k]? = some (Im 3 sv script.length (script.flatMap mvCell))) (ha : F[a]? = some (mvsA script)) (H : St W w F) : Calls Try.prog 8 #[.int .i64 op.v, uv, sv] w (Ret fun v w' => v = .bool true ∧ St W w' F) := by
  obtain ⟨pp1, cc2, rfl, hsh3⟩ := Rd.shape (Im.rd H (i := j) hj)
  have H4 := H.dup (i := j) hj (Im_pers _ _ _ _)
  have hmlH4 := Im.len H4 (i := 0) rfl
  obtain ⟨pp5, cc6, rfl, hsh7⟩ := Rd.shape (Im.rd H (i := k) hk)
  have H8 := (H4.dup (i := k + 1) (by exact hk) (Im_pers _ _ _ _)).dup (i := a + 2) (by exact ha) (mvsA_pers _)
  have H9 : St W w (mvsA script :: Im 3 (.slice pp5 script.length cc6) script.length (script.flatMap mvCell) :: Im 1 (.slice pp1 ups.length cc2) ups.length (ups.flatMap i64c) :: F) := H8
  have hml1 := Im.len H9 (i := 1) rfl
  refine calls_of_go (n := 149) Try.func8 rfl Try.ntmps8 rfl ?_
  refine g_seq ?_
  refine g_region ?_
  refine r_cons (s_assign (.bool false) rfl rfl ?_)
  refine r_nil ?_
  refine g_seq ?_
  refine g_region ?_
  refine r_cons (s_move (.int .i64 op.v) rfl rfl ?_)
  refine r_cons (s_move (.slice pp1 ups.length cc2) rfl rfl ?_)
  refine r_cons (s_call [.int .i64 op.v, .slice pp1 ups.length cc2] pl_51 rfl rfl (migrate_NewMove op ups (.slice pp1 ups.length cc2) (by omega) (j := 2) rfl H9) ?_)
  rintro _ w13 (⟨he11, rfl, H12⟩ | ⟨he11, bk10, rfl, H12⟩)
  · skip
    refine r_cons (s_move (.tuple #[.pointer none, .int .i64 1]) rfl rfl ?_)
    refine r_cons (s_extract (.pointer none) #[.pointer none, .int .i64 1] rfl rfl rfl ?_)
    refine r_cons (s_extract (.int .i64 1) #[.pointer none, .int .i64 1] rfl rfl rfl ?_)
    refine r_cons (s_assign (.pointer none) rfl rfl ?_)
    refine r_cons (s_assign (.int .i64 1) rfl rfl ?_)
    refine r_nil ?_
    refine g_seq ?_
    refine g_region ?_
    refine r_cons (s_move (.int .i64 op.v) rfl rfl ?_)
    refine r_cons (s_move (.slice pp1 ups.length cc2) rfl rfl ?_)
    refine r_cons (s_call [.int .i64 op.v, .slice pp1 ups.length cc2] pl_52 rfl rfl (ref24_NewMove op ups (.slice pp1 ups.length cc2) (by omega) (j := 2) rfl H12) ?_)
    rintro _ w17 (⟨he15, rfl, H16⟩ | ⟨he15, bk14, rfl, H16⟩)
    · skip
      refine r_cons (s_move (.tuple #[.pointer none, .int .i64 1]) rfl rfl ?_)
      refine r_cons (s_extract (.pointer none) #[.pointer none, .int .i64 1] rfl rfl rfl ?_)
      refine r_cons (s_extract (.int .i64 1) #[.pointer none, .int .i64 1] rfl rfl rfl ?_)
      refine r_cons (s_assign (.pointer none) rfl rfl ?_)
      refine r_cons (s_assign (.int .i64 1) rfl rfl ?_)
      refine r_nil ?_
      refine g_seq ?_
      refine g_seq ?_
      refine g_region ?_
      refine r_cons (s_call [] pl_10 rfl rfl (begun_ H16) ?_)
      rintro _ w18 ⟨rfl, H19⟩
      refine r_cons (s_not true rfl false rfl rfl ?_)
      refine r_cons (s_move (.bool false) rfl rfl ?_)
      refine r_cons (r_take rfl rfl ?_)
      refine s_move (.int .i64 1) rfl rfl ?_
      refine r_cons (r_take rfl rfl ?_)
      refine s_move (.int .i64 1) rfl rfl ?_
      refine r_cons (r_take rfl rfl ?_)
      refine s_neq false rfl rfl (ntrue (by decide)) rfl ?_
      refine r_cons (s_pick_f (.bool false) rfl rfl rfl ?_)
      refine r_cons (s_move (.bool false) rfl rfl ?_)
      refine r_cons (r_take rfl rfl ?_)
      refine s_move (.pointer none) rfl rfl ?_
      refine r_cons (r_take rfl rfl ?_)
      refine s_peql true un_87 rfl rfl rfl rfl ?_
      refine r_cons (r_take rfl rfl ?_)
      refine s_move (.pointer none) rfl rfl ?_
      refine r_cons (r_take rfl rfl ?_)
      refine s_peql true un_105 rfl rfl rfl rfl ?_
      refine r_cons (r_take rfl rfl ?_)
      refine s_bneq false un_4 rfl rfl (ntrue rfl) rfl ?_
      refine r_cons (s_pick_f (.bool false) rfl rfl rfl ?_)
      refine r_nil ?_
      refine g_false rfl ?_
      refine g_skip ?_
      refine g_seq ?_
      refine g_seq ?_
      refine g_region ?_
      refine r_cons (s_move (.pointer none) rfl rfl ?_)
      refine r_cons (s_peql true un_105 rfl rfl rfl rfl ?_)
      refine r_nil ?_
      refine g_true rfl ?_
      refine g_seq ?_
      refine g_region ?_
      refine r_cons (s_assign (.bool true) rfl rfl ?_)
      refine r_nil ?_
      refine g_ret' [.bool true] Try.func8 Try.results8 ⟨rfl, trivial⟩ ?_
      have H20 : St W w18 F := (((H19.drop 0 rfl).drop 0 rfl).drop 0 rfl)
      exact ⟨rfl, H20⟩
    · rw [he11] at he15; cases he15
  · skip
    refine r_cons (s_move (.tuple #[.pointer (some ⟨bk10, 0, none⟩), .int .i64 0]) rfl rfl ?_)
    refine r_cons (s_extract (.pointer (some ⟨bk10, 0, none⟩)) #[.pointer (some ⟨bk10, 0, none⟩), .int .i64 0] rfl rfl rfl ?_)
    refine r_cons (s_extract (.int .i64 0) #[.pointer (some ⟨bk10, 0, none⟩), .int .i64 0] rfl rfl rfl ?_)
    refine r_cons (s_assign (.pointer (some ⟨bk10, 0, none⟩)) rfl rfl ?_)
    refine r_cons (s_assign (.int .i64 0) rfl rfl ?_)
    refine r_nil ?_
    refine g_seq ?_
    refine g_region ?_
    refine r_cons (s_move (.int .i64 op.v) rfl rfl ?_)
    refine r_cons (s_move (.slice pp1 ups.length cc2) rfl rfl ?_)
    refine r_cons (s_call [.int .i64 op.v, .slice pp1 ups.length cc2] pl_52 rfl rfl (ref24_NewMove op ups (.slice pp1 ups.length cc2) (by omega) (j := 3) rfl H12) ?_)
    rintro _ w24 (⟨he22, rfl, H23⟩ | ⟨he22, bk21, rfl, H23⟩)
    · rw [he11] at he22; cases he22
    · skip
      refine r_cons (s_move (.tuple #[.pointer (some ⟨bk21, 0, none⟩), .int .i64 0]) rfl rfl ?_)
      refine r_cons (s_extract (.pointer (some ⟨bk21, 0, none⟩)) #[.pointer (some ⟨bk21, 0, none⟩), .int .i64 0] rfl rfl rfl ?_)
      refine r_cons (s_extract (.int .i64 0) #[.pointer (some ⟨bk21, 0, none⟩), .int .i64 0] rfl rfl rfl ?_)
      refine r_cons (s_assign (.pointer (some ⟨bk21, 0, none⟩)) rfl rfl ?_)
      refine r_cons (s_assign (.int .i64 0) rfl rfl ?_)
      refine r_nil ?_
      refine g_seq ?_
      refine g_seq ?_
      refine g_region ?_
      refine r_cons (s_call [] pl_10 rfl rfl (begun_ H23) ?_)
      rintro _ w25 ⟨rfl, H26⟩
      refine r_cons (s_not true rfl false rfl rfl ?_)
      refine r_cons (s_move (.bool false) rfl rfl ?_)
      refine r_cons (r_take rfl rfl ?_)
      refine s_move (.int .i64 0) rfl rfl ?_
      refine r_cons (r_take rfl rfl ?_)
      refine s_move (.int .i64 0) rfl rfl ?_
      refine r_cons (r_take rfl rfl ?_)
      refine s_neq false rfl rfl (ntrue (by decide)) rfl ?_
      refine r_cons (s_pick_f (.bool false) rfl rfl rfl ?_)
      refine r_cons (s_move (.bool false) rfl rfl ?_)
      refine r_cons (r_take rfl rfl ?_)
      refine s_move (.pointer (some ⟨bk10, 0, none⟩)) rfl rfl ?_
      refine r_cons (r_take rfl rfl ?_)
      refine s_peql false un_87 rfl rfl rfl rfl ?_
      refine r_cons (r_take rfl rfl ?_)
      refine s_move (.pointer (some ⟨bk21, 0, none⟩)) rfl rfl ?_
      refine r_cons (r_take rfl rfl ?_)
      refine s_peql false un_105 rfl rfl rfl rfl ?_
      refine r_cons (r_take rfl rfl ?_)
      refine s_bneq false un_4 rfl rfl (ntrue rfl) rfl ?_
      refine r_cons (s_pick_f (.bool false) rfl rfl rfl ?_)
      refine r_nil ?_
      refine g_false rfl ?_
      refine g_skip ?_
      refine g_seq ?_
      refine g_seq ?_
      refine g_region ?_
      refine r_cons (s_move (.pointer (some ⟨bk21, 0, none⟩)) rfl rfl ?_)
      refine r_cons (s_peql false un_105 rfl rfl rfl rfl ?_)
      refine r_nil ?_
      refine g_false rfl ?_
      refine g_skip ?_
      refine g_seq ?_
      refine g_seq ?_
      refine g_region ?_
      refine r_cons (s_move (.slice pp5 script.length cc6) rfl rfl ?_)
      refine r_cons (s_len script.length rfl ⟨_, un_102⟩ rfl ?_)
      refine r_cons (s_move (.int .i64 0) rfl rfl ?_)
      refine r_nil ?_
      refine g_block ?_
      obtain ⟨pA27, cA28, gA29, oA30, kA31, eA32, zA33, he39, hn34, hp35, hx36, hs37, hml, H38⟩ := Im.open_ H26 (i := 3) rfl
      obtain ⟨rfl, rfl⟩ : pp5 = pA27 ∧ cc6 = cA28 := by injection he39 with a_ b_ c_; exact ⟨a_, c_⟩
      have H40 : St W w25 (MvA bk10 op ups ups (if ups.length = 0 then 2 else 1) :: RvA bk21 op ups (List.replicate ups.length false) (if ups.length = 0 then 2 else 1) :: mvsA script :: imi (0 < script.length) gA29 (.cells kA31 eA32 zA33) :: F) := (((((H38.move 3 rfl).move 2 rfl).move 3 rfl).drop 4 rfl).drop 4 rfl)
      have hok0 : upsOk ups := Classical.byContradiction fun hc => by have h9 := he22; rw [newE_1 (.inr (.inr hc))] at h9; cases h9
      have h64 : ups.length ≤ 64 := Nat.le_of_not_lt fun hc => by have h9 := he22; rw [newE_1 (.inr (.inl hc))] at h9; cases h9
      have H41 := ds_nil H40
      have H42 : St W w25 (MvA bk10 op ups ups (if ups.length = 0 then 2 else 1) :: RvA bk21 op ups (List.replicate ups.length false) (if ups.length = 0 then 2 else 1) :: mvsA script :: imi (0 < script.length) gA29 (.cells kA31 eA32 zA33) :: dsA [] :: F) := ((((H41.move 4 rfl).move 4 rfl).move 4 rfl).move 4 rfl)
      refine g_loop_invD (fun (x_ : Nat × Nat × (List I64) × (List Bool) × Int × (List Nat)) => match x_ with | (i, X, M, has, ph, Ds) => Ds) (fun (x_ : Nat × Nat × (List I64) × (List Bool) × Int × (List Nat)) => match x_ with | (i, X, M, has, ph, Ds) => [(6, .bool false), (7, .pointer (some ⟨X, 0, none⟩)), (9, .pointer (some ⟨bk21, 0, none⟩)), (52, .slice pp5 script.length cc6), (53, .int .i64 (script.length : Int)), (54, .int .i64 (i : Int))]) (fun (x_ : Nat × Nat × (List I64) × (List Bool) × Int × (List Nat)) w => match x_ with | (i, X, M, has, ph, Ds) => (i ≤ script.length) ∧ (MR ups has M ups) ∧ St W w (MvA X op M ups ph :: RvA bk21 op ups has ph :: mvsA script :: imi (0 < script.length) gA29 (.cells kA31 eA32 zA33) :: dsA Ds :: F)) (fun (x_ : Nat × Nat × (List I64) × (List Bool) × Int × (List Nat)) => match x_ with | (i, X, M, has, ph, Ds) => script.length - i) (0, bk10, ups, (List.replicate ups.length false), (if ups.length = 0 then 2 else 1), []) rfl ?_ ?_ ?_
      · exact ⟨by first | rfl | exact vint (by omega), by first | rfl | exact vint (by omega), by first | rfl | exact vint (by omega), by first | rfl | exact vint (by omega), by first | rfl | exact vint (by omega), by first | rfl | exact vint (by omega), trivial⟩
      · exact ⟨(by omega), (MR.new hok0), H42⟩
      · rintro ⟨i, X, M, has, ph, Ds⟩ ρ43 w44 ⟨hi9, hMR, H45⟩ nx46
        change Ends (Ctx.mores _ Ds) _ (upds ρ43 [(6, .bool false), (7, .pointer (some ⟨X, 0, none⟩)), (9, .pointer (some ⟨bk21, 0, none⟩)), (52, .slice pp5 script.length cc6), (53, .int .i64 (script.length : Int)), (54, .int .i64 (i : Int))]) w44
        have hnd9 := hMR.nd
        have hlh9 := hMR.lh
        have hml9 : M.length ≤ 64 := by have h9 := hMR.perm.length_eq; have h8 := missU_le (ups := ups) (has := has) (j := ups.length) (List.Perm.refl _); omega
        refine g_seq ?_
        refine g_region ?_
        by_cases hc47 : (i : Int) < (script.length : Int)
        · skip
          refine r_cons (s_lss true rfl rfl (dtrue hc47) rfl ?_)
          refine r_nil ?_
          refine g_seq ?_
          refine g_true rfl ?_
          refine g_skip ?_
          refine g_seq ?_
          refine g_block ?_
          refine g_seq ?_
          refine g_region ?_
          refine r_cons (s_move (.int .i64 (i : Int)) rfl rfl ?_)
          refine r_cons (s_indexAddr gA29 (off := oA30) (i : Int) 3 (oA30 + i * 3) (by exact congrArg (fun z_ => Value.slice z_ script.length cc6) (hp35 (by omega))) rfl el_102 (by omega) rfl rfl ?_)
          refine r_cons (s_loadAgg [.int .i64 ((script.getD i default).do_.v), .int .i64 ((script.getD i default).from_.v), .slice ((script.getD i default).p) ((script.getD i default).state.length) ((script.getD i default).c)] 3 ag_109 rfl (H45.imi_at (i := 3) rfl (by omega)) (by have := elem_size (i := i) (s := 3) (hs37 (by omega)) (by omega); omega) (elem_take mvCell_len (hx36 (by omega)) (by omega) default) rfl ?_)
          refine r_cons (s_alloc H45 109 ze_109 rfl ?_); intro bk48 w49 H50
          refine r_cons (s_assign (.int .i64 (i : Int)) rfl rfl ?_)
          refine r_cons (s_storeAgg H50 0 #[.int .i64 ((script.getD i default).do_.v), .int .i64 ((script.getD i default).from_.v), .slice ((script.getD i default).p) ((script.getD i default).state.length) ((script.getD i default).c)] 3 rfl rfl rfl sz_109 rfl (by simp [Value.oneCell']) (Nat.le_of_ble_eq_true rfl) (fun o h1 h2 => by first | (simp; done) | (simp; omega)) (cs' := #[.int .i64 ((script.getD i default).do_.v), .int .i64 ((script.getD i default).from_.v), .slice ((script.getD i default).p) ((script.getD i default).state.length) ((script.getD i default).c)]) rfl ?_); intro w51 H52
          refine r_nil ?_
          refine g_seq ?_
          refine g_seq ?_
          refine g_region ?_
          refine r_cons (s_move (.int .i64 (i : Int)) rfl rfl ?_)
          refine r_cons (s_rem ((i : Int) % 3) rfl rfl (by omega) (tmod_pos (by omega)) rfl ?_)
          by_cases hc53 : (i : Int) % 3 = 2
          · skip
            refine r_cons (s_eql true rfl rfl (dtrue hc53) rfl ?_)
            refine r_nil ?_
            refine g_cut (fun (x_ : Nat) => match x_ with | Y => [(6, .bool false), (7, .pointer (some ⟨Y, 0, none⟩)), (9, .pointer (some ⟨bk21, 0, none⟩)), (52, .slice pp5 script.length cc6), (53, .int .i64 (script.length : Int)), (54, .int .i64 (i : Int)), (12, .pointer (some ⟨bk48, 0, none⟩))]) (fun (x_ : Nat) w => match x_ with | Y => St W w (blk bk48 (.cells #[.int .i64 ((script.getD i default).do_.v), .int .i64 ((script.getD i default).from_.v), .slice ((script.getD i default).p) ((script.getD i default).state.length) ((script.getD i default).c)] 109 (0, 0)) :: MvA Y op M ups ph :: RvA bk21 op ups has ph :: mvsA script :: imi (0 < script.length) gA29 (.cells kA31 eA32 zA33) :: dsA Ds :: F)) ?_ ?_
            · rintro Y ρ57 w55 H56
              change Ends _ _ (upds ρ57 [(6, .bool false), (7, .pointer (some ⟨Y, 0, none⟩)), (9, .pointer (some ⟨bk21, 0, none⟩)), (52, .slice pp5 script.length cc6), (53, .int .i64 (script.length : Int)), (54, .int .i64 (i : Int)), (12, .pointer (some ⟨bk48, 0, none⟩))]) w55
              refine g_seq ?_
              refine g_seq ?_
              refine g_region ?_
              have H59 : St W w55 (Im 1 (.slice ((script.getD i default).p) ((script.getD i default).state.length) ((script.getD i default).c)) ((script.getD i default).state.length) ((script.getD i default).state.flatMap u8c) :: blk bk48 (.cells #[.int .i64 ((script.getD i default).do_.v), .int .i64 ((script.getD i default).from_.v), .slice ((script.getD i default).p) ((script.getD i default).state.length) ((script.getD i default).c)] 109 (0, 0)) :: MvA Y op M ups ph :: RvA bk21 op ups has ph :: mvsA script :: imi (0 < script.length) gA29 (.cells kA31 eA32 zA33) :: dsA Ds :: F) := mvsA_at H56 (i := 3) rfl (j := i) (by omega)
              refine r_cons (s_fieldAddr 109 0 0 0 3 rfl fi_109_0 rfl rfl ?_)
              refine r_cons (s_load (.int .i64 ((script.getD i default).do_.v)) ag_3 rfl (H59.blk_at (i := 1) rfl) rfl rfl ?_)
              refine r_nil ?_
              refine g_cut (fun (x_ : (List I64) × (List Bool) × Int) => match x_ with | (M2, has2, ph2) => [(6, .bool false), (7, .pointer (some ⟨Y, 0, none⟩)), (9, .pointer (some ⟨bk21, 0, none⟩)), (52, .slice pp5 script.length cc6), (53, .int .i64 (script.length : Int)), (54, .int .i64 (i : Int))]) (fun (x_ : (List I64) × (List Bool) × Int) w => match x_ with | (M2, has2, ph2) => (MR ups has2 M2 ups) ∧ St W w (Im 1 (.slice ((script.getD i default).p) ((script.getD i default).state.length) ((script.getD i default).c)) ((script.getD i default).state.length) ((script.getD i default).state.flatMap u8c) :: blk bk48 (.cells #[.int .i64 ((script.getD i default).do_.v), .int .i64 ((script.getD i default).from_.v), .slice ((script.getD i default).p) ((script.getD i default).state.length) ((script.getD i default).c)] 109 (0, 0)) :: MvA Y op M2 ups ph2 :: RvA bk21 op ups has2 ph2 :: mvsA script :: imi (0 < script.length) gA29 (.cells kA31 eA32 zA33) :: dsA Ds :: F)) ?_ ?_
              · rintro ⟨M2, has2, ph2⟩ ρ63 w61 ⟨hMRm, H62⟩
                change Ends _ _ (upds ρ63 [(6, .bool false), (7, .pointer (some ⟨Y, 0, none⟩)), (9, .pointer (some ⟨bk21, 0, none⟩)), (52, .slice pp5 script.length cc6), (53, .int .i64 (script.length : Int)), (54, .int .i64 (i : Int))]) w61
                have hml7 : M2.length ≤ 64 := by have h9 := hMRm.perm.length_eq; have h8 := missU_le (ups := ups) (has := has2) (j := ups.length) (List.Perm.refl _); omega
                have hnd7 := hMRm.nd
                refine g_seq ?_
                refine g_region ?_
                refine r_cons (s_alloc H62 101 ze_101 rfl ?_); intro bk64 w65 H66
                refine r_nil ?_
                refine g_seq ?_
                refine g_seq ?_
                refine g_region ?_
                refine r_cons (s_move (.pointer (some ⟨Y, 0, none⟩)) rfl rfl ?_)
                refine r_cons (s_call [.pointer (some ⟨Y, 0, none⟩)] pl_56 rfl rfl (Mv_Missing Y op M2 ups ph2 (by omega) (i := 3) rfl H66) ?_)
                rintro _ w70 ⟨bk67, pp68, cc69, rfl, H71⟩
                refine r_nil ?_
                refine g_block ?_
                have H72 := Row.nil_intro H71 3 1
                have H73 : St W w70 (blk bk64 (.cells #[.slice none 0 0] 101 (0, 0)) :: Row 3 1 (.slice none 0 0) 0 [] :: imm bk67 (.cells #[.slice pp68 ((sortI M2).length) cc69] 101 (0, 0)) :: Im 1 (.slice pp68 ((sortI M2).length) cc69) ((sortI M2).length) ((sortI M2).flatMap i64c) :: Im 1 (.slice ((script.getD i default).p) ((script.getD i default).state.length) ((script.getD i default).c)) ((script.getD i default).state.length) ((script.getD i default).state.flatMap u8c) :: blk bk48 (.cells #[.int .i64 ((script.getD i default).do_.v), .int .i64 ((script.getD i default).from_.v), .slice ((script.getD i default).p) ((script.getD i default).state.length) ((script.getD i default).c)] 109 (0, 0)) :: MvA Y op M2 ups ph2 :: RvA bk21 op ups has2 ph2 :: mvsA script :: imi (0 < script.length) gA29 (.cells kA31 eA32 zA33) :: dsA Ds :: F) := (H72.move 3 rfl)
                have H74 : St W w70 ((ex fun q : Option Addr × Nat => star [blk bk64 (.cells #[.slice q.1 ([] : List I64).length q.2] 101 (0, 0)), Row 3 1 (.slice q.1 ([] : List I64).length q.2) ([] : List I64).length (([] : List I64).flatMap i64c)]) :: imm bk67 (.cells #[.slice pp68 ((sortI M2).length) cc69] 101 (0, 0)) :: Im 1 (.slice pp68 ((sortI M2).length) cc69) ((sortI M2).length) ((sortI M2).flatMap i64c) :: Im 1 (.slice ((script.getD i default).p) ((script.getD i default).state.length) ((script.getD i default).c)) ((script.getD i default).state.length) ((script.getD i default).state.flatMap u8c) :: blk bk48 (.cells #[.int .i64 ((script.getD i default).do_.v), .int .i64 ((script.getD i default).from_.v), .slice ((script.getD i default).p) ((script.getD i default).state.length) ((script.getD i default).c)] 109 (0, 0)) :: MvA Y op M2 ups ph2 :: RvA bk21 op ups has2 ph2 :: mvsA script :: imi (0 < script.length) gA29 (.cells kA31 eA32 zA33) :: dsA Ds :: F) := St.shut_ex (none, 0) (St.shut_star (ls := [blk bk64 (.cells #[.slice none 0 0] 101 (0, 0)), Row 3 1 (.slice none 0 0) 0 []]) H73)
                have hsl64 : (sortI M2).length ≤ 64 := by rw [sortI_len]; omega
                refine g_range1 (W := W) (F := imm bk67 (.cells #[.slice pp68 ((sortI M2).length) cc69] 101 (0, 0)) :: Im 1 (.slice pp68 ((sortI M2).length) cc69) ((sortI M2).length) ((sortI M2).flatMap i64c) :: Im 1 (.slice ((script.getD i default).p) ((script.getD i default).state.length) ((script.getD i default).c)) ((script.getD i default).state.length) ((script.getD i default).state.flatMap u8c) :: blk bk48 (.cells #[.int .i64 ((script.getD i default).do_.v), .int .i64 ((script.getD i default).from_.v), .slice ((script.getD i default).p) ((script.getD i default).state.length) ((script.getD i default).c)] 109 (0, 0)) :: MvA Y op M2 ups ph2 :: RvA bk21 op ups has2 ph2 :: mvsA script :: imi (0 < script.length) gA29 (.cells kA31 eA32 zA33) :: dsA Ds :: F) 129 [.pointer (some ⟨bk67, 0, none⟩)] rfl rfl pl_129 (fun x_ : I64 => .int .i64 x_.v) rfl (fun x_ : I64 => emp) (fun pre_ => (ex fun q : Option Addr × Nat => star [blk bk64 (.cells #[.slice q.1 pre_.length q.2] 101 (0, 0)), Row 3 1 (.slice q.1 pre_.length q.2) pre_.length (pre_.flatMap i64c)])) (fun c_ pre_ => pure' False) (fun pre_ x_ => (pre_ ++ [x_]) <+: (sortI M2)) (fun L_ => L_ = (sortI M2)) (fun L_ => True) H74 ?_ ?_ ?_ ?_
                · intro l75 r76 w77 G78 pre79 x80 hr81 hr82 hok83 H84
                  try dsimp only at hok83 H84
                  have H85 : St W w77 (blk l75 (.loop r76) :: (ex fun q : Option Addr × Nat => star [blk bk64 (.cells #[.slice q.1 pre79.length q.2] 101 (0, 0)), Row 3 1 (.slice q.1 pre79.length q.2) pre79.length (pre79.flatMap i64c)]) :: emp :: G78) := H84
                  have H86 := H85.move 1 rfl
                  obtain ⟨⟨pp87, cc88⟩, H89⟩ := St.open_ex H86
                  have H90 := St.open_star H89
                  have H91 : St W w77 (blk bk64 (.cells #[.slice pp87 pre79.length cc88] 101 (0, 0)) :: Row 3 1 (.slice pp87 pre79.length cc88) pre79.length (pre79.flatMap i64c) :: blk l75 (.loop r76) :: emp :: G78) := H90
                  have hpl : pre79.length + 1 ≤ 64 := by have h9 := (hok83).length_le; simp only [List.length_append, List.length_cons, List.length_nil] at h9; omega
                  refine g_region ?_
                  refine r_cons (s_assign (.int .i64 x80.v) rfl rfl ?_)
                  refine r_nil ?_
                  refine g_beginRound H91 (i := 2) rfl hr81 ?_; intro w92 H93
                  have H94 : St W w92 (blk bk64 (.cells #[.slice pp87 pre79.length cc88] 101 (0, 0)) :: Row 3 1 (.slice pp87 pre79.length cc88) pre79.length (pre79.flatMap i64c) :: blk l75 (.loop { r76 with state := .busy }) :: emp :: G78) := H93
                  refine g_block ?_
                  refine g_region ?_
                  refine r_cons (s_load (.slice pp87 pre79.length cc88) ag_101 rfl (H94.blk_at (i := 0) rfl) rfl rfl ?_)
                  refine r_cons (s_move (.int .i64 x80.v) rfl rfl ?_)
                  refine r_cons (s_buildSlice H94 1 1 (cs := #[.int .i64 x80.v]) #[.int .i64 0] el_101 ze_3 (by decide) (by decide) (by kernel_rfl) rfl ?_); intro bk95 w96 H97
                  refine r_cons (s_append H97 2 rfl rfl rfl (rd_blk (H97.blk_at (i := 0) rfl) rfl (Nat.le_of_ble_eq_true rfl) (by simp [Value.oneCell'])) ap_101 (by decide) (by unfold maxLen; omega) (by omega) (n' := pre79.length + 1) (xs' := pre79.flatMap i64c ++ ([.int .i64 x80.v] : List Value)) (by omega) (by first | rfl | simp) rfl ?_); intro vv98 w99 H100 hn101
                  obtain ⟨pp102, cc103, rfl⟩ := Row.slice H100 (i := 2) rfl
                  refine r_cons (s_store H100 1 (.slice pp102 (pre79.length + 1) cc103) rfl rfl rfl sz_101 rfl (Nat.le_of_ble_eq_true rfl) rfl (cs' := #[.slice pp102 (pre79.length + 1) cc103]) rfl ?_); intro w104 H105
                  refine r_nil ?_
                  refine g_inBlock ?_
                  have H106 : St W w104 (blk bk95 (.cells #[.int .i64 x80.v] 3 (0, 0)) :: blk bk64 (.cells #[.slice pp102 ((pre79 ++ [x80]).length) cc103] 101 (0, 0)) :: Row 3 1 (.slice pp102 ((pre79 ++ [x80]).length) cc103) ((pre79 ++ [x80]).length) ((pre79 ++ [x80]).flatMap i64c) :: blk l75 (.loop { r76 with state := .busy }) :: emp :: G78) := by rw [List.flatMap_append, List.length_append]; exact H105
                  have H107 : St W w104 (blk bk64 (.cells #[.slice pp102 ((pre79 ++ [x80]).length) cc103] 101 (0, 0)) :: Row 3 1 (.slice pp102 ((pre79 ++ [x80]).length) cc103) ((pre79 ++ [x80]).length) ((pre79 ++ [x80]).flatMap i64c) :: blk bk95 (.cells #[.int .i64 x80.v] 3 (0, 0)) :: blk l75 (.loop { r76 with state := .busy }) :: emp :: G78) := ((H106.move 2 rfl).move 2 rfl)
                  have H108 : St W w104 ((ex fun q : Option Addr × Nat => star [blk bk64 (.cells #[.slice q.1 (pre79 ++ [x80]).length q.2] 101 (0, 0)), Row 3 1 (.slice q.1 (pre79 ++ [x80]).length q.2) (pre79 ++ [x80]).length ((pre79 ++ [x80]).flatMap i64c)]) :: blk bk95 (.cells #[.int .i64 x80.v] 3 (0, 0)) :: blk l75 (.loop { r76 with state := .busy }) :: emp :: G78) := St.shut_ex (pp102, cc103) (St.shut_star (ls := [blk bk64 (.cells #[.slice pp102 ((pre79 ++ [x80]).length) cc103] 101 (0, 0)), Row 3 1 (.slice pp102 ((pre79 ++ [x80]).length) cc103) ((pre79 ++ [x80]).length) ((pre79 ++ [x80]).flatMap i64c)]) H107)
                  have H109 : St W w104 (blk l75 (.loop { r76 with state := .busy }) :: (ex fun q : Option Addr × Nat => star [blk bk64 (.cells #[.slice q.1 (pre79 ++ [x80]).length q.2] 101 (0, 0)), Row 3 1 (.slice q.1 (pre79 ++ [x80]).length q.2) (pre79 ++ [x80]).length ((pre79 ++ [x80]).flatMap i64c)]) :: G78) := (((H108.move 2 rfl).drop 2 rfl).drop 2 rfl)
                  refine g_round_end hr81 hr82 H109 (i := 0) rfl ?_; intro w110 H111
                  exact .inl ⟨rfl, H111⟩
                · intro l J Jx B w H hY; exact Values1_ bk67 l (sortI M2) _ _ J Jx (i := 1) rfl (j := 2) rfl hY H
                · intro D112 L113 w114 hS115 H116
                  have H118 : St W w114 ((ex fun q : Option Addr × Nat => star [blk bk64 (.cells #[.slice q.1 L113.length q.2] 101 (0, 0)), Row 3 1 (.slice q.1 L113.length q.2) L113.length (L113.flatMap i64c)]) :: blk D112 (.deferred (some [])) :: imm bk67 (.cells #[.slice pp68 ((sortI M2).length) cc69] 101 (0, 0)) :: Im 1 (.slice pp68 ((sortI M2).length) cc69) ((sortI M2).length) ((sortI M2).flatMap i64c) :: Im 1 (.slice ((script.getD i default).p) ((script.getD i default).state.length) ((script.getD i default).c)) ((script.getD i default).state.length) ((script.getD i default).state.flatMap u8c) :: blk bk48 (.cells #[.int .i64 ((script.getD i default).do_.v), .int .i64 ((script.getD i default).from_.v), .slice ((script.getD i default).p) ((script.getD i default).state.length) ((script.getD i default).c)] 109 (0, 0)) :: MvA Y op M2 ups ph2 :: RvA bk21 op ups has2 ph2 :: mvsA script :: imi (0 < script.length) gA29 (.cells kA31 eA32 zA33) :: dsA Ds :: F) := H116
                  obtain ⟨⟨pp119, cc120⟩, H121⟩ := St.open_ex H118
                  have H122 := St.open_star H121
                  have H123 : St W w114 (blk bk64 (.cells #[.slice pp119 L113.length cc120] 101 (0, 0)) :: Row 3 1 (.slice pp119 L113.length cc120) L113.length (L113.flatMap i64c) :: blk D112 (.deferred (some [])) :: imm bk67 (.cells #[.slice pp68 ((sortI M2).length) cc69] 101 (0, 0)) :: Im 1 (.slice pp68 ((sortI M2).length) cc69) ((sortI M2).length) ((sortI M2).flatMap i64c) :: Im 1 (.slice ((script.getD i default).p) ((script.getD i default).state.length) ((script.getD i default).c)) ((script.getD i default).state.length) ((script.getD i default).state.flatMap u8c) :: blk bk48 (.cells #[.int .i64 ((script.getD i default).do_.v), .int .i64 ((script.getD i default).from_.v), .slice ((script.getD i default).p) ((script.getD i default).state.length) ((script.getD i default).c)] 109 (0, 0)) :: MvA Y op M2 ups ph2 :: RvA bk21 op ups has2 ph2 :: mvsA script :: imi (0 < script.length) gA29 (.cells kA31 eA32 zA33) :: dsA Ds :: F) := H122
                  have hLs := hS115
                  have H124 : St W w114 (blk bk64 (.cells #[.slice pp119 ((sortI M2).length) cc120] 101 (0, 0)) :: Row 3 1 (.slice pp119 ((sortI M2).length) cc120) ((sortI M2).length) ((sortI M2).flatMap i64c) :: blk D112 (.deferred (some [])) :: imm bk67 (.cells #[.slice pp68 ((sortI M2).length) cc69] 101 (0, 0)) :: Im 1 (.slice pp68 ((sortI M2).length) cc69) ((sortI M2).length) ((sortI M2).flatMap i64c) :: Im 1 (.slice ((script.getD i default).p) ((script.getD i default).state.length) ((script.getD i default).c)) ((script.getD i default).state.length) ((script.getD i default).state.flatMap u8c) :: blk bk48 (.cells #[.int .i64 ((script.getD i default).do_.v), .int .i64 ((script.getD i default).from_.v), .slice ((script.getD i default).p) ((script.getD i default).state.length) ((script.getD i default).c)] 109 (0, 0)) :: MvA Y op M2 ups ph2 :: RvA bk21 op ups has2 ph2 :: mvsA script :: imi (0 < script.length) gA29 (.cells kA31 eA32 zA33) :: dsA Ds :: F) := by have hx := H123; rw [hLs] at hx; exact hx
                  refine g_inBlock ?_
                  refine g_seq ?_
                  have H125 := H124.move 8 rfl
                  obtain ⟨⟨⟨pp126, cc127⟩, pp128, cc129⟩, H130⟩ := St.open_ex H125
                  have H131 := St.open_star H130
                  have H132 : St W w114 (blk bk21 (.cells #[.int .i64 op.v, .slice pp126 ups.length cc127, .slice pp128 has2.length cc129, .int .i64 ph2] 115 (0, 0)) :: Im 1 (.slice pp126 ups.length cc127) ups.length (ups.flatMap i64c) :: Row 4 1 (.slice pp128 has2.length cc129) has2.length (has2.flatMap blc) :: blk bk64 (.cells #[.slice pp119 ((sortI M2).length) cc120] 101 (0, 0)) :: Row 3 1 (.slice pp119 ((sortI M2).length) cc120) ((sortI M2).length) ((sortI M2).flatMap i64c) :: blk D112 (.deferred (some [])) :: imm bk67 (.cells #[.slice pp68 ((sortI M2).length) cc69] 101 (0, 0)) :: Im 1 (.slice pp68 ((sortI M2).length) cc69) ((sortI M2).length) ((sortI M2).flatMap i64c) :: Im 1 (.slice ((script.getD i default).p) ((script.getD i default).state.length) ((script.getD i default).c)) ((script.getD i default).state.length) ((script.getD i default).state.flatMap u8c) :: blk bk48 (.cells #[.int .i64 ((script.getD i default).do_.v), .int .i64 ((script.getD i default).from_.v), .slice ((script.getD i default).p) ((script.getD i default).state.length) ((script.getD i default).c)] 109 (0, 0)) :: MvA Y op M2 ups ph2 :: mvsA script :: imi (0 < script.length) gA29 (.cells kA31 eA32 zA33) :: dsA Ds :: F) := H131
                  have H133 : St W w114 (dsA Ds :: blk bk21 (.cells #[.int .i64 op.v, .slice pp126 ups.length cc127, .slice pp128 has2.length cc129, .int .i64 ph2] 115 (0, 0)) :: Im 1 (.slice pp126 ups.length cc127) ups.length (ups.flatMap i64c) :: Row 4 1 (.slice pp128 has2.length cc129) has2.length (has2.flatMap blc) :: Row 3 1 (.slice pp119 ((sortI M2).length) cc120) ((sortI M2).length) ((sortI M2).flatMap i64c) :: blk bk64 (.cells #[.slice pp119 ((sortI M2).length) cc120] 101 (0, 0)) :: blk D112 (.deferred (some [])) :: imm bk67 (.cells #[.slice pp68 ((sortI M2).length) cc69] 101 (0, 0)) :: Im 1 (.slice pp68 ((sortI M2).length) cc69) ((sortI M2).length) ((sortI M2).flatMap i64c) :: Im 1 (.slice ((script.getD i default).p) ((script.getD i default).state.length) ((script.getD i default).c)) ((script.getD i default).state.length) ((script.getD i default).state.flatMap u8c) :: blk bk48 (.cells #[.int .i64 ((script.getD i default).do_.v), .int .i64 ((script.getD i default).from_.v), .slice ((script.getD i default).p) ((script.getD i default).state.length) ((script.getD i default).c)] 109 (0, 0)) :: MvA Y op M2 ups ph2 :: mvsA script :: imi (0 < script.length) gA29 (.cells kA31 eA32 zA33) :: F) := (((((H132.move 4 rfl).move 3 rfl).move 3 rfl).move 3 rfl).move 13 rfl)
                  have H134 : St W w114 (Im 1 (.slice ((script.getD i default).p) ((script.getD i default).state.length) ((script.getD i default).c)) ((script.getD i default).state.length) ((script.getD i default).state.flatMap u8c) :: blk bk48 (.cells #[.int .i64 ((script.getD i default).do_.v), .int .i64 ((script.getD i default).from_.v), .slice ((script.getD i default).p) ((script.getD i default).state.length) ((script.getD i default).c)] 109 (0, 0)) :: MvA Y op M2 ups ph2 :: mvsA script :: imi (0 < script.length) gA29 (.cells kA31 eA32 zA33) :: dsA Ds :: blk bk21 (.cells #[.int .i64 op.v, .slice pp126 ups.length cc127, .slice pp128 has2.length cc129, .int .i64 ph2] 115 (0, 0)) :: Im 1 (.slice pp126 ups.length cc127) ups.length (ups.flatMap i64c) :: Row 4 1 (.slice pp128 has2.length cc129) has2.length (has2.flatMap blc) :: Row 3 1 (.slice pp119 ((sortI M2).length) cc120) ((sortI M2).length) ((sortI M2).flatMap i64c) :: blk bk64 (.cells #[.slice pp119 ((sortI M2).length) cc120] 101 (0, 0)) :: blk D112 (.deferred (some [])) :: imm bk67 (.cells #[.slice pp68 ((sortI M2).length) cc69] 101 (0, 0)) :: Im 1 (.slice pp68 ((sortI M2).length) cc69) ((sortI M2).length) ((sortI M2).flatMap i64c) :: F) := (((((H133.move 13 rfl).move 13 rfl).move 13 rfl).move 13 rfl).move 13 rfl)
                  have H135 : St W w114 (blk bk64 (.cells #[.slice pp119 ((sortI M2).length) cc120] 101 (0, 0)) :: blk D112 (.deferred (some [])) :: imm bk67 (.cells #[.slice pp68 ((sortI M2).length) cc69] 101 (0, 0)) :: Im 1 (.slice pp68 ((sortI M2).length) cc69) ((sortI M2).length) ((sortI M2).flatMap i64c) :: Im 1 (.slice ((script.getD i default).p) ((script.getD i default).state.length) ((script.getD i default).c)) ((script.getD i default).state.length) ((script.getD i default).state.flatMap u8c) :: blk bk48 (.cells #[.int .i64 ((script.getD i default).do_.v), .int .i64 ((script.getD i default).from_.v), .slice ((script.getD i default).p) ((script.getD i default).state.length) ((script.getD i default).c)] 109 (0, 0)) :: MvA Y op M2 ups ph2 :: mvsA script :: imi (0 < script.length) gA29 (.cells kA31 eA32 zA33) :: dsA Ds :: blk bk21 (.cells #[.int .i64 op.v, .slice pp126 ups.length cc127, .slice pp128 has2.length cc129, .int .i64 ph2] 115 (0, 0)) :: Im 1 (.slice pp126 ups.length cc127) ups.length (ups.flatMap i64c) :: Row 4 1 (.slice pp128 has2.length cc129) has2.length (has2.flatMap blc) :: Row 3 1 (.slice pp119 ((sortI M2).length) cc120) ((sortI M2).length) ((sortI M2).flatMap i64c) :: F) := ((((H134.move 13 rfl).move 13 rfl).move 13 rfl).move 13 rfl)
                  refine g_mix (fun t_ w => St W w (blk bk64 (.cells #[.slice pp119 ((sortI M2).length) cc120] 101 (0, 0)) :: blk D112 (.deferred (some [])) :: imm bk67 (.cells #[.slice pp68 ((sortI M2).length) cc69] 101 (0, 0)) :: Im 1 (.slice pp68 ((sortI M2).length) cc69) ((sortI M2).length) ((sortI M2).flatMap i64c) :: Im 1 (.slice ((script.getD i default).p) ((script.getD i default).state.length) ((script.getD i default).c)) ((script.getD i default).state.length) ((script.getD i default).state.flatMap u8c) :: blk bk48 (.cells #[.int .i64 ((script.getD i default).do_.v), .int .i64 ((script.getD i default).from_.v), .slice ((script.getD i default).p) ((script.getD i default).state.length) ((script.getD i default).c)] 109 (0, 0)) :: MvA Y op M2 ups ph2 :: mvsA script :: imi (0 < script.length) gA29 (.cells kA31 eA32 zA33) :: dsA Ds :: t_)) (blk bk21 (.cells #[.int .i64 op.v, .slice pp126 ups.length cc127, .slice pp128 has2.length cc129, .int .i64 ph2] 115 (0, 0)) :: Im 1 (.slice pp126 ups.length cc127) ups.length (ups.flatMap i64c) :: Row 4 1 (.slice pp128 has2.length cc129) has2.length (has2.flatMap blc) :: Row 3 1 (.slice pp119 ((sortI M2).length) cc120) ((sortI M2).length) ((sortI M2).flatMap i64c) :: F) mixed 14 rfl H135.drew ?_
                  refine f_first 0 (listed' := #[true, false, false, false, false, false, false, false, false, false, false, false, false, false]) rfl (by kernel_rfl) (by kernel_rfl) (by kernel_rfl) rfl ?_
                  refine f_val rfl rfl rfl (by intro t_ w hw; exact x_move (.pointer (some ⟨Y, 0, none⟩)) rfl w) ?_
                  refine f_first 2 (listed' := #[true, false, true, false, false, false, false, false, false, false, false, false, false, false]) rfl (by kernel_rfl) (by kernel_rfl) (by kernel_rfl) rfl ?_
                  refine f_val rfl rfl rfl (by intro t_ w hw; exact x_move (.pointer (some ⟨bk21, 0, none⟩)) rfl w) ?_
                  refine f_first 3 (listed' := #[true, false, true, true, false, false, false, false, false, false, false, false, false, false]) rfl (by kernel_rfl) (by kernel_rfl) (by kernel_rfl) rfl ?_
                  refine f_val rfl rfl rfl (by intro t_ w hw; exact x_nilCheck (.pointer (some ⟨bk21, 0, none⟩)) rfl ⟨_, rfl⟩ w) ?_
                  refine f_first 4 (listed' := #[true, false, true, true, true, false, false, false, false, false, false, false, false, false]) rfl (by kernel_rfl) (by kernel_rfl) (by kernel_rfl) rfl ?_
                  refine f_val rfl rfl rfl (by intro t_ w hw; exact x_fieldAddr 115 3 3 3 3 rfl fi_115_3 rfl w) ?_
                  refine f_all (rs := [1, 5]) (by kernel_rfl) (by simp) ?_
                  refine a_cons ⟨_, rfl, ?_⟩ (a_cons ⟨_, rfl, ?_⟩ (fun x hx => absurd hx (by simp)))
                  · skip
                    intro w136 H137
                    try dsimp only at H137
                    have H138 : St W w136 (blk bk21 (.cells #[.int .i64 op.v, .slice pp126 ups.length cc127, .slice pp128 has2.length cc129, .int .i64 ph2] 115 (0, 0)) :: Im 1 (.slice pp126 ups.length cc127) ups.length (ups.flatMap i64c) :: Row 4 1 (.slice pp128 has2.length cc129) has2.length (has2.flatMap blc) :: blk bk64 (.cells #[.slice pp119 ((sortI M2).length) cc120] 101 (0, 0)) :: blk D112 (.deferred (some [])) :: imm bk67 (.cells #[.slice pp68 ((sortI M2).length) cc69] 101 (0, 0)) :: Im 1 (.slice pp68 ((sortI M2).length) cc69) ((sortI M2).length) ((sortI M2).flatMap i64c) :: Im 1 (.slice ((script.getD i default).p) ((script.getD i default).state.length) ((script.getD i default).c)) ((script.getD i default).state.length) ((script.getD i default).state.flatMap u8c) :: blk bk48 (.cells #[.int .i64 ((script.getD i default).do_.v), .int .i64 ((script.getD i default).from_.v), .slice ((script.getD i default).p) ((script.getD i default).state.length) ((script.getD i default).c)] 109 (0, 0)) :: MvA Y op M2 ups ph2 :: mvsA script :: imi (0 < script.length) gA29 (.cells kA31 eA32 zA33) :: dsA Ds :: Row 3 1 (.slice pp119 ((sortI M2).length) cc120) ((sortI M2).length) ((sortI M2).flatMap i64c) :: F) := (((H137.move 12 rfl).move 12 rfl).move 12 rfl)
                    have H139 : St W w136 (RvA bk21 op ups has2 ph2 :: blk bk64 (.cells #[.slice pp119 ((sortI M2).length) cc120] 101 (0, 0)) :: blk D112 (.deferred (some [])) :: imm bk67 (.cells #[.slice pp68 ((sortI M2).length) cc69] 101 (0, 0)) :: Im 1 (.slice pp68 ((sortI M2).length) cc69) ((sortI M2).length) ((sortI M2).flatMap i64c) :: Im 1 (.slice ((script.getD i default).p) ((script.getD i default).state.length) ((script.getD i default).c)) ((script.getD i default).state.length) ((script.getD i default).state.flatMap u8c) :: blk bk48 (.cells #[.int .i64 ((script.getD i default).do_.v), .int .i64 ((script.getD i default).from_.v), .slice ((script.getD i default).p) ((script.getD i default).state.length) ((script.getD i default).c)] 109 (0, 0)) :: MvA Y op M2 ups ph2 :: mvsA script :: imi (0 < script.length) gA29 (.cells kA31 eA32 zA33) :: dsA Ds :: Row 3 1 (.slice pp119 ((sortI M2).length) cc120) ((sortI M2).length) ((sortI M2).flatMap i64c) :: F) := St.shut_ex ((pp126, cc127), (pp128, cc129)) (St.shut_star (ls := [blk bk21 (.cells #[.int .i64 op.v, .slice pp126 ups.length cc127, .slice pp128 has2.length cc129, .int .i64 ph2] 115 (0, 0)), Im 1 (.slice pp126 ups.length cc127) ups.length (ups.flatMap i64c), Row 4 1 (.slice pp128 has2.length cc129) has2.length (has2.flatMap blc)]) H138)
                    refine s_call [.pointer (some ⟨Y, 0, none⟩)] pl_49 rfl rfl (Mv_Phase Y op M2 ups ph2 (i := 7) rfl H139) ?_
                    rintro _ w140 ⟨rfl, H141⟩
                    have H142 : St W w140 (mvsA script :: imi (0 < script.length) gA29 (.cells kA31 eA32 zA33) :: dsA Ds :: RvA bk21 op ups has2 ph2 :: Row 3 1 (.slice pp119 ((sortI M2).length) cc120) ((sortI M2).length) ((sortI M2).flatMap i64c) :: blk bk64 (.cells #[.slice pp119 ((sortI M2).length) cc120] 101 (0, 0)) :: blk D112 (.deferred (some [])) :: imm bk67 (.cells #[.slice pp68 ((sortI M2).length) cc69] 101 (0, 0)) :: Im 1 (.slice pp68 ((sortI M2).length) cc69) ((sortI M2).length) ((sortI M2).flatMap i64c) :: Im 1 (.slice ((script.getD i default).p) ((script.getD i default).state.length) ((script.getD i default).c)) ((script.getD i default).state.length) ((script.getD i default).state.flatMap u8c) :: blk bk48 (.cells #[.int .i64 ((script.getD i default).do_.v), .int .i64 ((script.getD i default).from_.v), .slice ((script.getD i default).p) ((script.getD i default).state.length) ((script.getD i default).c)] 109 (0, 0)) :: MvA Y op M2 ups ph2 :: F) := (((((H141.move 11 rfl).move 1 rfl).move 11 rfl).move 11 rfl).move 11 rfl)
                    have H143 : St W w140 (imm bk67 (.cells #[.slice pp68 ((sortI M2).length) cc69] 101 (0, 0)) :: Im 1 (.slice pp68 ((sortI M2).length) cc69) ((sortI M2).length) ((sortI M2).flatMap i64c) :: Im 1 (.slice ((script.getD i default).p) ((script.getD i default).state.length) ((script.getD i default).c)) ((script.getD i default).state.length) ((script.getD i default).state.flatMap u8c) :: blk bk48 (.cells #[.int .i64 ((script.getD i default).do_.v), .int .i64 ((script.getD i default).from_.v), .slice ((script.getD i default).p) ((script.getD i default).state.length) ((script.getD i default).c)] 109 (0, 0)) :: MvA Y op M2 ups ph2 :: mvsA script :: imi (0 < script.length) gA29 (.cells kA31 eA32 zA33) :: dsA Ds :: RvA bk21 op ups has2 ph2 :: Row 3 1 (.slice pp119 ((sortI M2).length) cc120) ((sortI M2).length) ((sortI M2).flatMap i64c) :: blk bk64 (.cells #[.slice pp119 ((sortI M2).length) cc120] 101 (0, 0)) :: blk D112 (.deferred (some [])) :: F) := (((((H142.move 11 rfl).move 11 rfl).move 11 rfl).move 11 rfl).move 11 rfl)
                    have H144 : St W w140 (blk bk64 (.cells #[.slice pp119 ((sortI M2).length) cc120] 101 (0, 0)) :: blk D112 (.deferred (some [])) :: imm bk67 (.cells #[.slice pp68 ((sortI M2).length) cc69] 101 (0, 0)) :: Im 1 (.slice pp68 ((sortI M2).length) cc69) ((sortI M2).length) ((sortI M2).flatMap i64c) :: Im 1 (.slice ((script.getD i default).p) ((script.getD i default).state.length) ((script.getD i default).c)) ((script.getD i default).state.length) ((script.getD i default).state.flatMap u8c) :: blk bk48 (.cells #[.int .i64 ((script.getD i default).do_.v), .int .i64 ((script.getD i default).from_.v), .slice ((script.getD i default).p) ((script.getD i default).state.length) ((script.getD i default).c)] 109 (0, 0)) :: MvA Y op M2 ups ph2 :: mvsA script :: imi (0 < script.length) gA29 (.cells kA31 eA32 zA33) :: dsA Ds :: RvA bk21 op ups has2 ph2 :: Row 3 1 (.slice pp119 ((sortI M2).length) cc120) ((sortI M2).length) ((sortI M2).flatMap i64c) :: F) := ((H143.move 11 rfl).move 11 rfl)
                    refine ⟨RvA bk21 op ups has2 ph2 :: Row 3 1 (.slice pp119 ((sortI M2).length) cc120) ((sortI M2).length) ((sortI M2).flatMap i64c) :: F, ?_, H144⟩
                    change FReg _ _ _ _ _ #[true, true, true, true, true, false, false, false, false, false, false, false, false, false] _ _
                    refine f_all (rs := [5]) (by kernel_rfl) (by simp) ?_
                    refine a_cons ⟨_, rfl, ?_⟩ (fun x hx => absurd hx (by simp))
                    intro w145 H146
                    try dsimp only at H146
                    have H147 := H146.move 10 rfl
                    obtain ⟨⟨⟨pp148, cc149⟩, pp150, cc151⟩, H152⟩ := St.open_ex H147
                    have H153 := St.open_star H152
                    have H154 : St W w145 (blk bk21 (.cells #[.int .i64 op.v, .slice pp148 ups.length cc149, .slice pp150 has2.length cc151, .int .i64 ph2] 115 (0, 0)) :: Im 1 (.slice pp148 ups.length cc149) ups.length (ups.flatMap i64c) :: Row 4 1 (.slice pp150 has2.length cc151) has2.length (has2.flatMap blc) :: blk bk64 (.cells #[.slice pp119 ((sortI M2).length) cc120] 101 (0, 0)) :: blk D112 (.deferred (some [])) :: imm bk67 (.cells #[.slice pp68 ((sortI M2).length) cc69] 101 (0, 0)) :: Im 1 (.slice pp68 ((sortI M2).length) cc69) ((sortI M2).length) ((sortI M2).flatMap i64c) :: Im 1 (.slice ((script.getD i default).p) ((script.getD i default).state.length) ((script.getD i default).c)) ((script.getD i default).state.length) ((script.getD i default).state.flatMap u8c) :: blk bk48 (.cells #[.int .i64 ((script.getD i default).do_.v), .int .i64 ((script.getD i default).from_.v), .slice ((script.getD i default).p) ((script.getD i default).state.length) ((script.getD i default).c)] 109 (0, 0)) :: MvA Y op M2 ups ph2 :: mvsA script :: imi (0 < script.length) gA29 (.cells kA31 eA32 zA33) :: dsA Ds :: Row 3 1 (.slice pp119 ((sortI M2).length) cc120) ((sortI M2).length) ((sortI M2).flatMap i64c) :: F) := H153
                    refine s_load (.int .i64 ph2) ag_3 rfl (H154.blk_at (i := 0) rfl) rfl rfl ?_
                    have H155 : St W w145 (dsA Ds :: blk bk21 (.cells #[.int .i64 op.v, .slice pp148 ups.length cc149, .slice pp150 has2.length cc151, .int .i64 ph2] 115 (0, 0)) :: Im 1 (.slice pp148 ups.length cc149) ups.length (ups.flatMap i64c) :: Row 4 1 (.slice pp150 has2.length cc151) has2.length (has2.flatMap blc) :: Row 3 1 (.slice pp119 ((sortI M2).length) cc120) ((sortI M2).length) ((sortI M2).flatMap i64c) :: blk bk64 (.cells #[.slice pp119 ((sortI M2).length) cc120] 101 (0, 0)) :: blk D112 (.deferred (some [])) :: imm bk67 (.cells #[.slice pp68 ((sortI M2).length) cc69] 101 (0, 0)) :: Im 1 (.slice pp68 ((sortI M2).length) cc69) ((sortI M2).length) ((sortI M2).flatMap i64c) :: Im 1 (.slice ((script.getD i default).p) ((script.getD i default).state.length) ((script.getD i default).c)) ((script.getD i default).state.length) ((script.getD i default).state.flatMap u8c) :: blk bk48 (.cells #[.int .i64 ((script.getD i default).do_.v), .int .i64 ((script.getD i default).from_.v), .slice ((script.getD i default).p) ((script.getD i default).state.length) ((script.getD i default).c)] 109 (0, 0)) :: MvA Y op M2 ups ph2 :: mvsA script :: imi (0 < script.length) gA29 (.cells kA31 eA32 zA33) :: F) := (((((H154.move 13 rfl).move 3 rfl).move 3 rfl).move 3 rfl).move 13 rfl)
                    have H156 : St W w145 (Im 1 (.slice ((script.getD i default).p) ((script.getD i default).state.length) ((script.getD i default).c)) ((script.getD i default).state.length) ((script.getD i default).state.flatMap u8c) :: blk bk48 (.cells #[.int .i64 ((script.getD i default).do_.v), .int .i64 ((script.getD i default).from_.v), .slice ((script.getD i default).p) ((script.getD i default).state.length) ((script.getD i default).c)] 109 (0, 0)) :: MvA Y op M2 ups ph2 :: mvsA script :: imi (0 < script.length) gA29 (.cells kA31 eA32 zA33) :: dsA Ds :: blk bk21 (.cells #[.int .i64 op.v, .slice pp148 ups.length cc149, .slice pp150 has2.length cc151, .int .i64 ph2] 115 (0, 0)) :: Im 1 (.slice pp148 ups.length cc149) ups.length (ups.flatMap i64c) :: Row 4 1 (.slice pp150 has2.length cc151) has2.length (has2.flatMap blc) :: Row 3 1 (.slice pp119 ((sortI M2).length) cc120) ((sortI M2).length) ((sortI M2).flatMap i64c) :: blk bk64 (.cells #[.slice pp119 ((sortI M2).length) cc120] 101 (0, 0)) :: blk D112 (.deferred (some [])) :: imm bk67 (.cells #[.slice pp68 ((sortI M2).length) cc69] 101 (0, 0)) :: Im 1 (.slice pp68 ((sortI M2).length) cc69) ((sortI M2).length) ((sortI M2).flatMap i64c) :: F) := (((((H155.move 13 rfl).move 13 rfl).move 13 rfl).move 13 rfl).move 13 rfl)
                    have H157 : St W w145 (blk bk64 (.cells #[.slice pp119 ((sortI M2).length) cc120] 101 (0, 0)) :: blk D112 (.deferred (some [])) :: imm bk67 (.cells #[.slice pp68 ((sortI M2).length) cc69] 101 (0, 0)) :: Im 1 (.slice pp68 ((sortI M2).length) cc69) ((sortI M2).length) ((sortI M2).flatMap i64c) :: Im 1 (.slice ((script.getD i default).p) ((script.getD i default).state.length) ((script.getD i default).c)) ((script.getD i default).state.length) ((script.getD i default).state.flatMap u8c) :: blk bk48 (.cells #[.int .i64 ((script.getD i default).do_.v), .int .i64 ((script.getD i default).from_.v), .slice ((script.getD i default).p) ((script.getD i default).state.length) ((script.getD i default).c)] 109 (0, 0)) :: MvA Y op M2 ups ph2 :: mvsA script :: imi (0 < script.length) gA29 (.cells kA31 eA32 zA33) :: dsA Ds :: blk bk21 (.cells #[.int .i64 op.v, .slice pp148 ups.length cc149, .slice pp150 has2.length cc151, .int .i64 ph2] 115 (0, 0)) :: Im 1 (.slice pp148 ups.length cc149) ups.length (ups.flatMap i64c) :: Row 4 1 (.slice pp150 has2.length cc151) has2.length (has2.flatMap blc) :: Row 3 1 (.slice pp119 ((sortI M2).length) cc120) ((sortI M2).length) ((sortI M2).flatMap i64c) :: F) := ((((H156.move 13 rfl).move 13 rfl).move 13 rfl).move 13 rfl)
                    refine ⟨blk bk21 (.cells #[.int .i64 op.v, .slice pp148 ups.length cc149, .slice pp150 has2.length cc151, .int .i64 ph2] 115 (0, 0)) :: Im 1 (.slice pp148 ups.length cc149) ups.length (ups.flatMap i64c) :: Row 4 1 (.slice pp150 has2.length cc151) has2.length (has2.flatMap blc) :: Row 3 1 (.slice pp119 ((sortI M2).length) cc120) ((sortI M2).length) ((sortI M2).flatMap i64c) :: F, ?_, H157⟩
                    change FReg _ _ _ _ _ #[true, true, true, true, true, true, false, false, false, false, false, false, false, false] _ _
                    refine f_first 6 (listed' := #[true, true, true, true, true, true, true, false, false, false, false, false, false, false]) rfl (by kernel_rfl) (by kernel_rfl) (by kernel_rfl) rfl ?_
                    refine f_val rfl rfl rfl (by intro t_ w hw; exact x_neq false rfl rfl (ntrue rfl) w) ?_
                    refine f_first 7 (listed' := #[true, true, true, true, true, true, true, true, false, false, false, false, false, false]) rfl (by kernel_rfl) (by kernel_rfl) (by kernel_rfl) rfl ?_
                    refine f_val rfl rfl rfl (by intro t_ w hw; exact x_move (.bool false) rfl w) ?_
                    refine f_first 8 (listed' := #[true, true, true, true, true, true, true, true, true, false, false, false, false, false]) rfl (by kernel_rfl) (by kernel_rfl) (by kernel_rfl) rfl ?_
                    refine f_take rfl rfl ?_
                    refine f_val rfl rfl rfl (by intro t_ w hw; exact x_load (.slice pp119 ((sortI M2).length) cc120) ag_101 rfl (hw.blk_at (i := 0) rfl) rfl) ?_
                    refine f_first 9 (listed' := #[true, true, true, true, true, true, true, true, true, true, false, false, false, false]) rfl (by kernel_rfl) (by kernel_rfl) (by kernel_rfl) rfl ?_
                    refine f_take rfl rfl ?_
                    refine f_val rfl rfl rfl (by intro t_ w hw; exact x_move (.pointer (some ⟨bk21, 0, none⟩)) rfl w) ?_
                    refine f_all (rs := [10]) (by kernel_rfl) (by simp) ?_
                    refine a_cons ⟨_, rfl, ?_⟩ (fun x hx => absurd hx (by simp))
                    intro w158 H159
                    try dsimp only at H159
                    refine r_take rfl rfl ?_
                    have H160 : St W w158 (blk bk21 (.cells #[.int .i64 op.v, .slice pp148 ups.length cc149, .slice pp150 has2.length cc151, .int .i64 ph2] 115 (0, 0)) :: Im 1 (.slice pp148 ups.length cc149) ups.length (ups.flatMap i64c) :: Row 4 1 (.slice pp150 has2.length cc151) has2.length (has2.flatMap blc) :: blk bk64 (.cells #[.slice pp119 ((sortI M2).length) cc120] 101 (0, 0)) :: blk D112 (.deferred (some [])) :: imm bk67 (.cells #[.slice pp68 ((sortI M2).length) cc69] 101 (0, 0)) :: Im 1 (.slice pp68 ((sortI M2).length) cc69) ((sortI M2).length) ((sortI M2).flatMap i64c) :: Im 1 (.slice ((script.getD i default).p) ((script.getD i default).state.length) ((script.getD i default).c)) ((script.getD i default).state.length) ((script.getD i default).state.flatMap u8c) :: blk bk48 (.cells #[.int .i64 ((script.getD i default).do_.v), .int .i64 ((script.getD i default).from_.v), .slice ((script.getD i default).p) ((script.getD i default).state.length) ((script.getD i default).c)] 109 (0, 0)) :: MvA Y op M2 ups ph2 :: mvsA script :: imi (0 < script.length) gA29 (.cells kA31 eA32 zA33) :: dsA Ds :: Row 3 1 (.slice pp119 ((sortI M2).length) cc120) ((sortI M2).length) ((sortI M2).flatMap i64c) :: F) := (((H159.move 12 rfl).move 12 rfl).move 12 rfl)
                    have H161 : St W w158 (RvA bk21 op ups has2 ph2 :: blk bk64 (.cells #[.slice pp119 ((sortI M2).length) cc120] 101 (0, 0)) :: blk D112 (.deferred (some [])) :: imm bk67 (.cells #[.slice pp68 ((sortI M2).length) cc69] 101 (0, 0)) :: Im 1 (.slice pp68 ((sortI M2).length) cc69) ((sortI M2).length) ((sortI M2).flatMap i64c) :: Im 1 (.slice ((script.getD i default).p) ((script.getD i default).state.length) ((script.getD i default).c)) ((script.getD i default).state.length) ((script.getD i default).state.flatMap u8c) :: blk bk48 (.cells #[.int .i64 ((script.getD i default).do_.v), .int .i64 ((script.getD i default).from_.v), .slice ((script.getD i default).p) ((script.getD i default).state.length) ((script.getD i default).c)] 109 (0, 0)) :: MvA Y op M2 ups ph2 :: mvsA script :: imi (0 < script.length) gA29 (.cells kA31 eA32 zA33) :: dsA Ds :: Row 3 1 (.slice pp119 ((sortI M2).length) cc120) ((sortI M2).length) ((sortI M2).flatMap i64c) :: F) := St.shut_ex ((pp148, cc149), (pp150, cc151)) (St.shut_star (ls := [blk bk21 (.cells #[.int .i64 op.v, .slice pp148 ups.length cc149, .slice pp150 has2.length cc151, .int .i64 ph2] 115 (0, 0)), Im 1 (.slice pp148 ups.length cc149) ups.length (ups.flatMap i64c), Row 4 1 (.slice pp150 has2.length cc151) has2.length (has2.flatMap blc)]) H160)
                    refine s_call [.pointer (some ⟨bk21, 0, none⟩)] pl_58 rfl rfl (Rv_Missing bk21 op ups has2 ph2 M2 ups hMRm (by omega) (i := 0) rfl H161) ?_
                    rintro _ w164 ⟨pp162, cc163, rfl, H165⟩
                    have H166 : St W w164 (imi (0 < script.length) gA29 (.cells kA31 eA32 zA33) :: dsA Ds :: Im 1 (.slice pp162 ((sortI M2).length) cc163) ((sortI M2).length) ((sortI M2).flatMap i64c) :: RvA bk21 op ups has2 ph2 :: Row 3 1 (.slice pp119 ((sortI M2).length) cc120) ((sortI M2).length) ((sortI M2).flatMap i64c) :: blk bk64 (.cells #[.slice pp119 ((sortI M2).length) cc120] 101 (0, 0)) :: blk D112 (.deferred (some [])) :: imm bk67 (.cells #[.slice pp68 ((sortI M2).length) cc69] 101 (0, 0)) :: Im 1 (.slice pp68 ((sortI M2).length) cc69) ((sortI M2).length) ((sortI M2).flatMap i64c) :: Im 1 (.slice ((script.getD i default).p) ((script.getD i default).state.length) ((script.getD i default).c)) ((script.getD i default).state.length) ((script.getD i default).state.flatMap u8c) :: blk bk48 (.cells #[.int .i64 ((script.getD i default).do_.v), .int .i64 ((script.getD i default).from_.v), .slice ((script.getD i default).p) ((script.getD i default).state.length) ((script.getD i default).c)] 109 (0, 0)) :: MvA Y op M2 ups ph2 :: mvsA script :: F) := (((((H165.move 12 rfl).move 2 rfl).move 2 rfl).move 12 rfl).move 12 rfl)
                    have H167 : St W w164 (Im 1 (.slice pp68 ((sortI M2).length) cc69) ((sortI M2).length) ((sortI M2).flatMap i64c) :: Im 1 (.slice ((script.getD i default).p) ((script.getD i default).state.length) ((script.getD i default).c)) ((script.getD i default).state.length) ((script.getD i default).state.flatMap u8c) :: blk bk48 (.cells #[.int .i64 ((script.getD i default).do_.v), .int .i64 ((script.getD i default).from_.v), .slice ((script.getD i default).p) ((script.getD i default).state.length) ((script.getD i default).c)] 109 (0, 0)) :: MvA Y op M2 ups ph2 :: mvsA script :: imi (0 < script.length) gA29 (.cells kA31 eA32 zA33) :: dsA Ds :: Im 1 (.slice pp162 ((sortI M2).length) cc163) ((sortI M2).length) ((sortI M2).flatMap i64c) :: RvA bk21 op ups has2 ph2 :: Row 3 1 (.slice pp119 ((sortI M2).length) cc120) ((sortI M2).length) ((sortI M2).flatMap i64c) :: blk bk64 (.cells #[.slice pp119 ((sortI M2).length) cc120] 101 (0, 0)) :: blk D112 (.deferred (some [])) :: imm bk67 (.cells #[.slice pp68 ((sortI M2).length) cc69] 101 (0, 0)) :: F) := (((((H166.move 12 rfl).move 12 rfl).move 12 rfl).move 12 rfl).move 12 rfl)
                    have H168 : St W w164 (blk bk64 (.cells #[.slice pp119 ((sortI M2).length) cc120] 101 (0, 0)) :: blk D112 (.deferred (some [])) :: imm bk67 (.cells #[.slice pp68 ((sortI M2).length) cc69] 101 (0, 0)) :: Im 1 (.slice pp68 ((sortI M2).length) cc69) ((sortI M2).length) ((sortI M2).flatMap i64c) :: Im 1 (.slice ((script.getD i default).p) ((script.getD i default).state.length) ((script.getD i default).c)) ((script.getD i default).state.length) ((script.getD i default).state.flatMap u8c) :: blk bk48 (.cells #[.int .i64 ((script.getD i default).do_.v), .int .i64 ((script.getD i default).from_.v), .slice ((script.getD i default).p) ((script.getD i default).state.length) ((script.getD i default).c)] 109 (0, 0)) :: MvA Y op M2 ups ph2 :: mvsA script :: imi (0 < script.length) gA29 (.cells kA31 eA32 zA33) :: dsA Ds :: Im 1 (.slice pp162 ((sortI M2).length) cc163) ((sortI M2).length) ((sortI M2).flatMap i64c) :: RvA bk21 op ups has2 ph2 :: Row 3 1 (.slice pp119 ((sortI M2).length) cc120) ((sortI M2).length) ((sortI M2).flatMap i64c) :: F) := (((H167.move 12 rfl).move 12 rfl).move 12 rfl)
                    refine ⟨Im 1 (.slice pp162 ((sortI M2).length) cc163) ((sortI M2).length) ((sortI M2).flatMap i64c) :: RvA bk21 op ups has2 ph2 :: Row 3 1 (.slice pp119 ((sortI M2).length) cc120) ((sortI M2).length) ((sortI M2).flatMap i64c) :: F, ?_, H168⟩
                    change FReg _ _ _ _ _ #[true, true, true, true, true, true, true, true, true, true, true, false, false, false] _ _
                    refine f_all (rs := [11]) (by kernel_rfl) (by simp) ?_
                    refine a_cons ⟨_, rfl, ?_⟩ (fun x hx => absurd hx (by simp))
                    intro w169 H170
                    try dsimp only at H170
                    refine r_take rfl rfl ?_
                    have H171 : St W w169 (blk bk64 (.cells #[.slice pp119 ((sortI M2).length) cc120] 101 (0, 0)) :: blk D112 (.deferred (some [])) :: imm bk67 (.cells #[.slice pp68 ((sortI M2).length) cc69] 101 (0, 0)) :: Im 1 (.slice pp68 ((sortI M2).length) cc69) ((sortI M2).length) ((sortI M2).flatMap i64c) :: Im 1 (.slice ((script.getD i default).p) ((script.getD i default).state.length) ((script.getD i default).c)) ((script.getD i default).state.length) ((script.getD i default).state.flatMap u8c) :: blk bk48 (.cells #[.int .i64 ((script.getD i default).do_.v), .int .i64 ((script.getD i default).from_.v), .slice ((script.getD i default).p) ((script.getD i default).state.length) ((script.getD i default).c)] 109 (0, 0)) :: MvA Y op M2 ups ph2 :: mvsA script :: imi (0 < script.length) gA29 (.cells kA31 eA32 zA33) :: dsA Ds :: Im 1 (.slice pp162 ((sortI M2).length) cc163) ((sortI M2).length) ((sortI M2).flatMap i64c) :: RvA bk21 op ups has2 ph2 :: Im 1 (.slice pp119 ((sortI M2).length) cc120) ((sortI M2).length) ((sortI M2).flatMap i64c) :: F) := Row.im H170 (i := 12) rfl
                    refine s_call [.slice pp119 ((sortI M2).length) cc120, .slice pp162 ((sortI M2).length) cc163] pl_57 rfl rfl (Equal_ints (sortI M2) _ _ (j := 12) (k := 10) rfl rfl H171) ?_
                    rintro _ w172 ⟨rfl, H173⟩
                    refine ⟨Im 1 (.slice pp162 ((sortI M2).length) cc163) ((sortI M2).length) ((sortI M2).flatMap i64c) :: RvA bk21 op ups has2 ph2 :: Im 1 (.slice pp119 ((sortI M2).length) cc120) ((sortI M2).length) ((sortI M2).flatMap i64c) :: F, ?_, H173⟩
                    change FReg _ _ _ _ _ #[true, true, true, true, true, true, true, true, true, true, true, true, false, false] _ _
                    refine f_first 12 (listed' := #[true, true, true, true, true, true, true, true, true, true, true, true, true, false]) rfl (by kernel_rfl) (by kernel_rfl) (by kernel_rfl) rfl ?_
                    refine f_take rfl rfl ?_
                    refine f_val rfl rfl rfl (by intro t_ w hw; exact x_not true rfl false rfl w) ?_
                    refine f_first 13 (listed' := #[true, true, true, true, true, true, true, true, true, true, true, true, true, true]) rfl (by kernel_rfl) (by kernel_rfl) (by kernel_rfl) rfl ?_
                    refine f_val rfl rfl rfl (by intro t_ w hw; exact x_pick_f (.bool false) rfl rfl w) ?_
                    refine f_done (by kernel_rfl) ?_
                    intro w174 H175
                    refine g_false rfl ?_
                    refine g_skip ?_
                    refine g_inBlock ?_
                    refine g_region ?_
                    refine r_cons (s_add ((i : Int) + 1) rfl rfl (wi64 (by omega)) rfl ?_)
                    refine r_cons (s_move (.int .i64 ((i : Int) + 1)) rfl rfl ?_)
                    refine r_nil ?_
                    have H176 : St W w174 (blk D112 (.deferred (some [])) :: dsA Ds :: blk bk64 (.cells #[.slice pp119 ((sortI M2).length) cc120] 101 (0, 0)) :: imm bk67 (.cells #[.slice pp68 ((sortI M2).length) cc69] 101 (0, 0)) :: Im 1 (.slice pp68 ((sortI M2).length) cc69) ((sortI M2).length) ((sortI M2).flatMap i64c) :: Im 1 (.slice ((script.getD i default).p) ((script.getD i default).state.length) ((script.getD i default).c)) ((script.getD i default).state.length) ((script.getD i default).state.flatMap u8c) :: blk bk48 (.cells #[.int .i64 ((script.getD i default).do_.v), .int .i64 ((script.getD i default).from_.v), .slice ((script.getD i default).p) ((script.getD i default).state.length) ((script.getD i default).c)] 109 (0, 0)) :: MvA Y op M2 ups ph2 :: mvsA script :: imi (0 < script.length) gA29 (.cells kA31 eA32 zA33) :: Im 1 (.slice pp162 ((sortI M2).length) cc163) ((sortI M2).length) ((sortI M2).flatMap i64c) :: RvA bk21 op ups has2 ph2 :: Im 1 (.slice pp119 ((sortI M2).length) cc120) ((sortI M2).length) ((sortI M2).flatMap i64c) :: F) := ((H175.move 9 rfl).move 2 rfl)
                    have H177 : St W w174 (dsA (D112 :: Ds) :: blk bk64 (.cells #[.slice pp119 ((sortI M2).length) cc120] 101 (0, 0)) :: imm bk67 (.cells #[.slice pp68 ((sortI M2).length) cc69] 101 (0, 0)) :: Im 1 (.slice pp68 ((sortI M2).length) cc69) ((sortI M2).length) ((sortI M2).flatMap i64c) :: Im 1 (.slice ((script.getD i default).p) ((script.getD i default).state.length) ((script.getD i default).c)) ((script.getD i default).state.length) ((script.getD i default).state.flatMap u8c) :: blk bk48 (.cells #[.int .i64 ((script.getD i default).do_.v), .int .i64 ((script.getD i default).from_.v), .slice ((script.getD i default).p) ((script.getD i default).state.length) ((script.getD i default).c)] 109 (0, 0)) :: MvA Y op M2 ups ph2 :: mvsA script :: imi (0 < script.length) gA29 (.cells kA31 eA32 zA33) :: Im 1 (.slice pp162 ((sortI M2).length) cc163) ((sortI M2).length) ((sortI M2).flatMap i64c) :: RvA bk21 op ups has2 ph2 :: Im 1 (.slice pp119 ((sortI M2).length) cc120) ((sortI M2).length) ((sortI M2).flatMap i64c) :: F) := ds_cons H176
                    have H178 : St W w174 (MvA Y op M2 ups ph2 :: RvA bk21 op ups has2 ph2 :: mvsA script :: imi (0 < script.length) gA29 (.cells kA31 eA32 zA33) :: dsA (D112 :: Ds) :: F) := (((((((((((H177.move 8 rfl).move 8 rfl).move 10 rfl).move 9 rfl).drop 5 rfl).drop 5 rfl).drop 5 rfl).drop 5 rfl).drop 5 rfl).drop 5 rfl).drop 5 rfl)
                    exact nx46 (i + 1, Y, M2, has2, ph2, (D112 :: Ds)) _ _ ⟨(by omega), hMRm, H178⟩ (by first | (dsimp only; omega) | omega) ⟨by first | rfl | exact vint (by omega), by first | rfl | exact vint (by omega), by first | rfl | exact vint (by omega), by first | rfl | exact vint (by omega), by first | rfl | exact vint (by omega), by first | rfl | exact vint (by omega), trivial⟩
                  · skip
                    intro w179 H180
                    try dsimp only at H180
                    refine s_load (.int .i64 ph2) ag_3 rfl (H180.blk_at (i := 10) rfl) rfl rfl ?_
                    refine ⟨blk bk21 (.cells #[.int .i64 op.v, .slice pp126 ups.length cc127, .slice pp128 has2.length cc129, .int .i64 ph2] 115 (0, 0)) :: Im 1 (.slice pp126 ups.length cc127) ups.length (ups.flatMap i64c) :: Row 4 1 (.slice pp128 has2.length cc129) has2.length (has2.flatMap blc) :: Row 3 1 (.slice pp119 ((sortI M2).length) cc120) ((sortI M2).length) ((sortI M2).flatMap i64c) :: F, ?_, H180⟩
                    change FReg _ _ _ _ _ #[true, false, true, true, true, true, false, false, false, false, false, false, false, false] _ _
                    refine f_all (rs := [1]) (by kernel_rfl) (by simp) ?_
                    refine a_cons ⟨_, rfl, ?_⟩ (fun x hx => absurd hx (by simp))
                    intro w181 H182
                    try dsimp only at H182
                    have H183 : St W w181 (blk bk21 (.cells #[.int .i64 op.v, .slice pp126 ups.length cc127, .slice pp128 has2.length cc129, .int .i64 ph2] 115 (0, 0)) :: Im 1 (.slice pp126 ups.length cc127) ups.length (ups.flatMap i64c) :: Row 4 1 (.slice pp128 has2.length cc129) has2.length (has2.flatMap blc) :: blk bk64 (.cells #[.slice pp119 ((sortI M2).length) cc120] 101 (0, 0)) :: blk D112 (.deferred (some [])) :: imm bk67 (.cells #[.slice pp68 ((sortI M2).length) cc69] 101 (0, 0)) :: Im 1 (.slice pp68 ((sortI M2).length) cc69) ((sortI M2).length) ((sortI M2).flatMap i64c) :: Im 1 (.slice ((script.getD i default).p) ((script.getD i default).state.length) ((script.getD i default).c)) ((script.getD i default).state.length) ((script.getD i default).state.flatMap u8c) :: blk bk48 (.cells #[.int .i64 ((script.getD i default).do_.v), .int .i64 ((script.getD i default).from_.v), .slice ((script.getD i default).p) ((script.getD i default).state.length) ((script.getD i default).c)] 109 (0, 0)) :: MvA Y op M2 ups ph2 :: mvsA script :: imi (0 < script.length) gA29 (.cells kA31 eA32 zA33) :: dsA Ds :: Row 3 1 (.slice pp119 ((sortI M2).length) cc120) ((sortI M2).length) ((sortI M2).flatMap i64c) :: F) := (((H182.move 12 rfl).move 12 rfl).move 12 rfl)
                    have H184 : St W w181 (RvA bk21 op ups has2 ph2 :: blk bk64 (.cells #[.slice pp119 ((sortI M2).length) cc120] 101 (0, 0)) :: blk D112 (.deferred (some [])) :: imm bk67 (.cells #[.slice pp68 ((sortI M2).length) cc69] 101 (0, 0)) :: Im 1 (.slice pp68 ((sortI M2).length) cc69) ((sortI M2).length) ((sortI M2).flatMap i64c) :: Im 1 (.slice ((script.getD i default).p) ((script.getD i default).state.length) ((script.getD i default).c)) ((script.getD i default).state.length) ((script.getD i default).state.flatMap u8c) :: blk bk48 (.cells #[.int .i64 ((script.getD i default).do_.v), .int .i64 ((script.getD i default).from_.v), .slice ((script.getD i default).p) ((script.getD i default).state.length) ((script.getD i default).c)] 109 (0, 0)) :: MvA Y op M2 ups ph2 :: mvsA script :: imi (0 < script.length) gA29 (.cells kA31 eA32 zA33) :: dsA Ds :: Row 3 1 (.slice pp119 ((sortI M2).length) cc120) ((sortI M2).length) ((sortI M2).flatMap i64c) :: F) := St.shut_ex ((pp126, cc127), (pp128, cc129)) (St.shut_star (ls := [blk bk21 (.cells #[.int .i64 op.v, .slice pp126 ups.length cc127, .slice pp128 has2.length cc129, .int .i64 ph2] 115 (0, 0)), Im 1 (.slice pp126 ups.length cc127) ups.length (ups.flatMap i64c), Row 4 1 (.slice pp128 has2.length cc129) has2.length (has2.flatMap blc)]) H183)
                    refine s_call [.pointer (some ⟨Y, 0, none⟩)] pl_49 rfl rfl (Mv_Phase Y op M2 ups ph2 (i := 7) rfl H184) ?_
                    rintro _ w185 ⟨rfl, H186⟩
                    have H187 : St W w185 (mvsA script :: imi (0 < script.length) gA29 (.cells kA31 eA32 zA33) :: dsA Ds :: RvA bk21 op ups has2 ph2 :: Row 3 1 (.slice pp119 ((sortI M2).length) cc120) ((sortI M2).length) ((sortI M2).flatMap i64c) :: blk bk64 (.cells #[.slice pp119 ((sortI M2).length) cc120] 101 (0, 0)) :: blk D112 (.deferred (some [])) :: imm bk67 (.cells #[.slice pp68 ((sortI M2).length) cc69] 101 (0, 0)) :: Im 1 (.slice pp68 ((sortI M2).length) cc69) ((sortI M2).length) ((sortI M2).flatMap i64c) :: Im 1 (.slice ((script.getD i default).p) ((script.getD i default).state.length) ((script.getD i default).c)) ((script.getD i default).state.length) ((script.getD i default).state.flatMap u8c) :: blk bk48 (.cells #[.int .i64 ((script.getD i default).do_.v), .int .i64 ((script.getD i default).from_.v), .slice ((script.getD i default).p) ((script.getD i default).state.length) ((script.getD i default).c)] 109 (0, 0)) :: MvA Y op M2 ups ph2 :: F) := (((((H186.move 11 rfl).move 1 rfl).move 11 rfl).move 11 rfl).move 11 rfl)
                    have H188 : St W w185 (imm bk67 (.cells #[.slice pp68 ((sortI M2).length) cc69] 101 (0, 0)) :: Im 1 (.slice pp68 ((sortI M2).length) cc69) ((sortI M2).length) ((sortI M2).flatMap i64c) :: Im 1 (.slice ((script.getD i default).p) ((script.getD i default).state.length) ((script.getD i default).c)) ((script.getD i default).state.length) ((script.getD i default).state.flatMap u8c) :: blk bk48 (.cells #[.int .i64 ((script.getD i default).do_.v), .int .i64 ((script.getD i default).from_.v), .slice ((script.getD i default).p) ((script.getD i default).state.length) ((script.getD i default).c)] 109 (0, 0)) :: MvA Y op M2 ups ph2 :: mvsA script :: imi (0 < script.length) gA29 (.cells kA31 eA32 zA33) :: dsA Ds :: RvA bk21 op ups has2 ph2 :: Row 3 1 (.slice pp119 ((sortI M2).length) cc120) ((sortI M2).length) ((sortI M2).flatMap i64c) :: blk bk64 (.cells #[.slice pp119 ((sortI M2).length) cc120] 101 (0, 0)) :: blk D112 (.deferred (some [])) :: F) := (((((H187.move 11 rfl).move 11 rfl).move 11 rfl).move 11 rfl).move 11 rfl)
                    have H189 : St W w185 (blk bk64 (.cells #[.slice pp119 ((sortI M2).length) cc120] 101 (0, 0)) :: blk D112 (.deferred (some [])) :: imm bk67 (.cells #[.slice pp68 ((sortI M2).length) cc69] 101 (0, 0)) :: Im 1 (.slice pp68 ((sortI M2).length) cc69) ((sortI M2).length) ((sortI M2).flatMap i64c) :: Im 1 (.slice ((script.getD i default).p) ((script.getD i default).state.length) ((script.getD i default).c)) ((script.getD i default).state.length) ((script.getD i default).state.flatMap u8c) :: blk bk48 (.cells #[.int .i64 ((script.getD i default).do_.v), .int .i64 ((script.getD i default).from_.v), .slice ((script.getD i default).p) ((script.getD i default).state.length) ((script.getD i default).c)] 109 (0, 0)) :: MvA Y op M2 ups ph2 :: mvsA script :: imi (0 < script.length) gA29 (.cells kA31 eA32 zA33) :: dsA Ds :: RvA bk21 op ups has2 ph2 :: Row 3 1 (.slice pp119 ((sortI M2).length) cc120) ((sortI M2).length) ((sortI M2).flatMap i64c) :: F) := ((H188.move 11 rfl).move 11 rfl)
                    refine ⟨RvA bk21 op ups has2 ph2 :: Row 3 1 (.slice pp119 ((sortI M2).length) cc120) ((sortI M2).length) ((sortI M2).flatMap i64c) :: F, ?_, H189⟩
                    change FReg _ _ _ _ _ #[true, true, true, true, true, true, false, false, false, false, false, false, false, false] _ _
                    refine f_first 6 (listed' := #[true, true, true, true, true, true, true, false, false, false, false, false, false, false]) rfl (by kernel_rfl) (by kernel_rfl) (by kernel_rfl) rfl ?_
                    refine f_val rfl rfl rfl (by intro t_ w hw; exact x_neq false rfl rfl (ntrue rfl) w) ?_
                    refine f_first 7 (listed' := #[true, true, true, true, true, true, true, true, false, false, false, false, false, false]) rfl (by kernel_rfl) (by kernel_rfl) (by kernel_rfl) rfl ?_
                    refine f_val rfl rfl rfl (by intro t_ w hw; exact x_move (.bool false) rfl w) ?_
                    refine f_first 8 (listed' := #[true, true, true, true, true, true, true, true, true, false, false, false, false, false]) rfl (by kernel_rfl) (by kernel_rfl) (by kernel_rfl) rfl ?_
                    refine f_take rfl rfl ?_
                    refine f_val rfl rfl rfl (by intro t_ w hw; exact x_load (.slice pp119 ((sortI M2).length) cc120) ag_101 rfl (hw.blk_at (i := 0) rfl) rfl) ?_
                    refine f_first 9 (listed' := #[true, true, true, true, true, true, true, true, true, true, false, false, false, false]) rfl (by kernel_rfl) (by kernel_rfl) (by kernel_rfl) rfl ?_
                    refine f_take rfl rfl ?_
                    refine f_val rfl rfl rfl (by intro t_ w hw; exact x_move (.pointer (some ⟨bk21, 0, none⟩)) rfl w) ?_
                    refine f_all (rs := [10]) (by kernel_rfl) (by simp) ?_
                    refine a_cons ⟨_, rfl, ?_⟩ (fun x hx => absurd hx (by simp))
                    intro w190 H191
                    try dsimp only at H191
                    refine r_take rfl rfl ?_
                    refine s_call [.pointer (some ⟨bk21, 0, none⟩)] pl_58 rfl rfl (Rv_Missing bk21 op ups has2 ph2 M2 ups hMRm (by omega) (i := 10) rfl H191) ?_
                    rintro _ w194 ⟨pp192, cc193, rfl, H195⟩
                    have H196 : St W w194 (imi (0 < script.length) gA29 (.cells kA31 eA32 zA33) :: dsA Ds :: Im 1 (.slice pp192 ((sortI M2).length) cc193) ((sortI M2).length) ((sortI M2).flatMap i64c) :: RvA bk21 op ups has2 ph2 :: Row 3 1 (.slice pp119 ((sortI M2).length) cc120) ((sortI M2).length) ((sortI M2).flatMap i64c) :: blk bk64 (.cells #[.slice pp119 ((sortI M2).length) cc120] 101 (0, 0)) :: blk D112 (.deferred (some [])) :: imm bk67 (.cells #[.slice pp68 ((sortI M2).length) cc69] 101 (0, 0)) :: Im 1 (.slice pp68 ((sortI M2).length) cc69) ((sortI M2).length) ((sortI M2).flatMap i64c) :: Im 1 (.slice ((script.getD i default).p) ((script.getD i default).state.length) ((script.getD i default).c)) ((script.getD i default).state.length) ((script.getD i default).state.flatMap u8c) :: blk bk48 (.cells #[.int .i64 ((script.getD i default).do_.v), .int .i64 ((script.getD i default).from_.v), .slice ((script.getD i default).p) ((script.getD i default).state.length) ((script.getD i default).c)] 109 (0, 0)) :: MvA Y op M2 ups ph2 :: mvsA script :: F) := (((((H195.move 12 rfl).move 12 rfl).move 2 rfl).move 12 rfl).move 12 rfl)
                    have H197 : St W w194 (Im 1 (.slice pp68 ((sortI M2).length) cc69) ((sortI M2).length) ((sortI M2).flatMap i64c) :: Im 1 (.slice ((script.getD i default).p) ((script.getD i default).state.length) ((script.getD i default).c)) ((script.getD i default).state.length) ((script.getD i default).state.flatMap u8c) :: blk bk48 (.cells #[.int .i64 ((script.getD i default).do_.v), .int .i64 ((script.getD i default).from_.v), .slice ((script.getD i default).p) ((script.getD i default).state.length) ((script.getD i default).c)] 109 (0, 0)) :: MvA Y op M2 ups ph2 :: mvsA script :: imi (0 < script.length) gA29 (.cells kA31 eA32 zA33) :: dsA Ds :: Im 1 (.slice pp192 ((sortI M2).length) cc193) ((sortI M2).length) ((sortI M2).flatMap i64c) :: RvA bk21 op ups has2 ph2 :: Row 3 1 (.slice pp119 ((sortI M2).length) cc120) ((sortI M2).length) ((sortI M2).flatMap i64c) :: blk bk64 (.cells #[.slice pp119 ((sortI M2).length) cc120] 101 (0, 0)) :: blk D112 (.deferred (some [])) :: imm bk67 (.cells #[.slice pp68 ((sortI M2).length) cc69] 101 (0, 0)) :: F) := (((((H196.move 12 rfl).move 12 rfl).move 12 rfl).move 12 rfl).move 12 rfl)
                    have H198 : St W w194 (blk bk64 (.cells #[.slice pp119 ((sortI M2).length) cc120] 101 (0, 0)) :: blk D112 (.deferred (some [])) :: imm bk67 (.cells #[.slice pp68 ((sortI M2).length) cc69] 101 (0, 0)) :: Im 1 (.slice pp68 ((sortI M2).length) cc69) ((sortI M2).length) ((sortI M2).flatMap i64c) :: Im 1 (.slice ((script.getD i default).p) ((script.getD i default).state.length) ((script.getD i default).c)) ((script.getD i default).state.length) ((script.getD i default).state.flatMap u8c) :: blk bk48 (.cells #[.int .i64 ((script.getD i default).do_.v), .int .i64 ((script.getD i default).from_.v), .slice ((script.getD i default).p) ((script.getD i default).state.length) ((script.getD i default).c)] 109 (0, 0)) :: MvA Y op M2 ups ph2 :: mvsA script :: imi (0 < script.length) gA29 (.cells kA31 eA32 zA33) :: dsA Ds :: Im 1 (.slice pp192 ((sortI M2).length) cc193) ((sortI M2).length) ((sortI M2).flatMap i64c) :: RvA bk21 op ups has2 ph2 :: Row 3 1 (.slice pp119 ((sortI M2).length) cc120) ((sortI M2).length) ((sortI M2).flatMap i64c) :: F) := (((H197.move 12 rfl).move 12 rfl).move 12 rfl)
                    refine ⟨Im 1 (.slice pp192 ((sortI M2).length) cc193) ((sortI M2).length) ((sortI M2).flatMap i64c) :: RvA bk21 op ups has2 ph2 :: Row 3 1 (.slice pp119 ((sortI M2).length) cc120) ((sortI M2).length) ((sortI M2).flatMap i64c) :: F, ?_, H198⟩
                    change FReg _ _ _ _ _ #[true, true, true, true, true, true, true, true, true, true, true, false, false, false] _ _
                    refine f_all (rs := [11]) (by kernel_rfl) (by simp) ?_
                    refine a_cons ⟨_, rfl, ?_⟩ (fun x hx => absurd hx (by simp))
                    intro w199 H200
                    try dsimp only at H200
                    refine r_take rfl rfl ?_
                    have H201 : St W w199 (blk bk64 (.cells #[.slice pp119 ((sortI M2).length) cc120] 101 (0, 0)) :: blk D112 (.deferred (some [])) :: imm bk67 (.cells #[.slice pp68 ((sortI M2).length) cc69] 101 (0, 0)) :: Im 1 (.slice pp68 ((sortI M2).length) cc69) ((sortI M2).length) ((sortI M2).flatMap i64c) :: Im 1 (.slice ((script.getD i default).p) ((script.getD i default).state.length) ((script.getD i default).c)) ((script.getD i default).state.length) ((script.getD i default).state.flatMap u8c) :: blk bk48 (.cells #[.int .i64 ((script.getD i default).do_.v), .int .i64 ((script.getD i default).from_.v), .slice ((script.getD i default).p) ((script.getD i default).state.length) ((script.getD i default).c)] 109 (0, 0)) :: MvA Y op M2 ups ph2 :: mvsA script :: imi (0 < script.length) gA29 (.cells kA31 eA32 zA33) :: dsA Ds :: Im 1 (.slice pp192 ((sortI M2).length) cc193) ((sortI M2).length) ((sortI M2).flatMap i64c) :: RvA bk21 op ups has2 ph2 :: Im 1 (.slice pp119 ((sortI M2).length) cc120) ((sortI M2).length) ((sortI M2).flatMap i64c) :: F) := Row.im H200 (i := 12) rfl
                    refine s_call [.slice pp119 ((sortI M2).length) cc120, .slice pp192 ((sortI M2).length) cc193] pl_57 rfl rfl (Equal_ints (sortI M2) _ _ (j := 12) (k := 10) rfl rfl H201) ?_
                    rintro _ w202 ⟨rfl, H203⟩
                    refine ⟨Im 1 (.slice pp192 ((sortI M2).length) cc193) ((sortI M2).length) ((sortI M2).flatMap i64c) :: RvA bk21 op ups has2 ph2 :: Im 1 (.slice pp119 ((sortI M2).length) cc120) ((sortI M2).length) ((sortI M2).flatMap i64c) :: F, ?_, H203⟩
                    change FReg _ _ _ _ _ #[true, true, true, true, true, true, true, true, true, true, true, true, false, false] _ _
                    refine f_first 12 (listed' := #[true, true, true, true, true, true, true, true, true, true, true, true, true, false]) rfl (by kernel_rfl) (by kernel_rfl) (by kernel_rfl) rfl ?_
                    refine f_take rfl rfl ?_
                    refine f_val rfl rfl rfl (by intro t_ w hw; exact x_not true rfl false rfl w) ?_
                    refine f_first 13 (listed' := #[true, true, true, true, true, true, true, true, true, true, true, true, true, true]) rfl (by kernel_rfl) (by kernel_rfl) (by kernel_rfl) rfl ?_
                    refine f_val rfl rfl rfl (by intro t_ w hw; exact x_pick_f (.bool false) rfl rfl w) ?_
                    refine f_done (by kernel_rfl) ?_
                    intro w204 H205
                    refine g_false rfl ?_
                    refine g_skip ?_
                    refine g_inBlock ?_
                    refine g_region ?_
                    refine r_cons (s_add ((i : Int) + 1) rfl rfl (wi64 (by omega)) rfl ?_)
                    refine r_cons (s_move (.int .i64 ((i : Int) + 1)) rfl rfl ?_)
                    refine r_nil ?_
                    have H206 : St W w204 (blk D112 (.deferred (some [])) :: dsA Ds :: blk bk64 (.cells #[.slice pp119 ((sortI M2).length) cc120] 101 (0, 0)) :: imm bk67 (.cells #[.slice pp68 ((sortI M2).length) cc69] 101 (0, 0)) :: Im 1 (.slice pp68 ((sortI M2).length) cc69) ((sortI M2).length) ((sortI M2).flatMap i64c) :: Im 1 (.slice ((script.getD i default).p) ((script.getD i default).state.length) ((script.getD i default).c)) ((script.getD i default).state.length) ((script.getD i default).state.flatMap u8c) :: blk bk48 (.cells #[.int .i64 ((script.getD i default).do_.v), .int .i64 ((script.getD i default).from_.v), .slice ((script.getD i default).p) ((script.getD i default).state.length) ((script.getD i default).c)] 109 (0, 0)) :: MvA Y op M2 ups ph2 :: mvsA script :: imi (0 < script.length) gA29 (.cells kA31 eA32 zA33) :: Im 1 (.slice pp192 ((sortI M2).length) cc193) ((sortI M2).length) ((sortI M2).flatMap i64c) :: RvA bk21 op ups has2 ph2 :: Im 1 (.slice pp119 ((sortI M2).length) cc120) ((sortI M2).length) ((sortI M2).flatMap i64c) :: F) := ((H205.move 9 rfl).move 2 rfl)
                    have H207 : St W w204 (dsA (D112 :: Ds) :: blk bk64 (.cells #[.slice pp119 ((sortI M2).length) cc120] 101 (0, 0)) :: imm bk67 (.cells #[.slice pp68 ((sortI M2).length) cc69] 101 (0, 0)) :: Im 1 (.slice pp68 ((sortI M2).length) cc69) ((sortI M2).length) ((sortI M2).flatMap i64c) :: Im 1 (.slice ((script.getD i default).p) ((script.getD i default).state.length) ((script.getD i default).c)) ((script.getD i default).state.length) ((script.getD i default).state.flatMap u8c) :: blk bk48 (.cells #[.int .i64 ((script.getD i default).do_.v), .int .i64 ((script.getD i default).from_.v), .slice ((script.getD i default).p) ((script.getD i default).state.length) ((script.getD i default).c)] 109 (0, 0)) :: MvA Y op M2 ups ph2 :: mvsA script :: imi (0 < script.length) gA29 (.cells kA31 eA32 zA33) :: Im 1 (.slice pp192 ((sortI M2).length) cc193) ((sortI M2).length) ((sortI M2).flatMap i64c) :: RvA bk21 op ups has2 ph2 :: Im 1 (.slice pp119 ((sortI M2).length) cc120) ((sortI M2).length) ((sortI M2).flatMap i64c) :: F) := ds_cons H206
                    have H208 : St W w204 (MvA Y op M2 ups ph2 :: RvA bk21 op ups has2 ph2 :: mvsA script :: imi (0 < script.length) gA29 (.cells kA31 eA32 zA33) :: dsA (D112 :: Ds) :: F) := (((((((((((H207.move 8 rfl).move 8 rfl).move 10 rfl).move 9 rfl).drop 5 rfl).drop 5 rfl).drop 5 rfl).drop 5 rfl).drop 5 rfl).drop 5 rfl).drop 5 rfl)
                    exact nx46 (i + 1, Y, M2, has2, ph2, (D112 :: Ds)) _ _ ⟨(by omega), hMRm, H208⟩ (by first | (dsimp only; omega) | omega) ⟨by first | rfl | exact vint (by omega), by first | rfl | exact vint (by omega), by first | rfl | exact vint (by omega), by first | rfl | exact vint (by omega), by first | rfl | exact vint (by omega), by first | rfl | exact vint (by omega), trivial⟩
                · intro D209 c214 L210 w211 hS212 H213
                  have H215 : St W w211 (pure' False :: blk D209 (.deferred (some [])) :: imm bk67 (.cells #[.slice pp68 ((sortI M2).length) cc69] 101 (0, 0)) :: Im 1 (.slice pp68 ((sortI M2).length) cc69) ((sortI M2).length) ((sortI M2).flatMap i64c) :: Im 1 (.slice ((script.getD i default).p) ((script.getD i default).state.length) ((script.getD i default).c)) ((script.getD i default).state.length) ((script.getD i default).state.flatMap u8c) :: blk bk48 (.cells #[.int .i64 ((script.getD i default).do_.v), .int .i64 ((script.getD i default).from_.v), .slice ((script.getD i default).p) ((script.getD i default).state.length) ((script.getD i default).c)] 109 (0, 0)) :: MvA Y op M2 ups ph2 :: RvA bk21 op ups has2 ph2 :: mvsA script :: imi (0 < script.length) gA29 (.cells kA31 eA32 zA33) :: dsA Ds :: F) := H213
                  exact (St.open_pure H215).1.elim
              · intro join60
                refine g_block ?_
                refine g_seq ?_
                refine g_region ?_
                by_cases hc216 : (script.getD i default).do_.v = 0
                · skip
                  refine r_cons (s_eql true rfl rfl (dtrue hc216) rfl ?_)
                  refine r_cons (s_assign (.bool true) rfl rfl ?_)
                  refine r_nil ?_
                  refine g_true rfl ?_
                  refine g_seq ?_
                  refine g_region ?_
                  refine r_cons (s_move (.pointer (some ⟨Y, 0, none⟩)) rfl rfl ?_)
                  refine r_cons (s_fieldAddr 109 1 1 1 3 rfl fi_109_1 rfl rfl ?_)
                  refine r_cons (s_load (.int .i64 ((script.getD i default).from_.v)) ag_3 rfl (H59.blk_at (i := 1) rfl) rfl rfl ?_)
                  refine r_cons (s_call [.pointer (some ⟨Y, 0, none⟩), .int .i64 ((script.getD i default).from_.v)] pl_46 rfl rfl (Mv_Marker Y op M ups ph ((script.getD i default).from_) (i := 2) rfl H59) ?_)
                  rintro _ w217 ⟨rfl, H218⟩
                  refine r_cons (s_move (.tuple #[.bool (mkAll M ups ((script.getD i default).from_)), .int .i64 (mkE M ups ((script.getD i default).from_))]) rfl rfl ?_)
                  refine r_cons (s_extract (.bool (mkAll M ups ((script.getD i default).from_))) #[.bool (mkAll M ups ((script.getD i default).from_)), .int .i64 (mkE M ups ((script.getD i default).from_))] rfl rfl rfl ?_)
                  refine r_cons (s_extract (.int .i64 (mkE M ups ((script.getD i default).from_))) #[.bool (mkAll M ups ((script.getD i default).from_)), .int .i64 (mkE M ups ((script.getD i default).from_))] rfl rfl rfl ?_)
                  refine r_cons (s_assign (.bool (mkAll M ups ((script.getD i default).from_))) rfl rfl ?_)
                  refine r_cons (s_assign (.int .i64 (mkE M ups ((script.getD i default).from_))) rfl rfl ?_)
                  refine r_nil ?_
                  refine g_seq ?_
                  refine g_region ?_
                  refine r_cons (s_move (.pointer (some ⟨bk21, 0, none⟩)) rfl rfl ?_)
                  refine r_cons (s_fieldAddr 109 1 1 1 3 rfl fi_109_1 rfl rfl ?_)
                  refine r_cons (s_load (.int .i64 ((script.getD i default).from_.v)) ag_3 rfl (H218.blk_at (i := 1) rfl) rfl rfl ?_)
                  refine r_cons (s_call [.pointer (some ⟨bk21, 0, none⟩), .int .i64 ((script.getD i default).from_.v)] pl_53 rfl rfl (Rv_Marker bk21 op ups has ph ((script.getD i default).from_) hnd9 hlh9 (i := 3) rfl H218) ?_)
                  rintro _ w219 ⟨rfl, H220⟩
                  refine r_cons (s_move (.tuple #[.bool (rmAll ups has ((script.getD i default).from_)), .int .i64 (rmE ups has ((script.getD i default).from_))]) rfl rfl ?_)
                  refine r_cons (s_extract (.bool (rmAll ups has ((script.getD i default).from_))) #[.bool (rmAll ups has ((script.getD i default).from_)), .int .i64 (rmE ups has ((script.getD i default).from_))] rfl rfl rfl ?_)
                  refine r_cons (s_extract (.int .i64 (rmE ups has ((script.getD i default).from_))) #[.bool (rmAll ups has ((script.getD i default).from_)), .int .i64 (rmE ups has ((script.getD i default).from_))] rfl rfl rfl ?_)
                  refine r_cons (s_assign (.bool (rmAll ups has ((script.getD i default).from_))) rfl rfl ?_)
                  refine r_cons (s_assign (.int .i64 (rmE ups has ((script.getD i default).from_))) rfl rfl ?_)
                  refine r_nil ?_
                  refine g_seq ?_
                  refine g_region ?_
                  have H221 : St W w219 (Im 1 (.slice ((script.getD i default).p) ((script.getD i default).state.length) ((script.getD i default).c)) ((script.getD i default).state.length) ((script.getD i default).state.flatMap u8c) :: blk bk48 (.cells #[.int .i64 ((script.getD i default).do_.v), .int .i64 ((script.getD i default).from_.v), .slice ((script.getD i default).p) ((script.getD i default).state.length) ((script.getD i default).c)] 109 (0, 0)) :: MvA Y op (mkM M ups ((script.getD i default).from_)) ups (mkP M ups ((script.getD i default).from_) ph) :: RvA bk21 op ups (rmHas ups has ((script.getD i default).from_)) (rmP ups has ((script.getD i default).from_) ph) :: mvsA script :: imi (0 < script.length) gA29 (.cells kA31 eA32 zA33) :: dsA Ds :: F) := H220
                  have H222 : St W w219 (Im 1 (.slice ((script.getD i default).p) ((script.getD i default).state.length) ((script.getD i default).c)) ((script.getD i default).state.length) ((script.getD i default).state.flatMap u8c) :: blk bk48 (.cells #[.int .i64 ((script.getD i default).do_.v), .int .i64 ((script.getD i default).from_.v), .slice ((script.getD i default).p) ((script.getD i default).state.length) ((script.getD i default).c)] 109 (0, 0)) :: MvA Y op (mkM M ups ((script.getD i default).from_)) ups (rmP ups has (script.getD i default).from_ ph) :: RvA bk21 op ups (rmHas ups has ((script.getD i default).from_)) (rmP ups has ((script.getD i default).from_) ph) :: mvsA script :: imi (0 < script.length) gA29 (.cells kA31 eA32 zA33) :: dsA Ds :: F) := by have hx := H221; rw [hMR.phase (script.getD i default).from_ ph] at hx; exact hx
                  have hMR2 := hMR.step (script.getD i default).from_
                  have hml8 : (mkM M ups (script.getD i default).from_).length ≤ 64 := by have h9 := hMR2.perm.length_eq; have h8 := missU_le (ups := ups) (has := rmHas ups has (script.getD i default).from_) (j := ups.length) (List.Perm.refl _); omega
                  refine r_cons (s_move (.bool (mkAll M ups ((script.getD i default).from_))) rfl rfl ?_)
                  refine r_cons (s_move (.bool (rmAll ups has ((script.getD i default).from_))) rfl rfl ?_)
                  refine r_cons (s_bneq false un_4 rfl rfl (ntrue (hMR.all _)) rfl ?_)
                  refine r_cons (s_move (.bool false) rfl rfl ?_)
                  refine r_cons (r_take rfl rfl ?_)
                  refine s_move (.int .i64 (mkE M ups ((script.getD i default).from_))) rfl rfl ?_
                  refine r_cons (r_take rfl rfl ?_)
                  refine s_move (.int .i64 (rmE ups has ((script.getD i default).from_))) rfl rfl ?_
                  refine r_cons (r_take rfl rfl ?_)
                  refine s_neq false rfl rfl (ntrue (hMR.err _)) rfl ?_
                  refine r_cons (s_pick_f (.bool false) rfl rfl rfl ?_)
                  refine r_nil ?_
                  refine g_false rfl ?_
                  refine g_skip ?_
                  refine g_inBlock ?_
                  have H223 : St W w219 (Im 1 (.slice ((script.getD i default).p) ((script.getD i default).state.length) ((script.getD i default).c)) ((script.getD i default).state.length) ((script.getD i default).state.flatMap u8c) :: blk bk48 (.cells #[.int .i64 ((script.getD i default).do_.v), .int .i64 ((script.getD i default).from_.v), .slice ((script.getD i default).p) ((script.getD i default).state.length) ((script.getD i default).c)] 109 (0, 0)) :: MvA Y op (mkM M ups ((script.getD i default).from_)) ups (rmP ups has (script.getD i default).from_ ph) :: RvA bk21 op ups (rmHas ups has ((script.getD i default).from_)) (rmP ups has ((script.getD i default).from_) ph) :: mvsA script :: imi (0 < script.length) gA29 (.cells kA31 eA32 zA33) :: dsA Ds :: F) := (((((((H222.move 6 rfl).move 6 rfl).move 6 rfl).move 6 rfl).move 6 rfl).move 6 rfl).move 6 rfl)
                  exact join60 ((mkM M ups ((script.getD i default).from_)), (rmHas ups has ((script.getD i default).from_)), (rmP ups has ((script.getD i default).from_) ph)) _ _ ⟨hMR2, H223⟩ ⟨by first | rfl | exact vint (by omega), by first | rfl | exact vint (by omega), by first | rfl | exact vint (by omega), by first | rfl | exact vint (by omega), by first | rfl | exact vint (by omega), by first | rfl | exact vint (by omega), trivial⟩
                · skip
                  refine r_cons (s_eql false rfl rfl (dfalse hc216) rfl ?_)
                  refine r_cons (s_assign (.bool false) rfl rfl ?_)
                  refine r_nil ?_
                  refine g_false rfl ?_
                  refine g_seq ?_
                  refine g_region ?_
                  by_cases hc224 : (script.getD i default).do_.v = 1
                  · skip
                    refine r_cons (s_eql true rfl rfl (dtrue hc224) rfl ?_)
                    refine r_cons (s_assign (.bool true) rfl rfl ?_)
                    refine r_nil ?_
                    refine g_true rfl ?_
                    refine g_seq ?_
                    refine g_region ?_
                    refine r_cons (s_move (.pointer (some ⟨Y, 0, none⟩)) rfl rfl ?_)
                    refine r_cons (s_fieldAddr 109 2 2 2 23 rfl fi_109_2 rfl rfl ?_)
                    refine r_cons (s_load (.slice ((script.getD i default).p) ((script.getD i default).state.length) ((script.getD i default).c)) ag_23 rfl (H59.blk_at (i := 1) rfl) rfl rfl ?_)
                    refine r_cons (s_call [.pointer (some ⟨Y, 0, none⟩), .slice ((script.getD i default).p) ((script.getD i default).state.length) ((script.getD i default).c)] pl_47 rfl rfl (Mv_Send Y op M ups ph ((script.getD i default).state) (.slice ((script.getD i default).p) ((script.getD i default).state.length) ((script.getD i default).c)) (hst i (by omega)) (j := 0) rfl (i := 2) rfl H59) ?_)
                    rintro _ w229 ⟨L225, pp226, cc227, rfl, hL228, H230⟩
                    refine r_cons (s_move (.tuple #[.slice pp226 L225.length cc227, .int .i64 (sdE op ((script.getD i default).state) ph)]) rfl rfl ?_)
                    refine r_cons (s_extract (.slice pp226 L225.length cc227) #[.slice pp226 L225.length cc227, .int .i64 (sdE op ((script.getD i default).state) ph)] rfl rfl rfl ?_)
                    refine r_cons (s_extract (.int .i64 (sdE op ((script.getD i default).state) ph)) #[.slice pp226 L225.length cc227, .int .i64 (sdE op ((script.getD i default).state) ph)] rfl rfl rfl ?_)
                    refine r_cons (s_assign (.slice pp226 L225.length cc227) rfl rfl ?_)
                    refine r_cons (s_assign (.int .i64 (sdE op ((script.getD i default).state) ph)) rfl rfl ?_)
                    refine r_nil ?_
                    refine g_seq ?_
                    refine g_region ?_
                    refine r_cons (s_move (.pointer (some ⟨bk21, 0, none⟩)) rfl rfl ?_)
                    refine r_cons (s_fieldAddr 109 2 2 2 23 rfl fi_109_2 rfl rfl ?_)
                    refine r_cons (s_load (.slice ((script.getD i default).p) ((script.getD i default).state.length) ((script.getD i default).c)) ag_23 rfl (H230.blk_at (i := 3) rfl) rfl rfl ?_)
                    refine r_cons (s_call [.pointer (some ⟨bk21, 0, none⟩), .slice ((script.getD i default).p) ((script.getD i default).state.length) ((script.getD i default).c)] pl_54 rfl rfl (Rv_Send bk21 op ups has ph ((script.getD i default).state) (.slice ((script.getD i default).p) ((script.getD i default).state.length) ((script.getD i default).c)) (hst i (by omega)) (j := 2) rfl (i := 5) rfl H230) ?_)
                    rintro _ w235 ⟨L231, pp232, cc233, rfl, hL234, H236⟩
                    refine r_cons (s_move (.tuple #[.slice pp232 L231.length cc233, .int .i64 (sdE op ((script.getD i default).state) ph)]) rfl rfl ?_)
                    refine r_cons (s_extract (.slice pp232 L231.length cc233) #[.slice pp232 L231.length cc233, .int .i64 (sdE op ((script.getD i default).state) ph)] rfl rfl rfl ?_)
                    refine r_cons (s_extract (.int .i64 (sdE op ((script.getD i default).state) ph)) #[.slice pp232 L231.length cc233, .int .i64 (sdE op ((script.getD i default).state) ph)] rfl rfl rfl ?_)
                    refine r_cons (s_assign (.slice pp232 L231.length cc233) rfl rfl ?_)
                    refine r_cons (s_assign (.int .i64 (sdE op ((script.getD i default).state) ph)) rfl rfl ?_)
                    refine r_nil ?_
                    refine g_seq ?_
                    refine g_region ?_
                    refine r_cons (s_move (.slice pp226 L225.length cc227) rfl rfl ?_)
                    refine r_cons (s_move (.slice pp232 L231.length cc233) rfl rfl ?_)
                    have H237 : St W w235 (Row 51 4 (.slice pp232 L231.length cc233) L231.length (L231.flatMap pcCell) :: pcA L231 :: Im 4 (.slice pp226 L225.length cc227) L225.length (L225.flatMap pcCell) :: pcA L225 :: Im 1 (.slice ((script.getD i default).p) ((script.getD i default).state.length) ((script.getD i default).c)) ((script.getD i default).state.length) ((script.getD i default).state.flatMap u8c) :: blk bk48 (.cells #[.int .i64 ((script.getD i default).do_.v), .int .i64 ((script.getD i default).from_.v), .slice ((script.getD i default).p) ((script.getD i default).state.length) ((script.getD i default).c)] 109 (0, 0)) :: MvA Y op M ups (sdP op ((script.getD i default).state) ph) :: RvA bk21 op ups has (sdP op ((script.getD i default).state) ph) :: mvsA script :: imi (0 < script.length) gA29 (.cells kA31 eA32 zA33) :: dsA Ds :: F) := Row.im H236 (i := 2) rfl
                    have H238 : St W w235 (Im 4 (.slice pp232 L231.length cc233) L231.length (L231.flatMap pcCell) :: pcA L231 :: Im 4 (.slice pp226 L225.length cc227) L225.length (L225.flatMap pcCell) :: pcA L225 :: Im 1 (.slice ((script.getD i default).p) ((script.getD i default).state.length) ((script.getD i default).c)) ((script.getD i default).state.length) ((script.getD i default).state.flatMap u8c) :: blk bk48 (.cells #[.int .i64 ((script.getD i default).do_.v), .int .i64 ((script.getD i default).from_.v), .slice ((script.getD i default).p) ((script.getD i default).state.length) ((script.getD i default).c)] 109 (0, 0)) :: MvA Y op M ups (sdP op ((script.getD i default).state) ph) :: RvA bk21 op ups has (sdP op ((script.getD i default).state) ph) :: mvsA script :: imi (0 < script.length) gA29 (.cells kA31 eA32 zA33) :: dsA Ds :: F) := Row.im H237 (i := 0) rfl
                    refine r_cons (s_call [.slice pp226 L225.length cc227, .slice pp232 L231.length cc233, .func (.func 39) #[] #[]] pl_40 rfl rfl (EqualFunc_pieces L225 L231 _ _ (hL228.trans hL234.symm) (j := 2) (k := 0) (a := 3) (b := 1) rfl rfl rfl rfl H238) ?_)
                    rintro _ w239 ⟨rfl, H240⟩
                    refine r_cons (s_not true rfl false rfl rfl ?_)
                    refine r_cons (s_move (.bool false) rfl rfl ?_)
                    refine r_cons (r_take rfl rfl ?_)
                    refine s_move (.int .i64 (sdE op ((script.getD i default).state) ph)) rfl rfl ?_
                    refine r_cons (r_take rfl rfl ?_)
                    refine s_move (.int .i64 (sdE op ((script.getD i default).state) ph)) rfl rfl ?_
                    refine r_cons (r_take rfl rfl ?_)
                    refine s_neq false rfl rfl (ntrue rfl) rfl ?_
                    refine r_cons (s_pick_f (.bool false) rfl rfl rfl ?_)
                    refine r_nil ?_
                    refine g_false rfl ?_
                    refine g_skip ?_
                    refine g_inBlock ?_
                    have H241 : St W w239 (Im 1 (.slice ((script.getD i default).p) ((script.getD i default).state.length) ((script.getD i default).c)) ((script.getD i default).state.length) ((script.getD i default).state.flatMap u8c) :: blk bk48 (.cells #[.int .i64 ((script.getD i default).do_.v), .int .i64 ((script.getD i default).from_.v), .slice ((script.getD i default).p) ((script.getD i default).state.length) ((script.getD i default).c)] 109 (0, 0)) :: MvA Y op M ups (sdP op ((script.getD i default).state) ph) :: RvA bk21 op ups has (sdP op ((script.getD i default).state) ph) :: mvsA script :: imi (0 < script.length) gA29 (.cells kA31 eA32 zA33) :: dsA Ds :: F) := (((((((((((H240.move 10 rfl).move 10 rfl).move 10 rfl).move 10 rfl).move 10 rfl).move 10 rfl).move 10 rfl).drop 7 rfl).drop 7 rfl).drop 7 rfl).drop 7 rfl)
                    exact join60 (M, has, (sdP op ((script.getD i default).state) ph)) _ _ ⟨hMR, H241⟩ ⟨by first | rfl | exact vint (by omega), by first | rfl | exact vint (by omega), by first | rfl | exact vint (by omega), by first | rfl | exact vint (by omega), by first | rfl | exact vint (by omega), by first | rfl | exact vint (by omega), trivial⟩
                  · skip
                    refine r_cons (s_eql false rfl rfl (dfalse hc224) rfl ?_)
                    refine r_cons (s_assign (.bool false) rfl rfl ?_)
                    refine r_nil ?_
                    refine g_false rfl ?_
                    refine g_seq ?_
                    refine g_region ?_
                    refine r_cons (s_move (.pointer (some ⟨Y, 0, none⟩)) rfl rfl ?_)
                    refine r_cons (s_call [.pointer (some ⟨Y, 0, none⟩)] pl_48 rfl rfl (Mv_Landed Y op M ups ph (i := 2) rfl H59) ?_)
                    rintro _ w242 ⟨rfl, H243⟩
                    refine r_cons (s_move (.pointer (some ⟨bk21, 0, none⟩)) rfl rfl ?_)
                    refine r_cons (s_call [.pointer (some ⟨bk21, 0, none⟩)] pl_55 rfl rfl (Rv_Landed bk21 op ups has ph (i := 3) rfl H243) ?_)
                    rintro _ w244 ⟨rfl, H245⟩
                    refine r_cons (s_neq false rfl rfl (ntrue rfl) rfl ?_)
                    refine r_nil ?_
                    refine g_false rfl ?_
                    refine g_skip ?_
                    refine g_inBlock ?_
                    have H246 : St W w244 (Im 1 (.slice ((script.getD i default).p) ((script.getD i default).state.length) ((script.getD i default).c)) ((script.getD i default).state.length) ((script.getD i default).state.flatMap u8c) :: blk bk48 (.cells #[.int .i64 ((script.getD i default).do_.v), .int .i64 ((script.getD i default).from_.v), .slice ((script.getD i default).p) ((script.getD i default).state.length) ((script.getD i default).c)] 109 (0, 0)) :: MvA Y op M ups (if ph = 3 then 4 else ph) :: RvA bk21 op ups has (if ph = 3 then 4 else ph) :: mvsA script :: imi (0 < script.length) gA29 (.cells kA31 eA32 zA33) :: dsA Ds :: F) := (((((((H245.move 6 rfl).move 6 rfl).move 6 rfl).move 6 rfl).move 6 rfl).move 6 rfl).move 6 rfl)
                    exact join60 (M, has, (if ph = 3 then 4 else ph)) _ _ ⟨hMR, H246⟩ ⟨by first | rfl | exact vint (by omega), by first | rfl | exact vint (by omega), by first | rfl | exact vint (by omega), by first | rfl | exact vint (by omega), by first | rfl | exact vint (by omega), by first | rfl | exact vint (by omega), trivial⟩
            · intro join54
              refine g_true rfl ?_
              refine g_seq ?_
              refine g_region ?_
              refine r_cons (s_move (.pointer (some ⟨X, 0, none⟩)) rfl rfl ?_)
              refine r_cons (s_call [.pointer (some ⟨X, 0, none⟩)] pl_50 rfl rfl (Mv_Clone X op M ups ph (i := 1) rfl H52) ?_)
              rintro _ w248 ⟨bk247, rfl, H249⟩
              refine r_cons (s_assign (.pointer (some ⟨bk247, 0, none⟩)) rfl rfl ?_)
              refine r_nil ?_
              refine g_seq ?_
              refine g_seq ?_
              refine g_region ?_
              refine r_cons (s_move (.pointer (some ⟨bk247, 0, none⟩)) rfl rfl ?_)
              refine r_cons (s_peql false un_87 rfl rfl rfl rfl ?_)
              refine r_nil ?_
              refine g_false rfl ?_
              refine g_skip ?_
              refine g_seq ?_
              refine g_region ?_
              refine r_cons (s_move (.pointer (some ⟨X, 0, none⟩)) rfl rfl ?_)
              refine r_cons (s_fieldAddr 109 1 1 1 3 rfl fi_109_1 rfl rfl ?_)
              refine r_cons (s_load (.int .i64 ((script.getD i default).from_.v)) ag_3 rfl (H249.blk_at (i := 1) rfl) rfl rfl ?_)
              refine r_cons (s_call [.pointer (some ⟨X, 0, none⟩), .int .i64 ((script.getD i default).from_.v)] pl_46 rfl rfl (Mv_Marker X op M ups ph ((script.getD i default).from_) (i := 2) rfl H249) ?_)
              rintro _ w250 ⟨rfl, H251⟩
              refine r_nil ?_
              refine g_region ?_
              refine r_cons (s_move (.pointer (some ⟨bk247, 0, none⟩)) rfl rfl ?_)
              refine r_cons (s_assign (.pointer (some ⟨bk247, 0, none⟩)) rfl rfl ?_)
              refine r_nil ?_
              have H252 : St W w250 (blk bk48 (.cells #[.int .i64 ((script.getD i default).do_.v), .int .i64 ((script.getD i default).from_.v), .slice ((script.getD i default).p) ((script.getD i default).state.length) ((script.getD i default).c)] 109 (0, 0)) :: MvA bk247 op M ups ph :: RvA bk21 op ups has ph :: mvsA script :: imi (0 < script.length) gA29 (.cells kA31 eA32 zA33) :: dsA Ds :: F) := (((((((H251.move 6 rfl).move 6 rfl).move 6 rfl).move 6 rfl).move 4 rfl).move 5 rfl).drop 6 rfl)
              exact join54 (bk247) _ _ H252 ⟨by first | rfl | exact vint (by omega), by first | rfl | exact vint (by omega), by first | rfl | exact vint (by omega), by first | rfl | exact vint (by omega), by first | rfl | exact vint (by omega), by first | rfl | exact vint (by omega), by first | rfl | exact vint (by omega), trivial⟩
          · skip
            refine r_cons (s_eql false rfl rfl (dfalse hc53) rfl ?_)
            refine r_nil ?_
            refine g_cut (fun (x_ : Nat) => match x_ with | Y => [(6, .bool false), (7, .pointer (some ⟨Y, 0, none⟩)), (9, .pointer (some ⟨bk21, 0, none⟩)), (52, .slice pp5 script.length cc6), (53, .int .i64 (script.length : Int)), (54, .int .i64 (i : Int)), (12, .pointer (some ⟨bk48, 0, none⟩))]) (fun (x_ : Nat) w => match x_ with | Y => St W w (blk bk48 (.cells #[.int .i64 ((script.getD i default).do_.v), .int .i64 ((script.getD i default).from_.v), .slice ((script.getD i default).p) ((script.getD i default).state.length) ((script.getD i default).c)] 109 (0, 0)) :: MvA Y op M ups ph :: RvA bk21 op ups has ph :: mvsA script :: imi (0 < script.length) gA29 (.cells kA31 eA32 zA33) :: dsA Ds :: F)) ?_ ?_
            · rintro Y ρ256 w254 H255
              change Ends _ _ (upds ρ256 [(6, .bool false), (7, .pointer (some ⟨Y, 0, none⟩)), (9, .pointer (some ⟨bk21, 0, none⟩)), (52, .slice pp5 script.length cc6), (53, .int .i64 (script.length : Int)), (54, .int .i64 (i : Int)), (12, .pointer (some ⟨bk48, 0, none⟩))]) w254
              refine g_seq ?_
              refine g_seq ?_
              refine g_region ?_
              have H258 : St W w254 (Im 1 (.slice ((script.getD i default).p) ((script.getD i default).state.length) ((script.getD i default).c)) ((script.getD i default).state.length) ((script.getD i default).state.flatMap u8c) :: blk bk48 (.cells #[.int .i64 ((script.getD i default).do_.v), .int .i64 ((script.getD i default).from_.v), .slice ((script.getD i default).p) ((script.getD i default).state.length) ((script.getD i default).c)] 109 (0, 0)) :: MvA Y op M ups ph :: RvA bk21 op ups has ph :: mvsA script :: imi (0 < script.length) gA29 (.cells kA31 eA32 zA33) :: dsA Ds :: F) := mvsA_at H255 (i := 3) rfl (j := i) (by omega)
              refine r_cons (s_fieldAddr 109 0 0 0 3 rfl fi_109_0 rfl rfl ?_)
              refine r_cons (s_load (.int .i64 ((script.getD i default).do_.v)) ag_3 rfl (H258.blk_at (i := 1) rfl) rfl rfl ?_)
              refine r_nil ?_
              refine g_cut (fun (x_ : (List I64) × (List Bool) × Int) => match x_ with | (M2, has2, ph2) => [(6, .bool false), (7, .pointer (some ⟨Y, 0, none⟩)), (9, .pointer (some ⟨bk21, 0, none⟩)), (52, .slice pp5 script.length cc6), (53, .int .i64 (script.length : Int)), (54, .int .i64 (i : Int))]) (fun (x_ : (List I64) × (List Bool) × Int) w => match x_ with | (M2, has2, ph2) => (MR ups has2 M2 ups) ∧ St W w (Im 1 (.slice ((script.getD i default).p) ((script.getD i default).state.length) ((script.getD i default).c)) ((script.getD i default).state.length) ((script.getD i default).state.flatMap u8c) :: blk bk48 (.cells #[.int .i64 ((script.getD i default).do_.v), .int .i64 ((script.getD i default).from_.v), .slice ((script.getD i default).p) ((script.getD i default).state.length) ((script.getD i default).c)] 109 (0, 0)) :: MvA Y op M2 ups ph2 :: RvA bk21 op ups has2 ph2 :: mvsA script :: imi (0 < script.length) gA29 (.cells kA31 eA32 zA33) :: dsA Ds :: F)) ?_ ?_
              · rintro ⟨M2, has2, ph2⟩ ρ262 w260 ⟨hMRm, H261⟩
                change Ends _ _ (upds ρ262 [(6, .bool false), (7, .pointer (some ⟨Y, 0, none⟩)), (9, .pointer (some ⟨bk21, 0, none⟩)), (52, .slice pp5 script.length cc6), (53, .int .i64 (script.length : Int)), (54, .int .i64 (i : Int))]) w260
                have hml7 : M2.length ≤ 64 := by have h9 := hMRm.perm.length_eq; have h8 := missU_le (ups := ups) (has := has2) (j := ups.length) (List.Perm.refl _); omega
                have hnd7 := hMRm.nd
                refine g_seq ?_
                refine g_region ?_
                refine r_cons (s_alloc H261 101 ze_101 rfl ?_); intro bk263 w264 H265
                refine r_nil ?_
                refine g_seq ?_
                refine g_seq ?_
                refine g_region ?_
                refine r_cons (s_move (.pointer (some ⟨Y, 0, none⟩)) rfl rfl ?_)
                refine r_cons (s_call [.pointer (some ⟨Y, 0, none⟩)] pl_56 rfl rfl (Mv_Missing Y op M2 ups ph2 (by omega) (i := 3) rfl H265) ?_)
                rintro _ w269 ⟨bk266, pp267, cc268, rfl, H270⟩
                refine r_nil ?_
                refine g_block ?_
                have H271 := Row.nil_intro H270 3 1
                have H272 : St W w269 (blk bk263 (.cells #[.slice none 0 0] 101 (0, 0)) :: Row 3 1 (.slice none 0 0) 0 [] :: imm bk266 (.cells #[.slice pp267 ((sortI M2).length) cc268] 101 (0, 0)) :: Im 1 (.slice pp267 ((sortI M2).length) cc268) ((sortI M2).length) ((sortI M2).flatMap i64c) :: Im 1 (.slice ((script.getD i default).p) ((script.getD i default).state.length) ((script.getD i default).c)) ((script.getD i default).state.length) ((script.getD i default).state.flatMap u8c) :: blk bk48 (.cells #[.int .i64 ((script.getD i default).do_.v), .int .i64 ((script.getD i default).from_.v), .slice ((script.getD i default).p) ((script.getD i default).state.length) ((script.getD i default).c)] 109 (0, 0)) :: MvA Y op M2 ups ph2 :: RvA bk21 op ups has2 ph2 :: mvsA script :: imi (0 < script.length) gA29 (.cells kA31 eA32 zA33) :: dsA Ds :: F) := (H271.move 3 rfl)
                have H273 : St W w269 ((ex fun q : Option Addr × Nat => star [blk bk263 (.cells #[.slice q.1 ([] : List I64).length q.2] 101 (0, 0)), Row 3 1 (.slice q.1 ([] : List I64).length q.2) ([] : List I64).length (([] : List I64).flatMap i64c)]) :: imm bk266 (.cells #[.slice pp267 ((sortI M2).length) cc268] 101 (0, 0)) :: Im 1 (.slice pp267 ((sortI M2).length) cc268) ((sortI M2).length) ((sortI M2).flatMap i64c) :: Im 1 (.slice ((script.getD i default).p) ((script.getD i default).state.length) ((script.getD i default).c)) ((script.getD i default).state.length) ((script.getD i default).state.flatMap u8c) :: blk bk48 (.cells #[.int .i64 ((script.getD i default).do_.v), .int .i64 ((script.getD i default).from_.v), .slice ((script.getD i default).p) ((script.getD i default).state.length) ((script.getD i default).c)] 109 (0, 0)) :: MvA Y op M2 ups ph2 :: RvA bk21 op ups has2 ph2 :: mvsA script :: imi (0 < script.length) gA29 (.cells kA31 eA32 zA33) :: dsA Ds :: F) := St.shut_ex (none, 0) (St.shut_star (ls := [blk bk263 (.cells #[.slice none 0 0] 101 (0, 0)), Row 3 1 (.slice none 0 0) 0 []]) H272)
                have hsl64 : (sortI M2).length ≤ 64 := by rw [sortI_len]; omega
                refine g_range1 (W := W) (F := imm bk266 (.cells #[.slice pp267 ((sortI M2).length) cc268] 101 (0, 0)) :: Im 1 (.slice pp267 ((sortI M2).length) cc268) ((sortI M2).length) ((sortI M2).flatMap i64c) :: Im 1 (.slice ((script.getD i default).p) ((script.getD i default).state.length) ((script.getD i default).c)) ((script.getD i default).state.length) ((script.getD i default).state.flatMap u8c) :: blk bk48 (.cells #[.int .i64 ((script.getD i default).do_.v), .int .i64 ((script.getD i default).from_.v), .slice ((script.getD i default).p) ((script.getD i default).state.length) ((script.getD i default).c)] 109 (0, 0)) :: MvA Y op M2 ups ph2 :: RvA bk21 op ups has2 ph2 :: mvsA script :: imi (0 < script.length) gA29 (.cells kA31 eA32 zA33) :: dsA Ds :: F) 129 [.pointer (some ⟨bk266, 0, none⟩)] rfl rfl pl_129 (fun x_ : I64 => .int .i64 x_.v) rfl (fun x_ : I64 => emp) (fun pre_ => (ex fun q : Option Addr × Nat => star [blk bk263 (.cells #[.slice q.1 pre_.length q.2] 101 (0, 0)), Row 3 1 (.slice q.1 pre_.length q.2) pre_.length (pre_.flatMap i64c)])) (fun c_ pre_ => pure' False) (fun pre_ x_ => (pre_ ++ [x_]) <+: (sortI M2)) (fun L_ => L_ = (sortI M2)) (fun L_ => True) H273 ?_ ?_ ?_ ?_
                · intro l274 r275 w276 G277 pre278 x279 hr280 hr281 hok282 H283
                  try dsimp only at hok282 H283
                  have H284 : St W w276 (blk l274 (.loop r275) :: (ex fun q : Option Addr × Nat => star [blk bk263 (.cells #[.slice q.1 pre278.length q.2] 101 (0, 0)), Row 3 1 (.slice q.1 pre278.length q.2) pre278.length (pre278.flatMap i64c)]) :: emp :: G277) := H283
                  have H285 := H284.move 1 rfl
                  obtain ⟨⟨pp286, cc287⟩, H288⟩ := St.open_ex H285
                  have H289 := St.open_star H288
                  have H290 : St W w276 (blk bk263 (.cells #[.slice pp286 pre278.length cc287] 101 (0, 0)) :: Row 3 1 (.slice pp286 pre278.length cc287) pre278.length (pre278.flatMap i64c) :: blk l274 (.loop r275) :: emp :: G277) := H289
                  have hpl : pre278.length + 1 ≤ 64 := by have h9 := (hok282).length_le; simp only [List.length_append, List.length_cons, List.length_nil] at h9; omega
                  refine g_region ?_
                  refine r_cons (s_assign (.int .i64 x279.v) rfl rfl ?_)
                  refine r_nil ?_
                  refine g_beginRound H290 (i := 2) rfl hr280 ?_; intro w291 H292
                  have H293 : St W w291 (blk bk263 (.cells #[.slice pp286 pre278.length cc287] 101 (0, 0)) :: Row 3 1 (.slice pp286 pre278.length cc287) pre278.length (pre278.flatMap i64c) :: blk l274 (.loop { r275 with state := .busy }) :: emp :: G277) := H292
                  refine g_block ?_
                  refine g_region ?_
                  refine r_cons (s_load (.slice pp286 pre278.length cc287) ag_101 rfl (H293.blk_at (i := 0) rfl) rfl rfl ?_)
                  refine r_cons (s_move (.int .i64 x279.v) rfl rfl ?_)
                  refine r_cons (s_buildSlice H293 1 1 (cs := #[.int .i64 x279.v]) #[.int .i64 0] el_101 ze_3 (by decide) (by decide) (by kernel_rfl) rfl ?_); intro bk294 w295 H296
                  refine r_cons (s_append H296 2 rfl rfl rfl (rd_blk (H296.blk_at (i := 0) rfl) rfl (Nat.le_of_ble_eq_true rfl) (by simp [Value.oneCell'])) ap_101 (by decide) (by unfold maxLen; omega) (by omega) (n' := pre278.length + 1) (xs' := pre278.flatMap i64c ++ ([.int .i64 x279.v] : List Value)) (by omega) (by first | rfl | simp) rfl ?_); intro vv297 w298 H299 hn300
                  obtain ⟨pp301, cc302, rfl⟩ := Row.slice H299 (i := 2) rfl
                  refine r_cons (s_store H299 1 (.slice pp301 (pre278.length + 1) cc302) rfl rfl rfl sz_101 rfl (Nat.le_of_ble_eq_true rfl) rfl (cs' := #[.slice pp301 (pre278.length + 1) cc302]) rfl ?_); intro w303 H304
                  refine r_nil ?_
                  refine g_inBlock ?_
                  have H305 : St W w303 (blk bk294 (.cells #[.int .i64 x279.v] 3 (0, 0)) :: blk bk263 (.cells #[.slice pp301 ((pre278 ++ [x279]).length) cc302] 101 (0, 0)) :: Row 3 1 (.slice pp301 ((pre278 ++ [x279]).length) cc302) ((pre278 ++ [x279]).length) ((pre278 ++ [x279]).flatMap i64c) :: blk l274 (.loop { r275 with state := .busy }) :: emp :: G277) := by rw [List.flatMap_append, List.length_append]; exact H304
                  have H306 : St W w303 (blk bk263 (.cells #[.slice pp301 ((pre278 ++ [x279]).length) cc302] 101 (0, 0)) :: Row 3 1 (.slice pp301 ((pre278 ++ [x279]).length) cc302) ((pre278 ++ [x279]).length) ((pre278 ++ [x279]).flatMap i64c) :: blk bk294 (.cells #[.int .i64 x279.v] 3 (0, 0)) :: blk l274 (.loop { r275 with state := .busy }) :: emp :: G277) := ((H305.move 2 rfl).move 2 rfl)
                  have H307 : St W w303 ((ex fun q : Option Addr × Nat => star [blk bk263 (.cells #[.slice q.1 (pre278 ++ [x279]).length q.2] 101 (0, 0)), Row 3 1 (.slice q.1 (pre278 ++ [x279]).length q.2) (pre278 ++ [x279]).length ((pre278 ++ [x279]).flatMap i64c)]) :: blk bk294 (.cells #[.int .i64 x279.v] 3 (0, 0)) :: blk l274 (.loop { r275 with state := .busy }) :: emp :: G277) := St.shut_ex (pp301, cc302) (St.shut_star (ls := [blk bk263 (.cells #[.slice pp301 ((pre278 ++ [x279]).length) cc302] 101 (0, 0)), Row 3 1 (.slice pp301 ((pre278 ++ [x279]).length) cc302) ((pre278 ++ [x279]).length) ((pre278 ++ [x279]).flatMap i64c)]) H306)
                  have H308 : St W w303 (blk l274 (.loop { r275 with state := .busy }) :: (ex fun q : Option Addr × Nat => star [blk bk263 (.cells #[.slice q.1 (pre278 ++ [x279]).length q.2] 101 (0, 0)), Row 3 1 (.slice q.1 (pre278 ++ [x279]).length q.2) (pre278 ++ [x279]).length ((pre278 ++ [x279]).flatMap i64c)]) :: G277) := (((H307.move 2 rfl).drop 2 rfl).drop 2 rfl)
                  refine g_round_end hr280 hr281 H308 (i := 0) rfl ?_; intro w309 H310
                  exact .inl ⟨rfl, H310⟩
                · intro l J Jx B w H hY; exact Values1_ bk266 l (sortI M2) _ _ J Jx (i := 1) rfl (j := 2) rfl hY H
                · intro D311 L312 w313 hS314 H315
                  have H317 : St W w313 ((ex fun q : Option Addr × Nat => star [blk bk263 (.cells #[.slice q.1 L312.length q.2] 101 (0, 0)), Row 3 1 (.slice q.1 L312.length q.2) L312.length (L312.flatMap i64c)]) :: blk D311 (.deferred (some [])) :: imm bk266 (.cells #[.slice pp267 ((sortI M2).length) cc268] 101 (0, 0)) :: Im 1 (.slice pp267 ((sortI M2).length) cc268) ((sortI M2).length) ((sortI M2).flatMap i64c) :: Im 1 (.slice ((script.getD i default).p) ((script.getD i default).state.length) ((script.getD i default).c)) ((script.getD i default).state.length) ((script.getD i default).state.flatMap u8c) :: blk bk48 (.cells #[.int .i64 ((script.getD i default).do_.v), .int .i64 ((script.getD i default).from_.v), .slice ((script.getD i default).p) ((script.getD i default).state.length) ((script.getD i default).c)] 109 (0, 0)) :: MvA Y op M2 ups ph2 :: RvA bk21 op ups has2 ph2 :: mvsA script :: imi (0 < script.length) gA29 (.cells kA31 eA32 zA33) :: dsA Ds :: F) := H315
                  obtain ⟨⟨pp318, cc319⟩, H320⟩ := St.open_ex H317
                  have H321 := St.open_star H320
                  have H322 : St W w313 (blk bk263 (.cells #[.slice pp318 L312.length cc319] 101 (0, 0)) :: Row 3 1 (.slice pp318 L312.length cc319) L312.length (L312.flatMap i64c) :: blk D311 (.deferred (some [])) :: imm bk266 (.cells #[.slice pp267 ((sortI M2).length) cc268] 101 (0, 0)) :: Im 1 (.slice pp267 ((sortI M2).length) cc268) ((sortI M2).length) ((sortI M2).flatMap i64c) :: Im 1 (.slice ((script.getD i default).p) ((script.getD i default).state.length) ((script.getD i default).c)) ((script.getD i default).state.length) ((script.getD i default).state.flatMap u8c) :: blk bk48 (.cells #[.int .i64 ((script.getD i default).do_.v), .int .i64 ((script.getD i default).from_.v), .slice ((script.getD i default).p) ((script.getD i default).state.length) ((script.getD i default).c)] 109 (0, 0)) :: MvA Y op M2 ups ph2 :: RvA bk21 op ups has2 ph2 :: mvsA script :: imi (0 < script.length) gA29 (.cells kA31 eA32 zA33) :: dsA Ds :: F) := H321
                  have hLs := hS314
                  have H323 : St W w313 (blk bk263 (.cells #[.slice pp318 ((sortI M2).length) cc319] 101 (0, 0)) :: Row 3 1 (.slice pp318 ((sortI M2).length) cc319) ((sortI M2).length) ((sortI M2).flatMap i64c) :: blk D311 (.deferred (some [])) :: imm bk266 (.cells #[.slice pp267 ((sortI M2).length) cc268] 101 (0, 0)) :: Im 1 (.slice pp267 ((sortI M2).length) cc268) ((sortI M2).length) ((sortI M2).flatMap i64c) :: Im 1 (.slice ((script.getD i default).p) ((script.getD i default).state.length) ((script.getD i default).c)) ((script.getD i default).state.length) ((script.getD i default).state.flatMap u8c) :: blk bk48 (.cells #[.int .i64 ((script.getD i default).do_.v), .int .i64 ((script.getD i default).from_.v), .slice ((script.getD i default).p) ((script.getD i default).state.length) ((script.getD i default).c)] 109 (0, 0)) :: MvA Y op M2 ups ph2 :: RvA bk21 op ups has2 ph2 :: mvsA script :: imi (0 < script.length) gA29 (.cells kA31 eA32 zA33) :: dsA Ds :: F) := by have hx := H322; rw [hLs] at hx; exact hx
                  refine g_inBlock ?_
                  refine g_seq ?_
                  have H324 := H323.move 8 rfl
                  obtain ⟨⟨⟨pp325, cc326⟩, pp327, cc328⟩, H329⟩ := St.open_ex H324
                  have H330 := St.open_star H329
                  have H331 : St W w313 (blk bk21 (.cells #[.int .i64 op.v, .slice pp325 ups.length cc326, .slice pp327 has2.length cc328, .int .i64 ph2] 115 (0, 0)) :: Im 1 (.slice pp325 ups.length cc326) ups.length (ups.flatMap i64c) :: Row 4 1 (.slice pp327 has2.length cc328) has2.length (has2.flatMap blc) :: blk bk263 (.cells #[.slice pp318 ((sortI M2).length) cc319] 101 (0, 0)) :: Row 3 1 (.slice pp318 ((sortI M2).length) cc319) ((sortI M2).length) ((sortI M2).flatMap i64c) :: blk D311 (.deferred (some [])) :: imm bk266 (.cells #[.slice pp267 ((sortI M2).length) cc268] 101 (0, 0)) :: Im 1 (.slice pp267 ((sortI M2).length) cc268) ((sortI M2).length) ((sortI M2).flatMap i64c) :: Im 1 (.slice ((script.getD i default).p) ((script.getD i default).state.length) ((script.getD i default).c)) ((script.getD i default).state.length) ((script.getD i default).state.flatMap u8c) :: blk bk48 (.cells #[.int .i64 ((script.getD i default).do_.v), .int .i64 ((script.getD i default).from_.v), .slice ((script.getD i default).p) ((script.getD i default).state.length) ((script.getD i default).c)] 109 (0, 0)) :: MvA Y op M2 ups ph2 :: mvsA script :: imi (0 < script.length) gA29 (.cells kA31 eA32 zA33) :: dsA Ds :: F) := H330
                  have H332 : St W w313 (dsA Ds :: blk bk21 (.cells #[.int .i64 op.v, .slice pp325 ups.length cc326, .slice pp327 has2.length cc328, .int .i64 ph2] 115 (0, 0)) :: Im 1 (.slice pp325 ups.length cc326) ups.length (ups.flatMap i64c) :: Row 4 1 (.slice pp327 has2.length cc328) has2.length (has2.flatMap blc) :: Row 3 1 (.slice pp318 ((sortI M2).length) cc319) ((sortI M2).length) ((sortI M2).flatMap i64c) :: blk bk263 (.cells #[.slice pp318 ((sortI M2).length) cc319] 101 (0, 0)) :: blk D311 (.deferred (some [])) :: imm bk266 (.cells #[.slice pp267 ((sortI M2).length) cc268] 101 (0, 0)) :: Im 1 (.slice pp267 ((sortI M2).length) cc268) ((sortI M2).length) ((sortI M2).flatMap i64c) :: Im 1 (.slice ((script.getD i default).p) ((script.getD i default).state.length) ((script.getD i default).c)) ((script.getD i default).state.length) ((script.getD i default).state.flatMap u8c) :: blk bk48 (.cells #[.int .i64 ((script.getD i default).do_.v), .int .i64 ((script.getD i default).from_.v), .slice ((script.getD i default).p) ((script.getD i default).state.length) ((script.getD i default).c)] 109 (0, 0)) :: MvA Y op M2 ups ph2 :: mvsA script :: imi (0 < script.length) gA29 (.cells kA31 eA32 zA33) :: F) := (((((H331.move 4 rfl).move 3 rfl).move 3 rfl).move 3 rfl).move 13 rfl)
                  have H333 : St W w313 (Im 1 (.slice ((script.getD i default).p) ((script.getD i default).state.length) ((script.getD i default).c)) ((script.getD i default).state.length) ((script.getD i default).state.flatMap u8c) :: blk bk48 (.cells #[.int .i64 ((script.getD i default).do_.v), .int .i64 ((script.getD i default).from_.v), .slice ((script.getD i default).p) ((script.getD i default).state.length) ((script.getD i default).c)] 109 (0, 0)) :: MvA Y op M2 ups ph2 :: mvsA script :: imi (0 < script.length) gA29 (.cells kA31 eA32 zA33) :: dsA Ds :: blk bk21 (.cells #[.int .i64 op.v, .slice pp325 ups.length cc326, .slice pp327 has2.length cc328, .int .i64 ph2] 115 (0, 0)) :: Im 1 (.slice pp325 ups.length cc326) ups.length (ups.flatMap i64c) :: Row 4 1 (.slice pp327 has2.length cc328) has2.length (has2.flatMap blc) :: Row 3 1 (.slice pp318 ((sortI M2).length) cc319) ((sortI M2).length) ((sortI M2).flatMap i64c) :: blk bk263 (.cells #[.slice pp318 ((sortI M2).length) cc319] 101 (0, 0)) :: blk D311 (.deferred (some [])) :: imm bk266 (.cells #[.slice pp267 ((sortI M2).length) cc268] 101 (0, 0)) :: Im 1 (.slice pp267 ((sortI M2).length) cc268) ((sortI M2).length) ((sortI M2).flatMap i64c) :: F) := (((((H332.move 13 rfl).move 13 rfl).move 13 rfl).move 13 rfl).move 13 rfl)
                  have H334 : St W w313 (blk bk263 (.cells #[.slice pp318 ((sortI M2).length) cc319] 101 (0, 0)) :: blk D311 (.deferred (some [])) :: imm bk266 (.cells #[.slice pp267 ((sortI M2).length) cc268] 101 (0, 0)) :: Im 1 (.slice pp267 ((sortI M2).length) cc268) ((sortI M2).length) ((sortI M2).flatMap i64c) :: Im 1 (.slice ((script.getD i default).p) ((script.getD i default).state.length) ((script.getD i default).c)) ((script.getD i default).state.length) ((script.getD i default).state.flatMap u8c) :: blk bk48 (.cells #[.int .i64 ((script.getD i default).do_.v), .int .i64 ((script.getD i default).from_.v), .slice ((script.getD i default).p) ((script.getD i default).state.length) ((script.getD i default).c)] 109 (0, 0)) :: MvA Y op M2 ups ph2 :: mvsA script :: imi (0 < script.length) gA29 (.cells kA31 eA32 zA33) :: dsA Ds :: blk bk21 (.cells #[.int .i64 op.v, .slice pp325 ups.length cc326, .slice pp327 has2.length cc328, .int .i64 ph2] 115 (0, 0)) :: Im 1 (.slice pp325 ups.length cc326) ups.length (ups.flatMap i64c) :: Row 4 1 (.slice pp327 has2.length cc328) has2.length (has2.flatMap blc) :: Row 3 1 (.slice pp318 ((sortI M2).length) cc319) ((sortI M2).length) ((sortI M2).flatMap i64c) :: F) := ((((H333.move 13 rfl).move 13 rfl).move 13 rfl).move 13 rfl)
                  refine g_mix (fun t_ w => St W w (blk bk263 (.cells #[.slice pp318 ((sortI M2).length) cc319] 101 (0, 0)) :: blk D311 (.deferred (some [])) :: imm bk266 (.cells #[.slice pp267 ((sortI M2).length) cc268] 101 (0, 0)) :: Im 1 (.slice pp267 ((sortI M2).length) cc268) ((sortI M2).length) ((sortI M2).flatMap i64c) :: Im 1 (.slice ((script.getD i default).p) ((script.getD i default).state.length) ((script.getD i default).c)) ((script.getD i default).state.length) ((script.getD i default).state.flatMap u8c) :: blk bk48 (.cells #[.int .i64 ((script.getD i default).do_.v), .int .i64 ((script.getD i default).from_.v), .slice ((script.getD i default).p) ((script.getD i default).state.length) ((script.getD i default).c)] 109 (0, 0)) :: MvA Y op M2 ups ph2 :: mvsA script :: imi (0 < script.length) gA29 (.cells kA31 eA32 zA33) :: dsA Ds :: t_)) (blk bk21 (.cells #[.int .i64 op.v, .slice pp325 ups.length cc326, .slice pp327 has2.length cc328, .int .i64 ph2] 115 (0, 0)) :: Im 1 (.slice pp325 ups.length cc326) ups.length (ups.flatMap i64c) :: Row 4 1 (.slice pp327 has2.length cc328) has2.length (has2.flatMap blc) :: Row 3 1 (.slice pp318 ((sortI M2).length) cc319) ((sortI M2).length) ((sortI M2).flatMap i64c) :: F) mixed 14 rfl H334.drew ?_
                  refine f_first 0 (listed' := #[true, false, false, false, false, false, false, false, false, false, false, false, false, false]) rfl (by kernel_rfl) (by kernel_rfl) (by kernel_rfl) rfl ?_
                  refine f_val rfl rfl rfl (by intro t_ w hw; exact x_move (.pointer (some ⟨Y, 0, none⟩)) rfl w) ?_
                  refine f_first 2 (listed' := #[true, false, true, false, false, false, false, false, false, false, false, false, false, false]) rfl (by kernel_rfl) (by kernel_rfl) (by kernel_rfl) rfl ?_
                  refine f_val rfl rfl rfl (by intro t_ w hw; exact x_move (.pointer (some ⟨bk21, 0, none⟩)) rfl w) ?_
                  refine f_first 3 (listed' := #[true, false, true, true, false, false, false, false, false, false, false, false, false, false]) rfl (by kernel_rfl) (by kernel_rfl) (by kernel_rfl) rfl ?_
                  refine f_val rfl rfl rfl (by intro t_ w hw; exact x_nilCheck (.pointer (some ⟨bk21, 0, none⟩)) rfl ⟨_, rfl⟩ w) ?_
                  refine f_first 4 (listed' := #[true, false, true, true, true, false, false, false, false, false, false, false, false, false]) rfl (by kernel_rfl) (by kernel_rfl) (by kernel_rfl) rfl ?_
                  refine f_val rfl rfl rfl (by intro t_ w hw; exact x_fieldAddr 115 3 3 3 3 rfl fi_115_3 rfl w) ?_
                  refine f_all (rs := [1, 5]) (by kernel_rfl) (by simp) ?_
                  refine a_cons ⟨_, rfl, ?_⟩ (a_cons ⟨_, rfl, ?_⟩ (fun x hx => absurd hx (by simp)))
                  · skip
                    intro w335 H336
                    try dsimp only at H336
                    have H337 : St W w335 (blk bk21 (.cells #[.int .i64 op.v, .slice pp325 ups.length cc326, .slice pp327 has2.length cc328, .int .i64 ph2] 115 (0, 0)) :: Im 1 (.slice pp325 ups.length cc326) ups.length (ups.flatMap i64c) :: Row 4 1 (.slice pp327 has2.length cc328) has2.length (has2.flatMap blc) :: blk bk263 (.cells #[.slice pp318 ((sortI M2).length) cc319] 101 (0, 0)) :: blk D311 (.deferred (some [])) :: imm bk266 (.cells #[.slice pp267 ((sortI M2).length) cc268] 101 (0, 0)) :: Im 1 (.slice pp267 ((sortI M2).length) cc268) ((sortI M2).length) ((sortI M2).flatMap i64c) :: Im 1 (.slice ((script.getD i default).p) ((script.getD i default).state.length) ((script.getD i default).c)) ((script.getD i default).state.length) ((script.getD i default).state.flatMap u8c) :: blk bk48 (.cells #[.int .i64 ((script.getD i default).do_.v), .int .i64 ((script.getD i default).from_.v), .slice ((script.getD i default).p) ((script.getD i default).state.length) ((script.getD i default).c)] 109 (0, 0)) :: MvA Y op M2 ups ph2 :: mvsA script :: imi (0 < script.length) gA29 (.cells kA31 eA32 zA33) :: dsA Ds :: Row 3 1 (.slice pp318 ((sortI M2).length) cc319) ((sortI M2).length) ((sortI M2).flatMap i64c) :: F) := (((H336.move 12 rfl).move 12 rfl).move 12 rfl)
                    have H338 : St W w335 (RvA bk21 op ups has2 ph2 :: blk bk263 (.cells #[.slice pp318 ((sortI M2).length) cc319] 101 (0, 0)) :: blk D311 (.deferred (some [])) :: imm bk266 (.cells #[.slice pp267 ((sortI M2).length) cc268] 101 (0, 0)) :: Im 1 (.slice pp267 ((sortI M2).length) cc268) ((sortI M2).length) ((sortI M2).flatMap i64c) :: Im 1 (.slice ((script.getD i default).p) ((script.getD i default).state.length) ((script.getD i default).c)) ((script.getD i default).state.length) ((script.getD i default).state.flatMap u8c) :: blk bk48 (.cells #[.int .i64 ((script.getD i default).do_.v), .int .i64 ((script.getD i default).from_.v), .slice ((script.getD i default).p) ((script.getD i default).state.length) ((script.getD i default).c)] 109 (0, 0)) :: MvA Y op M2 ups ph2 :: mvsA script :: imi (0 < script.length) gA29 (.cells kA31 eA32 zA33) :: dsA Ds :: Row 3 1 (.slice pp318 ((sortI M2).length) cc319) ((sortI M2).length) ((sortI M2).flatMap i64c) :: F) := St.shut_ex ((pp325, cc326), (pp327, cc328)) (St.shut_star (ls := [blk bk21 (.cells #[.int .i64 op.v, .slice pp325 ups.length cc326, .slice pp327 has2.length cc328, .int .i64 ph2] 115 (0, 0)), Im 1 (.slice pp325 ups.length cc326) ups.length (ups.flatMap i64c), Row 4 1 (.slice pp327 has2.length cc328) has2.length (has2.flatMap blc)]) H337)
                    refine s_call [.pointer (some ⟨Y, 0, none⟩)] pl_49 rfl rfl (Mv_Phase Y op M2 ups ph2 (i := 7) rfl H338) ?_
                    rintro _ w339 ⟨rfl, H340⟩
                    have H341 : St W w339 (mvsA script :: imi (0 < script.length) gA29 (.cells kA31 eA32 zA33) :: dsA Ds :: RvA bk21 op ups has2 ph2 :: Row 3 1 (.slice pp318 ((sortI M2).length) cc319) ((sortI M2).length) ((sortI M2).flatMap i64c) :: blk bk263 (.cells #[.slice pp318 ((sortI M2).length) cc319] 101 (0, 0)) :: blk D311 (.deferred (some [])) :: imm bk266 (.cells #[.slice pp267 ((sortI M2).length) cc268] 101 (0, 0)) :: Im 1 (.slice pp267 ((sortI M2).length) cc268) ((sortI M2).length) ((sortI M2).flatMap i64c) :: Im 1 (.slice ((script.getD i default).p) ((script.getD i default).state.length) ((script.getD i default).c)) ((script.getD i default).state.length) ((script.getD i default).state.flatMap u8c) :: blk bk48 (.cells #[.int .i64 ((script.getD i default).do_.v), .int .i64 ((script.getD i default).from_.v), .slice ((script.getD i default).p) ((script.getD i default).state.length) ((script.getD i default).c)] 109 (0, 0)) :: MvA Y op M2 ups ph2 :: F) := (((((H340.move 11 rfl).move 1 rfl).move 11 rfl).move 11 rfl).move 11 rfl)
                    have H342 : St W w339 (imm bk266 (.cells #[.slice pp267 ((sortI M2).length) cc268] 101 (0, 0)) :: Im 1 (.slice pp267 ((sortI M2).length) cc268) ((sortI M2).length) ((sortI M2).flatMap i64c) :: Im 1 (.slice ((script.getD i default).p) ((script.getD i default).state.length) ((script.getD i default).c)) ((script.getD i default).state.length) ((script.getD i default).state.flatMap u8c) :: blk bk48 (.cells #[.int .i64 ((script.getD i default).do_.v), .int .i64 ((script.getD i default).from_.v), .slice ((script.getD i default).p) ((script.getD i default).state.length) ((script.getD i default).c)] 109 (0, 0)) :: MvA Y op M2 ups ph2 :: mvsA script :: imi (0 < script.length) gA29 (.cells kA31 eA32 zA33) :: dsA Ds :: RvA bk21 op ups has2 ph2 :: Row 3 1 (.slice pp318 ((sortI M2).length) cc319) ((sortI M2).length) ((sortI M2).flatMap i64c) :: blk bk263 (.cells #[.slice pp318 ((sortI M2).length) cc319] 101 (0, 0)) :: blk D311 (.deferred (some [])) :: F) := (((((H341.move 11 rfl).move 11 rfl).move 11 rfl).move 11 rfl).move 11 rfl)
                    have H343 : St W w339 (blk bk263 (.cells #[.slice pp318 ((sortI M2).length) cc319] 101 (0, 0)) :: blk D311 (.deferred (some [])) :: imm bk266 (.cells #[.slice pp267 ((sortI M2).length) cc268] 101 (0, 0)) :: Im 1 (.slice pp267 ((sortI M2).length) cc268) ((sortI M2).length) ((sortI M2).flatMap i64c) :: Im 1 (.slice ((script.getD i default).p) ((script.getD i default).state.length) ((script.getD i default).c)) ((script.getD i default).state.length) ((script.getD i default).state.flatMap u8c) :: blk bk48 (.cells #[.int .i64 ((script.getD i default).do_.v), .int .i64 ((script.getD i default).from_.v), .slice ((script.getD i default).p) ((script.getD i default).state.length) ((script.getD i default).c)] 109 (0, 0)) :: MvA Y op M2 ups ph2 :: mvsA script :: imi (0 < script.length) gA29 (.cells kA31 eA32 zA33) :: dsA Ds :: RvA bk21 op ups has2 ph2 :: Row 3 1 (.slice pp318 ((sortI M2).length) cc319) ((sortI M2).length) ((sortI M2).flatMap i64c) :: F) := ((H342.move 11 rfl).move 11 rfl)
                    refine ⟨RvA bk21 op ups has2 ph2 :: Row 3 1 (.slice pp318 ((sortI M2).length) cc319) ((sortI M2).length) ((sortI M2).flatMap i64c) :: F, ?_, H343⟩
                    change FReg _ _ _ _ _ #[true, true, true, true, true, false, false, false, false, false, false, false, false, false] _ _
                    refine f_all (rs := [5]) (by kernel_rfl) (by simp) ?_
                    refine a_cons ⟨_, rfl, ?_⟩ (fun x hx => absurd hx (by simp))
                    intro w344 H345
                    try dsimp only at H345
                    have H346 := H345.move 10 rfl
                    obtain ⟨⟨⟨pp347, cc348⟩, pp349, cc350⟩, H351⟩ := St.open_ex H346
                    have H352 := St.open_star H351
                    have H353 : St W w344 (blk bk21 (.cells #[.int .i64 op.v, .slice pp347 ups.length cc348, .slice pp349 has2.length cc350, .int .i64 ph2] 115 (0, 0)) :: Im 1 (.slice pp347 ups.length cc348) ups.length (ups.flatMap i64c) :: Row 4 1 (.slice pp349 has2.length cc350) has2.length (has2.flatMap blc) :: blk bk263 (.cells #[.slice pp318 ((sortI M2).length) cc319] 101 (0, 0)) :: blk D311 (.deferred (some [])) :: imm bk266 (.cells #[.slice pp267 ((sortI M2).length) cc268] 101 (0, 0)) :: Im 1 (.slice pp267 ((sortI M2).length) cc268) ((sortI M2).length) ((sortI M2).flatMap i64c) :: Im 1 (.slice ((script.getD i default).p) ((script.getD i default).state.length) ((script.getD i default).c)) ((script.getD i default).state.length) ((script.getD i default).state.flatMap u8c) :: blk bk48 (.cells #[.int .i64 ((script.getD i default).do_.v), .int .i64 ((script.getD i default).from_.v), .slice ((script.getD i default).p) ((script.getD i default).state.length) ((script.getD i default).c)] 109 (0, 0)) :: MvA Y op M2 ups ph2 :: mvsA script :: imi (0 < script.length) gA29 (.cells kA31 eA32 zA33) :: dsA Ds :: Row 3 1 (.slice pp318 ((sortI M2).length) cc319) ((sortI M2).length) ((sortI M2).flatMap i64c) :: F) := H352
                    refine s_load (.int .i64 ph2) ag_3 rfl (H353.blk_at (i := 0) rfl) rfl rfl ?_
                    have H354 : St W w344 (dsA Ds :: blk bk21 (.cells #[.int .i64 op.v, .slice pp347 ups.length cc348, .slice pp349 has2.length cc350, .int .i64 ph2] 115 (0, 0)) :: Im 1 (.slice pp347 ups.length cc348) ups.length (ups.flatMap i64c) :: Row 4 1 (.slice pp349 has2.length cc350) has2.length (has2.flatMap blc) :: Row 3 1 (.slice pp318 ((sortI M2).length) cc319) ((sortI M2).length) ((sortI M2).flatMap i64c) :: blk bk263 (.cells #[.slice pp318 ((sortI M2).length) cc319] 101 (0, 0)) :: blk D311 (.deferred (some [])) :: imm bk266 (.cells #[.slice pp267 ((sortI M2).length) cc268] 101 (0, 0)) :: Im 1 (.slice pp267 ((sortI M2).length) cc268) ((sortI M2).length) ((sortI M2).flatMap i64c) :: Im 1 (.slice ((script.getD i default).p) ((script.getD i default).state.length) ((script.getD i default).c)) ((script.getD i default).state.length) ((script.getD i default).state.flatMap u8c) :: blk bk48 (.cells #[.int .i64 ((script.getD i default).do_.v), .int .i64 ((script.getD i default).from_.v), .slice ((script.getD i default).p) ((script.getD i default).state.length) ((script.getD i default).c)] 109 (0, 0)) :: MvA Y op M2 ups ph2 :: mvsA script :: imi (0 < script.length) gA29 (.cells kA31 eA32 zA33) :: F) := (((((H353.move 13 rfl).move 3 rfl).move 3 rfl).move 3 rfl).move 13 rfl)
                    have H355 : St W w344 (Im 1 (.slice ((script.getD i default).p) ((script.getD i default).state.length) ((script.getD i default).c)) ((script.getD i default).state.length) ((script.getD i default).state.flatMap u8c) :: blk bk48 (.cells #[.int .i64 ((script.getD i default).do_.v), .int .i64 ((script.getD i default).from_.v), .slice ((script.getD i default).p) ((script.getD i default).state.length) ((script.getD i default).c)] 109 (0, 0)) :: MvA Y op M2 ups ph2 :: mvsA script :: imi (0 < script.length) gA29 (.cells kA31 eA32 zA33) :: dsA Ds :: blk bk21 (.cells #[.int .i64 op.v, .slice pp347 ups.length cc348, .slice pp349 has2.length cc350, .int .i64 ph2] 115 (0, 0)) :: Im 1 (.slice pp347 ups.length cc348) ups.length (ups.flatMap i64c) :: Row 4 1 (.slice pp349 has2.length cc350) has2.length (has2.flatMap blc) :: Row 3 1 (.slice pp318 ((sortI M2).length) cc319) ((sortI M2).length) ((sortI M2).flatMap i64c) :: blk bk263 (.cells #[.slice pp318 ((sortI M2).length) cc319] 101 (0, 0)) :: blk D311 (.deferred (some [])) :: imm bk266 (.cells #[.slice pp267 ((sortI M2).length) cc268] 101 (0, 0)) :: Im 1 (.slice pp267 ((sortI M2).length) cc268) ((sortI M2).length) ((sortI M2).flatMap i64c) :: F) := (((((H354.move 13 rfl).move 13 rfl).move 13 rfl).move 13 rfl).move 13 rfl)
                    have H356 : St W w344 (blk bk263 (.cells #[.slice pp318 ((sortI M2).length) cc319] 101 (0, 0)) :: blk D311 (.deferred (some [])) :: imm bk266 (.cells #[.slice pp267 ((sortI M2).length) cc268] 101 (0, 0)) :: Im 1 (.slice pp267 ((sortI M2).length) cc268) ((sortI M2).length) ((sortI M2).flatMap i64c) :: Im 1 (.slice ((script.getD i default).p) ((script.getD i default).state.length) ((script.getD i default).c)) ((script.getD i default).state.length) ((script.getD i default).state.flatMap u8c) :: blk bk48 (.cells #[.int .i64 ((script.getD i default).do_.v), .int .i64 ((script.getD i default).from_.v), .slice ((script.getD i default).p) ((script.getD i default).state.length) ((script.getD i default).c)] 109 (0, 0)) :: MvA Y op M2 ups ph2 :: mvsA script :: imi (0 < script.length) gA29 (.cells kA31 eA32 zA33) :: dsA Ds :: blk bk21 (.cells #[.int .i64 op.v, .slice pp347 ups.length cc348, .slice pp349 has2.length cc350, .int .i64 ph2] 115 (0, 0)) :: Im 1 (.slice pp347 ups.length cc348) ups.length (ups.flatMap i64c) :: Row 4 1 (.slice pp349 has2.length cc350) has2.length (has2.flatMap blc) :: Row 3 1 (.slice pp318 ((sortI M2).length) cc319) ((sortI M2).length) ((sortI M2).flatMap i64c) :: F) := ((((H355.move 13 rfl).move 13 rfl).move 13 rfl).move 13 rfl)
                    refine ⟨blk bk21 (.cells #[.int .i64 op.v, .slice pp347 ups.length cc348, .slice pp349 has2.length cc350, .int .i64 ph2] 115 (0, 0)) :: Im 1 (.slice pp347 ups.length cc348) ups.length (ups.flatMap i64c) :: Row 4 1 (.slice pp349 has2.length cc350) has2.length (has2.flatMap blc) :: Row 3 1 (.slice pp318 ((sortI M2).length) cc319) ((sortI M2).length) ((sortI M2).flatMap i64c) :: F, ?_, H356⟩
                    change FReg _ _ _ _ _ #[true, true, true, true, true, true, false, false, false, false, false, false, false, false] _ _
                    refine f_first 6 (listed' := #[true, true, true, true, true, true, true, false, false, false, false, false, false, false]) rfl (by kernel_rfl) (by kernel_rfl) (by kernel_rfl) rfl ?_
                    refine f_val rfl rfl rfl (by intro t_ w hw; exact x_neq false rfl rfl (ntrue rfl) w) ?_
                    refine f_first 7 (listed' := #[true, true, true, true, true, true, true, true, false, false, false, false, false, false]) rfl (by kernel_rfl) (by kernel_rfl) (by kernel_rfl) rfl ?_
                    refine f_val rfl rfl rfl (by intro t_ w hw; exact x_move (.bool false) rfl w) ?_
                    refine f_first 8 (listed' := #[true, true, true, true, true, true, true, true, true, false, false, false, false, false]) rfl (by kernel_rfl) (by kernel_rfl) (by kernel_rfl) rfl ?_
                    refine f_take rfl rfl ?_
                    refine f_val rfl rfl rfl (by intro t_ w hw; exact x_load (.slice pp318 ((sortI M2).length) cc319) ag_101 rfl (hw.blk_at (i := 0) rfl) rfl) ?_
                    refine f_first 9 (listed' := #[true, true, true, true, true, true, true, true, true, true, false, false, false, false]) rfl (by kernel_rfl) (by kernel_rfl) (by kernel_rfl) rfl ?_
                    refine f_take rfl rfl ?_
                    refine f_val rfl rfl rfl (by intro t_ w hw; exact x_move (.pointer (some ⟨bk21, 0, none⟩)) rfl w) ?_
                    refine f_all (rs := [10]) (by kernel_rfl) (by simp) ?_
                    refine a_cons ⟨_, rfl, ?_⟩ (fun x hx => absurd hx (by simp))
                    intro w357 H358
                    try dsimp only at H358
                    refine r_take rfl rfl ?_
                    have H359 : St W w357 (blk bk21 (.cells #[.int .i64 op.v, .slice pp347 ups.length cc348, .slice pp349 has2.length cc350, .int .i64 ph2] 115 (0, 0)) :: Im 1 (.slice pp347 ups.length cc348) ups.length (ups.flatMap i64c) :: Row 4 1 (.slice pp349 has2.length cc350) has2.length (has2.flatMap blc) :: blk bk263 (.cells #[.slice pp318 ((sortI M2).length) cc319] 101 (0, 0)) :: blk D311 (.deferred (some [])) :: imm bk266 (.cells #[.slice pp267 ((sortI M2).length) cc268] 101 (0, 0)) :: Im 1 (.slice pp267 ((sortI M2).length) cc268) ((sortI M2).length) ((sortI M2).flatMap i64c) :: Im 1 (.slice ((script.getD i default).p) ((script.getD i default).state.length) ((script.getD i default).c)) ((script.getD i default).state.length) ((script.getD i default).state.flatMap u8c) :: blk bk48 (.cells #[.int .i64 ((script.getD i default).do_.v), .int .i64 ((script.getD i default).from_.v), .slice ((script.getD i default).p) ((script.getD i default).state.length) ((script.getD i default).c)] 109 (0, 0)) :: MvA Y op M2 ups ph2 :: mvsA script :: imi (0 < script.length) gA29 (.cells kA31 eA32 zA33) :: dsA Ds :: Row 3 1 (.slice pp318 ((sortI M2).length) cc319) ((sortI M2).length) ((sortI M2).flatMap i64c) :: F) := (((H358.move 12 rfl).move 12 rfl).move 12 rfl)
                    have H360 : St W w357 (RvA bk21 op ups has2 ph2 :: blk bk263 (.cells #[.slice pp318 ((sortI M2).length) cc319] 101 (0, 0)) :: blk D311 (.deferred (some [])) :: imm bk266 (.cells #[.slice pp267 ((sortI M2).length) cc268] 101 (0, 0)) :: Im 1 (.slice pp267 ((sortI M2).length) cc268) ((sortI M2).length) ((sortI M2).flatMap i64c) :: Im 1 (.slice ((script.getD i default).p) ((script.getD i default).state.length) ((script.getD i default).c)) ((script.getD i default).state.length) ((script.getD i default).state.flatMap u8c) :: blk bk48 (.cells #[.int .i64 ((script.getD i default).do_.v), .int .i64 ((script.getD i default).from_.v), .slice ((script.getD i default).p) ((script.getD i default).state.length) ((script.getD i default).c)] 109 (0, 0)) :: MvA Y op M2 ups ph2 :: mvsA script :: imi (0 < script.length) gA29 (.cells kA31 eA32 zA33) :: dsA Ds :: Row 3 1 (.slice pp318 ((sortI M2).length) cc319) ((sortI M2).length) ((sortI M2).flatMap i64c) :: F) := St.shut_ex ((pp347, cc348), (pp349, cc350)) (St.shut_star (ls := [blk bk21 (.cells #[.int .i64 op.v, .slice pp347 ups.length cc348, .slice pp349 has2.length cc350, .int .i64 ph2] 115 (0, 0)), Im 1 (.slice pp347 ups.length cc348) ups.length (ups.flatMap i64c), Row 4 1 (.slice pp349 has2.length cc350) has2.length (has2.flatMap blc)]) H359)
                    refine s_call [.pointer (some ⟨bk21, 0, none⟩)] pl_58 rfl rfl (Rv_Missing bk21 op ups has2 ph2 M2 ups hMRm (by omega) (i := 0) rfl H360) ?_
                    rintro _ w363 ⟨pp361, cc362, rfl, H364⟩
                    have H365 : St W w363 (imi (0 < script.length) gA29 (.cells kA31 eA32 zA33) :: dsA Ds :: Im 1 (.slice pp361 ((sortI M2).length) cc362) ((sortI M2).length) ((sortI M2).flatMap i64c) :: RvA bk21 op ups has2 ph2 :: Row 3 1 (.slice pp318 ((sortI M2).length) cc319) ((sortI M2).length) ((sortI M2).flatMap i64c) :: blk bk263 (.cells #[.slice pp318 ((sortI M2).length) cc319] 101 (0, 0)) :: blk D311 (.deferred (some [])) :: imm bk266 (.cells #[.slice pp267 ((sortI M2).length) cc268] 101 (0, 0)) :: Im 1 (.slice pp267 ((sortI M2).length) cc268) ((sortI M2).length) ((sortI M2).flatMap i64c) :: Im 1 (.slice ((script.getD i default).p) ((script.getD i default).state.length) ((script.getD i default).c)) ((script.getD i default).state.length) ((script.getD i default).state.flatMap u8c) :: blk bk48 (.cells #[.int .i64 ((script.getD i default).do_.v), .int .i64 ((script.getD i default).from_.v), .slice ((script.getD i default).p) ((script.getD i default).state.length) ((script.getD i default).c)] 109 (0, 0)) :: MvA Y op M2 ups ph2 :: mvsA script :: F) := (((((H364.move 12 rfl).move 2 rfl).move 2 rfl).move 12 rfl).move 12 rfl)
                    have H366 : St W w363 (Im 1 (.slice pp267 ((sortI M2).length) cc268) ((sortI M2).length) ((sortI M2).flatMap i64c) :: Im 1 (.slice ((script.getD i default).p) ((script.getD i default).state.length) ((script.getD i default).c)) ((script.getD i default).state.length) ((script.getD i default).state.flatMap u8c) :: blk bk48 (.cells #[.int .i64 ((script.getD i default).do_.v), .int .i64 ((script.getD i default).from_.v), .slice ((script.getD i default).p) ((script.getD i default).state.length) ((script.getD i default).c)] 109 (0, 0)) :: MvA Y op M2 ups ph2 :: mvsA script :: imi (0 < script.length) gA29 (.cells kA31 eA32 zA33) :: dsA Ds :: Im 1 (.slice pp361 ((sortI M2).length) cc362) ((sortI M2).length) ((sortI M2).flatMap i64c) :: RvA bk21 op ups has2 ph2 :: Row 3 1 (.slice pp318 ((sortI M2).length) cc319) ((sortI M2).length) ((sortI M2).flatMap i64c) :: blk bk263 (.cells #[.slice pp318 ((sortI M2).length) cc319] 101 (0, 0)) :: blk D311 (.deferred (some [])) :: imm bk266 (.cells #[.slice pp267 ((sortI M2).length) cc268] 101 (0, 0)) :: F) := (((((H365.move 12 rfl).move 12 rfl).move 12 rfl).move 12 rfl).move 12 rfl)
                    have H367 : St W w363 (blk bk263 (.cells #[.slice pp318 ((sortI M2).length) cc319] 101 (0, 0)) :: blk D311 (.deferred (some [])) :: imm bk266 (.cells #[.slice pp267 ((sortI M2).length) cc268] 101 (0, 0)) :: Im 1 (.slice pp267 ((sortI M2).length) cc268) ((sortI M2).length) ((sortI M2).flatMap i64c) :: Im 1 (.slice ((script.getD i default).p) ((script.getD i default).state.length) ((script.getD i default).c)) ((script.getD i default).state.length) ((script.getD i default).state.flatMap u8c) :: blk bk48 (.cells #[.int .i64 ((script.getD i default).do_.v), .int .i64 ((script.getD i default).from_.v), .slice ((script.getD i default).p) ((script.getD i default).state.length) ((script.getD i default).c)] 109 (0, 0)) :: MvA Y op M2 ups ph2 :: mvsA script :: imi (0 < script.length) gA29 (.cells kA31 eA32 zA33) :: dsA Ds :: Im 1 (.slice pp361 ((sortI M2).length) cc362) ((sortI M2).length) ((sortI M2).flatMap i64c) :: RvA bk21 op ups has2 ph2 :: Row 3 1 (.slice pp318 ((sortI M2).length) cc319) ((sortI M2).length) ((sortI M2).flatMap i64c) :: F) := (((H366.move 12 rfl).move 12 rfl).move 12 rfl)
                    refine ⟨Im 1 (.slice pp361 ((sortI M2).length) cc362) ((sortI M2).length) ((sortI M2).flatMap i64c) :: RvA bk21 op ups has2 ph2 :: Row 3 1 (.slice pp318 ((sortI M2).length) cc319) ((sortI M2).length) ((sortI M2).flatMap i64c) :: F, ?_, H367⟩
                    change FReg _ _ _ _ _ #[true, true, true, true, true, true, true, true, true, true, true, false, false, false] _ _
                    refine f_all (rs := [11]) (by kernel_rfl) (by simp) ?_
                    refine a_cons ⟨_, rfl, ?_⟩ (fun x hx => absurd hx (by simp))
                    intro w368 H369
                    try dsimp only at H369
                    refine r_take rfl rfl ?_
                    have H370 : St W w368 (blk bk263 (.cells #[.slice pp318 ((sortI M2).length) cc319] 101 (0, 0)) :: blk D311 (.deferred (some [])) :: imm bk266 (.cells #[.slice pp267 ((sortI M2).length) cc268] 101 (0, 0)) :: Im 1 (.slice pp267 ((sortI M2).length) cc268) ((sortI M2).length) ((sortI M2).flatMap i64c) :: Im 1 (.slice ((script.getD i default).p) ((script.getD i default).state.length) ((script.getD i default).c)) ((script.getD i default).state.length) ((script.getD i default).state.flatMap u8c) :: blk bk48 (.cells #[.int .i64 ((script.getD i default).do_.v), .int .i64 ((script.getD i default).from_.v), .slice ((script.getD i default).p) ((script.getD i default).state.length) ((script.getD i default).c)] 109 (0, 0)) :: MvA Y op M2 ups ph2 :: mvsA script :: imi (0 < script.length) gA29 (.cells kA31 eA32 zA33) :: dsA Ds :: Im 1 (.slice pp361 ((sortI M2).length) cc362) ((sortI M2).length) ((sortI M2).flatMap i64c) :: RvA bk21 op ups has2 ph2 :: Im 1 (.slice pp318 ((sortI M2).length) cc319) ((sortI M2).length) ((sortI M2).flatMap i64c) :: F) := Row.im H369 (i := 12) rfl
                    refine s_call [.slice pp318 ((sortI M2).length) cc319, .slice pp361 ((sortI M2).length) cc362] pl_57 rfl rfl (Equal_ints (sortI M2) _ _ (j := 12) (k := 10) rfl rfl H370) ?_
                    rintro _ w371 ⟨rfl, H372⟩
                    refine ⟨Im 1 (.slice pp361 ((sortI M2).length) cc362) ((sortI M2).length) ((sortI M2).flatMap i64c) :: RvA bk21 op ups has2 ph2 :: Im 1 (.slice pp318 ((sortI M2).length) cc319) ((sortI M2).length) ((sortI M2).flatMap i64c) :: F, ?_, H372⟩
                    change FReg _ _ _ _ _ #[true, true, true, true, true, true, true, true, true, true, true, true, false, false] _ _
                    refine f_first 12 (listed' := #[true, true, true, true, true, true, true, true, true, true, true, true, true, false]) rfl (by kernel_rfl) (by kernel_rfl) (by kernel_rfl) rfl ?_
                    refine f_take rfl rfl ?_
                    refine f_val rfl rfl rfl (by intro t_ w hw; exact x_not true rfl false rfl w) ?_
                    refine f_first 13 (listed' := #[true, true, true, true, true, true, true, true, true, true, true, true, true, true]) rfl (by kernel_rfl) (by kernel_rfl) (by kernel_rfl) rfl ?_
                    refine f_val rfl rfl rfl (by intro t_ w hw; exact x_pick_f (.bool false) rfl rfl w) ?_
                    refine f_done (by kernel_rfl) ?_
                    intro w373 H374
                    refine g_false rfl ?_
                    refine g_skip ?_
                    refine g_inBlock ?_
                    refine g_region ?_
                    refine r_cons (s_add ((i : Int) + 1) rfl rfl (wi64 (by omega)) rfl ?_)
                    refine r_cons (s_move (.int .i64 ((i : Int) + 1)) rfl rfl ?_)
                    refine r_nil ?_
                    have H375 : St W w373 (blk D311 (.deferred (some [])) :: dsA Ds :: blk bk263 (.cells #[.slice pp318 ((sortI M2).length) cc319] 101 (0, 0)) :: imm bk266 (.cells #[.slice pp267 ((sortI M2).length) cc268] 101 (0, 0)) :: Im 1 (.slice pp267 ((sortI M2).length) cc268) ((sortI M2).length) ((sortI M2).flatMap i64c) :: Im 1 (.slice ((script.getD i default).p) ((script.getD i default).state.length) ((script.getD i default).c)) ((script.getD i default).state.length) ((script.getD i default).state.flatMap u8c) :: blk bk48 (.cells #[.int .i64 ((script.getD i default).do_.v), .int .i64 ((script.getD i default).from_.v), .slice ((script.getD i default).p) ((script.getD i default).state.length) ((script.getD i default).c)] 109 (0, 0)) :: MvA Y op M2 ups ph2 :: mvsA script :: imi (0 < script.length) gA29 (.cells kA31 eA32 zA33) :: Im 1 (.slice pp361 ((sortI M2).length) cc362) ((sortI M2).length) ((sortI M2).flatMap i64c) :: RvA bk21 op ups has2 ph2 :: Im 1 (.slice pp318 ((sortI M2).length) cc319) ((sortI M2).length) ((sortI M2).flatMap i64c) :: F) := ((H374.move 9 rfl).move 2 rfl)
                    have H376 : St W w373 (dsA (D311 :: Ds) :: blk bk263 (.cells #[.slice pp318 ((sortI M2).length) cc319] 101 (0, 0)) :: imm bk266 (.cells #[.slice pp267 ((sortI M2).length) cc268] 101 (0, 0)) :: Im 1 (.slice pp267 ((sortI M2).length) cc268) ((sortI M2).length) ((sortI M2).flatMap i64c) :: Im 1 (.slice ((script.getD i default).p) ((script.getD i default).state.length) ((script.getD i default).c)) ((script.getD i default).state.length) ((script.getD i default).state.flatMap u8c) :: blk bk48 (.cells #[.int .i64 ((script.getD i default).do_.v), .int .i64 ((script.getD i default).from_.v), .slice ((script.getD i default).p) ((script.getD i default).state.length) ((script.getD i default).c)] 109 (0, 0)) :: MvA Y op M2 ups ph2 :: mvsA script :: imi (0 < script.length) gA29 (.cells kA31 eA32 zA33) :: Im 1 (.slice pp361 ((sortI M2).length) cc362) ((sortI M2).length) ((sortI M2).flatMap i64c) :: RvA bk21 op ups has2 ph2 :: Im 1 (.slice pp318 ((sortI M2).length) cc319) ((sortI M2).length) ((sortI M2).flatMap i64c) :: F) := ds_cons H375
                    have H377 : St W w373 (MvA Y op M2 ups ph2 :: RvA bk21 op ups has2 ph2 :: mvsA script :: imi (0 < script.length) gA29 (.cells kA31 eA32 zA33) :: dsA (D311 :: Ds) :: F) := (((((((((((H376.move 8 rfl).move 8 rfl).move 10 rfl).move 9 rfl).drop 5 rfl).drop 5 rfl).drop 5 rfl).drop 5 rfl).drop 5 rfl).drop 5 rfl).drop 5 rfl)
                    exact nx46 (i + 1, Y, M2, has2, ph2, (D311 :: Ds)) _ _ ⟨(by omega), hMRm, H377⟩ (by first | (dsimp only; omega) | omega) ⟨by first | rfl | exact vint (by omega), by first | rfl | exact vint (by omega), by first | rfl | exact vint (by omega), by first | rfl | exact vint (by omega), by first | rfl | exact vint (by omega), by first | rfl | exact vint (by omega), trivial⟩
                  · skip
                    intro w378 H379
                    try dsimp only at H379
                    refine s_load (.int .i64 ph2) ag_3 rfl (H379.blk_at (i := 10) rfl) rfl rfl ?_
                    refine ⟨blk bk21 (.cells #[.int .i64 op.v, .slice pp325 ups.length cc326, .slice pp327 has2.length cc328, .int .i64 ph2] 115 (0, 0)) :: Im 1 (.slice pp325 ups.length cc326) ups.length (ups.flatMap i64c) :: Row 4 1 (.slice pp327 has2.length cc328) has2.length (has2.flatMap blc) :: Row 3 1 (.slice pp318 ((sortI M2).length) cc319) ((sortI M2).length) ((sortI M2).flatMap i64c) :: F, ?_, H379⟩
                    change FReg _ _ _ _ _ #[true, false, true, true, true, true, false, false, false, false, false, false, false, false] _ _
                    refine f_all (rs := [1]) (by kernel_rfl) (by simp) ?_
                    refine a_cons ⟨_, rfl, ?_⟩ (fun x hx => absurd hx (by simp))
                    intro w380 H381
                    try dsimp only at H381
                    have H382 : St W w380 (blk bk21 (.cells #[.int .i64 op.v, .slice pp325 ups.length cc326, .slice pp327 has2.length cc328, .int .i64 ph2] 115 (0, 0)) :: Im 1 (.slice pp325 ups.length cc326) ups.length (ups.flatMap i64c) :: Row 4 1 (.slice pp327 has2.length cc328) has2.length (has2.flatMap blc) :: blk bk263 (.cells #[.slice pp318 ((sortI M2).length) cc319] 101 (0, 0)) :: blk D311 (.deferred (some [])) :: imm bk266 (.cells #[.slice pp267 ((sortI M2).length) cc268] 101 (0, 0)) :: Im 1 (.slice pp267 ((sortI M2).length) cc268) ((sortI M2).length) ((sortI M2).flatMap i64c) :: Im 1 (.slice ((script.getD i default).p) ((script.getD i default).state.length) ((script.getD i default).c)) ((script.getD i default).state.length) ((script.getD i default).state.flatMap u8c) :: blk bk48 (.cells #[.int .i64 ((script.getD i default).do_.v), .int .i64 ((script.getD i default).from_.v), .slice ((script.getD i default).p) ((script.getD i default).state.length) ((script.getD i default).c)] 109 (0, 0)) :: MvA Y op M2 ups ph2 :: mvsA script :: imi (0 < script.length) gA29 (.cells kA31 eA32 zA33) :: dsA Ds :: Row 3 1 (.slice pp318 ((sortI M2).length) cc319) ((sortI M2).length) ((sortI M2).flatMap i64c) :: F) := (((H381.move 12 rfl).move 12 rfl).move 12 rfl)
                    have H383 : St W w380 (RvA bk21 op ups has2 ph2 :: blk bk263 (.cells #[.slice pp318 ((sortI M2).length) cc319] 101 (0, 0)) :: blk D311 (.deferred (some [])) :: imm bk266 (.cells #[.slice pp267 ((sortI M2).length) cc268] 101 (0, 0)) :: Im 1 (.slice pp267 ((sortI M2).length) cc268) ((sortI M2).length) ((sortI M2).flatMap i64c) :: Im 1 (.slice ((script.getD i default).p) ((script.getD i default).state.length) ((script.getD i default).c)) ((script.getD i default).state.length) ((script.getD i default).state.flatMap u8c) :: blk bk48 (.cells #[.int .i64 ((script.getD i default).do_.v), .int .i64 ((script.getD i default).from_.v), .slice ((script.getD i default).p) ((script.getD i default).state.length) ((script.getD i default).c)] 109 (0, 0)) :: MvA Y op M2 ups ph2 :: mvsA script :: imi (0 < script.length) gA29 (.cells kA31 eA32 zA33) :: dsA Ds :: Row 3 1 (.slice pp318 ((sortI M2).length) cc319) ((sortI M2).length) ((sortI M2).flatMap i64c) :: F) := St.shut_ex ((pp325, cc326), (pp327, cc328)) (St.shut_star (ls := [blk bk21 (.cells #[.int .i64 op.v, .slice pp325 ups.length cc326, .slice pp327 has2.length cc328, .int .i64 ph2] 115 (0, 0)), Im 1 (.slice pp325 ups.length cc326) ups.length (ups.flatMap i64c), Row 4 1 (.slice pp327 has2.length cc328) has2.length (has2.flatMap blc)]) H382)
                    refine s_call [.pointer (some ⟨Y, 0, none⟩)] pl_49 rfl rfl (Mv_Phase Y op M2 ups ph2 (i := 7) rfl H383) ?_
                    rintro _ w384 ⟨rfl, H385⟩
                    have H386 : St W w384 (mvsA script :: imi (0 < script.length) gA29 (.cells kA31 eA32 zA33) :: dsA Ds :: RvA bk21 op ups has2 ph2 :: Row 3 1 (.slice pp318 ((sortI M2).length) cc319) ((sortI M2).length) ((sortI M2).flatMap i64c) :: blk bk263 (.cells #[.slice pp318 ((sortI M2).length) cc319] 101 (0, 0)) :: blk D311 (.deferred (some [])) :: imm bk266 (.cells #[.slice pp267 ((sortI M2).length) cc268] 101 (0, 0)) :: Im 1 (.slice pp267 ((sortI M2).length) cc268) ((sortI M2).length) ((sortI M2).flatMap i64c) :: Im 1 (.slice ((script.getD i default).p) ((script.getD i default).state.length) ((script.getD i default).c)) ((script.getD i default).state.length) ((script.getD i default).state.flatMap u8c) :: blk bk48 (.cells #[.int .i64 ((script.getD i default).do_.v), .int .i64 ((script.getD i default).from_.v), .slice ((script.getD i default).p) ((script.getD i default).state.length) ((script.getD i default).c)] 109 (0, 0)) :: MvA Y op M2 ups ph2 :: F) := (((((H385.move 11 rfl).move 1 rfl).move 11 rfl).move 11 rfl).move 11 rfl)
                    have H387 : St W w384 (imm bk266 (.cells #[.slice pp267 ((sortI M2).length) cc268] 101 (0, 0)) :: Im 1 (.slice pp267 ((sortI M2).length) cc268) ((sortI M2).length) ((sortI M2).flatMap i64c) :: Im 1 (.slice ((script.getD i default).p) ((script.getD i default).state.length) ((script.getD i default).c)) ((script.getD i default).state.length) ((script.getD i default).state.flatMap u8c) :: blk bk48 (.cells #[.int .i64 ((script.getD i default).do_.v), .int .i64 ((script.getD i default).from_.v), .slice ((script.getD i default).p) ((script.getD i default).state.length) ((script.getD i default).c)] 109 (0, 0)) :: MvA Y op M2 ups ph2 :: mvsA script :: imi (0 < script.length) gA29 (.cells kA31 eA32 zA33) :: dsA Ds :: RvA bk21 op ups has2 ph2 :: Row 3 1 (.slice pp318 ((sortI M2).length) cc319) ((sortI M2).length) ((sortI M2).flatMap i64c) :: blk bk263 (.cells #[.slice pp318 ((sortI M2).length) cc319] 101 (0, 0)) :: blk D311 (.deferred (some [])) :: F) := (((((H386.move 11 rfl).move 11 rfl).move 11 rfl).move 11 rfl).move 11 rfl)
                    have H388 : St W w384 (blk bk263 (.cells #[.slice pp318 ((sortI M2).length) cc319] 101 (0, 0)) :: blk D311 (.deferred (some [])) :: imm bk266 (.cells #[.slice pp267 ((sortI M2).length) cc268] 101 (0, 0)) :: Im 1 (.slice pp267 ((sortI M2).length) cc268) ((sortI M2).length) ((sortI M2).flatMap i64c) :: Im 1 (.slice ((script.getD i default).p) ((script.getD i default).state.length) ((script.getD i default).c)) ((script.getD i default).state.length) ((script.getD i default).state.flatMap u8c) :: blk bk48 (.cells #[.int .i64 ((script.getD i default).do_.v), .int .i64 ((script.getD i default).from_.v), .slice ((script.getD i default).p) ((script.getD i default).state.length) ((script.getD i default).c)] 109 (0, 0)) :: MvA Y op M2 ups ph2 :: mvsA script :: imi (0 < script.length) gA29 (.cells kA31 eA32 zA33) :: dsA Ds :: RvA bk21 op ups has2 ph2 :: Row 3 1 (.slice pp318 ((sortI M2).length) cc319) ((sortI M2).length) ((sortI M2).flatMap i64c) :: F) := ((H387.move 11 rfl).move 11 rfl)
                    refine ⟨RvA bk21 op ups has2 ph2 :: Row 3 1 (.slice pp318 ((sortI M2).length) cc319) ((sortI M2).length) ((sortI M2).flatMap i64c) :: F, ?_, H388⟩
                    change FReg _ _ _ _ _ #[true, true, true, true, true, true, false, false, false, false, false, false, false, false] _ _
                    refine f_first 6 (listed' := #[true, true, true, true, true, true, true, false, false, false, false, false, false, false]) rfl (by kernel_rfl) (by kernel_rfl) (by kernel_rfl) rfl ?_
                    refine f_val rfl rfl rfl (by intro t_ w hw; exact x_neq false rfl rfl (ntrue rfl) w) ?_
                    refine f_first 7 (listed' := #[true, true, true, true, true, true, true, true, false, false, false, false, false, false]) rfl (by kernel_rfl) (by kernel_rfl) (by kernel_rfl) rfl ?_
                    refine f_val rfl rfl rfl (by intro t_ w hw; exact x_move (.bool false) rfl w) ?_
                    refine f_first 8 (listed' := #[true, true, true, true, true, true, true, true, true, false, false, false, false, false]) rfl (by kernel_rfl) (by kernel_rfl) (by kernel_rfl) rfl ?_
                    refine f_take rfl rfl ?_
                    refine f_val rfl rfl rfl (by intro t_ w hw; exact x_load (.slice pp318 ((sortI M2).length) cc319) ag_101 rfl (hw.blk_at (i := 0) rfl) rfl) ?_
                    refine f_first 9 (listed' := #[true, true, true, true, true, true, true, true, true, true, false, false, false, false]) rfl (by kernel_rfl) (by kernel_rfl) (by kernel_rfl) rfl ?_
                    refine f_take rfl rfl ?_
                    refine f_val rfl rfl rfl (by intro t_ w hw; exact x_move (.pointer (some ⟨bk21, 0, none⟩)) rfl w) ?_
                    refine f_all (rs := [10]) (by kernel_rfl) (by simp) ?_
                    refine a_cons ⟨_, rfl, ?_⟩ (fun x hx => absurd hx (by simp))
                    intro w389 H390
                    try dsimp only at H390
                    refine r_take rfl rfl ?_
                    refine s_call [.pointer (some ⟨bk21, 0, none⟩)] pl_58 rfl rfl (Rv_Missing bk21 op ups has2 ph2 M2 ups hMRm (by omega) (i := 10) rfl H390) ?_
                    rintro _ w393 ⟨pp391, cc392, rfl, H394⟩
                    have H395 : St W w393 (imi (0 < script.length) gA29 (.cells kA31 eA32 zA33) :: dsA Ds :: Im 1 (.slice pp391 ((sortI M2).length) cc392) ((sortI M2).length) ((sortI M2).flatMap i64c) :: RvA bk21 op ups has2 ph2 :: Row 3 1 (.slice pp318 ((sortI M2).length) cc319) ((sortI M2).length) ((sortI M2).flatMap i64c) :: blk bk263 (.cells #[.slice pp318 ((sortI M2).length) cc319] 101 (0, 0)) :: blk D311 (.deferred (some [])) :: imm bk266 (.cells #[.slice pp267 ((sortI M2).length) cc268] 101 (0, 0)) :: Im 1 (.slice pp267 ((sortI M2).length) cc268) ((sortI M2).length) ((sortI M2).flatMap i64c) :: Im 1 (.slice ((script.getD i default).p) ((script.getD i default).state.length) ((script.getD i default).c)) ((script.getD i default).state.length) ((script.getD i default).state.flatMap u8c) :: blk bk48 (.cells #[.int .i64 ((script.getD i default).do_.v), .int .i64 ((script.getD i default).from_.v), .slice ((script.getD i default).p) ((script.getD i default).state.length) ((script.getD i default).c)] 109 (0, 0)) :: MvA Y op M2 ups ph2 :: mvsA script :: F) := (((((H394.move 12 rfl).move 12 rfl).move 2 rfl).move 12 rfl).move 12 rfl)
                    have H396 : St W w393 (Im 1 (.slice pp267 ((sortI M2).length) cc268) ((sortI M2).length) ((sortI M2).flatMap i64c) :: Im 1 (.slice ((script.getD i default).p) ((script.getD i default).state.length) ((script.getD i default).c)) ((script.getD i default).state.length) ((script.getD i default).state.flatMap u8c) :: blk bk48 (.cells #[.int .i64 ((script.getD i default).do_.v), .int .i64 ((script.getD i default).from_.v), .slice ((script.getD i default).p) ((script.getD i default).state.length) ((script.getD i default).c)] 109 (0, 0)) :: MvA Y op M2 ups ph2 :: mvsA script :: imi (0 < script.length) gA29 (.cells kA31 eA32 zA33) :: dsA Ds :: Im 1 (.slice pp391 ((sortI M2).length) cc392) ((sortI M2).length) ((sortI M2).flatMap i64c) :: RvA bk21 op ups has2 ph2 :: Row 3 1 (.slice pp318 ((sortI M2).length) cc319) ((sortI M2).length) ((sortI M2).flatMap i64c) :: blk bk263 (.cells #[.slice pp318 ((sortI M2).length) cc319] 101 (0, 0)) :: blk D311 (.deferred (some [])) :: imm bk266 (.cells #[.slice pp267 ((sortI M2).length) cc268] 101 (0, 0)) :: F) := (((((H395.move 12 rfl).move 12 rfl).move 12 rfl).move 12 rfl).move 12 rfl)
                    have H397 : St W w393 (blk bk263 (.cells #[.slice pp318 ((sortI M2).length) cc319] 101 (0, 0)) :: blk D311 (.deferred (some [])) :: imm bk266 (.cells #[.slice pp267 ((sortI M2).length) cc268] 101 (0, 0)) :: Im 1 (.slice pp267 ((sortI M2).length) cc268) ((sortI M2).length) ((sortI M2).flatMap i64c) :: Im 1 (.slice ((script.getD i default).p) ((script.getD i default).state.length) ((script.getD i default).c)) ((script.getD i default).state.length) ((script.getD i default).state.flatMap u8c) :: blk bk48 (.cells #[.int .i64 ((script.getD i default).do_.v), .int .i64 ((script.getD i default).from_.v), .slice ((script.getD i default).p) ((script.getD i default).state.length) ((script.getD i default).c)] 109 (0, 0)) :: MvA Y op M2 ups ph2 :: mvsA script :: imi (0 < script.length) gA29 (.cells kA31 eA32 zA33) :: dsA Ds :: Im 1 (.slice pp391 ((sortI M2).length) cc392) ((sortI M2).length) ((sortI M2).flatMap i64c) :: RvA bk21 op ups has2 ph2 :: Row 3 1 (.slice pp318 ((sortI M2).length) cc319) ((sortI M2).length) ((sortI M2).flatMap i64c) :: F) := (((H396.move 12 rfl).move 12 rfl).move 12 rfl)
                    refine ⟨Im 1 (.slice pp391 ((sortI M2).length) cc392) ((sortI M2).length) ((sortI M2).flatMap i64c) :: RvA bk21 op ups has2 ph2 :: Row 3 1 (.slice pp318 ((sortI M2).length) cc319) ((sortI M2).length) ((sortI M2).flatMap i64c) :: F, ?_, H397⟩
                    change FReg _ _ _ _ _ #[true, true, true, true, true, true, true, true, true, true, true, false, false, false] _ _
                    refine f_all (rs := [11]) (by kernel_rfl) (by simp) ?_
                    refine a_cons ⟨_, rfl, ?_⟩ (fun x hx => absurd hx (by simp))
                    intro w398 H399
                    try dsimp only at H399
                    refine r_take rfl rfl ?_
                    have H400 : St W w398 (blk bk263 (.cells #[.slice pp318 ((sortI M2).length) cc319] 101 (0, 0)) :: blk D311 (.deferred (some [])) :: imm bk266 (.cells #[.slice pp267 ((sortI M2).length) cc268] 101 (0, 0)) :: Im 1 (.slice pp267 ((sortI M2).length) cc268) ((sortI M2).length) ((sortI M2).flatMap i64c) :: Im 1 (.slice ((script.getD i default).p) ((script.getD i default).state.length) ((script.getD i default).c)) ((script.getD i default).state.length) ((script.getD i default).state.flatMap u8c) :: blk bk48 (.cells #[.int .i64 ((script.getD i default).do_.v), .int .i64 ((script.getD i default).from_.v), .slice ((script.getD i default).p) ((script.getD i default).state.length) ((script.getD i default).c)] 109 (0, 0)) :: MvA Y op M2 ups ph2 :: mvsA script :: imi (0 < script.length) gA29 (.cells kA31 eA32 zA33) :: dsA Ds :: Im 1 (.slice pp391 ((sortI M2).length) cc392) ((sortI M2).length) ((sortI M2).flatMap i64c) :: RvA bk21 op ups has2 ph2 :: Im 1 (.slice pp318 ((sortI M2).length) cc319) ((sortI M2).length) ((sortI M2).flatMap i64c) :: F) := Row.im H399 (i := 12) rfl
                    refine s_call [.slice pp318 ((sortI M2).length) cc319, .slice pp391 ((sortI M2).length) cc392] pl_57 rfl rfl (Equal_ints (sortI M2) _ _ (j := 12) (k := 10) rfl rfl H400) ?_
                    rintro _ w401 ⟨rfl, H402⟩
                    refine ⟨Im 1 (.slice pp391 ((sortI M2).length) cc392) ((sortI M2).length) ((sortI M2).flatMap i64c) :: RvA bk21 op ups has2 ph2 :: Im 1 (.slice pp318 ((sortI M2).length) cc319) ((sortI M2).length) ((sortI M2).flatMap i64c) :: F, ?_, H402⟩
                    change FReg _ _ _ _ _ #[true, true, true, true, true, true, true, true, true, true, true, true, false, false] _ _
                    refine f_first 12 (listed' := #[true, true, true, true, true, true, true, true, true, true, true, true, true, false]) rfl (by kernel_rfl) (by kernel_rfl) (by kernel_rfl) rfl ?_
                    refine f_take rfl rfl ?_
                    refine f_val rfl rfl rfl (by intro t_ w hw; exact x_not true rfl false rfl w) ?_
                    refine f_first 13 (listed' := #[true, true, true, true, true, true, true, true, true, true, true, true, true, true]) rfl (by kernel_rfl) (by kernel_rfl) (by kernel_rfl) rfl ?_
                    refine f_val rfl rfl rfl (by intro t_ w hw; exact x_pick_f (.bool false) rfl rfl w) ?_
                    refine f_done (by kernel_rfl) ?_
                    intro w403 H404
                    refine g_false rfl ?_
                    refine g_skip ?_
                    refine g_inBlock ?_
                    refine g_region ?_
                    refine r_cons (s_add ((i : Int) + 1) rfl rfl (wi64 (by omega)) rfl ?_)
                    refine r_cons (s_move (.int .i64 ((i : Int) + 1)) rfl rfl ?_)
                    refine r_nil ?_
                    have H405 : St W w403 (blk D311 (.deferred (some [])) :: dsA Ds :: blk bk263 (.cells #[.slice pp318 ((sortI M2).length) cc319] 101 (0, 0)) :: imm bk266 (.cells #[.slice pp267 ((sortI M2).length) cc268] 101 (0, 0)) :: Im 1 (.slice pp267 ((sortI M2).length) cc268) ((sortI M2).length) ((sortI M2).flatMap i64c) :: Im 1 (.slice ((script.getD i default).p) ((script.getD i default).state.length) ((script.getD i default).c)) ((script.getD i default).state.length) ((script.getD i default).state.flatMap u8c) :: blk bk48 (.cells #[.int .i64 ((script.getD i default).do_.v), .int .i64 ((script.getD i default).from_.v), .slice ((script.getD i default).p) ((script.getD i default).state.length) ((script.getD i default).c)] 109 (0, 0)) :: MvA Y op M2 ups ph2 :: mvsA script :: imi (0 < script.length) gA29 (.cells kA31 eA32 zA33) :: Im 1 (.slice pp391 ((sortI M2).length) cc392) ((sortI M2).length) ((sortI M2).flatMap i64c) :: RvA bk21 op ups has2 ph2 :: Im 1 (.slice pp318 ((sortI M2).length) cc319) ((sortI M2).length) ((sortI M2).flatMap i64c) :: F) := ((H404.move 9 rfl).move 2 rfl)
                    have H406 : St W w403 (dsA (D311 :: Ds) :: blk bk263 (.cells #[.slice pp318 ((sortI M2).length) cc319] 101 (0, 0)) :: imm bk266 (.cells #[.slice pp267 ((sortI M2).length) cc268] 101 (0, 0)) :: Im 1 (.slice pp267 ((sortI M2).length) cc268) ((sortI M2).length) ((sortI M2).flatMap i64c) :: Im 1 (.slice ((script.getD i default).p) ((script.getD i default).state.length) ((script.getD i default).c)) ((script.getD i default).state.length) ((script.getD i default).state.flatMap u8c) :: blk bk48 (.cells #[.int .i64 ((script.getD i default).do_.v), .int .i64 ((script.getD i default).from_.v), .slice ((script.getD i default).p) ((script.getD i default).state.length) ((script.getD i default).c)] 109 (0, 0)) :: MvA Y op M2 ups ph2 :: mvsA script :: imi (0 < script.length) gA29 (.cells kA31 eA32 zA33) :: Im 1 (.slice pp391 ((sortI M2).length) cc392) ((sortI M2).length) ((sortI M2).flatMap i64c) :: RvA bk21 op ups has2 ph2 :: Im 1 (.slice pp318 ((sortI M2).length) cc319) ((sortI M2).length) ((sortI M2).flatMap i64c) :: F) := ds_cons H405
                    have H407 : St W w403 (MvA Y op M2 ups ph2 :: RvA bk21 op ups has2 ph2 :: mvsA script :: imi (0 < script.length) gA29 (.cells kA31 eA32 zA33) :: dsA (D311 :: Ds) :: F) := (((((((((((H406.move 8 rfl).move 8 rfl).move 10 rfl).move 9 rfl).drop 5 rfl).drop 5 rfl).drop 5 rfl).drop 5 rfl).drop 5 rfl).drop 5 rfl).drop 5 rfl)
                    exact nx46 (i + 1, Y, M2, has2, ph2, (D311 :: Ds)) _ _ ⟨(by omega), hMRm, H407⟩ (by first | (dsimp only; omega) | omega) ⟨by first | rfl | exact vint (by omega), by first | rfl | exact vint (by omega), by first | rfl | exact vint (by omega), by first | rfl | exact vint (by omega), by first | rfl | exact vint (by omega), by first | rfl | exact vint (by omega), trivial⟩
                · intro D408 c413 L409 w410 hS411 H412
                  have H414 : St W w410 (pure' False :: blk D408 (.deferred (some [])) :: imm bk266 (.cells #[.slice pp267 ((sortI M2).length) cc268] 101 (0, 0)) :: Im 1 (.slice pp267 ((sortI M2).length) cc268) ((sortI M2).length) ((sortI M2).flatMap i64c) :: Im 1 (.slice ((script.getD i default).p) ((script.getD i default).state.length) ((script.getD i default).c)) ((script.getD i default).state.length) ((script.getD i default).state.flatMap u8c) :: blk bk48 (.cells #[.int .i64 ((script.getD i default).do_.v), .int .i64 ((script.getD i default).from_.v), .slice ((script.getD i default).p) ((script.getD i default).state.length) ((script.getD i default).c)] 109 (0, 0)) :: MvA Y op M2 ups ph2 :: RvA bk21 op ups has2 ph2 :: mvsA script :: imi (0 < script.length) gA29 (.cells kA31 eA32 zA33) :: dsA Ds :: F) := H412
                  exact (St.open_pure H414).1.elim
              · intro join259
                refine g_block ?_
                refine g_seq ?_
                refine g_region ?_
                by_cases hc415 : (script.getD i default).do_.v = 0
                · skip
                  refine r_cons (s_eql true rfl rfl (dtrue hc415) rfl ?_)
                  refine r_cons (s_assign (.bool true) rfl rfl ?_)
                  refine r_nil ?_
                  refine g_true rfl ?_
                  refine g_seq ?_
                  refine g_region ?_
                  refine r_cons (s_move (.pointer (some ⟨Y, 0, none⟩)) rfl rfl ?_)
                  refine r_cons (s_fieldAddr 109 1 1 1 3 rfl fi_109_1 rfl rfl ?_)
                  refine r_cons (s_load (.int .i64 ((script.getD i default).from_.v)) ag_3 rfl (H258.blk_at (i := 1) rfl) rfl rfl ?_)
                  refine r_cons (s_call [.pointer (some ⟨Y, 0, none⟩), .int .i64 ((script.getD i default).from_.v)] pl_46 rfl rfl (Mv_Marker Y op M ups ph ((script.getD i default).from_) (i := 2) rfl H258) ?_)
                  rintro _ w416 ⟨rfl, H417⟩
                  refine r_cons (s_move (.tuple #[.bool (mkAll M ups ((script.getD i default).from_)), .int .i64 (mkE M ups ((script.getD i default).from_))]) rfl rfl ?_)
                  refine r_cons (s_extract (.bool (mkAll M ups ((script.getD i default).from_))) #[.bool (mkAll M ups ((script.getD i default).from_)), .int .i64 (mkE M ups ((script.getD i default).from_))] rfl rfl rfl ?_)
                  refine r_cons (s_extract (.int .i64 (mkE M ups ((script.getD i default).from_))) #[.bool (mkAll M ups ((script.getD i default).from_)), .int .i64 (mkE M ups ((script.getD i default).from_))] rfl rfl rfl ?_)
                  refine r_cons (s_assign (.bool (mkAll M ups ((script.getD i default).from_))) rfl rfl ?_)
                  refine r_cons (s_assign (.int .i64 (mkE M ups ((script.getD i default).from_))) rfl rfl ?_)
                  refine r_nil ?_
                  refine g_seq ?_
                  refine g_region ?_
                  refine r_cons (s_move (.pointer (some ⟨bk21, 0, none⟩)) rfl rfl ?_)
                  refine r_cons (s_fieldAddr 109 1 1 1 3 rfl fi_109_1 rfl rfl ?_)
                  refine r_cons (s_load (.int .i64 ((script.getD i default).from_.v)) ag_3 rfl (H417.blk_at (i := 1) rfl) rfl rfl ?_)
                  refine r_cons (s_call [.pointer (some ⟨bk21, 0, none⟩), .int .i64 ((script.getD i default).from_.v)] pl_53 rfl rfl (Rv_Marker bk21 op ups has ph ((script.getD i default).from_) hnd9 hlh9 (i := 3) rfl H417) ?_)
                  rintro _ w418 ⟨rfl, H419⟩
                  refine r_cons (s_move (.tuple #[.bool (rmAll ups has ((script.getD i default).from_)), .int .i64 (rmE ups has ((script.getD i default).from_))]) rfl rfl ?_)
                  refine r_cons (s_extract (.bool (rmAll ups has ((script.getD i default).from_))) #[.bool (rmAll ups has ((script.getD i default).from_)), .int .i64 (rmE ups has ((script.getD i default).from_))] rfl rfl rfl ?_)
                  refine r_cons (s_extract (.int .i64 (rmE ups has ((script.getD i default).from_))) #[.bool (rmAll ups has ((script.getD i default).from_)), .int .i64 (rmE ups has ((script.getD i default).from_))] rfl rfl rfl ?_)
                  refine r_cons (s_assign (.bool (rmAll ups has ((script.getD i default).from_))) rfl rfl ?_)
                  refine r_cons (s_assign (.int .i64 (rmE ups has ((script.getD i default).from_))) rfl rfl ?_)
                  refine r_nil ?_
                  refine g_seq ?_
                  refine g_region ?_
                  have H420 : St W w418 (Im 1 (.slice ((script.getD i default).p) ((script.getD i default).state.length) ((script.getD i default).c)) ((script.getD i default).state.length) ((script.getD i default).state.flatMap u8c) :: blk bk48 (.cells #[.int .i64 ((script.getD i default).do_.v), .int .i64 ((script.getD i default).from_.v), .slice ((script.getD i default).p) ((script.getD i default).state.length) ((script.getD i default).c)] 109 (0, 0)) :: MvA Y op (mkM M ups ((script.getD i default).from_)) ups (mkP M ups ((script.getD i default).from_) ph) :: RvA bk21 op ups (rmHas ups has ((script.getD i default).from_)) (rmP ups has ((script.getD i default).from_) ph) :: mvsA script :: imi (0 < script.length) gA29 (.cells kA31 eA32 zA33) :: dsA Ds :: F) := H419
                  have H421 : St W w418 (Im 1 (.slice ((script.getD i default).p) ((script.getD i default).state.length) ((script.getD i default).c)) ((script.getD i default).state.length) ((script.getD i default).state.flatMap u8c) :: blk bk48 (.cells #[.int .i64 ((script.getD i default).do_.v), .int .i64 ((script.getD i default).from_.v), .slice ((script.getD i default).p) ((script.getD i default).state.length) ((script.getD i default).c)] 109 (0, 0)) :: MvA Y op (mkM M ups ((script.getD i default).from_)) ups (rmP ups has (script.getD i default).from_ ph) :: RvA bk21 op ups (rmHas ups has ((script.getD i default).from_)) (rmP ups has ((script.getD i default).from_) ph) :: mvsA script :: imi (0 < script.length) gA29 (.cells kA31 eA32 zA33) :: dsA Ds :: F) := by have hx := H420; rw [hMR.phase (script.getD i default).from_ ph] at hx; exact hx
                  have hMR2 := hMR.step (script.getD i default).from_
                  have hml8 : (mkM M ups (script.getD i default).from_).length ≤ 64 := by have h9 := hMR2.perm.length_eq; have h8 := missU_le (ups := ups) (has := rmHas ups has (script.getD i default).from_) (j := ups.length) (List.Perm.refl _); omega
                  refine r_cons (s_move (.bool (mkAll M ups ((script.getD i default).from_))) rfl rfl ?_)
                  refine r_cons (s_move (.bool (rmAll ups has ((script.getD i default).from_))) rfl rfl ?_)
                  refine r_cons (s_bneq false un_4 rfl rfl (ntrue (hMR.all _)) rfl ?_)
                  refine r_cons (s_move (.bool false) rfl rfl ?_)
                  refine r_cons (r_take rfl rfl ?_)
                  refine s_move (.int .i64 (mkE M ups ((script.getD i default).from_))) rfl rfl ?_
                  refine r_cons (r_take rfl rfl ?_)
                  refine s_move (.int .i64 (rmE ups has ((script.getD i default).from_))) rfl rfl ?_
                  refine r_cons (r_take rfl rfl ?_)
                  refine s_neq false rfl rfl (ntrue (hMR.err _)) rfl ?_
                  refine r_cons (s_pick_f (.bool false) rfl rfl rfl ?_)
                  refine r_nil ?_
                  refine g_false rfl ?_
                  refine g_skip ?_
                  refine g_inBlock ?_
                  have H422 : St W w418 (Im 1 (.slice ((script.getD i default).p) ((script.getD i default).state.length) ((script.getD i default).c)) ((script.getD i default).state.length) ((script.getD i default).state.flatMap u8c) :: blk bk48 (.cells #[.int .i64 ((script.getD i default).do_.v), .int .i64 ((script.getD i default).from_.v), .slice ((script.getD i default).p) ((script.getD i default).state.length) ((script.getD i default).c)] 109 (0, 0)) :: MvA Y op (mkM M ups ((script.getD i default).from_)) ups (rmP ups has (script.getD i default).from_ ph) :: RvA bk21 op ups (rmHas ups has ((script.getD i default).from_)) (rmP ups has ((script.getD i default).from_) ph) :: mvsA script :: imi (0 < script.length) gA29 (.cells kA31 eA32 zA33) :: dsA Ds :: F) := (((((((H421.move 6 rfl).move 6 rfl).move 6 rfl).move 6 rfl).move 6 rfl).move 6 rfl).move 6 rfl)
                  exact join259 ((mkM M ups ((script.getD i default).from_)), (rmHas ups has ((script.getD i default).from_)), (rmP ups has ((script.getD i default).from_) ph)) _ _ ⟨hMR2, H422⟩ ⟨by first | rfl | exact vint (by omega), by first | rfl | exact vint (by omega), by first | rfl | exact vint (by omega), by first | rfl | exact vint (by omega), by first | rfl | exact vint (by omega), by first | rfl | exact vint (by omega), trivial⟩
                · skip
                  refine r_cons (s_eql false rfl rfl (dfalse hc415) rfl ?_)
                  refine r_cons (s_assign (.bool false) rfl rfl ?_)
                  refine r_nil ?_
                  refine g_false rfl ?_
                  refine g_seq ?_
                  refine g_region ?_
                  by_cases hc423 : (script.getD i default).do_.v = 1
                  · skip
                    refine r_cons (s_eql true rfl rfl (dtrue hc423) rfl ?_)
                    refine r_cons (s_assign (.bool true) rfl rfl ?_)
                    refine r_nil ?_
                    refine g_true rfl ?_
                    refine g_seq ?_
                    refine g_region ?_
                    refine r_cons (s_move (.pointer (some ⟨Y, 0, none⟩)) rfl rfl ?_)
                    refine r_cons (s_fieldAddr 109 2 2 2 23 rfl fi_109_2 rfl rfl ?_)
                    refine r_cons (s_load (.slice ((script.getD i default).p) ((script.getD i default).state.length) ((script.getD i default).c)) ag_23 rfl (H258.blk_at (i := 1) rfl) rfl rfl ?_)
                    refine r_cons (s_call [.pointer (some ⟨Y, 0, none⟩), .slice ((script.getD i default).p) ((script.getD i default).state.length) ((script.getD i default).c)] pl_47 rfl rfl (Mv_Send Y op M ups ph ((script.getD i default).state) (.slice ((script.getD i default).p) ((script.getD i default).state.length) ((script.getD i default).c)) (hst i (by omega)) (j := 0) rfl (i := 2) rfl H258) ?_)
                    rintro _ w428 ⟨L424, pp425, cc426, rfl, hL427, H429⟩
                    refine r_cons (s_move (.tuple #[.slice pp425 L424.length cc426, .int .i64 (sdE op ((script.getD i default).state) ph)]) rfl rfl ?_)
                    refine r_cons (s_extract (.slice pp425 L424.length cc426) #[.slice pp425 L424.length cc426, .int .i64 (sdE op ((script.getD i default).state) ph)] rfl rfl rfl ?_)
                    refine r_cons (s_extract (.int .i64 (sdE op ((script.getD i default).state) ph)) #[.slice pp425 L424.length cc426, .int .i64 (sdE op ((script.getD i default).state) ph)] rfl rfl rfl ?_)
                    refine r_cons (s_assign (.slice pp425 L424.length cc426) rfl rfl ?_)
                    refine r_cons (s_assign (.int .i64 (sdE op ((script.getD i default).state) ph)) rfl rfl ?_)
                    refine r_nil ?_
                    refine g_seq ?_
                    refine g_region ?_
                    refine r_cons (s_move (.pointer (some ⟨bk21, 0, none⟩)) rfl rfl ?_)
                    refine r_cons (s_fieldAddr 109 2 2 2 23 rfl fi_109_2 rfl rfl ?_)
                    refine r_cons (s_load (.slice ((script.getD i default).p) ((script.getD i default).state.length) ((script.getD i default).c)) ag_23 rfl (H429.blk_at (i := 3) rfl) rfl rfl ?_)
                    refine r_cons (s_call [.pointer (some ⟨bk21, 0, none⟩), .slice ((script.getD i default).p) ((script.getD i default).state.length) ((script.getD i default).c)] pl_54 rfl rfl (Rv_Send bk21 op ups has ph ((script.getD i default).state) (.slice ((script.getD i default).p) ((script.getD i default).state.length) ((script.getD i default).c)) (hst i (by omega)) (j := 2) rfl (i := 5) rfl H429) ?_)
                    rintro _ w434 ⟨L430, pp431, cc432, rfl, hL433, H435⟩
                    refine r_cons (s_move (.tuple #[.slice pp431 L430.length cc432, .int .i64 (sdE op ((script.getD i default).state) ph)]) rfl rfl ?_)
                    refine r_cons (s_extract (.slice pp431 L430.length cc432) #[.slice pp431 L430.length cc432, .int .i64 (sdE op ((script.getD i default).state) ph)] rfl rfl rfl ?_)
                    refine r_cons (s_extract (.int .i64 (sdE op ((script.getD i default).state) ph)) #[.slice pp431 L430.length cc432, .int .i64 (sdE op ((script.getD i default).state) ph)] rfl rfl rfl ?_)
                    refine r_cons (s_assign (.slice pp431 L430.length cc432) rfl rfl ?_)
                    refine r_cons (s_assign (.int .i64 (sdE op ((script.getD i default).state) ph)) rfl rfl ?_)
                    refine r_nil ?_
                    refine g_seq ?_
                    refine g_region ?_
                    refine r_cons (s_move (.slice pp425 L424.length cc426) rfl rfl ?_)
                    refine r_cons (s_move (.slice pp431 L430.length cc432) rfl rfl ?_)
                    have H436 : St W w434 (Row 51 4 (.slice pp431 L430.length cc432) L430.length (L430.flatMap pcCell) :: pcA L430 :: Im 4 (.slice pp425 L424.length cc426) L424.length (L424.flatMap pcCell) :: pcA L424 :: Im 1 (.slice ((script.getD i default).p) ((script.getD i default).state.length) ((script.getD i default).c)) ((script.getD i default).state.length) ((script.getD i default).state.flatMap u8c) :: blk bk48 (.cells #[.int .i64 ((script.getD i default).do_.v), .int .i64 ((script.getD i default).from_.v), .slice ((script.getD i default).p) ((script.getD i default).state.length) ((script.getD i default).c)] 109 (0, 0)) :: MvA Y op M ups (sdP op ((script.getD i default).state) ph) :: RvA bk21 op ups has (sdP op ((script.getD i default).state) ph) :: mvsA script :: imi (0 < script.length) gA29 (.cells kA31 eA32 zA33) :: dsA Ds :: F) := Row.im H435 (i := 2) rfl
                    have H437 : St W w434 (Im 4 (.slice pp431 L430.length cc432) L430.length (L430.flatMap pcCell) :: pcA L430 :: Im 4 (.slice pp425 L424.length cc426) L424.length (L424.flatMap pcCell) :: pcA L424 :: Im 1 (.slice ((script.getD i default).p) ((script.getD i default).state.length) ((script.getD i default).c)) ((script.getD i default).state.length) ((script.getD i default).state.flatMap u8c) :: blk bk48 (.cells #[.int .i64 ((script.getD i default).do_.v), .int .i64 ((script.getD i default).from_.v), .slice ((script.getD i default).p) ((script.getD i default).state.length) ((script.getD i default).c)] 109 (0, 0)) :: MvA Y op M ups (sdP op ((script.getD i default).state) ph) :: RvA bk21 op ups has (sdP op ((script.getD i default).state) ph) :: mvsA script :: imi (0 < script.length) gA29 (.cells kA31 eA32 zA33) :: dsA Ds :: F) := Row.im H436 (i := 0) rfl
                    refine r_cons (s_call [.slice pp425 L424.length cc426, .slice pp431 L430.length cc432, .func (.func 39) #[] #[]] pl_40 rfl rfl (EqualFunc_pieces L424 L430 _ _ (hL427.trans hL433.symm) (j := 2) (k := 0) (a := 3) (b := 1) rfl rfl rfl rfl H437) ?_)
                    rintro _ w438 ⟨rfl, H439⟩
                    refine r_cons (s_not true rfl false rfl rfl ?_)
                    refine r_cons (s_move (.bool false) rfl rfl ?_)
                    refine r_cons (r_take rfl rfl ?_)
                    refine s_move (.int .i64 (sdE op ((script.getD i default).state) ph)) rfl rfl ?_
                    refine r_cons (r_take rfl rfl ?_)
                    refine s_move (.int .i64 (sdE op ((script.getD i default).state) ph)) rfl rfl ?_
                    refine r_cons (r_take rfl rfl ?_)
                    refine s_neq false rfl rfl (ntrue rfl) rfl ?_
                    refine r_cons (s_pick_f (.bool false) rfl rfl rfl ?_)
                    refine r_nil ?_
                    refine g_false rfl ?_
                    refine g_skip ?_
                    refine g_inBlock ?_
                    have H440 : St W w438 (Im 1 (.slice ((script.getD i default).p) ((script.getD i default).state.length) ((script.getD i default).c)) ((script.getD i default).state.length) ((script.getD i default).state.flatMap u8c) :: blk bk48 (.cells #[.int .i64 ((script.getD i default).do_.v), .int .i64 ((script.getD i default).from_.v), .slice ((script.getD i default).p) ((script.getD i default).state.length) ((script.getD i default).c)] 109 (0, 0)) :: MvA Y op M ups (sdP op ((script.getD i default).state) ph) :: RvA bk21 op ups has (sdP op ((script.getD i default).state) ph) :: mvsA script :: imi (0 < script.length) gA29 (.cells kA31 eA32 zA33) :: dsA Ds :: F) := (((((((((((H439.move 10 rfl).move 10 rfl).move 10 rfl).move 10 rfl).move 10 rfl).move 10 rfl).move 10 rfl).drop 7 rfl).drop 7 rfl).drop 7 rfl).drop 7 rfl)
                    exact join259 (M, has, (sdP op ((script.getD i default).state) ph)) _ _ ⟨hMR, H440⟩ ⟨by first | rfl | exact vint (by omega), by first | rfl | exact vint (by omega), by first | rfl | exact vint (by omega), by first | rfl | exact vint (by omega), by first | rfl | exact vint (by omega), by first | rfl | exact vint (by omega), trivial⟩
                  · skip
                    refine r_cons (s_eql false rfl rfl (dfalse hc423) rfl ?_)
                    refine r_cons (s_assign (.bool false) rfl rfl ?_)
                    refine r_nil ?_
                    refine g_false rfl ?_
                    refine g_seq ?_
                    refine g_region ?_
                    refine r_cons (s_move (.pointer (some ⟨Y, 0, none⟩)) rfl rfl ?_)
                    refine r_cons (s_call [.pointer (some ⟨Y, 0, none⟩)] pl_48 rfl rfl (Mv_Landed Y op M ups ph (i := 2) rfl H258) ?_)
                    rintro _ w441 ⟨rfl, H442⟩
                    refine r_cons (s_move (.pointer (some ⟨bk21, 0, none⟩)) rfl rfl ?_)
                    refine r_cons (s_call [.pointer (some ⟨bk21, 0, none⟩)] pl_55 rfl rfl (Rv_Landed bk21 op ups has ph (i := 3) rfl H442) ?_)
                    rintro _ w443 ⟨rfl, H444⟩
                    refine r_cons (s_neq false rfl rfl (ntrue rfl) rfl ?_)
                    refine r_nil ?_
                    refine g_false rfl ?_
                    refine g_skip ?_
                    refine g_inBlock ?_
                    have H445 : St W w443 (Im 1 (.slice ((script.getD i default).p) ((script.getD i default).state.length) ((script.getD i default).c)) ((script.getD i default).state.length) ((script.getD i default).state.flatMap u8c) :: blk bk48 (.cells #[.int .i64 ((script.getD i default).do_.v), .int .i64 ((script.getD i default).from_.v), .slice ((script.getD i default).p) ((script.getD i default).state.length) ((script.getD i default).c)] 109 (0, 0)) :: MvA Y op M ups (if ph = 3 then 4 else ph) :: RvA bk21 op ups has (if ph = 3 then 4 else ph) :: mvsA script :: imi (0 < script.length) gA29 (.cells kA31 eA32 zA33) :: dsA Ds :: F) := (((((((H444.move 6 rfl).move 6 rfl).move 6 rfl).move 6 rfl).move 6 rfl).move 6 rfl).move 6 rfl)
                    exact join259 (M, has, (if ph = 3 then 4 else ph)) _ _ ⟨hMR, H445⟩ ⟨by first | rfl | exact vint (by omega), by first | rfl | exact vint (by omega), by first | rfl | exact vint (by omega), by first | rfl | exact vint (by omega), by first | rfl | exact vint (by omega), by first | rfl | exact vint (by omega), trivial⟩
            · intro join253
              refine g_false rfl ?_
              refine g_skip ?_
              have H446 : St W w51 (blk bk48 (.cells #[.int .i64 ((script.getD i default).do_.v), .int .i64 ((script.getD i default).from_.v), .slice ((script.getD i default).p) ((script.getD i default).state.length) ((script.getD i default).c)] 109 (0, 0)) :: MvA X op M ups ph :: RvA bk21 op ups has ph :: mvsA script :: imi (0 < script.length) gA29 (.cells kA31 eA32 zA33) :: dsA Ds :: F) := ((((((H52.move 5 rfl).move 5 rfl).move 5 rfl).move 5 rfl).move 5 rfl).move 5 rfl)
              exact join253 (X) _ _ H446 ⟨by first | rfl | exact vint (by omega), by first | rfl | exact vint (by omega), by first | rfl | exact vint (by omega), by first | rfl | exact vint (by omega), by first | rfl | exact vint (by omega), by first | rfl | exact vint (by omega), by first | rfl | exact vint (by omega), trivial⟩
        · skip
          refine r_cons (s_lss false rfl rfl (dfalse hc47) rfl ?_)
          refine r_nil ?_
          refine g_seq ?_
          refine g_false rfl ?_
          refine g_exit (by rfl) ?_
          refine g_seq ?_
          refine g_region ?_
          refine r_cons (s_assign (.bool true) rfl rfl ?_)
          refine r_nil ?_
          have H447 := H45.move 4 rfl
          obtain ⟨hd448, H449⟩ := ds_all Ds H447
          refine g_retD _ [.bool true] Try.func8 Try.results8 rfl hd448 ⟨rfl, trivial⟩ ?_
          have H450 : St W (putAll Ds w44) F := ((((H449.drop 0 rfl).drop 0 rfl).drop 0 rfl).drop 0 rfl)
          exact ⟨rfl, H450⟩
end Sl
