/- Walks of the program's functions. Printed by a program of this claim's author. No condition. -/
import Derived.Test.YteogdknlofcpiaaSlBA
import Derived.Test.YteogdknlofcpiaaSlDB
import Derived.Test.YteogdknlofcpiaaSlQ
import Derived.Test.YteogdknlofcpiaaSlP
import Derived.Test.YteogdknlofcpiaaSlDF
import Derived.Test.YteogdknlofcpiaaSlDG
import Derived.Test.YteogdknlofcpiaaProg
import Derived.Test.YteogdknlofcpiaaWalkMigrateMoves0
namespace Sl
open _root_.Go _root_.Go.RowKit _root_.Go.Proofs
set_option linter.all false
set_option maxHeartbeats 4000000 in
set_option maxRecDepth 100000 in
theorem migrate_NewMove {W w : World} {F : List Atom} (op : I64) (ups : List I64) (uv : Value) (hu : ups.length * 8 ≤ 140737488355328) {j : Nat} (hj : F[j]? = some (Im 1 uv ups.length (ups.flatMap i64c))) (H : St W w F) : Calls Try.prog 51 #[.int .i64 op.v, uv] w (Ret fun v w' => (newE op ups = 1 ∧ v = .tuple #[.pointer none, .int .i64 1] ∧ St W w' F) ∨ (newE op ups = 0 ∧ ∃ r, v = .tuple #[.pointer (some ⟨r, 0, none⟩), .int .i64 0] ∧ St W w' (MvA r op ups ups (if ups.length = 0 then 2 else 1) :: F))) := by
  obtain ⟨pp1, cc2, rfl, hsh3⟩ := Rd.shape (Im.rd H (i := j) hj)
  have H4 := H.dup (i := j) hj (Im_pers _ _ _ _)
  have hmlH4 := Im.len H4 (i := 0) rfl
  refine calls_of_go (n := 57) Try.func51 rfl Try.ntmps51 rfl ?_
  refine g_seq ?_
  refine g_region ?_
  refine r_cons (s_assign (.pointer none) rfl rfl ?_)
  refine r_cons (s_assign (.int .i64 0) rfl rfl ?_)
  refine r_nil ?_
  refine g_seq ?_
  refine g_seq ?_
  refine g_region ?_
  refine r_cons (s_move (.int .i64 op.v) rfl rfl ?_)
  refine r_cons (s_buildSlice H4 1 1 (cs := #[.int .i64 op.v]) #[.int .i64 0] el_174 ze_2 (by decide) (by decide) (by kernel_rfl) rfl ?_); intro bk5 w6 H7
  refine r_cons (s_call [.slice (some ⟨bk5, 0, none⟩) 1 1] pl_68 rfl rfl (time1 bk5 op.v H7) ?_)
  rintro _ w8 ⟨rfl, H9⟩
  refine r_cons (s_not (timeB op.v) rfl (!(timeB op.v)) rfl rfl ?_)
  refine r_cons (s_move (.bool (!(timeB op.v))) rfl rfl ?_)
  by_cases hb10 : (!(timeB op.v)) = true
  · skip
    refine r_cons (r_pass rfl (congrArg some hb10) rfl rfl rfl ?_)
    refine r_cons (r_pass rfl (congrArg some hb10) rfl rfl rfl ?_)
    refine r_cons (r_pass rfl (congrArg some hb10) rfl rfl rfl ?_)
    refine r_cons (s_pick_t (.bool true) (by exact congrArg Value.bool hb10) rfl rfl ?_)
    refine r_nil ?_
    refine g_true rfl ?_
    refine g_seq ?_
    refine g_region ?_
    refine r_cons (s_assign (.pointer none) rfl rfl ?_)
    refine r_cons (s_assign (.int .i64 1) rfl rfl ?_)
    refine r_nil ?_
    refine g_ret' [.pointer none, .int .i64 1] Try.func51 Try.results51 ⟨rfl, rfl, trivial⟩ ?_
    have H11 : St W w8 F := ((H9.drop 0 rfl).drop 0 rfl)
    exact .inl ⟨newE_1 ((by first | exact .inl (nottrue ‹_›) | exact .inr (.inl (by omega)) | exact .inr (.inr (upsOk_neg (j := j) (by omega) (by assumption))))), rfl, H11⟩
  · have hb10 := eq_false_of_ne_true hb10
    refine r_cons (r_take rfl (congrArg some hb10) ?_)
    refine s_move (.slice pp1 ups.length cc2) rfl rfl ?_
    refine r_cons (r_take rfl (congrArg some hb10) ?_)
    refine s_len ups.length rfl ⟨_, un_101⟩ rfl ?_
    refine r_cons (r_take rfl (congrArg some hb10) ?_)
    by_cases hc12 : (64 : Int) < (ups.length : Int)
    · skip
      refine s_gtr true rfl rfl (dtrue hc12) rfl ?_
      refine r_cons (s_pick_f (.bool true) (by exact congrArg Value.bool hb10) rfl rfl ?_)
      refine r_nil ?_
      refine g_true rfl ?_
      refine g_seq ?_
      refine g_region ?_
      refine r_cons (s_assign (.pointer none) rfl rfl ?_)
      refine r_cons (s_assign (.int .i64 1) rfl rfl ?_)
      refine r_nil ?_
      refine g_ret' [.pointer none, .int .i64 1] Try.func51 Try.results51 ⟨rfl, rfl, trivial⟩ ?_
      have H13 : St W w8 F := ((H9.drop 0 rfl).drop 0 rfl)
      exact .inl ⟨newE_1 ((by first | exact .inl (nottrue ‹_›) | exact .inr (.inl (by omega)) | exact .inr (.inr (upsOk_neg (j := j) (by omega) (by assumption))))), rfl, H13⟩
    · skip
      refine s_gtr false rfl rfl (dfalse hc12) rfl ?_
      refine r_cons (s_pick_f (.bool false) (by exact congrArg Value.bool hb10) rfl rfl ?_)
      refine r_nil ?_
      refine g_false rfl ?_
      refine g_skip ?_
      refine g_seq ?_
      refine g_region ?_
      refine r_cons (s_move (.int .i64 op.v) rfl rfl ?_)
      refine r_cons (s_makeMap H9 rfl ?_); intro mp14 w15 H16
      have H17 : St W w15 (MapA mp14 (ents (kI .i64) vB (setOf ([] : List I64))) :: blk bk5 (.cells #[.int .i64 op.v] 2 (0, 0)) :: Im 1 (.slice pp1 ups.length cc2) ups.length (ups.flatMap i64c) :: F) := H16
      refine r_cons (s_makeMap H17 rfl ?_); intro mp18 w19 H20
      have H21 : St W w19 (MapA mp18 (ents (kI .i64) vB (setOf ([] : List I64))) :: MapA mp14 (ents (kI .i64) vB (setOf ([] : List I64))) :: blk bk5 (.cells #[.int .i64 op.v] 2 (0, 0)) :: Im 1 (.slice pp1 ups.length cc2) ups.length (ups.flatMap i64c) :: F) := H20
      refine r_cons (s_build (cs := #[.bool true, .int .i64 op.v, .map (some mp14), .map (some mp18), .int .i64 1]) (by kernel_rfl) rfl ?_)
      refine r_cons (s_box H21 90 (.agg #[.bool true, .int .i64 op.v, .map (some mp14), .map (some mp18), .int .i64 1]) rfl (cs := #[.bool true, .int .i64 op.v, .map (some mp14), .map (some mp18), .int .i64 1]) rfl rfl ?_); intro bk22 w23 H24
      refine r_cons (s_assign (.pointer (some ⟨bk22, 0, none⟩)) rfl rfl ?_)
      refine r_nil ?_
      refine g_seq ?_
      refine g_seq ?_
      refine g_region ?_
      refine r_cons (s_move (.slice pp1 ups.length cc2) rfl rfl ?_)
      refine r_cons (s_len ups.length rfl ⟨_, un_101⟩ rfl ?_)
      refine r_cons (s_move (.int .i64 0) rfl rfl ?_)
      refine r_nil ?_
      refine g_block ?_
      obtain ⟨pA25, cA26, gA27, oA28, kA29, eA30, zA31, he37, hn32, hp33, hx34, hs35, hml, H36⟩ := Im.open_ H24 (i := 4) rfl
      obtain ⟨rfl, rfl⟩ : pp1 = pA25 ∧ cc2 = cA26 := by injection he37 with a_ b_ c_; exact ⟨a_, c_⟩
      have H38 : St W w23 (blk bk22 (.cells #[.bool true, .int .i64 op.v, .map (some mp14), .map (some mp18), .int .i64 1] 90 (0, 0)) :: MapA mp14 (ents (kI .i64) vB (setOf ([] : List I64))) :: MapA mp18 (ents (kI .i64) vB (setOf ([] : List I64))) :: imi (0 < ups.length) gA27 (.cells kA29 eA30 zA31) :: F) := (((((H36.move 2 rfl).move 3 rfl).move 3 rfl).drop 4 rfl).drop 4 rfl)
      refine g_loop_inv (fun (x_ : Nat) => match x_ with | j => [(4, .pointer none), (5, .int .i64 0), (6, .pointer (some ⟨bk22, 0, none⟩)), (23, .slice pp1 ups.length cc2), (24, .int .i64 (ups.length : Int)), (25, .int .i64 (j : Int))]) (fun (x_ : Nat) w => match x_ with | j => (j ≤ ups.length) ∧ (upsOk (ups.take j)) ∧ St W w (blk bk22 (.cells #[.bool true, .int .i64 op.v, .map (some mp14), .map (some mp18), .int .i64 1] 90 (0, 0)) :: MapA mp14 (ents (kI .i64) vB (setOf (ups.take j))) :: MapA mp18 (ents (kI .i64) vB (setOf (ups.take j))) :: imi (0 < ups.length) gA27 (.cells kA29 eA30 zA31) :: F)) (fun (x_ : Nat) => match x_ with | j => ups.length - j) (0) ?_ ?_ ?_
      · exact ⟨by first | rfl | exact vint (by omega), by first | rfl | exact vint (by omega), by first | rfl | exact vint (by omega), by first | rfl | exact vint (by omega), by first | rfl | exact vint (by omega), by first | rfl | exact vint (by omega), trivial⟩
      · exact ⟨(by omega), ⟨(fun x hx => by simp at hx), by simp⟩, H38⟩
      · rintro j ρ39 w40 ⟨hjn, hok, H41⟩ nx42
        change Ends _ _ (upds ρ39 [(4, .pointer none), (5, .int .i64 0), (6, .pointer (some ⟨bk22, 0, none⟩)), (23, .slice pp1 ups.length cc2), (24, .int .i64 (ups.length : Int)), (25, .int .i64 (j : Int))]) w40
        refine g_seq ?_
        refine g_region ?_
        by_cases hc43 : (j : Int) < (ups.length : Int)
        · skip
          refine r_cons (s_lss true rfl rfl (dtrue hc43) rfl ?_)
          refine r_nil ?_
          refine g_seq ?_
          refine g_true rfl ?_
          refine g_skip ?_
          refine g_seq ?_
          refine g_block ?_
          refine g_seq ?_
          refine g_region ?_
          refine r_cons (s_indexAddr gA27 (off := oA28) (j : Int) 1 (oA28 + j * 1) (by exact congrArg (fun z_ => Value.slice z_ ups.length cc2) (hp33 (by omega))) rfl el_101 (by omega) rfl rfl ?_)
          refine r_cons (s_load (.int .i64 ((ups.getD j default).v)) ag_3 rfl (H41.imi_at (i := 3) rfl (by omega)) (elem_cell (L := ups) (i := j) i64c_len (hx34 (by omega)) (by omega) default 0 (by decide) _ rfl) rfl ?_)
          refine r_cons (s_assign (.int .i64 ((ups.getD j default).v)) rfl rfl ?_)
          refine r_nil ?_
          refine g_seq ?_
          refine g_seq ?_
          refine g_region ?_
          refine r_cons (s_move (.int .i64 ((ups.getD j default).v)) rfl rfl ?_)
          by_cases hc44 : (ups.getD j default).v < 0
          · skip
            refine r_cons (s_lss true rfl rfl (dtrue hc44) rfl ?_)
            refine r_cons (s_move (.bool true) rfl rfl ?_)
            refine r_cons (r_pass rfl rfl rfl rfl rfl ?_)
            refine r_cons (r_pass rfl rfl rfl rfl rfl ?_)
            refine r_cons (r_pass rfl rfl rfl rfl rfl ?_)
            refine r_cons (r_pass rfl rfl rfl rfl rfl ?_)
            refine r_cons (r_pass rfl rfl rfl rfl rfl ?_)
            refine r_cons (r_pass rfl rfl rfl rfl rfl ?_)
            refine r_cons (s_pick_t (.bool true) rfl rfl rfl ?_)
            refine r_nil ?_
            refine g_true rfl ?_
            refine g_seq ?_
            refine g_region ?_
            refine r_cons (s_assign (.pointer none) rfl rfl ?_)
            refine r_cons (s_assign (.int .i64 1) rfl rfl ?_)
            refine r_nil ?_
            refine g_ret' [.pointer none, .int .i64 1] Try.func51 Try.results51 ⟨rfl, rfl, trivial⟩ ?_
            have H45 : St W w40 F := ((((H41.drop 0 rfl).drop 0 rfl).drop 0 rfl).drop 0 rfl)
            exact .inl ⟨newE_1 ((by first | exact .inl (nottrue ‹_›) | exact .inr (.inl (by omega)) | exact .inr (.inr (upsOk_neg (j := j) (by omega) (by assumption))))), rfl, H45⟩
          · skip
            refine r_cons (s_lss false rfl rfl (dfalse hc44) rfl ?_)
            refine r_cons (s_move (.bool false) rfl rfl ?_)
            refine r_cons (r_take rfl rfl ?_)
            refine s_move (.pointer (some ⟨bk22, 0, none⟩)) rfl rfl ?_
            refine r_cons (r_take rfl rfl ?_)
            refine s_nilCheck (.pointer (some ⟨bk22, 0, none⟩)) rfl ⟨_, rfl⟩ rfl ?_
            refine r_cons (r_take rfl rfl ?_)
            refine s_fieldAddr 90 3 3 3 88 rfl fi_90_3 rfl rfl ?_
            refine r_cons (r_take rfl rfl ?_)
            refine s_load (.map (some mp18)) ag_88 rfl (H41.blk_at (i := 0) rfl) rfl rfl ?_
            refine r_cons (r_take rfl rfl ?_)
            refine s_move (.int .i64 ((ups.getD j default).v)) rfl rfl ?_
            refine r_cons (r_take rfl rfl ?_)
            refine s_lookup (ek := (kI .i64)) (ev := vB) (L := setOf (ups.take j)) (ups.getD j default) (.bool (decide ((ups.getD j default) ∈ (ups.take j)))) (MapA.at H41 (i := 2) rfl) (KeyLaw.I un_3) un_88 zv_4 rfl rfl (setOf_look _ _) rfl ?_
            refine r_cons (s_pick_f (.bool (decide ((ups.getD j default) ∈ (ups.take j)))) rfl rfl rfl ?_)
            refine r_nil ?_
            by_cases hb46 : (decide ((ups.getD j default) ∈ (ups.take j))) = true
            · skip
              refine g_true (congrArg Value.bool hb46) ?_
              refine g_seq ?_
              refine g_region ?_
              refine r_cons (s_assign (.pointer none) rfl rfl ?_)
              refine r_cons (s_assign (.int .i64 1) rfl rfl ?_)
              refine r_nil ?_
              refine g_ret' [.pointer none, .int .i64 1] Try.func51 Try.results51 ⟨rfl, rfl, trivial⟩ ?_
              have H47 : St W w40 F := ((((H41.drop 0 rfl).drop 0 rfl).drop 0 rfl).drop 0 rfl)
              exact .inl ⟨newE_1 (.inr (.inr (upsOk_twice (by omega) (of_decide_eq_true hb46)))), rfl, H47⟩
            · have hb46 := eq_false_of_ne_true hb46
              refine g_false (congrArg Value.bool hb46) ?_
              refine g_skip ?_
              have H48 : St W w40 (blk bk22 (.cells #[.bool true, .int .i64 op.v, .map (some mp14), .map (some mp18), .int .i64 1] 90 (0, 0)) :: imi (0 < ups.length) gA27 (.cells kA29 eA30 zA31) :: MapA mp14 (ents (kI .i64) vB (setOf (ups.take j))) :: MapA mp18 (ents (kI .i64) vB (setOf (ups.take j))) :: F) := ((((H41.move 2 rfl).move 2 rfl).move 3 rfl).move 3 rfl)
              refine g_mix (fun t_ w => St W w (blk bk22 (.cells #[.bool true, .int .i64 op.v, .map (some mp14), .map (some mp18), .int .i64 1] 90 (0, 0)) :: imi (0 < ups.length) gA27 (.cells kA29 eA30 zA31) :: t_)) (MapA mp14 (ents (kI .i64) vB (setOf (ups.take j))) :: MapA mp18 (ents (kI .i64) vB (setOf (ups.take j))) :: F) mixed 16 rfl H48.drew ?_
              refine f_first 0 (listed' := #[true, false, false, false, false, false, false, false, false, false, false, false, false, false, false, false]) rfl (by kernel_rfl) (by kernel_rfl) (by kernel_rfl) rfl ?_
              refine f_val rfl rfl rfl (by intro t_ w hw; exact x_move (.pointer (some ⟨bk22, 0, none⟩)) rfl w) ?_
              refine f_first 1 (listed' := #[true, true, false, false, false, false, false, false, false, false, false, false, false, false, false, false]) rfl (by kernel_rfl) (by kernel_rfl) (by kernel_rfl) rfl ?_
              refine f_val rfl rfl rfl (by intro t_ w hw; exact x_nilCheck (.pointer (some ⟨bk22, 0, none⟩)) rfl ⟨_, rfl⟩ w) ?_
              refine f_first 2 (listed' := #[true, true, true, false, false, false, false, false, false, false, false, false, false, false, false, false]) rfl (by kernel_rfl) (by kernel_rfl) (by kernel_rfl) rfl ?_
              refine f_val rfl rfl rfl (by intro t_ w hw; exact x_fieldAddr 90 3 3 3 88 rfl fi_90_3 rfl w) ?_
              refine f_first 3 (listed' := #[true, true, true, true, false, false, false, false, false, false, false, false, false, false, false, false]) rfl (by kernel_rfl) (by kernel_rfl) (by kernel_rfl) rfl ?_
              refine f_val rfl rfl rfl (by intro t_ w hw; exact x_load (.map (some mp18)) ag_88 rfl (hw.blk_at (i := 0) rfl) rfl) ?_
              refine f_first 4 (listed' := #[true, true, true, true, true, false, false, false, false, false, false, false, false, false, false, false]) rfl (by kernel_rfl) (by kernel_rfl) (by kernel_rfl) rfl ?_
              refine f_val rfl rfl rfl (by intro t_ w hw; exact x_move (.int .i64 ((ups.getD j default).v)) rfl w) ?_
              refine f_first 5 (listed' := #[true, true, true, true, true, true, false, false, false, false, false, false, false, false, false, false]) rfl (by kernel_rfl) (by kernel_rfl) (by kernel_rfl) rfl ?_
              refine f_val rfl rfl rfl (by intro t_ w hw; exact x_move (.pointer (some ⟨bk22, 0, none⟩)) rfl w) ?_
              refine f_first 6 (listed' := #[true, true, true, true, true, true, true, false, false, false, false, false, false, false, false, false]) rfl (by kernel_rfl) (by kernel_rfl) (by kernel_rfl) rfl ?_
              refine f_val rfl rfl rfl (by intro t_ w hw; exact x_nilCheck (.pointer (some ⟨bk22, 0, none⟩)) rfl ⟨_, rfl⟩ w) ?_
              refine f_first 7 (listed' := #[true, true, true, true, true, true, true, true, false, false, false, false, false, false, false, false]) rfl (by kernel_rfl) (by kernel_rfl) (by kernel_rfl) rfl ?_
              refine f_val rfl rfl rfl (by intro t_ w hw; exact x_fieldAddr 90 2 2 2 88 rfl fi_90_2 rfl w) ?_
              refine f_first 8 (listed' := #[true, true, true, true, true, true, true, true, true, false, false, false, false, false, false, false]) rfl (by kernel_rfl) (by kernel_rfl) (by kernel_rfl) rfl ?_
              refine f_val rfl rfl rfl (by intro t_ w hw; exact x_load (.map (some mp14)) ag_88 rfl (hw.blk_at (i := 0) rfl) rfl) ?_
              refine f_first 9 (listed' := #[true, true, true, true, true, true, true, true, true, true, false, false, false, false, false, false]) rfl (by kernel_rfl) (by kernel_rfl) (by kernel_rfl) rfl ?_
              refine f_val rfl rfl rfl (by intro t_ w hw; exact x_move (.int .i64 ((ups.getD j default).v)) rfl w) ?_
              refine f_all (rs := [10]) (by kernel_rfl) (by simp) ?_
              refine a_cons ⟨_, rfl, ?_⟩ (fun x hx => absurd hx (by simp))
              intro w49 H50
              try dsimp only at H50
              refine s_mapEntry (ek := (kI .i64)) (ev := vB) (L := setOf (ups.take j)) (z := false) (ups.getD j default) H50 (i := 3) rfl (KeyLaw.I un_3) un_88 (zv_4) (by rw [setOf_has]; exact hb46) rfl rfl rfl ?_; intro sm51 w52 H53
              have H54 : St W w52 (blk bk22 (.cells #[.bool true, .int .i64 op.v, .map (some mp14), .map (some mp18), .int .i64 1] 90 (0, 0)) :: imi (0 < ups.length) gA27 (.cells kA29 eA30 zA31) :: MapA mp14 (ents (kI .i64) vB (setOf (ups.take j))) :: MapS mp18 (ents (kI .i64) vB (setOf (ups.take j) ++ [((ups.getD j default), false)])) sm51 (setOf (ups.take j)).length :: F) := H53
              refine ⟨MapA mp14 (ents (kI .i64) vB (setOf (ups.take j))) :: MapS mp18 (ents (kI .i64) vB (setOf (ups.take j) ++ [((ups.getD j default), false)])) sm51 (setOf (ups.take j)).length :: F, ?_, H54⟩
              change FReg _ _ _ _ _ #[true, true, true, true, true, true, true, true, true, true, true, false, false, false, false, false] _ _
              refine f_first 11 (listed' := #[true, true, true, true, true, true, true, true, true, true, true, true, false, false, false, false]) rfl (by kernel_rfl) (by kernel_rfl) (by kernel_rfl) rfl ?_
              refine f_val rfl rfl rfl (by intro t_ w hw; exact x_extract (.int .i64 ((sm51 : Nat) : Int)) #[.bool false, .int .i64 ((sm51 : Nat) : Int)] rfl rfl w) ?_
              refine f_all (rs := [12]) (by kernel_rfl) (by simp) ?_
              refine a_cons ⟨_, rfl, ?_⟩ (fun x hx => absurd hx (by simp))
              intro w55 H56
              try dsimp only at H56
              refine s_entryStore (ek := (kI .i64)) (ev := vB) (M := setOf (ups.take j) ++ [((ups.getD j default), false)]) H56 (i := 3) rfl (ups.getD j default) true (set_two_key _ _) rfl rfl rfl ?_; intro w57 H58
              have H59 : St W w57 (blk bk22 (.cells #[.bool true, .int .i64 op.v, .map (some mp14), .map (some mp18), .int .i64 1] 90 (0, 0)) :: imi (0 < ups.length) gA27 (.cells kA29 eA30 zA31) :: MapA mp14 (ents (kI .i64) vB (setOf (ups.take j))) :: MapA mp18 (ents (kI .i64) vB (setOf (ups.take j ++ [(ups.getD j default)]))) :: F) := by have h9 := H58; rw [set_two] at h9; exact h9
              refine ⟨MapA mp14 (ents (kI .i64) vB (setOf (ups.take j))) :: MapA mp18 (ents (kI .i64) vB (setOf (ups.take j ++ [(ups.getD j default)]))) :: F, ?_, H59⟩
              change FReg _ _ _ _ _ #[true, true, true, true, true, true, true, true, true, true, true, true, true, false, false, false] _ _
              refine f_all (rs := [13]) (by kernel_rfl) (by simp) ?_
              refine a_cons ⟨_, rfl, ?_⟩ (fun x hx => absurd hx (by simp))
              intro w60 H61
              try dsimp only at H61
              refine s_mapEntry (ek := (kI .i64)) (ev := vB) (L := setOf (ups.take j)) (z := false) (ups.getD j default) H61 (i := 2) rfl (KeyLaw.I un_3) un_88 (zv_4) (by rw [setOf_has]; exact hb46) rfl rfl rfl ?_; intro sm62 w63 H64
              have H65 : St W w63 (blk bk22 (.cells #[.bool true, .int .i64 op.v, .map (some mp14), .map (some mp18), .int .i64 1] 90 (0, 0)) :: imi (0 < ups.length) gA27 (.cells kA29 eA30 zA31) :: MapS mp14 (ents (kI .i64) vB (setOf (ups.take j) ++ [((ups.getD j default), false)])) sm62 (setOf (ups.take j)).length :: MapA mp18 (ents (kI .i64) vB (setOf (ups.take j ++ [(ups.getD j default)]))) :: F) := H64
              refine ⟨MapS mp14 (ents (kI .i64) vB (setOf (ups.take j) ++ [((ups.getD j default), false)])) sm62 (setOf (ups.take j)).length :: MapA mp18 (ents (kI .i64) vB (setOf (ups.take j ++ [(ups.getD j default)]))) :: F, ?_, H65⟩
              change FReg _ _ _ _ _ #[true, true, true, true, true, true, true, true, true, true, true, true, true, true, false, false] _ _
              refine f_first 14 (listed' := #[true, true, true, true, true, true, true, true, true, true, true, true, true, true, true, false]) rfl (by kernel_rfl) (by kernel_rfl) (by kernel_rfl) rfl ?_
              refine f_val rfl rfl rfl (by intro t_ w hw; exact x_extract (.int .i64 ((sm62 : Nat) : Int)) #[.bool false, .int .i64 ((sm62 : Nat) : Int)] rfl rfl w) ?_
              refine f_all (rs := [15]) (by kernel_rfl) (by simp) ?_
              refine a_cons ⟨_, rfl, ?_⟩ (fun x hx => absurd hx (by simp))
              intro w66 H67
              try dsimp only at H67
              refine s_entryStore (ek := (kI .i64)) (ev := vB) (M := setOf (ups.take j) ++ [((ups.getD j default), false)]) H67 (i := 2) rfl (ups.getD j default) true (set_two_key _ _) rfl rfl rfl ?_; intro w68 H69
              have H70 : St W w68 (blk bk22 (.cells #[.bool true, .int .i64 op.v, .map (some mp14), .map (some mp18), .int .i64 1] 90 (0, 0)) :: imi (0 < ups.length) gA27 (.cells kA29 eA30 zA31) :: MapA mp14 (ents (kI .i64) vB (setOf (ups.take j ++ [(ups.getD j default)]))) :: MapA mp18 (ents (kI .i64) vB (setOf (ups.take j ++ [(ups.getD j default)]))) :: F) := by have h9 := H69; rw [set_two] at h9; exact h9
              refine ⟨MapA mp14 (ents (kI .i64) vB (setOf (ups.take j ++ [(ups.getD j default)]))) :: MapA mp18 (ents (kI .i64) vB (setOf (ups.take j ++ [(ups.getD j default)]))) :: F, ?_, H70⟩
              change FReg _ _ _ _ _ #[true, true, true, true, true, true, true, true, true, true, true, true, true, true, true, true] _ _
              refine f_done (by kernel_rfl) ?_
              intro w71 H72
              refine g_inBlock ?_
              refine g_region ?_
              refine r_cons (s_add ((j : Int) + 1) rfl rfl (wi64 (by omega)) rfl ?_)
              refine r_cons (s_move (.int .i64 ((j : Int) + 1)) rfl rfl ?_)
              refine r_nil ?_
              have H73 : St W w71 (blk bk22 (.cells #[.bool true, .int .i64 op.v, .map (some mp14), .map (some mp18), .int .i64 1] 90 (0, 0)) :: imi (0 < ups.length) gA27 (.cells kA29 eA30 zA31) :: MapA mp14 (ents (kI .i64) vB (setOf (ups.take (j + 1)))) :: MapA mp18 (ents (kI .i64) vB (setOf (ups.take (j + 1)))) :: F) := by rw [← take_snocI (by omega)]; exact H72
              have H74 : St W w71 (blk bk22 (.cells #[.bool true, .int .i64 op.v, .map (some mp14), .map (some mp18), .int .i64 1] 90 (0, 0)) :: MapA mp14 (ents (kI .i64) vB (setOf (ups.take (j + 1)))) :: MapA mp18 (ents (kI .i64) vB (setOf (ups.take (j + 1)))) :: imi (0 < ups.length) gA27 (.cells kA29 eA30 zA31) :: F) := ((((H73.move 1 rfl).move 3 rfl).move 3 rfl).move 3 rfl)
              exact nx42 (j + 1) _ _ ⟨(by omega), (upsOk_take (by omega) hok (by omega) (of_decide_eq_false hb46)), H74⟩ (by first | (dsimp only; omega) | omega) ⟨by first | rfl | exact vint (by omega), by first | rfl | exact vint (by omega), by first | rfl | exact vint (by omega), by first | rfl | exact vint (by omega), by first | rfl | exact vint (by omega), by first | rfl | exact vint (by omega), trivial⟩
        · skip
          refine r_cons (s_lss false rfl rfl (dfalse hc43) rfl ?_)
          refine r_nil ?_
          refine g_seq ?_
          refine g_false rfl ?_
          refine g_exit (by rfl) ?_
          refine g_seq ?_
          refine g_region ?_
          obtain rfl : j = ups.length := by omega
          rw [List.take_length] at hok
          have H75 : St W w40 (blk bk22 (.cells #[.bool true, .int .i64 op.v, .map (some mp14), .map (some mp18), .int .i64 1] 90 (0, 0)) :: MapA mp14 (ents (kI .i64) vB (setOf ups)) :: MapA mp18 (ents (kI .i64) vB (setOf ups)) :: imi (0 < ups.length) gA27 (.cells kA29 eA30 zA31) :: F) := by have hx := H41; rw [List.take_length] at hx; exact hx
          have H76 : St W w40 (MvA bk22 op ups ups 1 :: imi (0 < ups.length) gA27 (.cells kA29 eA30 zA31) :: F) := St.shut_ex (mp14, mp18) (St.shut_star (ls := [blk bk22 (.cells #[.bool true, .int .i64 op.v, .map (some mp14), .map (some mp18), .int .i64 1] 90 (0, 0)), MapA mp14 (ents (kI .i64) vB (setOf ups)), MapA mp18 (ents (kI .i64) vB (setOf ups))]) H75)
          refine r_cons (s_move (.pointer (some ⟨bk22, 0, none⟩)) rfl rfl ?_)
          refine r_cons (s_call [.pointer (some ⟨bk22, 0, none⟩)] pl_97 rfl rfl (Mv_looks bk22 op ups ups (1 : Int) (i := 0) rfl H76) ?_)
          rintro _ w77 ⟨rfl, H78⟩
          refine r_nil ?_
          refine g_seq ?_
          refine g_region ?_
          refine r_cons (s_move (.pointer (some ⟨bk22, 0, none⟩)) rfl rfl ?_)
          refine r_cons (s_assign (.pointer (some ⟨bk22, 0, none⟩)) rfl rfl ?_)
          refine r_cons (s_assign (.int .i64 0) rfl rfl ?_)
          refine r_nil ?_
          refine g_ret' [.pointer (some ⟨bk22, 0, none⟩), .int .i64 0] Try.func51 Try.results51 ⟨rfl, rfl, trivial⟩ ?_
          have H79 : St W w77 (MvA bk22 op ups ups (if ups.length = 0 then 2 else 1) :: F) := (H78.drop 1 rfl)
          exact .inr ⟨newE_0 (notfalse ‹_›) (by omega) hok, bk22, rfl, H79⟩
/-- An old place: the document's. -/
def RvA (r : Nat) (op : I64) (ups : List I64) (has : List Bool) (ph : Int) : Atom := ex fun q : (Option Addr × Nat) × (Option Addr × Nat) => star [blk r (.cells #[.int .i64 op.v, .slice q.1.1 ups.length q.1.2, .slice q.2.1 has.length q.2.2, .int .i64 ph] 115 (0, 0)), Im 1 (.slice q.1.1 ups.length q.1.2) ups.length (ups.flatMap i64c), Row 4 1 (.slice q.2.1 has.length q.2.2) has.length (has.flatMap blc)]
set_option maxHeartbeats 4000000 in
set_option maxRecDepth 100000 in
theorem ref24_NewMove {W w : World} {F : List Atom} (op : I64) (ups : List I64) (uv : Value) (hu : ups.length * 8 ≤ 140737488355328) {j : Nat} (hj : F[j]? = some (Im 1 uv ups.length (ups.flatMap i64c))) (H : St W w F) : Calls Try.prog 52 #[.int .i64 op.v, uv] w (Ret fun v w' => (newE op ups = 1 ∧ v = .tuple #[.pointer none, .int .i64 1] ∧ St W w' F) ∨ (newE op ups = 0 ∧ ∃ r, v = .tuple #[.pointer (some ⟨r, 0, none⟩), .int .i64 0] ∧ St W w' (RvA r op ups (List.replicate ups.length false) (if ups.length = 0 then 2 else 1) :: F))) := by
  obtain ⟨pp1, cc2, rfl, hsh3⟩ := Rd.shape (Im.rd H (i := j) hj)
  have H4 := H.dup (i := j) hj (Im_pers _ _ _ _)
  have hmlH4 := Im.len H4 (i := 0) rfl
  refine calls_of_go (n := 57) Try.func52 rfl Try.ntmps52 rfl ?_
  refine g_seq ?_
  refine g_region ?_
  refine r_cons (s_assign (.pointer none) rfl rfl ?_)
  refine r_cons (s_assign (.int .i64 0) rfl rfl ?_)
  refine r_nil ?_
  refine g_seq ?_
  refine g_seq ?_
  refine g_region ?_
  refine r_cons (s_move (.int .i64 op.v) rfl rfl ?_)
  refine r_cons (s_call [.int .i64 op.v] pl_60 rfl rfl (ref24_time op.v H4) ?_)
  rintro _ w5 ⟨rfl, H6⟩
  refine r_cons (s_not (timeB op.v) rfl (!(timeB op.v)) rfl rfl ?_)
  refine r_cons (s_move (.bool (!(timeB op.v))) rfl rfl ?_)
  by_cases hb7 : (!(timeB op.v)) = true
  · skip
    refine r_cons (r_pass rfl (congrArg some hb7) rfl rfl rfl ?_)
    refine r_cons (r_pass rfl (congrArg some hb7) rfl rfl rfl ?_)
    refine r_cons (r_pass rfl (congrArg some hb7) rfl rfl rfl ?_)
    refine r_cons (s_pick_t (.bool true) (by exact congrArg Value.bool hb7) rfl rfl ?_)
    refine r_nil ?_
    refine g_true rfl ?_
    refine g_seq ?_
    refine g_region ?_
    refine r_cons (s_assign (.pointer none) rfl rfl ?_)
    refine r_cons (s_assign (.int .i64 1) rfl rfl ?_)
    refine r_nil ?_
    refine g_ret' [.pointer none, .int .i64 1] Try.func52 Try.results52 ⟨rfl, rfl, trivial⟩ ?_
    have H8 : St W w5 F := (H6.drop 0 rfl)
    exact .inl ⟨newE_1 ((by first | exact .inl (nottrue ‹_›) | exact .inr (.inl (by omega)) | exact .inr (.inr (upsOk_neg (j := j) (by omega) (by assumption))))), rfl, H8⟩
  · have hb7 := eq_false_of_ne_true hb7
    refine r_cons (r_take rfl (congrArg some hb7) ?_)
    refine s_move (.slice pp1 ups.length cc2) rfl rfl ?_
    refine r_cons (r_take rfl (congrArg some hb7) ?_)
    refine s_len ups.length rfl ⟨_, un_101⟩ rfl ?_
    refine r_cons (r_take rfl (congrArg some hb7) ?_)
    by_cases hc9 : (64 : Int) < (ups.length : Int)
    · skip
      refine s_gtr true rfl rfl (dtrue hc9) rfl ?_
      refine r_cons (s_pick_f (.bool true) (by exact congrArg Value.bool hb7) rfl rfl ?_)
      refine r_nil ?_
      refine g_true rfl ?_
      refine g_seq ?_
      refine g_region ?_
      refine r_cons (s_assign (.pointer none) rfl rfl ?_)
      refine r_cons (s_assign (.int .i64 1) rfl rfl ?_)
      refine r_nil ?_
      refine g_ret' [.pointer none, .int .i64 1] Try.func52 Try.results52 ⟨rfl, rfl, trivial⟩ ?_
      have H10 : St W w5 F := (H6.drop 0 rfl)
      exact .inl ⟨newE_1 ((by first | exact .inl (nottrue ‹_›) | exact .inr (.inl (by omega)) | exact .inr (.inr (upsOk_neg (j := j) (by omega) (by assumption))))), rfl, H10⟩
    · skip
      refine s_gtr false rfl rfl (dfalse hc9) rfl ?_
      refine r_cons (s_pick_f (.bool false) (by exact congrArg Value.bool hb7) rfl rfl ?_)
      refine r_nil ?_
      refine g_false rfl ?_
      refine g_skip ?_
      refine g_seq ?_
      refine g_seq ?_
      refine g_region ?_
      refine r_cons (s_assign (.int .i64 0) rfl rfl ?_)
      refine r_nil ?_
      refine g_block ?_
      obtain ⟨pA11, cA12, gA13, oA14, kA15, eA16, zA17, he23, hn18, hp19, hx20, hs21, hml, H22⟩ := Im.open_ H6 (i := 0) rfl
      obtain ⟨rfl, rfl⟩ : pp1 = pA11 ∧ cc2 = cA12 := by injection he23 with a_ b_ c_; exact ⟨a_, c_⟩
      refine g_loop_inv (fun (x_ : Nat) => match x_ with | j => [(0, .int .i64 op.v), (1, .slice pp1 ups.length cc2), (4, .pointer none), (5, .int .i64 0), (6, .int .i64 (j : Int))]) (fun (x_ : Nat) w => match x_ with | j => (j ≤ ups.length) ∧ (upsOk (ups.take j)) ∧ St W w (imi (0 < ups.length) gA13 (.cells kA15 eA16 zA17) :: Im 1 (.slice pp1 ups.length cc2) ups.length (ups.flatMap i64c) :: F)) (fun (x_ : Nat) => match x_ with | j => ups.length - j) (0) ?_ ?_ ?_
      · exact ⟨by first | rfl | exact vint (by omega), by first | rfl | exact vint (by omega), by first | rfl | exact vint (by omega), by first | rfl | exact vint (by omega), by first | rfl | exact vint (by omega), trivial⟩
      · exact ⟨(by omega), ⟨(fun x hx => by simp at hx), by simp⟩, H22⟩
      · rintro j ρ24 w25 ⟨hjn, hok, H26⟩ nx27
        change Ends _ _ (upds ρ24 [(0, .int .i64 op.v), (1, .slice pp1 ups.length cc2), (4, .pointer none), (5, .int .i64 0), (6, .int .i64 (j : Int))]) w25
        refine g_seq ?_
        refine g_seq ?_
        refine g_region ?_
        refine r_cons (s_move (.int .i64 (j : Int)) rfl rfl ?_)
        refine r_cons (s_move (.slice pp1 ups.length cc2) rfl rfl ?_)
        refine r_cons (s_len ups.length rfl ⟨_, un_101⟩ rfl ?_)
        by_cases hc28 : (j : Int) < (ups.length : Int)
        · skip
          refine r_cons (s_lss true rfl rfl (dtrue hc28) rfl ?_)
          refine r_nil ?_
          refine g_true rfl ?_
          refine g_skip ?_
          refine g_seq ?_
          refine g_block ?_
          refine g_seq ?_
          refine g_seq ?_
          refine g_region ?_
          refine r_cons (s_move (.slice pp1 ups.length cc2) rfl rfl ?_)
          refine r_cons (s_move (.int .i64 (j : Int)) rfl rfl ?_)
          refine r_cons (s_indexAddr gA13 (off := oA14) (j : Int) 1 (oA14 + j * 1) (by exact congrArg (fun z_ => Value.slice z_ ups.length cc2) (hp19 (by omega))) rfl el_101 (by omega) rfl rfl ?_)
          refine r_cons (s_load (.int .i64 ((ups.getD j default).v)) ag_3 rfl (H26.imi_at (i := 0) rfl (by omega)) (elem_cell (L := ups) (i := j) i64c_len (hx20 (by omega)) (by omega) default 0 (by decide) _ rfl) rfl ?_)
          by_cases hc29 : (ups.getD j default).v < 0
          · skip
            refine r_cons (s_lss true rfl rfl (dtrue hc29) rfl ?_)
            refine r_nil ?_
            refine g_true rfl ?_
            refine g_seq ?_
            refine g_region ?_
            refine r_cons (s_assign (.pointer none) rfl rfl ?_)
            refine r_cons (s_assign (.int .i64 1) rfl rfl ?_)
            refine r_nil ?_
            refine g_ret' [.pointer none, .int .i64 1] Try.func52 Try.results52 ⟨rfl, rfl, trivial⟩ ?_
            have H30 : St W w25 F := ((H26.drop 0 rfl).drop 0 rfl)
            exact .inl ⟨newE_1 ((by first | exact .inl (nottrue ‹_›) | exact .inr (.inl (by omega)) | exact .inr (.inr (upsOk_neg (j := j) (by omega) (by assumption))))), rfl, H30⟩
          · skip
            refine r_cons (s_lss false rfl rfl (dfalse hc29) rfl ?_)
            refine r_nil ?_
            refine g_false rfl ?_
            refine g_skip ?_
            refine g_seq ?_
            refine g_region ?_
            refine r_cons (s_assign (.int .i64 0) rfl rfl ?_)
            refine r_nil ?_
            refine g_block ?_
            refine g_loop_inv (fun (x_ : Nat) => match x_ with | k => [(0, .int .i64 op.v), (1, .slice pp1 ups.length cc2), (4, .pointer none), (5, .int .i64 0), (6, .int .i64 (j : Int)), (7, .int .i64 (k : Int))]) (fun (x_ : Nat) w => match x_ with | k => (k ≤ j) ∧ (∀ q, q < k → ¬ (ups.getD j default).v = (ups.getD q default).v) ∧ St W w (imi (0 < ups.length) gA13 (.cells kA15 eA16 zA17) :: Im 1 (.slice pp1 ups.length cc2) ups.length (ups.flatMap i64c) :: F)) (fun (x_ : Nat) => match x_ with | k => j - k) (0) ?_ ?_ ?_
            · exact ⟨by first | rfl | exact vint (by omega), by first | rfl | exact vint (by omega), by first | rfl | exact vint (by omega), by first | rfl | exact vint (by omega), by first | rfl | exact vint (by omega), by first | rfl | exact vint (by omega), trivial⟩
            · exact ⟨(by omega), (fun q hq => by omega), H26⟩
            · rintro k ρ31 w32 ⟨hkj, htw, H33⟩ nx34
              change Ends _ _ (upds ρ31 [(0, .int .i64 op.v), (1, .slice pp1 ups.length cc2), (4, .pointer none), (5, .int .i64 0), (6, .int .i64 (j : Int)), (7, .int .i64 (k : Int))]) w32
              refine g_seq ?_
              refine g_seq ?_
              refine g_region ?_
              refine r_cons (s_move (.int .i64 (k : Int)) rfl rfl ?_)
              refine r_cons (s_move (.int .i64 (j : Int)) rfl rfl ?_)
              by_cases hc35 : (k : Int) < (j : Int)
              · skip
                refine r_cons (s_lss true rfl rfl (dtrue hc35) rfl ?_)
                refine r_nil ?_
                refine g_true rfl ?_
                refine g_skip ?_
                refine g_seq ?_
                refine g_block ?_
                refine g_seq ?_
                refine g_quiet (fun w' => St W w' (imi (0 < ups.length) gA13 (.cells kA15 eA16 zA17) :: Im 1 (.slice pp1 ups.length cc2) ups.length (ups.flatMap i64c) :: F)) mixed (by kernel_rfl) H33.drew ?_
                refine q_cons (q_val rfl rfl rfl (by intro w hw; exact x_move (.slice pp1 ups.length cc2) rfl w) ?_)
                refine q_cons (q_val rfl rfl rfl (by intro w hw; exact x_move (.int .i64 (j : Int)) rfl w) ?_)
                refine q_cons (q_val rfl rfl rfl (by intro w hw; exact x_indexAddr gA13 (off := oA14) (j : Int) 1 (oA14 + j * 1) (by exact congrArg (fun z_ => Value.slice z_ ups.length cc2) (hp19 (by omega))) rfl el_101 (by omega) rfl w) ?_)
                refine q_cons (q_val rfl rfl rfl (by intro w hw; exact x_load (.int .i64 ((ups.getD j default).v)) ag_3 rfl (hw.imi_at (i := 0) rfl (by omega)) (elem_cell (L := ups) (i := j) i64c_len (hx20 (by omega)) (by omega) default 0 (by decide) _ rfl)) ?_)
                refine q_cons (q_val rfl rfl rfl (by intro w hw; exact x_move (.slice pp1 ups.length cc2) rfl w) ?_)
                refine q_cons (q_val rfl rfl rfl (by intro w hw; exact x_move (.int .i64 (k : Int)) rfl w) ?_)
                refine q_cons (q_val rfl rfl rfl (by intro w hw; exact x_indexAddr gA13 (off := oA14) (k : Int) 1 (oA14 + k * 1) (by exact congrArg (fun z_ => Value.slice z_ ups.length cc2) (hp19 (by omega))) rfl el_101 (by omega) rfl w) ?_)
                refine q_cons (q_val rfl rfl rfl (by intro w hw; exact x_load (.int .i64 ((ups.getD k default).v)) ag_3 rfl (hw.imi_at (i := 0) rfl (by omega)) (elem_cell (L := ups) (i := k) i64c_len (hx20 (by omega)) (by omega) default 0 (by decide) _ rfl)) ?_)
                by_cases hc36 : (ups.getD j default).v = (ups.getD k default).v
                · skip
                  refine q_cons (q_val rfl rfl rfl (by intro w hw; exact x_eql true rfl rfl (dtrue hc36) w) ?_)
                  refine q_nil ?_
                  intro w37 H38
                  refine g_true rfl ?_
                  refine g_seq ?_
                  refine g_region ?_
                  refine r_cons (s_assign (.pointer none) rfl rfl ?_)
                  refine r_cons (s_assign (.int .i64 1) rfl rfl ?_)
                  refine r_nil ?_
                  refine g_ret' [.pointer none, .int .i64 1] Try.func52 Try.results52 ⟨rfl, rfl, trivial⟩ ?_
                  have H39 : St W w37 F := ((H38.drop 0 rfl).drop 0 rfl)
                  exact .inl ⟨newE_1 (.inr (.inr (upsOk_twice (j := j) (by omega) (by rw [I64.eq_of hc36]; exact take_mem_getD (by omega) (by omega))))), rfl, H39⟩
                · skip
                  refine q_cons (q_val rfl rfl rfl (by intro w hw; exact x_eql false rfl rfl (dfalse hc36) w) ?_)
                  refine q_nil ?_
                  intro w40 H41
                  refine g_false rfl ?_
                  refine g_skip ?_
                  refine g_inBlock ?_
                  refine g_region ?_
                  refine r_cons (s_move (.int .i64 (k : Int)) rfl rfl ?_)
                  refine r_cons (s_add ((k : Int) + 1) rfl rfl (wi64 (by omega)) rfl ?_)
                  refine r_cons (s_assign (.int .i64 ((k : Int) + 1)) rfl rfl ?_)
                  refine r_nil ?_
                  have H42 : St W w40 (imi (0 < ups.length) gA13 (.cells kA15 eA16 zA17) :: Im 1 (.slice pp1 ups.length cc2) ups.length (ups.flatMap i64c) :: F) := ((H41.move 1 rfl).move 1 rfl)
                  exact nx34 (k + 1) _ _ ⟨(by omega), (twice_step htw ‹_›), H42⟩ (by first | (dsimp only; omega) | omega) ⟨by first | rfl | exact vint (by omega), by first | rfl | exact vint (by omega), by first | rfl | exact vint (by omega), by first | rfl | exact vint (by omega), by first | rfl | exact vint (by omega), by first | rfl | exact vint (by omega), trivial⟩
              · skip
                refine r_cons (s_lss false rfl rfl (dfalse hc35) rfl ?_)
                refine r_nil ?_
                refine g_false rfl ?_
                refine g_exit (by rfl) ?_
                refine g_inBlock ?_
                refine g_region ?_
                refine r_cons (s_move (.int .i64 (j : Int)) rfl rfl ?_)
                refine r_cons (s_add ((j : Int) + 1) rfl rfl (wi64 (by omega)) rfl ?_)
                refine r_cons (s_assign (.int .i64 ((j : Int) + 1)) rfl rfl ?_)
                refine r_nil ?_
                have H43 : St W w32 (imi (0 < ups.length) gA13 (.cells kA15 eA16 zA17) :: Im 1 (.slice pp1 ups.length cc2) ups.length (ups.flatMap i64c) :: F) := ((H33.move 1 rfl).move 1 rfl)
                exact nx27 (j + 1) _ _ ⟨(by omega), (upsOk_take (by omega) hok (by omega) (twice_not (fun q hq => htw q (by omega)))), H43⟩ (by first | (dsimp only; omega) | omega) ⟨by first | rfl | exact vint (by omega), by first | rfl | exact vint (by omega), by first | rfl | exact vint (by omega), by first | rfl | exact vint (by omega), by first | rfl | exact vint (by omega), trivial⟩
        · skip
          refine r_cons (s_lss false rfl rfl (dfalse hc28) rfl ?_)
          refine r_nil ?_
          refine g_false rfl ?_
          refine g_exit (by rfl) ?_
          refine g_seq ?_
          refine g_mix (fun t_ w => St W w (imi (0 < ups.length) gA13 (.cells kA15 eA16 zA17) :: Im 1 (.slice pp1 ups.length cc2) ups.length (ups.flatMap i64c) :: t_)) F mixed 9 rfl H26.drew ?_
          refine f_first 0 (listed' := #[true, false, false, false, false, false, false, false, false]) rfl (by kernel_rfl) (by kernel_rfl) (by kernel_rfl) rfl ?_
          refine f_val rfl rfl rfl (by intro t_ w hw; exact x_move (.int .i64 op.v) rfl w) ?_
          refine f_first 1 (listed' := #[true, true, false, false, false, false, false, false, false]) rfl (by kernel_rfl) (by kernel_rfl) (by kernel_rfl) rfl ?_
          refine f_val rfl rfl rfl (by intro t_ w hw; exact x_move (.slice pp1 ups.length cc2) rfl w) ?_
          refine f_first 3 (listed' := #[true, true, false, true, false, false, false, false, false]) rfl (by kernel_rfl) (by kernel_rfl) (by kernel_rfl) rfl ?_
          refine f_val rfl rfl rfl (by intro t_ w hw; exact x_move (.slice pp1 ups.length cc2) rfl w) ?_
          refine f_first 4 (listed' := #[true, true, false, true, true, false, false, false, false]) rfl (by kernel_rfl) (by kernel_rfl) (by kernel_rfl) rfl ?_
          refine f_val rfl rfl rfl (by intro t_ w hw; exact x_len ups.length rfl ⟨_, un_101⟩ w) ?_
          refine f_all (rs := [2, 5]) (by kernel_rfl) (by simp) ?_
          refine a_cons ⟨_, rfl, ?_⟩ (a_cons ⟨_, rfl, ?_⟩ (fun x hx => absurd hx (by simp)))
          · skip
            intro w44 H45
            try dsimp only at H45
            have H46 := Row.nil_intro H45 3 1
            refine s_append H46 0 rfl rfl rfl (Im.rd H46 (i := 2) rfl) ap_101 (by decide) (by unfold maxLen; omega) (by omega) (n' := ups.length) (xs' := ups.flatMap i64c) (by omega) (by first | rfl | simp) rfl ?_; intro vv47 w48 H49 hn50
            obtain ⟨pp51, cc52, rfl⟩ := Row.slice H49 (i := 0) rfl
            have H53 : St W w48 (imi (0 < ups.length) gA13 (.cells kA15 eA16 zA17) :: Im 1 (.slice pp1 ups.length cc2) ups.length (ups.flatMap i64c) :: Row 3 1 (.slice pp51 ups.length cc52) ups.length (ups.flatMap i64c) :: F) := ((H49.move 2 rfl).move 2 rfl)
            refine ⟨Row 3 1 (.slice pp51 ups.length cc52) ups.length (ups.flatMap i64c) :: F, ?_, H53⟩
            change FReg _ _ _ _ _ #[true, true, true, true, true, false, false, false, false] _ _
            refine f_all (rs := [5]) (by kernel_rfl) (by simp) ?_
            refine a_cons ⟨_, rfl, ?_⟩ (fun x hx => absurd hx (by simp))
            intro w54 H55
            try dsimp only at H55
            refine s_make H55 (ups.length : Int) 1 1 rfl rfl un_113 in_4 (by omega) (by omega) (by omega) (by exact made_bools ups.length) rfl ?_; intro bk56 w57 H58
            have H59 : St W w57 (Row 4 1 (.slice (some ⟨bk56, 0, none⟩) ups.length ups.length) ups.length ((List.replicate ups.length false).flatMap blc) :: imi (0 < ups.length) gA13 (.cells kA15 eA16 zA17) :: Im 1 (.slice pp1 ups.length cc2) ups.length (ups.flatMap i64c) :: Row 3 1 (.slice pp51 ups.length cc52) ups.length (ups.flatMap i64c) :: F) := Row.of_list (xs := (List.replicate ups.length false).flatMap blc) (n := ups.length) H58 (i := 0) rfl (by unfold maxLen; omega) (by rw [flat_len blc_len]; simp) (one_bl _)
            have H60 : St W w57 (imi (0 < ups.length) gA13 (.cells kA15 eA16 zA17) :: Im 1 (.slice pp1 ups.length cc2) ups.length (ups.flatMap i64c) :: Row 4 1 (.slice (some ⟨bk56, 0, none⟩) ups.length ups.length) ups.length ((List.replicate ups.length false).flatMap blc) :: Row 3 1 (.slice pp51 ups.length cc52) ups.length (ups.flatMap i64c) :: F) := ((((H59.move 3 rfl).move 1 rfl).move 3 rfl).move 3 rfl)
            refine ⟨Row 4 1 (.slice (some ⟨bk56, 0, none⟩) ups.length ups.length) ups.length ((List.replicate ups.length false).flatMap blc) :: Row 3 1 (.slice pp51 ups.length cc52) ups.length (ups.flatMap i64c) :: F, ?_, H60⟩
            change FReg _ _ _ _ _ #[true, true, true, true, true, true, false, false, false] _ _
            refine f_first 6 (listed' := #[true, true, true, true, true, true, true, false, false]) rfl (by kernel_rfl) (by kernel_rfl) (by kernel_rfl) rfl ?_
            refine f_val rfl rfl rfl (by intro t_ w hw; exact x_build (cs := #[.int .i64 op.v, .slice pp51 ups.length cc52, .slice (some ⟨bk56, 0, none⟩) ups.length ups.length, .int .i64 1]) (by kernel_rfl) w) ?_
            refine f_all (rs := [7]) (by kernel_rfl) (by simp) ?_
            refine a_cons ⟨_, rfl, ?_⟩ (fun x hx => absurd hx (by simp))
            intro w61 H62
            try dsimp only at H62
            refine s_box H62 115 (.agg #[.int .i64 op.v, .slice pp51 ups.length cc52, .slice (some ⟨bk56, 0, none⟩) ups.length ups.length, .int .i64 1]) rfl (cs := #[.int .i64 op.v, .slice pp51 ups.length cc52, .slice (some ⟨bk56, 0, none⟩) ups.length ups.length, .int .i64 1]) rfl rfl ?_; intro bk63 w64 H65
            have H66 : St W w64 (imi (0 < ups.length) gA13 (.cells kA15 eA16 zA17) :: Im 1 (.slice pp1 ups.length cc2) ups.length (ups.flatMap i64c) :: blk bk63 (.cells #[.int .i64 op.v, .slice pp51 ups.length cc52, .slice (some ⟨bk56, 0, none⟩) ups.length ups.length, .int .i64 1] 115 (0, 0)) :: Row 4 1 (.slice (some ⟨bk56, 0, none⟩) ups.length ups.length) ups.length ((List.replicate ups.length false).flatMap blc) :: Row 3 1 (.slice pp51 ups.length cc52) ups.length (ups.flatMap i64c) :: F) := (((((H65.move 4 rfl).move 4 rfl).move 2 rfl).move 4 rfl).move 4 rfl)
            refine ⟨blk bk63 (.cells #[.int .i64 op.v, .slice pp51 ups.length cc52, .slice (some ⟨bk56, 0, none⟩) ups.length ups.length, .int .i64 1] 115 (0, 0)) :: Row 4 1 (.slice (some ⟨bk56, 0, none⟩) ups.length ups.length) ups.length ((List.replicate ups.length false).flatMap blc) :: Row 3 1 (.slice pp51 ups.length cc52) ups.length (ups.flatMap i64c) :: F, ?_, H66⟩
            change FReg _ _ _ _ _ #[true, true, true, true, true, true, true, true, false] _ _
            refine f_first 8 (listed' := #[true, true, true, true, true, true, true, true, true]) rfl (by kernel_rfl) (by kernel_rfl) (by kernel_rfl) rfl ?_
            refine f_val rfl rfl rfl (by intro t_ w hw; exact x_assign (.pointer (some ⟨bk63, 0, none⟩)) rfl w) ?_
            refine f_done (by kernel_rfl) ?_
            intro w67 H68
            refine g_seq ?_
            refine g_seq ?_
            refine g_region ?_
            refine r_cons (s_move (.slice pp1 ups.length cc2) rfl rfl ?_)
            refine r_cons (s_len ups.length rfl ⟨_, un_101⟩ rfl ?_)
            by_cases hc69 : (ups.length : Int) = 0
            · skip
              refine r_cons (s_eql true rfl rfl (dtrue hc69) rfl ?_)
              refine r_nil ?_
              refine g_true rfl ?_
              refine g_region ?_
              refine r_cons (s_move (.pointer (some ⟨bk63, 0, none⟩)) rfl rfl ?_)
              refine r_cons (s_nilCheck (.pointer (some ⟨bk63, 0, none⟩)) rfl ⟨_, rfl⟩ rfl ?_)
              refine r_cons (s_fieldAddr 115 3 3 3 3 rfl fi_115_3 rfl rfl ?_)
              refine r_cons (s_store H68 2 (.int .i64 2) rfl rfl rfl sz_3 rfl (Nat.le_of_ble_eq_true rfl) rfl (cs' := #[.int .i64 op.v, .slice pp51 ups.length cc52, .slice (some ⟨bk56, 0, none⟩) ups.length ups.length, .int .i64 2]) rfl ?_); intro w70 H71
              refine r_nil ?_
              refine g_seq ?_
              refine g_region ?_
              refine r_cons (s_move (.pointer (some ⟨bk63, 0, none⟩)) rfl rfl ?_)
              refine r_cons (s_assign (.pointer (some ⟨bk63, 0, none⟩)) rfl rfl ?_)
              refine r_cons (s_assign (.int .i64 0) rfl rfl ?_)
              refine r_nil ?_
              refine g_ret' [.pointer (some ⟨bk63, 0, none⟩), .int .i64 0] Try.func52 Try.results52 ⟨rfl, rfl, trivial⟩ ?_
              obtain rfl : j = ups.length := by omega
              rw [List.take_length] at hok
              have H72 : St W w70 (blk bk63 (.cells #[.int .i64 op.v, .slice pp51 ups.length cc52, .slice (some ⟨bk56, 0, none⟩) ups.length ups.length, .int .i64 2] 115 (0, 0)) :: Row 3 1 (.slice pp51 ups.length cc52) ups.length (ups.flatMap i64c) :: Row 4 1 (.slice (some ⟨bk56, 0, none⟩) ups.length ups.length) ups.length ((List.replicate ups.length false).flatMap blc) :: imi (0 < ups.length) gA13 (.cells kA15 eA16 zA17) :: Im 1 (.slice pp1 ups.length cc2) ups.length (ups.flatMap i64c) :: F) := (((H71.move 3 rfl).move 4 rfl).move 4 rfl)
              have H73 : St W w70 (blk bk63 (.cells #[.int .i64 op.v, .slice pp51 ups.length cc52, .slice (some ⟨bk56, 0, none⟩) ups.length ups.length, .int .i64 2] 115 (0, 0)) :: Im 1 (.slice pp51 ups.length cc52) ups.length (ups.flatMap i64c) :: Row 4 1 (.slice (some ⟨bk56, 0, none⟩) ups.length ups.length) ups.length ((List.replicate ups.length false).flatMap blc) :: imi (0 < ups.length) gA13 (.cells kA15 eA16 zA17) :: Im 1 (.slice pp1 ups.length cc2) ups.length (ups.flatMap i64c) :: F) := Row.im H72 (i := 1) rfl
              have H74 : St W w70 (blk bk63 (.cells #[.int .i64 op.v, .slice pp51 ups.length cc52, .slice (some ⟨bk56, 0, none⟩) ((List.replicate ups.length false).length) ups.length, .int .i64 (if ups.length = 0 then 2 else 1)] 115 (0, 0)) :: Im 1 (.slice pp51 ups.length cc52) ups.length (ups.flatMap i64c) :: Row 4 1 (.slice (some ⟨bk56, 0, none⟩) ((List.replicate ups.length false).length) ups.length) ((List.replicate ups.length false).length) ((List.replicate ups.length false).flatMap blc) :: imi (0 < ups.length) gA13 (.cells kA15 eA16 zA17) :: Im 1 (.slice pp1 ups.length cc2) ups.length (ups.flatMap i64c) :: F) := by rw [List.length_replicate, if_pos (by omega : ups.length = 0)]; exact H73
              have H75 : St W w70 (blk bk63 (.cells #[.int .i64 op.v, .slice pp51 ups.length cc52, .slice (some ⟨bk56, 0, none⟩) ((List.replicate ups.length false).length) ups.length, .int .i64 (if ups.length = 0 then 2 else 1)] 115 (0, 0)) :: Im 1 (.slice pp51 ups.length cc52) ups.length (ups.flatMap i64c) :: Row 4 1 (.slice (some ⟨bk56, 0, none⟩) ((List.replicate ups.length false).length) ups.length) ((List.replicate ups.length false).length) ((List.replicate ups.length false).flatMap blc) :: F) := (((((H74.move 2 rfl).move 2 rfl).move 2 rfl).drop 3 rfl).drop 3 rfl)
              exact .inr ⟨newE_0 (notfalse ‹_›) (by omega) hok, bk63, rfl, St.shut_ex ((pp51, cc52), (some ⟨bk56, 0, none⟩, ups.length)) (St.shut_star (ls := [_, _, _]) H75)⟩
            · skip
              refine r_cons (s_eql false rfl rfl (dfalse hc69) rfl ?_)
              refine r_nil ?_
              refine g_false rfl ?_
              refine g_skip ?_
              refine g_seq ?_
              refine g_region ?_
              refine r_cons (s_move (.pointer (some ⟨bk63, 0, none⟩)) rfl rfl ?_)
              refine r_cons (s_assign (.pointer (some ⟨bk63, 0, none⟩)) rfl rfl ?_)
              refine r_cons (s_assign (.int .i64 0) rfl rfl ?_)
              refine r_nil ?_
              refine g_ret' [.pointer (some ⟨bk63, 0, none⟩), .int .i64 0] Try.func52 Try.results52 ⟨rfl, rfl, trivial⟩ ?_
              obtain rfl : j = ups.length := by omega
              rw [List.take_length] at hok
              have H76 : St W w67 (blk bk63 (.cells #[.int .i64 op.v, .slice pp51 ups.length cc52, .slice (some ⟨bk56, 0, none⟩) ups.length ups.length, .int .i64 1] 115 (0, 0)) :: Row 3 1 (.slice pp51 ups.length cc52) ups.length (ups.flatMap i64c) :: Row 4 1 (.slice (some ⟨bk56, 0, none⟩) ups.length ups.length) ups.length ((List.replicate ups.length false).flatMap blc) :: imi (0 < ups.length) gA13 (.cells kA15 eA16 zA17) :: Im 1 (.slice pp1 ups.length cc2) ups.length (ups.flatMap i64c) :: F) := (((H68.move 3 rfl).move 4 rfl).move 4 rfl)
              have H77 : St W w67 (blk bk63 (.cells #[.int .i64 op.v, .slice pp51 ups.length cc52, .slice (some ⟨bk56, 0, none⟩) ups.length ups.length, .int .i64 1] 115 (0, 0)) :: Im 1 (.slice pp51 ups.length cc52) ups.length (ups.flatMap i64c) :: Row 4 1 (.slice (some ⟨bk56, 0, none⟩) ups.length ups.length) ups.length ((List.replicate ups.length false).flatMap blc) :: imi (0 < ups.length) gA13 (.cells kA15 eA16 zA17) :: Im 1 (.slice pp1 ups.length cc2) ups.length (ups.flatMap i64c) :: F) := Row.im H76 (i := 1) rfl
              have H78 : St W w67 (blk bk63 (.cells #[.int .i64 op.v, .slice pp51 ups.length cc52, .slice (some ⟨bk56, 0, none⟩) ((List.replicate ups.length false).length) ups.length, .int .i64 (if ups.length = 0 then 2 else 1)] 115 (0, 0)) :: Im 1 (.slice pp51 ups.length cc52) ups.length (ups.flatMap i64c) :: Row 4 1 (.slice (some ⟨bk56, 0, none⟩) ((List.replicate ups.length false).length) ups.length) ((List.replicate ups.length false).length) ((List.replicate ups.length false).flatMap blc) :: imi (0 < ups.length) gA13 (.cells kA15 eA16 zA17) :: Im 1 (.slice pp1 ups.length cc2) ups.length (ups.flatMap i64c) :: F) := by rw [List.length_replicate, if_neg (by omega : ¬ ups.length = 0)]; exact H77
              have H79 : St W w67 (blk bk63 (.cells #[.int .i64 op.v, .slice pp51 ups.length cc52, .slice (some ⟨bk56, 0, none⟩) ((List.replicate ups.length false).length) ups.length, .int .i64 (if ups.length = 0 then 2 else 1)] 115 (0, 0)) :: Im 1 (.slice pp51 ups.length cc52) ups.length (ups.flatMap i64c) :: Row 4 1 (.slice (some ⟨bk56, 0, none⟩) ((List.replicate ups.length false).length) ups.length) ((List.replicate ups.length false).length) ((List.replicate ups.length false).flatMap blc) :: F) := (((((H78.move 2 rfl).move 2 rfl).move 2 rfl).drop 3 rfl).drop 3 rfl)
              exact .inr ⟨newE_0 (notfalse ‹_›) (by omega) hok, bk63, rfl, St.shut_ex ((pp51, cc52), (some ⟨bk56, 0, none⟩, ups.length)) (St.shut_star (ls := [_, _, _]) H79)⟩
          · skip
            intro w80 H81
            try dsimp only at H81
            refine s_make H81 (ups.length : Int) 1 1 rfl rfl un_113 in_4 (by omega) (by omega) (by omega) (by exact made_bools ups.length) rfl ?_; intro bk82 w83 H84
            have H85 : St W w83 (Row 4 1 (.slice (some ⟨bk82, 0, none⟩) ups.length ups.length) ups.length ((List.replicate ups.length false).flatMap blc) :: imi (0 < ups.length) gA13 (.cells kA15 eA16 zA17) :: Im 1 (.slice pp1 ups.length cc2) ups.length (ups.flatMap i64c) :: F) := Row.of_list (xs := (List.replicate ups.length false).flatMap blc) (n := ups.length) H84 (i := 0) rfl (by unfold maxLen; omega) (by rw [flat_len blc_len]; simp) (one_bl _)
            have H86 : St W w83 (imi (0 < ups.length) gA13 (.cells kA15 eA16 zA17) :: Im 1 (.slice pp1 ups.length cc2) ups.length (ups.flatMap i64c) :: Row 4 1 (.slice (some ⟨bk82, 0, none⟩) ups.length ups.length) ups.length ((List.replicate ups.length false).flatMap blc) :: F) := ((H85.move 2 rfl).move 2 rfl)
            refine ⟨Row 4 1 (.slice (some ⟨bk82, 0, none⟩) ups.length ups.length) ups.length ((List.replicate ups.length false).flatMap blc) :: F, ?_, H86⟩
            change FReg _ _ _ _ _ #[true, true, false, true, true, true, false, false, false] _ _
            refine f_all (rs := [2]) (by kernel_rfl) (by simp) ?_
            refine a_cons ⟨_, rfl, ?_⟩ (fun x hx => absurd hx (by simp))
            intro w87 H88
            try dsimp only at H88
            have H89 := Row.nil_intro H88 3 1
            refine s_append H89 0 rfl rfl rfl (Im.rd H89 (i := 2) rfl) ap_101 (by decide) (by unfold maxLen; omega) (by omega) (n' := ups.length) (xs' := ups.flatMap i64c) (by omega) (by first | rfl | simp) rfl ?_; intro vv90 w91 H92 hn93
            obtain ⟨pp94, cc95, rfl⟩ := Row.slice H92 (i := 0) rfl
            have H96 : St W w91 (imi (0 < ups.length) gA13 (.cells kA15 eA16 zA17) :: Im 1 (.slice pp1 ups.length cc2) ups.length (ups.flatMap i64c) :: Row 3 1 (.slice pp94 ups.length cc95) ups.length (ups.flatMap i64c) :: Row 4 1 (.slice (some ⟨bk82, 0, none⟩) ups.length ups.length) ups.length ((List.replicate ups.length false).flatMap blc) :: F) := ((((H92.move 3 rfl).move 1 rfl).move 3 rfl).move 3 rfl)
            refine ⟨Row 3 1 (.slice pp94 ups.length cc95) ups.length (ups.flatMap i64c) :: Row 4 1 (.slice (some ⟨bk82, 0, none⟩) ups.length ups.length) ups.length ((List.replicate ups.length false).flatMap blc) :: F, ?_, H96⟩
            change FReg _ _ _ _ _ #[true, true, true, true, true, true, false, false, false] _ _
            refine f_first 6 (listed' := #[true, true, true, true, true, true, true, false, false]) rfl (by kernel_rfl) (by kernel_rfl) (by kernel_rfl) rfl ?_
            refine f_val rfl rfl rfl (by intro t_ w hw; exact x_build (cs := #[.int .i64 op.v, .slice pp94 ups.length cc95, .slice (some ⟨bk82, 0, none⟩) ups.length ups.length, .int .i64 1]) (by kernel_rfl) w) ?_
            refine f_all (rs := [7]) (by kernel_rfl) (by simp) ?_
            refine a_cons ⟨_, rfl, ?_⟩ (fun x hx => absurd hx (by simp))
            intro w97 H98
            try dsimp only at H98
            refine s_box H98 115 (.agg #[.int .i64 op.v, .slice pp94 ups.length cc95, .slice (some ⟨bk82, 0, none⟩) ups.length ups.length, .int .i64 1]) rfl (cs := #[.int .i64 op.v, .slice pp94 ups.length cc95, .slice (some ⟨bk82, 0, none⟩) ups.length ups.length, .int .i64 1]) rfl rfl ?_; intro bk99 w100 H101
            have H102 : St W w100 (imi (0 < ups.length) gA13 (.cells kA15 eA16 zA17) :: Im 1 (.slice pp1 ups.length cc2) ups.length (ups.flatMap i64c) :: blk bk99 (.cells #[.int .i64 op.v, .slice pp94 ups.length cc95, .slice (some ⟨bk82, 0, none⟩) ups.length ups.length, .int .i64 1] 115 (0, 0)) :: Row 3 1 (.slice pp94 ups.length cc95) ups.length (ups.flatMap i64c) :: Row 4 1 (.slice (some ⟨bk82, 0, none⟩) ups.length ups.length) ups.length ((List.replicate ups.length false).flatMap blc) :: F) := (((((H101.move 4 rfl).move 4 rfl).move 2 rfl).move 4 rfl).move 4 rfl)
            refine ⟨blk bk99 (.cells #[.int .i64 op.v, .slice pp94 ups.length cc95, .slice (some ⟨bk82, 0, none⟩) ups.length ups.length, .int .i64 1] 115 (0, 0)) :: Row 3 1 (.slice pp94 ups.length cc95) ups.length (ups.flatMap i64c) :: Row 4 1 (.slice (some ⟨bk82, 0, none⟩) ups.length ups.length) ups.length ((List.replicate ups.length false).flatMap blc) :: F, ?_, H102⟩
            change FReg _ _ _ _ _ #[true, true, true, true, true, true, true, true, false] _ _
            refine f_first 8 (listed' := #[true, true, true, true, true, true, true, true, true]) rfl (by kernel_rfl) (by kernel_rfl) (by kernel_rfl) rfl ?_
            refine f_val rfl rfl rfl (by intro t_ w hw; exact x_assign (.pointer (some ⟨bk99, 0, none⟩)) rfl w) ?_
            refine f_done (by kernel_rfl) ?_
            intro w103 H104
            refine g_seq ?_
            refine g_seq ?_
            refine g_region ?_
            refine r_cons (s_move (.slice pp1 ups.length cc2) rfl rfl ?_)
            refine r_cons (s_len ups.length rfl ⟨_, un_101⟩ rfl ?_)
            by_cases hc105 : (ups.length : Int) = 0
            · skip
              refine r_cons (s_eql true rfl rfl (dtrue hc105) rfl ?_)
              refine r_nil ?_
              refine g_true rfl ?_
              refine g_region ?_
              refine r_cons (s_move (.pointer (some ⟨bk99, 0, none⟩)) rfl rfl ?_)
              refine r_cons (s_nilCheck (.pointer (some ⟨bk99, 0, none⟩)) rfl ⟨_, rfl⟩ rfl ?_)
              refine r_cons (s_fieldAddr 115 3 3 3 3 rfl fi_115_3 rfl rfl ?_)
              refine r_cons (s_store H104 2 (.int .i64 2) rfl rfl rfl sz_3 rfl (Nat.le_of_ble_eq_true rfl) rfl (cs' := #[.int .i64 op.v, .slice pp94 ups.length cc95, .slice (some ⟨bk82, 0, none⟩) ups.length ups.length, .int .i64 2]) rfl ?_); intro w106 H107
              refine r_nil ?_
              refine g_seq ?_
              refine g_region ?_
              refine r_cons (s_move (.pointer (some ⟨bk99, 0, none⟩)) rfl rfl ?_)
              refine r_cons (s_assign (.pointer (some ⟨bk99, 0, none⟩)) rfl rfl ?_)
              refine r_cons (s_assign (.int .i64 0) rfl rfl ?_)
              refine r_nil ?_
              refine g_ret' [.pointer (some ⟨bk99, 0, none⟩), .int .i64 0] Try.func52 Try.results52 ⟨rfl, rfl, trivial⟩ ?_
              obtain rfl : j = ups.length := by omega
              rw [List.take_length] at hok
              have H108 : St W w106 (blk bk99 (.cells #[.int .i64 op.v, .slice pp94 ups.length cc95, .slice (some ⟨bk82, 0, none⟩) ups.length ups.length, .int .i64 2] 115 (0, 0)) :: Row 3 1 (.slice pp94 ups.length cc95) ups.length (ups.flatMap i64c) :: Row 4 1 (.slice (some ⟨bk82, 0, none⟩) ups.length ups.length) ups.length ((List.replicate ups.length false).flatMap blc) :: imi (0 < ups.length) gA13 (.cells kA15 eA16 zA17) :: Im 1 (.slice pp1 ups.length cc2) ups.length (ups.flatMap i64c) :: F) := (((H107.move 4 rfl).move 4 rfl).move 4 rfl)
              have H109 : St W w106 (blk bk99 (.cells #[.int .i64 op.v, .slice pp94 ups.length cc95, .slice (some ⟨bk82, 0, none⟩) ups.length ups.length, .int .i64 2] 115 (0, 0)) :: Im 1 (.slice pp94 ups.length cc95) ups.length (ups.flatMap i64c) :: Row 4 1 (.slice (some ⟨bk82, 0, none⟩) ups.length ups.length) ups.length ((List.replicate ups.length false).flatMap blc) :: imi (0 < ups.length) gA13 (.cells kA15 eA16 zA17) :: Im 1 (.slice pp1 ups.length cc2) ups.length (ups.flatMap i64c) :: F) := Row.im H108 (i := 1) rfl
              have H110 : St W w106 (blk bk99 (.cells #[.int .i64 op.v, .slice pp94 ups.length cc95, .slice (some ⟨bk82, 0, none⟩) ((List.replicate ups.length false).length) ups.length, .int .i64 (if ups.length = 0 then 2 else 1)] 115 (0, 0)) :: Im 1 (.slice pp94 ups.length cc95) ups.length (ups.flatMap i64c) :: Row 4 1 (.slice (some ⟨bk82, 0, none⟩) ((List.replicate ups.length false).length) ups.length) ((List.replicate ups.length false).length) ((List.replicate ups.length false).flatMap blc) :: imi (0 < ups.length) gA13 (.cells kA15 eA16 zA17) :: Im 1 (.slice pp1 ups.length cc2) ups.length (ups.flatMap i64c) :: F) := by rw [List.length_replicate, if_pos (by omega : ups.length = 0)]; exact H109
              have H111 : St W w106 (blk bk99 (.cells #[.int .i64 op.v, .slice pp94 ups.length cc95, .slice (some ⟨bk82, 0, none⟩) ((List.replicate ups.length false).length) ups.length, .int .i64 (if ups.length = 0 then 2 else 1)] 115 (0, 0)) :: Im 1 (.slice pp94 ups.length cc95) ups.length (ups.flatMap i64c) :: Row 4 1 (.slice (some ⟨bk82, 0, none⟩) ((List.replicate ups.length false).length) ups.length) ((List.replicate ups.length false).length) ((List.replicate ups.length false).flatMap blc) :: F) := (((((H110.move 2 rfl).move 2 rfl).move 2 rfl).drop 3 rfl).drop 3 rfl)
              exact .inr ⟨newE_0 (notfalse ‹_›) (by omega) hok, bk99, rfl, St.shut_ex ((pp94, cc95), (some ⟨bk82, 0, none⟩, ups.length)) (St.shut_star (ls := [_, _, _]) H111)⟩
            · skip
              refine r_cons (s_eql false rfl rfl (dfalse hc105) rfl ?_)
              refine r_nil ?_
              refine g_false rfl ?_
              refine g_skip ?_
              refine g_seq ?_
              refine g_region ?_
              refine r_cons (s_move (.pointer (some ⟨bk99, 0, none⟩)) rfl rfl ?_)
              refine r_cons (s_assign (.pointer (some ⟨bk99, 0, none⟩)) rfl rfl ?_)
              refine r_cons (s_assign (.int .i64 0) rfl rfl ?_)
              refine r_nil ?_
              refine g_ret' [.pointer (some ⟨bk99, 0, none⟩), .int .i64 0] Try.func52 Try.results52 ⟨rfl, rfl, trivial⟩ ?_
              obtain rfl : j = ups.length := by omega
              rw [List.take_length] at hok
              have H112 : St W w103 (blk bk99 (.cells #[.int .i64 op.v, .slice pp94 ups.length cc95, .slice (some ⟨bk82, 0, none⟩) ups.length ups.length, .int .i64 1] 115 (0, 0)) :: Row 3 1 (.slice pp94 ups.length cc95) ups.length (ups.flatMap i64c) :: Row 4 1 (.slice (some ⟨bk82, 0, none⟩) ups.length ups.length) ups.length ((List.replicate ups.length false).flatMap blc) :: imi (0 < ups.length) gA13 (.cells kA15 eA16 zA17) :: Im 1 (.slice pp1 ups.length cc2) ups.length (ups.flatMap i64c) :: F) := (((H104.move 4 rfl).move 4 rfl).move 4 rfl)
              have H113 : St W w103 (blk bk99 (.cells #[.int .i64 op.v, .slice pp94 ups.length cc95, .slice (some ⟨bk82, 0, none⟩) ups.length ups.length, .int .i64 1] 115 (0, 0)) :: Im 1 (.slice pp94 ups.length cc95) ups.length (ups.flatMap i64c) :: Row 4 1 (.slice (some ⟨bk82, 0, none⟩) ups.length ups.length) ups.length ((List.replicate ups.length false).flatMap blc) :: imi (0 < ups.length) gA13 (.cells kA15 eA16 zA17) :: Im 1 (.slice pp1 ups.length cc2) ups.length (ups.flatMap i64c) :: F) := Row.im H112 (i := 1) rfl
              have H114 : St W w103 (blk bk99 (.cells #[.int .i64 op.v, .slice pp94 ups.length cc95, .slice (some ⟨bk82, 0, none⟩) ((List.replicate ups.length false).length) ups.length, .int .i64 (if ups.length = 0 then 2 else 1)] 115 (0, 0)) :: Im 1 (.slice pp94 ups.length cc95) ups.length (ups.flatMap i64c) :: Row 4 1 (.slice (some ⟨bk82, 0, none⟩) ((List.replicate ups.length false).length) ups.length) ((List.replicate ups.length false).length) ((List.replicate ups.length false).flatMap blc) :: imi (0 < ups.length) gA13 (.cells kA15 eA16 zA17) :: Im 1 (.slice pp1 ups.length cc2) ups.length (ups.flatMap i64c) :: F) := by rw [List.length_replicate, if_neg (by omega : ¬ ups.length = 0)]; exact H113
              have H115 : St W w103 (blk bk99 (.cells #[.int .i64 op.v, .slice pp94 ups.length cc95, .slice (some ⟨bk82, 0, none⟩) ((List.replicate ups.length false).length) ups.length, .int .i64 (if ups.length = 0 then 2 else 1)] 115 (0, 0)) :: Im 1 (.slice pp94 ups.length cc95) ups.length (ups.flatMap i64c) :: Row 4 1 (.slice (some ⟨bk82, 0, none⟩) ((List.replicate ups.length false).length) ups.length) ((List.replicate ups.length false).length) ((List.replicate ups.length false).flatMap blc) :: F) := (((((H114.move 2 rfl).move 2 rfl).move 2 rfl).drop 3 rfl).drop 3 rfl)
              exact .inr ⟨newE_0 (notfalse ‹_›) (by omega) hok, bk99, rfl, St.shut_ex ((pp94, cc95), (some ⟨bk82, 0, none⟩, ups.length)) (St.shut_star (ls := [_, _, _]) H115)⟩
set_option maxHeartbeats 4000000 in
set_option maxRecDepth 100000 in
theorem Rv_Marker {W w : World} {F : List Atom} (g : Nat) (op : I64) (ups : List I64) (has : List Bool) (ph : Int) (n : I64) (hnd : ups.Nodup) (hlh : has.length = ups.length) {i : Nat} (hi : F[i]? = some (RvA g op ups has ph)) (H : St W w F) : Calls Try.prog 53 #[.pointer (some ⟨g, 0, none⟩), .int .i64 n.v] w (Ret fun v w' => v = .tuple #[.bool (rmAll ups has n), .int .i64 (rmE ups has n)] ∧ St W w' (F.set i (RvA g op ups (rmHas ups has n) (rmP ups has n ph)))) := by
  have H0 := H.front hi
  refine calls_of_go (n := 58) Try.func53 rfl Try.ntmps53 rfl ?_
  refine g_seq ?_
  refine g_region ?_
  refine r_cons (s_assign (.bool false) rfl rfl ?_)
  refine r_cons (s_assign (.int .i64 0) rfl rfl ?_)
  refine r_nil ?_
  refine g_seq ?_
  refine g_region ?_
  refine r_cons (s_assign (.bool true) rfl rfl ?_)
  refine r_nil ?_
  refine g_seq ?_
  refine g_region ?_
  refine r_cons (s_assign (.int .i64 (-1)) rfl rfl ?_)
  refine r_nil ?_
  refine g_seq ?_
  refine g_seq ?_
  refine g_region ?_
  refine r_cons (s_assign (.int .i64 0) rfl rfl ?_)
  refine r_nil ?_
  refine g_block ?_
  have H1 := H0.move 0 rfl
  obtain ⟨⟨⟨pp2, cc3⟩, pp4, cc5⟩, H6⟩ := St.open_ex H1
  have H7 := St.open_star H6
  have H8 : St W w (blk g (.cells #[.int .i64 op.v, .slice pp2 ups.length cc3, .slice pp4 has.length cc5, .int .i64 ph] 115 (0, 0)) :: Im 1 (.slice pp2 ups.length cc3) ups.length (ups.flatMap i64c) :: Row 4 1 (.slice pp4 has.length cc5) has.length (has.flatMap blc) :: (F.set i emp)) := H7
  obtain ⟨pA9, cA10, gA11, oA12, kA13, eA14, zA15, he21, hn16, hp17, hx18, hs19, hml, H20⟩ := Im.open_ H8 (i := 1) rfl
  obtain ⟨rfl, rfl⟩ : pp2 = pA9 ∧ cc3 = cA10 := by injection he21 with a_ b_ c_; exact ⟨a_, c_⟩
  refine g_loop_inv (fun (x_ : Nat × Int) => match x_ with | (j, a) => [(0, .pointer (some ⟨g, 0, none⟩)), (1, .int .i64 n.v), (4, .bool false), (5, .int .i64 0), (6, .bool (othersB ups has n j)), (7, .int .i64 a), (8, .int .i64 (j : Int))]) (fun (x_ : Nat × Int) w => match x_ with | (j, a) => (j ≤ ups.length) ∧ ((a = -1 ∧ ∀ i, i < j → ¬ (ups.getD i default).v = n.v) ∨ ∃ i : Nat, a = (i : Int) ∧ i < j ∧ (ups.getD i default).v = n.v) ∧ St W w (imi (0 < ups.length) gA11 (.cells kA13 eA14 zA15) :: blk g (.cells #[.int .i64 op.v, .slice pp2 ups.length cc3, .slice pp4 has.length cc5, .int .i64 ph] 115 (0, 0)) :: Im 1 (.slice pp2 ups.length cc3) ups.length (ups.flatMap i64c) :: Row 4 1 (.slice pp4 has.length cc5) has.length (has.flatMap blc) :: (F.set i emp))) (fun (x_ : Nat × Int) => match x_ with | (j, a) => ups.length - j) (0, (-1)) ?_ ?_ ?_
  · exact ⟨by first | rfl | exact vint (by omega), by first | rfl | exact vint (by omega), by first | rfl | exact vint (by omega), by first | rfl | exact vint (by omega), congrArg Value.bool (others_zero _ _ _).symm, by first | rfl | exact vint (by omega), by first | rfl | exact vint (by omega), trivial⟩
  · exact ⟨(by omega), (.inl ⟨rfl, fun i hi => by omega⟩), H20⟩
  · rintro ⟨j, a⟩ ρ22 w23 ⟨hjn, hat, H24⟩ nx25
    change Ends _ _ (upds ρ22 [(0, .pointer (some ⟨g, 0, none⟩)), (1, .int .i64 n.v), (4, .bool false), (5, .int .i64 0), (6, .bool (othersB ups has n j)), (7, .int .i64 a), (8, .int .i64 (j : Int))]) w23
    refine g_seq ?_
    refine g_seq ?_
    refine g_region ?_
    refine r_cons (s_move (.int .i64 (j : Int)) rfl rfl ?_)
    refine r_cons (s_move (.pointer (some ⟨g, 0, none⟩)) rfl rfl ?_)
    refine r_cons (s_nilCheck (.pointer (some ⟨g, 0, none⟩)) rfl ⟨_, rfl⟩ rfl ?_)
    refine r_cons (s_fieldAddr 115 1 1 1 101 rfl fi_115_1 rfl rfl ?_)
    refine r_cons (s_load (.slice pp2 ups.length cc3) ag_101 rfl (H24.blk_at (i := 1) rfl) rfl rfl ?_)
    refine r_cons (s_len ups.length rfl ⟨_, un_101⟩ rfl ?_)
    by_cases hc26 : (j : Int) < (ups.length : Int)
    · skip
      refine r_cons (s_lss true rfl rfl (dtrue hc26) rfl ?_)
      refine r_nil ?_
      refine g_true rfl ?_
      refine g_skip ?_
      refine g_seq ?_
      refine g_block ?_
      refine g_seq ?_
      refine g_region ?_
      refine r_cons (s_move (.pointer (some ⟨g, 0, none⟩)) rfl rfl ?_)
      refine r_cons (s_nilCheck (.pointer (some ⟨g, 0, none⟩)) rfl ⟨_, rfl⟩ rfl ?_)
      refine r_cons (s_fieldAddr 115 1 1 1 101 rfl fi_115_1 rfl rfl ?_)
      refine r_cons (s_load (.slice pp2 ups.length cc3) ag_101 rfl (H24.blk_at (i := 1) rfl) rfl rfl ?_)
      refine r_cons (s_move (.int .i64 (j : Int)) rfl rfl ?_)
      refine r_cons (s_indexAddr gA11 (off := oA12) (j : Int) 1 (oA12 + j * 1) (by exact congrArg (fun z_ => Value.slice z_ ups.length cc3) (hp17 (by omega))) rfl el_101 (by omega) rfl rfl ?_)
      refine r_cons (s_load (.int .i64 ((ups.getD j default).v)) ag_3 rfl (H24.imi_at (i := 0) rfl (by omega)) (elem_cell (L := ups) (i := j) i64c_len (hx18 (by omega)) (by omega) default 0 (by decide) _ rfl) rfl ?_)
      refine r_cons (s_move (.int .i64 n.v) rfl rfl ?_)
      by_cases hc27 : (ups.getD j default).v = n.v
      · skip
        refine r_cons (s_eql true rfl rfl (dtrue hc27) rfl ?_)
        refine r_nil ?_
        refine g_true rfl ?_
        refine g_region ?_
        refine r_cons (s_move (.int .i64 (j : Int)) rfl rfl ?_)
        refine r_cons (s_assign (.int .i64 (j : Int)) rfl rfl ?_)
        refine r_nil ?_
        refine g_inBlock ?_
        refine g_region ?_
        refine r_cons (s_move (.int .i64 (j : Int)) rfl rfl ?_)
        refine r_cons (s_add ((j : Int) + 1) rfl rfl (wi64 (by omega)) rfl ?_)
        refine r_cons (s_assign (.int .i64 ((j : Int) + 1)) rfl rfl ?_)
        refine r_nil ?_
        have H28 : St W w23 (imi (0 < ups.length) gA11 (.cells kA13 eA14 zA15) :: blk g (.cells #[.int .i64 op.v, .slice pp2 ups.length cc3, .slice pp4 has.length cc5, .int .i64 ph] 115 (0, 0)) :: Im 1 (.slice pp2 ups.length cc3) ups.length (ups.flatMap i64c) :: Row 4 1 (.slice pp4 has.length cc5) has.length (has.flatMap blc) :: (F.set i emp)) := ((((H24.move 3 rfl).move 3 rfl).move 3 rfl).move 3 rfl)
        exact nx25 (j + 1, (j : Int)) _ _ ⟨(by omega), (.inr ⟨j, rfl, by omega, hc27⟩), H28⟩ (by first | (dsimp only; omega) | omega) ⟨by first | rfl | exact vint (by omega), by first | rfl | exact vint (by omega), by first | rfl | exact vint (by omega), by first | rfl | exact vint (by omega), congrArg Value.bool (oth_eq hc27).symm, by first | rfl | exact vint (by omega), by first | rfl | exact vint (by omega), trivial⟩
      · skip
        refine r_cons (s_eql false rfl rfl (dfalse hc27) rfl ?_)
        refine r_nil ?_
        refine g_false rfl ?_
        refine g_region ?_
        refine r_cons (s_move (.bool (othersB ups has n j)) rfl rfl ?_)
        refine r_cons (s_move (.bool (othersB ups has n j)) rfl rfl ?_)
        by_cases hb29 : (othersB ups has n j) = true
        · skip
          refine r_cons (r_take rfl (congrArg some hb29) ?_)
          obtain ⟨bk30, cur31, hp32, hl33, hx34, hs35, H36, hcl37⟩ := Row.openL (f := blc) blc_len (by decide) (L := has) H24 (i := 3) rfl (by omega)
          refine s_move (.pointer (some ⟨g, 0, none⟩)) rfl rfl ?_
          refine r_cons (r_take rfl (congrArg some hb29) ?_)
          refine s_nilCheck (.pointer (some ⟨g, 0, none⟩)) rfl ⟨_, rfl⟩ rfl ?_
          refine r_cons (r_take rfl (congrArg some hb29) ?_)
          refine s_fieldAddr 115 2 2 2 113 rfl fi_115_2 rfl rfl ?_
          refine r_cons (r_take rfl (congrArg some hb29) ?_)
          refine s_load (.slice pp4 has.length cc5) ag_113 rfl (H36.blk_at (i := 1) rfl) rfl rfl ?_
          refine r_cons (r_take rfl (congrArg some hb29) ?_)
          refine s_move (.int .i64 (j : Int)) rfl rfl ?_
          refine r_cons (r_take rfl (congrArg some hb29) ?_)
          refine s_indexAddr bk30 (off := 0) (j : Int) 1 (0 + j * 1) (by exact congrArg (fun z_ => Value.slice z_ has.length cc5) ((fun (_ : 0 < 1) => hp32) (by omega))) rfl el_113 (by omega) rfl rfl ?_
          refine r_cons (r_take rfl (congrArg some hb29) ?_)
          refine s_load (.bool (has.getD j false)) ag_4 rfl (H36.blk_at (i := 3) rfl) (elem_cell (L := has) (i := j) blc_len hx34 (by have hh : has.length = has.length := hl33; omega) false 0 (by decide) _ rfl) rfl ?_
          refine r_cons (s_pick_t (.bool (has.getD j false)) (by exact congrArg Value.bool hb29) rfl rfl ?_)
          refine r_cons (s_assign (.bool (has.getD j false)) rfl rfl ?_)
          refine r_nil ?_
          refine g_inBlock ?_
          refine g_region ?_
          refine r_cons (s_move (.int .i64 (j : Int)) rfl rfl ?_)
          refine r_cons (s_add ((j : Int) + 1) rfl rfl (wi64 (by omega)) rfl ?_)
          refine r_cons (s_assign (.int .i64 ((j : Int) + 1)) rfl rfl ?_)
          refine r_nil ?_
          have H38 : St W w23 (imi (0 < ups.length) gA11 (.cells kA13 eA14 zA15) :: blk g (.cells #[.int .i64 op.v, .slice pp2 ups.length cc3, .slice pp4 has.length cc5, .int .i64 ph] 115 (0, 0)) :: Im 1 (.slice pp2 ups.length cc3) ups.length (ups.flatMap i64c) :: Row 4 1 (.slice pp4 has.length cc5) has.length (has.flatMap blc) :: (F.set i emp)) := hcl37 3 H36 rfl
          have H39 : St W w23 (imi (0 < ups.length) gA11 (.cells kA13 eA14 zA15) :: blk g (.cells #[.int .i64 op.v, .slice pp2 ups.length cc3, .slice pp4 has.length cc5, .int .i64 ph] 115 (0, 0)) :: Im 1 (.slice pp2 ups.length cc3) ups.length (ups.flatMap i64c) :: Row 4 1 (.slice pp4 has.length cc5) has.length (has.flatMap blc) :: (F.set i emp)) := ((((H38.move 3 rfl).move 3 rfl).move 3 rfl).move 3 rfl)
          exact nx25 (j + 1, a) _ _ ⟨(by omega), (at_step hat hc27), H39⟩ (by first | (dsimp only; omega) | omega) ⟨by first | rfl | exact vint (by omega), by first | rfl | exact vint (by omega), by first | rfl | exact vint (by omega), by first | rfl | exact vint (by omega), congrArg Value.bool (by rw [oth_ne hc27, hb29]; rfl), by first | rfl | exact vint (by omega), by first | rfl | exact vint (by omega), trivial⟩
        · have hb29 := eq_false_of_ne_true hb29
          refine r_cons (r_pass rfl (congrArg some hb29) rfl rfl rfl ?_)
          refine r_cons (r_pass rfl (congrArg some hb29) rfl rfl rfl ?_)
          refine r_cons (r_pass rfl (congrArg some hb29) rfl rfl rfl ?_)
          refine r_cons (r_pass rfl (congrArg some hb29) rfl rfl rfl ?_)
          refine r_cons (r_pass rfl (congrArg some hb29) rfl rfl rfl ?_)
          refine r_cons (r_pass rfl (congrArg some hb29) rfl rfl rfl ?_)
          refine r_cons (r_pass rfl (congrArg some hb29) rfl rfl rfl ?_)
          refine r_cons (s_pick_f (.bool false) (by exact congrArg Value.bool hb29) rfl rfl ?_)
          refine r_cons (s_assign (.bool false) rfl rfl ?_)
          refine r_nil ?_
          refine g_inBlock ?_
          refine g_region ?_
          refine r_cons (s_move (.int .i64 (j : Int)) rfl rfl ?_)
          refine r_cons (s_add ((j : Int) + 1) rfl rfl (wi64 (by omega)) rfl ?_)
          refine r_cons (s_assign (.int .i64 ((j : Int) + 1)) rfl rfl ?_)
          refine r_nil ?_
          have H40 : St W w23 (imi (0 < ups.length) gA11 (.cells kA13 eA14 zA15) :: blk g (.cells #[.int .i64 op.v, .slice pp2 ups.length cc3, .slice pp4 has.length cc5, .int .i64 ph] 115 (0, 0)) :: Im 1 (.slice pp2 ups.length cc3) ups.length (ups.flatMap i64c) :: Row 4 1 (.slice pp4 has.length cc5) has.length (has.flatMap blc) :: (F.set i emp)) := ((((H24.move 3 rfl).move 3 rfl).move 3 rfl).move 3 rfl)
          exact nx25 (j + 1, a) _ _ ⟨(by omega), (at_step hat hc27), H40⟩ (by first | (dsimp only; omega) | omega) ⟨by first | rfl | exact vint (by omega), by first | rfl | exact vint (by omega), by first | rfl | exact vint (by omega), by first | rfl | exact vint (by omega), congrArg Value.bool (by rw [oth_ne hc27, hb29]; rfl), by first | rfl | exact vint (by omega), by first | rfl | exact vint (by omega), trivial⟩
    · skip
      refine r_cons (s_lss false rfl rfl (dfalse hc26) rfl ?_)
      refine r_nil ?_
      refine g_false rfl ?_
      refine g_exit (by rfl) ?_
      refine g_seq ?_
      refine g_seq ?_
      refine g_region ?_
      refine r_cons (s_move (.int .i64 a) rfl rfl ?_)
      by_cases hc41 : a < 0
      · skip
        refine r_cons (s_lss true rfl rfl (dtrue hc41) rfl ?_)
        refine r_nil ?_
        refine g_true rfl ?_
        refine g_seq ?_
        refine g_region ?_
        refine r_cons (s_assign (.bool false) rfl rfl ?_)
        refine r_cons (s_assign (.int .i64 4) rfl rfl ?_)
        refine r_nil ?_
        refine g_ret' [.bool false, .int .i64 4] Try.func53 Try.results53 ⟨rfl, rfl, trivial⟩ ?_
        have H42 : St W w23 (blk g (.cells #[.int .i64 op.v, .slice pp2 ups.length cc3, .slice pp4 has.length cc5, .int .i64 ph] 115 (0, 0)) :: Im 1 (.slice pp2 ups.length cc3) ups.length (ups.flatMap i64c) :: Row 4 1 (.slice pp4 has.length cc5) has.length (has.flatMap blc) :: imi (0 < ups.length) gA11 (.cells kA13 eA14 zA15) :: (F.set i emp)) := (((H24.move 3 rfl).move 3 rfl).move 3 rfl)
        have H43 : St W w23 (RvA g op ups has ph :: imi (0 < ups.length) gA11 (.cells kA13 eA14 zA15) :: (F.set i emp)) := St.shut_ex ((pp2, cc3), (pp4, cc5)) (St.shut_star (ls := [blk g (.cells #[.int .i64 op.v, .slice pp2 ups.length cc3, .slice pp4 has.length cc5, .int .i64 ph] 115 (0, 0)), Im 1 (.slice pp2 ups.length cc3) ups.length (ups.flatMap i64c), Row 4 1 (.slice pp4 has.length cc5) has.length (has.flatMap blc)]) H42)
        have H44 : St W w23 (RvA g op ups has ph :: (F.set i emp)) := (H43.drop 1 rfl)
        obtain ⟨q1, q2, q3, q4⟩ := rm_4 (ups := ups) (has := has) (n := n) (ph := ph) (fun i_ hi_ => by rcases hat with ⟨_, h⟩ | ⟨q_, h, _⟩ <;> first | exact h _ (by omega) | omega)
        exact ⟨by rw [q1, q3]; rfl, by rw [q2, q4]; exact St.back hi H44⟩
      · skip
        refine r_cons (s_lss false rfl rfl (dfalse hc41) rfl ?_)
        refine r_nil ?_
        refine g_false rfl ?_
        refine g_skip ?_
        refine g_seq ?_
        refine g_seq ?_
        refine g_region ?_
        obtain ⟨ia, rfl, hia, hau⟩ : ∃ i : Nat, a = (i : Int) ∧ i < j ∧ (ups.getD i default).v = n.v := by rcases hat with ⟨h, _⟩ | h <;> first | omega | exact h
        obtain ⟨bk45, cur46, hp47, h48, h49, h50, h51, h52, H53⟩ := Row.open2 H24 (i := 3) rfl (by omega)
        refine r_cons (s_move (.pointer (some ⟨g, 0, none⟩)) rfl rfl ?_)
        refine r_cons (s_nilCheck (.pointer (some ⟨g, 0, none⟩)) rfl ⟨_, rfl⟩ rfl ?_)
        refine r_cons (s_fieldAddr 115 2 2 2 113 rfl fi_115_2 rfl rfl ?_)
        refine r_cons (s_load (.slice pp4 has.length cc5) ag_113 rfl (H53.blk_at (i := 1) rfl) rfl rfl ?_)
        refine r_cons (s_move (.int .i64 (ia : Int)) rfl rfl ?_)
        refine r_cons (s_indexAddr bk45 (off := 0) (ia : Int) 1 (0 + ia * 1) (by exact congrArg (fun z_ => Value.slice z_ has.length cc5) ((fun (_ : 0 < 1) => hp47) (by omega))) rfl el_113 (by omega) rfl rfl ?_)
        refine r_cons (s_load (.bool (has.getD ia false)) ag_4 rfl (H53.blk_at (i := 3) rfl) (elem_cell (L := has) (i := ia) blc_len (by rw [(rfl : has.length = has.length)]; exact h51) (by have hh : has.length = has.length := (rfl : has.length = has.length); omega) false 0 (by decide) _ rfl) rfl ?_)
        refine r_nil ?_
        by_cases hb54 : (has.getD ia false) = true
        · skip
          refine g_true (congrArg Value.bool hb54) ?_
          refine g_seq ?_
          refine g_region ?_
          refine r_cons (s_assign (.bool false) rfl rfl ?_)
          refine r_cons (s_assign (.int .i64 5) rfl rfl ?_)
          refine r_nil ?_
          refine g_ret' [.bool false, .int .i64 5] Try.func53 Try.results53 ⟨rfl, rfl, trivial⟩ ?_
          have H55 := Row.shut2 (p := pp4) (n := has.length) (c := cc5) (size := 1) (xs := has.flatMap blc) H53 (i := 3) rfl hp47 h48 h49 h50 (by have hh : (cur46.toList.drop 0).take (has.length * 1) = has.flatMap blc := (by rw [(rfl : has.length = has.length)]; exact h51); have hk : has.length = has.length := (rfl : has.length = has.length); rw [hk] at hh; exact hh) (one_bl _)
          have H56 : St W w23 (blk g (.cells #[.int .i64 op.v, .slice pp2 ups.length cc3, .slice pp4 has.length cc5, .int .i64 ph] 115 (0, 0)) :: Im 1 (.slice pp2 ups.length cc3) ups.length (ups.flatMap i64c) :: Row 4 1 (.slice pp4 has.length cc5) has.length (has.flatMap blc) :: imi (0 < ups.length) gA11 (.cells kA13 eA14 zA15) :: (F.set i emp)) := (((H55.move 3 rfl).move 3 rfl).move 3 rfl)
          have H57 : St W w23 (RvA g op ups has ph :: imi (0 < ups.length) gA11 (.cells kA13 eA14 zA15) :: (F.set i emp)) := St.shut_ex ((pp2, cc3), (pp4, cc5)) (St.shut_star (ls := [blk g (.cells #[.int .i64 op.v, .slice pp2 ups.length cc3, .slice pp4 has.length cc5, .int .i64 ph] 115 (0, 0)), Im 1 (.slice pp2 ups.length cc3) ups.length (ups.flatMap i64c), Row 4 1 (.slice pp4 has.length cc5) has.length (has.flatMap blc)]) H56)
          have H58 : St W w23 (RvA g op ups has ph :: (F.set i emp)) := (H57.drop 1 rfl)
          obtain ⟨q1, q2, q3, q4⟩ := rm_5 (ph := ph) hnd (show ia < ups.length by omega) hau (by assumption)
          exact ⟨by rw [q1, q3]; rfl, by rw [q2, q4]; exact St.back hi H58⟩
        · have hb54 := eq_false_of_ne_true hb54
          refine g_false (congrArg Value.bool hb54) ?_
          refine g_skip ?_
          refine g_seq ?_
          refine g_region ?_
          refine r_cons (s_move (.pointer (some ⟨g, 0, none⟩)) rfl rfl ?_)
          refine r_cons (s_nilCheck (.pointer (some ⟨g, 0, none⟩)) rfl ⟨_, rfl⟩ rfl ?_)
          refine r_cons (s_fieldAddr 115 2 2 2 113 rfl fi_115_2 rfl rfl ?_)
          refine r_cons (s_load (.slice pp4 has.length cc5) ag_113 rfl (H53.blk_at (i := 1) rfl) rfl rfl ?_)
          refine r_cons (s_move (.int .i64 (ia : Int)) rfl rfl ?_)
          refine r_cons (s_indexAddr bk45 (off := 0) (ia : Int) 1 (0 + ia * 1) (by exact congrArg (fun z_ => Value.slice z_ has.length cc5) ((fun (_ : 0 < 1) => hp47) (by omega))) rfl el_113 (by omega) rfl rfl ?_)
          have hx61 := row_set1 (f := blc) (L := has) (cur := cur46) blc_len (by rw [(rfl : has.length = has.length)]; exact h51) (show has.length * 1 ≤ cur46.size by rw [(rfl : has.length = has.length), h50]; exact Nat.mul_le_mul_right 1 h48) (j := ia) (by have hh := (rfl : has.length = has.length); omega) false (.bool true) (true) (rfl)
          refine r_cons (s_store H53 3 (.bool true) rfl rfl rfl sz_4 rfl (by have hh := (rfl : has.length = has.length); have hk := (show has.length * 1 ≤ cur46.size by rw [(rfl : has.length = has.length), h50]; exact Nat.mul_le_mul_right 1 h48); omega) rfl (cs' := (cur46.setIfInBounds (0 + ia * 1) (.bool true))) rfl ?_); intro w59 H60
          refine r_nil ?_
          refine g_seq ?_
          refine g_seq ?_
          refine g_region ?_
          refine r_cons (s_move (.bool (othersB ups has n j)) rfl rfl ?_)
          refine r_nil ?_
          by_cases hb62 : (othersB ups has n j) = true
          · skip
            refine g_true (congrArg Value.bool hb62) ?_
            refine g_region ?_
            refine r_cons (s_move (.pointer (some ⟨g, 0, none⟩)) rfl rfl ?_)
            refine r_cons (s_nilCheck (.pointer (some ⟨g, 0, none⟩)) rfl ⟨_, rfl⟩ rfl ?_)
            refine r_cons (s_fieldAddr 115 3 3 3 3 rfl fi_115_3 rfl rfl ?_)
            refine r_cons (s_store H60 1 (.int .i64 2) rfl rfl rfl sz_3 rfl (Nat.le_of_ble_eq_true rfl) rfl (cs' := #[.int .i64 op.v, .slice pp2 ups.length cc3, .slice pp4 has.length cc5, .int .i64 2]) rfl ?_); intro w63 H64
            refine r_nil ?_
            refine g_seq ?_
            refine g_region ?_
            refine r_cons (s_move (.bool (othersB ups has n j)) rfl rfl ?_)
            refine r_cons (s_assign (.bool (othersB ups has n j)) rfl rfl ?_)
            refine r_cons (s_assign (.int .i64 0) rfl rfl ?_)
            refine r_nil ?_
            refine g_ret' [.bool (othersB ups has n j), .int .i64 0] Try.func53 Try.results53 ⟨rfl, rfl, trivial⟩ ?_
            have H65 := Row.shut2 (p := pp4) (n := has.length) (c := cc5) (size := 1) (xs := (has.set ia true).flatMap blc) H64 (i := 3) rfl hp47 h48 h49 (show ((cur46.setIfInBounds (0 + ia * 1) (.bool true))).size = cc5 * 1 from by rw [Array.size_setIfInBounds]; exact h50) (by have hh : ((cur46.setIfInBounds (0 + ia * 1) (.bool true)).toList.drop 0).take ((has.set ia true).length * 1) = (has.set ia true).flatMap blc := hx61; have hk : (has.set ia true).length = has.length := (show (has.set ia true).length = has.length from by first | (rw [List.length_set]; exact (rfl : has.length = has.length)) | rw [List.length_set]); rw [hk] at hh; exact hh) (one_bl _)
            obtain rfl : j = ups.length := by omega
            obtain ⟨q1, q2, q3⟩ := rm_0 (has := has) hnd (show ia < ups.length by omega) hau (by assumption)
            have q5 : rmAll ups has n = true := by rw [q3]; exact hb62
            have q4 : rmP ups has n ph = 2 := by unfold rmP; rw [q5]; rfl
            have H66 : St W w63 (imi (0 < ups.length) gA11 (.cells kA13 eA14 zA15) :: blk g (.cells #[.int .i64 op.v, .slice pp2 ups.length cc3, .slice pp4 ((rmHas ups has n).length) cc5, .int .i64 2] 115 (0, 0)) :: Im 1 (.slice pp2 ups.length cc3) ups.length (ups.flatMap i64c) :: Row 4 1 (.slice pp4 ((rmHas ups has n).length) cc5) ((rmHas ups has n).length) ((rmHas ups has n).flatMap blc) :: (F.set i emp)) := by rw [q2, List.length_set]; exact H65
            have H67 : St W w63 (blk g (.cells #[.int .i64 op.v, .slice pp2 ups.length cc3, .slice pp4 ((rmHas ups has n).length) cc5, .int .i64 2] 115 (0, 0)) :: Im 1 (.slice pp2 ups.length cc3) ups.length (ups.flatMap i64c) :: Row 4 1 (.slice pp4 ((rmHas ups has n).length) cc5) ((rmHas ups has n).length) ((rmHas ups has n).flatMap blc) :: imi (0 < ups.length) gA11 (.cells kA13 eA14 zA15) :: (F.set i emp)) := (((H66.move 3 rfl).move 3 rfl).move 3 rfl)
            have H68 : St W w63 (RvA g op ups (rmHas ups has n) 2 :: imi (0 < ups.length) gA11 (.cells kA13 eA14 zA15) :: (F.set i emp)) := St.shut_ex ((pp2, cc3), (pp4, cc5)) (St.shut_star (ls := [blk g (.cells #[.int .i64 op.v, .slice pp2 ups.length cc3, .slice pp4 ((rmHas ups has n).length) cc5, .int .i64 2] 115 (0, 0)), Im 1 (.slice pp2 ups.length cc3) ups.length (ups.flatMap i64c), Row 4 1 (.slice pp4 ((rmHas ups has n).length) cc5) ((rmHas ups has n).length) ((rmHas ups has n).flatMap blc)]) H67)
            have H69 : St W w63 (RvA g op ups (rmHas ups has n) 2 :: (F.set i emp)) := (H68.drop 1 rfl)
            exact ⟨by rw [q1, q3]; rfl, by rw [q4]; exact St.back hi H69⟩
          · have hb62 := eq_false_of_ne_true hb62
            refine g_false (congrArg Value.bool hb62) ?_
            refine g_skip ?_
            refine g_seq ?_
            refine g_region ?_
            refine r_cons (s_move (.bool (othersB ups has n j)) rfl rfl ?_)
            refine r_cons (s_assign (.bool (othersB ups has n j)) rfl rfl ?_)
            refine r_cons (s_assign (.int .i64 0) rfl rfl ?_)
            refine r_nil ?_
            refine g_ret' [.bool (othersB ups has n j), .int .i64 0] Try.func53 Try.results53 ⟨rfl, rfl, trivial⟩ ?_
            have H70 := Row.shut2 (p := pp4) (n := has.length) (c := cc5) (size := 1) (xs := (has.set ia true).flatMap blc) H60 (i := 3) rfl hp47 h48 h49 (show ((cur46.setIfInBounds (0 + ia * 1) (.bool true))).size = cc5 * 1 from by rw [Array.size_setIfInBounds]; exact h50) (by have hh : ((cur46.setIfInBounds (0 + ia * 1) (.bool true)).toList.drop 0).take ((has.set ia true).length * 1) = (has.set ia true).flatMap blc := hx61; have hk : (has.set ia true).length = has.length := (show (has.set ia true).length = has.length from by first | (rw [List.length_set]; exact (rfl : has.length = has.length)) | rw [List.length_set]); rw [hk] at hh; exact hh) (one_bl _)
            obtain rfl : j = ups.length := by omega
            obtain ⟨q1, q2, q3⟩ := rm_0 (has := has) hnd (show ia < ups.length by omega) hau (by assumption)
            have q5 : rmAll ups has n = false := by rw [q3]; exact hb62
            have q4 : rmP ups has n ph = ph := by unfold rmP; rw [q5]; rfl
            have H71 : St W w59 (imi (0 < ups.length) gA11 (.cells kA13 eA14 zA15) :: blk g (.cells #[.int .i64 op.v, .slice pp2 ups.length cc3, .slice pp4 ((rmHas ups has n).length) cc5, .int .i64 ph] 115 (0, 0)) :: Im 1 (.slice pp2 ups.length cc3) ups.length (ups.flatMap i64c) :: Row 4 1 (.slice pp4 ((rmHas ups has n).length) cc5) ((rmHas ups has n).length) ((rmHas ups has n).flatMap blc) :: (F.set i emp)) := by rw [q2, List.length_set]; exact H70
            have H72 : St W w59 (blk g (.cells #[.int .i64 op.v, .slice pp2 ups.length cc3, .slice pp4 ((rmHas ups has n).length) cc5, .int .i64 ph] 115 (0, 0)) :: Im 1 (.slice pp2 ups.length cc3) ups.length (ups.flatMap i64c) :: Row 4 1 (.slice pp4 ((rmHas ups has n).length) cc5) ((rmHas ups has n).length) ((rmHas ups has n).flatMap blc) :: imi (0 < ups.length) gA11 (.cells kA13 eA14 zA15) :: (F.set i emp)) := (((H71.move 3 rfl).move 3 rfl).move 3 rfl)
            have H73 : St W w59 (RvA g op ups (rmHas ups has n) ph :: imi (0 < ups.length) gA11 (.cells kA13 eA14 zA15) :: (F.set i emp)) := St.shut_ex ((pp2, cc3), (pp4, cc5)) (St.shut_star (ls := [blk g (.cells #[.int .i64 op.v, .slice pp2 ups.length cc3, .slice pp4 ((rmHas ups has n).length) cc5, .int .i64 ph] 115 (0, 0)), Im 1 (.slice pp2 ups.length cc3) ups.length (ups.flatMap i64c), Row 4 1 (.slice pp4 ((rmHas ups has n).length) cc5) ((rmHas ups has n).length) ((rmHas ups has n).flatMap blc)]) H72)
            have H74 : St W w59 (RvA g op ups (rmHas ups has n) ph :: (F.set i emp)) := (H73.drop 1 rfl)
            exact ⟨by rw [q1, q3]; rfl, by rw [q4]; exact St.back hi H74⟩
set_option maxHeartbeats 4000000 in
set_option maxRecDepth 100000 in
theorem Rv_Landed {W w : World} {F : List Atom} (g : Nat) (op : I64) (ups : List I64) (has : List Bool) (ph : Int)  {i : Nat} (hi : F[i]? = some (RvA g op ups has ph)) (H : St W w F) : Calls Try.prog 55 #[.pointer (some ⟨g, 0, none⟩)] w (Ret fun v w' => v = .int .i64 (if ph = 3 then 0 else 241) ∧ St W w' (F.set i (RvA g op ups has (if ph = 3 then 4 else ph)))) := by
  have H0 := H.front hi
  refine calls_of_go (n := 11) Try.func55 rfl Try.ntmps55 rfl ?_
  refine g_seq ?_
  refine g_region ?_
  refine r_cons (s_assign (.int .i64 0) rfl rfl ?_)
  refine r_nil ?_
  refine g_seq ?_
  refine g_seq ?_
  refine g_region ?_
  refine r_cons (s_move (.pointer (some ⟨g, 0, none⟩)) rfl rfl ?_)
  refine r_cons (s_nilCheck (.pointer (some ⟨g, 0, none⟩)) rfl ⟨_, rfl⟩ rfl ?_)
  refine r_cons (s_fieldAddr 115 3 3 3 3 rfl fi_115_3 rfl rfl ?_)
  have H1 := H0.move 0 rfl
  obtain ⟨⟨⟨pp2, cc3⟩, pp4, cc5⟩, H6⟩ := St.open_ex H1
  have H7 := St.open_star H6
  have H8 : St W w (blk g (.cells #[.int .i64 op.v, .slice pp2 ups.length cc3, .slice pp4 has.length cc5, .int .i64 ph] 115 (0, 0)) :: Im 1 (.slice pp2 ups.length cc3) ups.length (ups.flatMap i64c) :: Row 4 1 (.slice pp4 has.length cc5) has.length (has.flatMap blc) :: (F.set i emp)) := H7
  refine r_cons (s_load (.int .i64 ph) ag_3 rfl (H8.blk_at (i := 0) rfl) rfl rfl ?_)
  by_cases hc9 : ph = 3
  · skip
    refine r_cons (s_neq false rfl rfl (ntrue hc9) rfl ?_)
    refine r_nil ?_
    refine g_false rfl ?_
    refine g_skip ?_
    refine g_seq ?_
    refine g_region ?_
    refine r_cons (s_move (.pointer (some ⟨g, 0, none⟩)) rfl rfl ?_)
    refine r_cons (s_nilCheck (.pointer (some ⟨g, 0, none⟩)) rfl ⟨_, rfl⟩ rfl ?_)
    refine r_cons (s_fieldAddr 115 3 3 3 3 rfl fi_115_3 rfl rfl ?_)
    refine r_cons (s_store H8 0 (.int .i64 4) rfl rfl rfl sz_3 rfl (Nat.le_of_ble_eq_true rfl) rfl (cs' := #[.int .i64 op.v, .slice pp2 ups.length cc3, .slice pp4 has.length cc5, .int .i64 4]) rfl ?_); intro w10 H11
    refine r_nil ?_
    refine g_seq ?_
    refine g_region ?_
    refine r_cons (s_assign (.int .i64 0) rfl rfl ?_)
    refine r_nil ?_
    refine g_ret' [.int .i64 0] Try.func55 Try.results55 ⟨rfl, trivial⟩ ?_
    have H12 : St W w10 (RvA g op ups has 4 :: (F.set i emp)) := St.shut_ex ((pp2, cc3), (pp4, cc5)) (St.shut_star (ls := [blk g (.cells #[.int .i64 op.v, .slice pp2 ups.length cc3, .slice pp4 has.length cc5, .int .i64 4] 115 (0, 0)), Im 1 (.slice pp2 ups.length cc3) ups.length (ups.flatMap i64c), Row 4 1 (.slice pp4 has.length cc5) has.length (has.flatMap blc)]) H11)
    have H13 : St W w10 (RvA g op ups has 4 :: (F.set i emp)) := H12
    have h3 : ph = 3 := by omega
    exact ⟨by rw [if_pos h3]; rfl, by rw [if_pos h3]; exact St.back hi H13⟩
  · skip
    refine r_cons (s_neq true rfl rfl (nfalse hc9) rfl ?_)
    refine r_nil ?_
    refine g_true rfl ?_
    refine g_seq ?_
    refine g_region ?_
    refine r_cons (s_assign (.int .i64 241) rfl rfl ?_)
    refine r_nil ?_
    refine g_ret' [.int .i64 241] Try.func55 Try.results55 ⟨rfl, trivial⟩ ?_
    have H14 : St W w (RvA g op ups has ph :: (F.set i emp)) := St.shut_ex ((pp2, cc3), (pp4, cc5)) (St.shut_star (ls := [blk g (.cells #[.int .i64 op.v, .slice pp2 ups.length cc3, .slice pp4 has.length cc5, .int .i64 ph] 115 (0, 0)), Im 1 (.slice pp2 ups.length cc3) ups.length (ups.flatMap i64c), Row 4 1 (.slice pp4 has.length cc5) has.length (has.flatMap blc)]) H8)
    have H15 : St W w (RvA g op ups has ph :: (F.set i emp)) := H14
    have h3 : ¬ ph = 3 := by omega
    exact ⟨by rw [if_neg h3]; rfl, by rw [if_neg h3]; exact St.back hi H15⟩
set_option maxHeartbeats 4000000 in
set_option maxRecDepth 100000 in
theorem Rv_Send {W w : World} {F : List Atom} (g : Nat) (op : I64) (ups : List I64) (has : List Bool) (ph : Int) (s : List UInt8) (v0 : Value) (hs : s.length ≤ 140737488355328) {j : Nat} (hj : F[j]? = some (Im 1 v0 s.length (s.flatMap u8c))) {i : Nat} (hi : F[i]? = some (RvA g op ups has ph)) (H : St W w F) : Calls Try.prog 54 #[.pointer (some ⟨g, 0, none⟩), v0] w (Ret fun v w' => ∃ (L : List PieceD) (p : Option Addr) (c : Nat), v = .tuple #[.slice p L.length c, .int .i64 (sdE op s ph)] ∧ L.map PieceD.v = sdV op s ph ∧ St W w' (Row 51 4 (.slice p L.length c) L.length (L.flatMap pcCell) :: pcA L :: F.set i (RvA g op ups has (sdP op s ph)))) := by
  obtain ⟨pp1, cc2, rfl, hsh3⟩ := Rd.shape (Im.rd H (i := j) hj)
  have H4 := H.dup (i := j) hj (Im_pers _ _ _ _)
  have hmlH4 := Im.len H4 (i := 0) rfl
  have H5 := H4.front (i := i + 1) (by exact hi)
  have H6 : St W w (RvA g op ups has ph :: Im 1 (.slice pp1 s.length cc2) s.length (s.flatMap u8c) :: (F.set i emp)) := H5
  refine calls_of_go (n := 29) Try.func54 rfl Try.ntmps54 rfl ?_
  refine g_seq ?_
  refine g_region ?_
  refine r_cons (s_assign (.slice none 0 0) rfl rfl ?_)
  refine r_cons (s_assign (.int .i64 0) rfl rfl ?_)
  refine r_nil ?_
  refine g_seq ?_
  refine g_seq ?_
  refine g_region ?_
  refine r_cons (s_move (.pointer (some ⟨g, 0, none⟩)) rfl rfl ?_)
  refine r_cons (s_nilCheck (.pointer (some ⟨g, 0, none⟩)) rfl ⟨_, rfl⟩ rfl ?_)
  refine r_cons (s_fieldAddr 115 3 3 3 3 rfl fi_115_3 rfl rfl ?_)
  have H7 := H6.move 0 rfl
  obtain ⟨⟨⟨pp8, cc9⟩, pp10, cc11⟩, H12⟩ := St.open_ex H7
  have H13 := St.open_star H12
  have H14 : St W w (blk g (.cells #[.int .i64 op.v, .slice pp8 ups.length cc9, .slice pp10 has.length cc11, .int .i64 ph] 115 (0, 0)) :: Im 1 (.slice pp8 ups.length cc9) ups.length (ups.flatMap i64c) :: Row 4 1 (.slice pp10 has.length cc11) has.length (has.flatMap blc) :: Im 1 (.slice pp1 s.length cc2) s.length (s.flatMap u8c) :: (F.set i emp)) := H13
  refine r_cons (s_load (.int .i64 ph) ag_3 rfl (H14.blk_at (i := 0) rfl) rfl rfl ?_)
  by_cases hc15 : ph = 2
  · skip
    refine r_cons (s_neq false rfl rfl (ntrue hc15) rfl ?_)
    refine r_nil ?_
    refine g_false rfl ?_
    refine g_skip ?_
    refine g_seq ?_
    refine g_region ?_
    refine r_cons (s_move (.pointer (some ⟨g, 0, none⟩)) rfl rfl ?_)
    refine r_cons (s_nilCheck (.pointer (some ⟨g, 0, none⟩)) rfl ⟨_, rfl⟩ rfl ?_)
    refine r_cons (s_fieldAddr 115 0 0 0 3 rfl fi_115_0 rfl rfl ?_)
    refine r_cons (s_load (.int .i64 op.v) ag_3 rfl (H14.blk_at (i := 0) rfl) rfl rfl ?_)
    refine r_cons (s_move (.slice pp1 s.length cc2) rfl rfl ?_)
    refine r_cons (s_call [.int .i64 op.v, .slice pp1 s.length cc2] pl_34 rfl rfl (ref24_Cut op s (.slice pp1 s.length cc2) (by omega) (j := 3) rfl H14) ?_)
    rintro _ w20 ⟨L16, pp17, cc18, rfl, hL19, H21⟩
    refine r_cons (s_move (.tuple #[.slice pp17 L16.length cc18, .int .i64 (cutE op s)]) rfl rfl ?_)
    refine r_cons (s_extract (.slice pp17 L16.length cc18) #[.slice pp17 L16.length cc18, .int .i64 (cutE op s)] rfl rfl rfl ?_)
    refine r_cons (s_extract (.int .i64 (cutE op s)) #[.slice pp17 L16.length cc18, .int .i64 (cutE op s)] rfl rfl rfl ?_)
    refine r_cons (s_assign (.slice pp17 L16.length cc18) rfl rfl ?_)
    refine r_cons (s_assign (.int .i64 (cutE op s)) rfl rfl ?_)
    refine r_nil ?_
    refine g_seq ?_
    refine g_seq ?_
    refine g_region ?_
    refine r_cons (s_move (.int .i64 (cutE op s)) rfl rfl ?_)
    by_cases hc22 : cutE op s = 0
    · skip
      refine r_cons (s_eql true rfl rfl (dtrue hc22) rfl ?_)
      refine r_nil ?_
      refine g_true rfl ?_
      refine g_region ?_
      refine r_cons (s_move (.pointer (some ⟨g, 0, none⟩)) rfl rfl ?_)
      refine r_cons (s_nilCheck (.pointer (some ⟨g, 0, none⟩)) rfl ⟨_, rfl⟩ rfl ?_)
      refine r_cons (s_fieldAddr 115 3 3 3 3 rfl fi_115_3 rfl rfl ?_)
      refine r_cons (s_store H21 2 (.int .i64 3) rfl rfl rfl sz_3 rfl (Nat.le_of_ble_eq_true rfl) rfl (cs' := #[.int .i64 op.v, .slice pp8 ups.length cc9, .slice pp10 has.length cc11, .int .i64 3]) rfl ?_); intro w23 H24
      refine r_nil ?_
      refine g_seq ?_
      refine g_region ?_
      refine r_cons (s_move (.slice pp17 L16.length cc18) rfl rfl ?_)
      refine r_cons (s_move (.int .i64 (cutE op s)) rfl rfl ?_)
      refine r_cons (s_assign (.slice pp17 L16.length cc18) rfl rfl ?_)
      refine r_cons (s_assign (.int .i64 (cutE op s)) rfl rfl ?_)
      refine r_nil ?_
      refine g_ret' [.slice pp17 L16.length cc18, .int .i64 (cutE op s)] Try.func54 Try.results54 ⟨rfl, rfl, trivial⟩ ?_
      have H25 : St W w23 (blk g (.cells #[.int .i64 op.v, .slice pp8 ups.length cc9, .slice pp10 has.length cc11, .int .i64 3] 115 (0, 0)) :: Im 1 (.slice pp8 ups.length cc9) ups.length (ups.flatMap i64c) :: Row 4 1 (.slice pp10 has.length cc11) has.length (has.flatMap blc) :: Row 51 4 (.slice pp17 L16.length cc18) L16.length (L16.flatMap pcCell) :: pcA L16 :: Im 1 (.slice pp1 s.length cc2) s.length (s.flatMap u8c) :: (F.set i emp)) := (((H24.move 4 rfl).move 4 rfl).move 4 rfl)
      have H26 : St W w23 (RvA g op ups has 3 :: Row 51 4 (.slice pp17 L16.length cc18) L16.length (L16.flatMap pcCell) :: pcA L16 :: Im 1 (.slice pp1 s.length cc2) s.length (s.flatMap u8c) :: (F.set i emp)) := St.shut_ex ((pp8, cc9), (pp10, cc11)) (St.shut_star (ls := [blk g (.cells #[.int .i64 op.v, .slice pp8 ups.length cc9, .slice pp10 has.length cc11, .int .i64 3] 115 (0, 0)), Im 1 (.slice pp8 ups.length cc9) ups.length (ups.flatMap i64c), Row 4 1 (.slice pp10 has.length cc11) has.length (has.flatMap blc)]) H25)
      have H27 : St W w23 (Row 51 4 (.slice pp17 L16.length cc18) L16.length (L16.flatMap pcCell) :: pcA L16 :: RvA g op ups has 3 :: (F.set i emp)) := (((H26.move 2 rfl).move 2 rfl).drop 3 rfl)
      have H28 : St W w23 (RvA g op ups has 3 :: (Row 51 4 (.slice pp17 L16.length cc18) L16.length (L16.flatMap pcCell) :: pcA L16 :: F).set (i + 2) emp) := (H27.move 2 rfl)
      have h2 : ph = 2 := by omega
      have h0 : cutE op s = 0 := by assumption
      exact ⟨_, _, _, by unfold sdE; rw [if_pos h2]; rfl, by unfold sdV; rw [if_pos h2]; exact hL19, by unfold sdP; rw [if_pos ⟨h2, h0⟩]; exact St.back (i := i + 2) (by exact hi) H28⟩
    · skip
      refine r_cons (s_eql false rfl rfl (dfalse hc22) rfl ?_)
      refine r_nil ?_
      refine g_false rfl ?_
      refine g_skip ?_
      refine g_seq ?_
      refine g_region ?_
      refine r_cons (s_move (.slice pp17 L16.length cc18) rfl rfl ?_)
      refine r_cons (s_move (.int .i64 (cutE op s)) rfl rfl ?_)
      refine r_cons (s_assign (.slice pp17 L16.length cc18) rfl rfl ?_)
      refine r_cons (s_assign (.int .i64 (cutE op s)) rfl rfl ?_)
      refine r_nil ?_
      refine g_ret' [.slice pp17 L16.length cc18, .int .i64 (cutE op s)] Try.func54 Try.results54 ⟨rfl, rfl, trivial⟩ ?_
      have H29 : St W w20 (blk g (.cells #[.int .i64 op.v, .slice pp8 ups.length cc9, .slice pp10 has.length cc11, .int .i64 ph] 115 (0, 0)) :: Im 1 (.slice pp8 ups.length cc9) ups.length (ups.flatMap i64c) :: Row 4 1 (.slice pp10 has.length cc11) has.length (has.flatMap blc) :: Row 51 4 (.slice pp17 L16.length cc18) L16.length (L16.flatMap pcCell) :: pcA L16 :: Im 1 (.slice pp1 s.length cc2) s.length (s.flatMap u8c) :: (F.set i emp)) := (((H21.move 4 rfl).move 4 rfl).move 4 rfl)
      have H30 : St W w20 (RvA g op ups has ph :: Row 51 4 (.slice pp17 L16.length cc18) L16.length (L16.flatMap pcCell) :: pcA L16 :: Im 1 (.slice pp1 s.length cc2) s.length (s.flatMap u8c) :: (F.set i emp)) := St.shut_ex ((pp8, cc9), (pp10, cc11)) (St.shut_star (ls := [blk g (.cells #[.int .i64 op.v, .slice pp8 ups.length cc9, .slice pp10 has.length cc11, .int .i64 ph] 115 (0, 0)), Im 1 (.slice pp8 ups.length cc9) ups.length (ups.flatMap i64c), Row 4 1 (.slice pp10 has.length cc11) has.length (has.flatMap blc)]) H29)
      have H31 : St W w20 (Row 51 4 (.slice pp17 L16.length cc18) L16.length (L16.flatMap pcCell) :: pcA L16 :: RvA g op ups has ph :: (F.set i emp)) := (((H30.move 2 rfl).move 2 rfl).drop 3 rfl)
      have H32 : St W w20 (RvA g op ups has ph :: (Row 51 4 (.slice pp17 L16.length cc18) L16.length (L16.flatMap pcCell) :: pcA L16 :: F).set (i + 2) emp) := (H31.move 2 rfl)
      have h2 : ph = 2 := by omega
      have h0 : ¬ cutE op s = 0 := by assumption
      exact ⟨_, _, _, by unfold sdE; rw [if_pos h2]; rfl, by unfold sdV; rw [if_pos h2]; exact hL19, by unfold sdP; rw [if_neg (fun e => h0 e.2)]; exact St.back (i := i + 2) (by exact hi) H32⟩
  · skip
    refine r_cons (s_neq true rfl rfl (nfalse hc15) rfl ?_)
    refine r_nil ?_
    refine g_true rfl ?_
    refine g_seq ?_
    refine g_region ?_
    refine r_cons (s_assign (.slice none 0 0) rfl rfl ?_)
    refine r_cons (s_assign (.int .i64 241) rfl rfl ?_)
    refine r_nil ?_
    refine g_ret' [.slice none 0 0, .int .i64 241] Try.func54 Try.results54 ⟨rfl, rfl, trivial⟩ ?_
    have H33 := Row.nil_intro H14 51 4
    have H34 := pcA_nil H33
    have H35 : St W w (Row 51 4 (.slice none 0 0) 0 [] :: pcA [] :: blk g (.cells #[.int .i64 op.v, .slice pp8 ups.length cc9, .slice pp10 has.length cc11, .int .i64 ph] 115 (0, 0)) :: Im 1 (.slice pp8 ups.length cc9) ups.length (ups.flatMap i64c) :: Row 4 1 (.slice pp10 has.length cc11) has.length (has.flatMap blc) :: Im 1 (.slice pp1 s.length cc2) s.length (s.flatMap u8c) :: (F.set i emp)) := (H34.move 1 rfl)
    have H36 : St W w (blk g (.cells #[.int .i64 op.v, .slice pp8 ups.length cc9, .slice pp10 has.length cc11, .int .i64 ph] 115 (0, 0)) :: Im 1 (.slice pp8 ups.length cc9) ups.length (ups.flatMap i64c) :: Row 4 1 (.slice pp10 has.length cc11) has.length (has.flatMap blc) :: Row 51 4 (.slice none 0 0) 0 [] :: pcA [] :: Im 1 (.slice pp1 s.length cc2) s.length (s.flatMap u8c) :: (F.set i emp)) := (((H35.move 4 rfl).move 4 rfl).move 4 rfl)
    have H37 : St W w (RvA g op ups has ph :: Row 51 4 (.slice none 0 0) 0 [] :: pcA [] :: Im 1 (.slice pp1 s.length cc2) s.length (s.flatMap u8c) :: (F.set i emp)) := St.shut_ex ((pp8, cc9), (pp10, cc11)) (St.shut_star (ls := [blk g (.cells #[.int .i64 op.v, .slice pp8 ups.length cc9, .slice pp10 has.length cc11, .int .i64 ph] 115 (0, 0)), Im 1 (.slice pp8 ups.length cc9) ups.length (ups.flatMap i64c), Row 4 1 (.slice pp10 has.length cc11) has.length (has.flatMap blc)]) H36)
    have H38 : St W w (Row 51 4 (.slice none 0 0) 0 [] :: pcA [] :: RvA g op ups has ph :: (F.set i emp)) := (((H37.move 2 rfl).move 2 rfl).drop 3 rfl)
    have H39 : St W w (RvA g op ups has ph :: (Row 51 4 (.slice none 0 0) 0 [] :: pcA [] :: F).set (i + 2) emp) := (H38.move 2 rfl)
    have h2 : ¬ ph = 2 := by omega
    exact ⟨[], none, 0, by unfold sdE; rw [if_neg h2]; rfl, by unfold sdV; rw [if_neg h2]; rfl, by unfold sdP; rw [if_neg (fun e => h2 e.1)]; exact St.back (i := i + 2) (by exact hi) H39⟩
set_option maxHeartbeats 4000000 in
set_option maxRecDepth 100000 in
theorem Rv_Missing {W w : World} {F : List Atom} (g : Nat) (op : I64) (ups : List I64) (has : List Bool) (ph : Int) (M K : List I64) (hMR : MR ups has M K) (hul : ups.length ≤ 64) {i : Nat} (hi : F[i]? = some (RvA g op ups has ph)) (H : St W w F) : Calls Try.prog 58 #[.pointer (some ⟨g, 0, none⟩)] w (Ret fun v w' => ∃ p c, v = .slice p ((sortI M).length) c ∧ St W w' (Im 1 (.slice p ((sortI M).length) c) (sortI M).length ((sortI M).flatMap i64c) :: F)) := by
  have H0 := H.front hi
  refine calls_of_go (n := 63) Try.func58 rfl Try.ntmps58 rfl ?_
  refine g_seq ?_
  refine g_region ?_
  refine r_cons (s_assign (.slice none 0 0) rfl rfl ?_)
  refine r_nil ?_
  refine g_seq ?_
  refine g_region ?_
  refine r_cons (s_assign (.slice none 0 0) rfl rfl ?_)
  refine r_nil ?_
  refine g_seq ?_
  refine g_seq ?_
  refine g_region ?_
  refine r_cons (s_assign (.int .i64 0) rfl rfl ?_)
  refine r_nil ?_
  refine g_block ?_
  have H1 := H0.move 0 rfl
  obtain ⟨⟨⟨pp2, cc3⟩, pp4, cc5⟩, H6⟩ := St.open_ex H1
  have H7 := St.open_star H6
  have H8 : St W w (blk g (.cells #[.int .i64 op.v, .slice pp2 ups.length cc3, .slice pp4 has.length cc5, .int .i64 ph] 115 (0, 0)) :: Im 1 (.slice pp2 ups.length cc3) ups.length (ups.flatMap i64c) :: Row 4 1 (.slice pp4 has.length cc5) has.length (has.flatMap blc) :: (F.set i emp)) := H7
  obtain ⟨pA9, cA10, gA11, oA12, kA13, eA14, zA15, he21, hn16, hp17, hx18, hs19, hml, H20⟩ := Im.open_ H8 (i := 1) rfl
  obtain ⟨rfl, rfl⟩ : pp2 = pA9 ∧ cc3 = cA10 := by injection he21 with a_ b_ c_; exact ⟨a_, c_⟩
  have H22 := Row.nil_intro H20 3 1
  refine g_loop_inv (fun (x_ : Nat × (List I64) × (Option Addr) × Nat) => match x_ with | (j, pre, q, c0) => [(0, .pointer (some ⟨g, 0, none⟩)), (2, .slice none 0 0), (3, .slice q pre.length c0), (4, .int .i64 (j : Int))]) (fun (x_ : Nat × (List I64) × (Option Addr) × Nat) w => match x_ with | (j, pre, q, c0) => (j ≤ ups.length) ∧ (pre.Pairwise fun a b => leI a b = true) ∧ (pre.Perm (missU ups has j)) ∧ St W w (Row 3 1 (.slice q pre.length c0) pre.length (pre.flatMap i64c) :: imi (0 < ups.length) gA11 (.cells kA13 eA14 zA15) :: blk g (.cells #[.int .i64 op.v, .slice pp2 ups.length cc3, .slice pp4 has.length cc5, .int .i64 ph] 115 (0, 0)) :: Im 1 (.slice pp2 ups.length cc3) ups.length (ups.flatMap i64c) :: Row 4 1 (.slice pp4 has.length cc5) has.length (has.flatMap blc) :: (F.set i emp))) (fun (x_ : Nat × (List I64) × (Option Addr) × Nat) => match x_ with | (j, pre, q, c0) => ups.length - j) (0, [], none, 0) ?_ ?_ ?_
  · exact ⟨by first | rfl | exact vint (by omega), by first | rfl | exact vint (by omega), by first | rfl | exact vint (by omega), by first | rfl | exact vint (by omega), trivial⟩
  · exact ⟨(by omega), List.Pairwise.nil, (List.Perm.refl _), H22⟩
  · rintro ⟨j, pre, q, c0⟩ ρ23 w24 ⟨hjn, hs, hp, H25⟩ nx26
    change Ends _ _ (upds ρ23 [(0, .pointer (some ⟨g, 0, none⟩)), (2, .slice none 0 0), (3, .slice q pre.length c0), (4, .int .i64 (j : Int))]) w24
    have hpl := missU_le hp
    have hlh := hMR.lh
    refine g_seq ?_
    refine g_seq ?_
    refine g_region ?_
    refine r_cons (s_move (.int .i64 (j : Int)) rfl rfl ?_)
    refine r_cons (s_move (.pointer (some ⟨g, 0, none⟩)) rfl rfl ?_)
    refine r_cons (s_nilCheck (.pointer (some ⟨g, 0, none⟩)) rfl ⟨_, rfl⟩ rfl ?_)
    refine r_cons (s_fieldAddr 115 1 1 1 101 rfl fi_115_1 rfl rfl ?_)
    refine r_cons (s_load (.slice pp2 ups.length cc3) ag_101 rfl (H25.blk_at (i := 2) rfl) rfl rfl ?_)
    refine r_cons (s_len ups.length rfl ⟨_, un_101⟩ rfl ?_)
    by_cases hc27 : (j : Int) < (ups.length : Int)
    · skip
      refine r_cons (s_lss true rfl rfl (dtrue hc27) rfl ?_)
      refine r_nil ?_
      refine g_true rfl ?_
      refine g_skip ?_
      refine g_seq ?_
      refine g_block ?_
      refine g_seq ?_
      refine g_seq ?_
      refine g_region ?_
      refine r_cons (s_move (.pointer (some ⟨g, 0, none⟩)) rfl rfl ?_)
      obtain ⟨bk28, cur29, hp30, hl31, hx32, hs33, H34, hcl35⟩ := Row.openL (f := blc) blc_len (by decide) (L := has) H25 (i := 4) rfl (by omega)
      refine r_cons (s_nilCheck (.pointer (some ⟨g, 0, none⟩)) rfl ⟨_, rfl⟩ rfl ?_)
      refine r_cons (s_fieldAddr 115 2 2 2 113 rfl fi_115_2 rfl rfl ?_)
      refine r_cons (s_load (.slice pp4 has.length cc5) ag_113 rfl (H34.blk_at (i := 2) rfl) rfl rfl ?_)
      refine r_cons (s_move (.int .i64 (j : Int)) rfl rfl ?_)
      refine r_cons (s_indexAddr bk28 (off := 0) (j : Int) 1 (0 + j * 1) (by exact congrArg (fun z_ => Value.slice z_ has.length cc5) ((fun (_ : 0 < 1) => hp30) (by omega))) rfl el_113 (by omega) rfl rfl ?_)
      refine r_cons (s_load (.bool (has.getD j false)) ag_4 rfl (H34.blk_at (i := 4) rfl) (elem_cell (L := has) (i := j) blc_len hx32 (by have hh : has.length = has.length := hl31; omega) false 0 (by decide) _ rfl) rfl ?_)
      refine r_nil ?_
      by_cases hb36 : (has.getD j false) = true
      · skip
        refine g_true (congrArg Value.bool hb36) ?_
        refine g_exit (by rfl) ?_
        refine g_region ?_
        refine r_cons (s_move (.int .i64 (j : Int)) rfl rfl ?_)
        refine r_cons (s_add ((j : Int) + 1) rfl rfl (wi64 (by omega)) rfl ?_)
        refine r_cons (s_assign (.int .i64 ((j : Int) + 1)) rfl rfl ?_)
        refine r_nil ?_
        have H37 : St W w24 (Row 3 1 (.slice q pre.length c0) pre.length (pre.flatMap i64c) :: imi (0 < ups.length) gA11 (.cells kA13 eA14 zA15) :: blk g (.cells #[.int .i64 op.v, .slice pp2 ups.length cc3, .slice pp4 has.length cc5, .int .i64 ph] 115 (0, 0)) :: Im 1 (.slice pp2 ups.length cc3) ups.length (ups.flatMap i64c) :: Row 4 1 (.slice pp4 has.length cc5) has.length (has.flatMap blc) :: (F.set i emp)) := hcl35 4 H34 rfl
        have H38 : St W w24 (Row 3 1 (.slice q pre.length c0) pre.length (pre.flatMap i64c) :: imi (0 < ups.length) gA11 (.cells kA13 eA14 zA15) :: blk g (.cells #[.int .i64 op.v, .slice pp2 ups.length cc3, .slice pp4 has.length cc5, .int .i64 ph] 115 (0, 0)) :: Im 1 (.slice pp2 ups.length cc3) ups.length (ups.flatMap i64c) :: Row 4 1 (.slice pp4 has.length cc5) has.length (has.flatMap blc) :: (F.set i emp)) := (((((H37.move 4 rfl).move 4 rfl).move 4 rfl).move 4 rfl).move 4 rfl)
        exact nx26 (j + 1, pre, q, c0) _ _ ⟨(by omega), hs, (by rw [missU_succ, if_pos hb36]; exact hp), H38⟩ (by first | (dsimp only; omega) | omega) ⟨by first | rfl | exact vint (by omega), by first | rfl | exact vint (by omega), by first | rfl | exact vint (by omega), by first | rfl | exact vint (by omega), trivial⟩
      · have hb36 := eq_false_of_ne_true hb36
        refine g_false (congrArg Value.bool hb36) ?_
        refine g_skip ?_
        refine g_seq ?_
        refine g_region ?_
        refine r_cons (s_move (.slice q pre.length c0) rfl rfl ?_)
        have H39 : St W w24 (Row 3 1 (.slice q pre.length c0) pre.length (pre.flatMap i64c) :: imi (0 < ups.length) gA11 (.cells kA13 eA14 zA15) :: blk g (.cells #[.int .i64 op.v, .slice pp2 ups.length cc3, .slice pp4 has.length cc5, .int .i64 ph] 115 (0, 0)) :: Im 1 (.slice pp2 ups.length cc3) ups.length (ups.flatMap i64c) :: Row 4 1 (.slice pp4 has.length cc5) has.length (has.flatMap blc) :: (F.set i emp)) := hcl35 4 H34 rfl
        have H40 : St W w24 (Im 1 (.slice q pre.length c0) pre.length (pre.flatMap i64c) :: imi (0 < ups.length) gA11 (.cells kA13 eA14 zA15) :: blk g (.cells #[.int .i64 op.v, .slice pp2 ups.length cc3, .slice pp4 has.length cc5, .int .i64 ph] 115 (0, 0)) :: Im 1 (.slice pp2 ups.length cc3) ups.length (ups.flatMap i64c) :: Row 4 1 (.slice pp4 has.length cc5) has.length (has.flatMap blc) :: (F.set i emp)) := Row.im H39 (i := 0) rfl
        obtain ⟨pA41, cA42, gA43, oA44, kA45, eA46, zA47, he53, hn48, hp49, hx50, hs51, hml, H52⟩ := Im.open_ H40 (i := 0) rfl
        obtain ⟨rfl, rfl⟩ : q = pA41 ∧ c0 = cA42 := by injection he53 with a_ b_ c_; exact ⟨a_, c_⟩
        refine r_cons (s_len pre.length rfl ⟨_, un_101⟩ rfl ?_)
        refine r_cons (s_assign (.int .i64 (pre.length : Int)) rfl rfl ?_)
        refine r_nil ?_
        refine g_seq ?_
        refine g_block ?_
        refine g_loop_inv (fun (x_ : Nat) => match x_ with | k => [(0, .pointer (some ⟨g, 0, none⟩)), (2, .slice none 0 0), (3, .slice q pre.length c0), (4, .int .i64 (j : Int)), (5, .int .i64 (k : Int))]) (fun (x_ : Nat) w => match x_ with | k => (k ≤ pre.length) ∧ (∀ q, k ≤ q → q < pre.length → (ups.getD j default).v < (pre.getD q default).v) ∧ St W w (imi (0 < pre.length) gA43 (.cells kA45 eA46 zA47) :: Im 1 (.slice q pre.length c0) pre.length (pre.flatMap i64c) :: imi (0 < ups.length) gA11 (.cells kA13 eA14 zA15) :: blk g (.cells #[.int .i64 op.v, .slice pp2 ups.length cc3, .slice pp4 has.length cc5, .int .i64 ph] 115 (0, 0)) :: Im 1 (.slice pp2 ups.length cc3) ups.length (ups.flatMap i64c) :: Row 4 1 (.slice pp4 has.length cc5) has.length (has.flatMap blc) :: (F.set i emp))) (fun (x_ : Nat) => match x_ with | k => k) (pre.length) ?_ ?_ ?_
        · exact ⟨by first | rfl | exact vint (by omega), by first | rfl | exact vint (by omega), by first | rfl | exact vint (by omega), by first | rfl | exact vint (by omega), by first | rfl | exact vint (by omega), trivial⟩
        · exact ⟨(Nat.le_refl _), (fun q h1 h2 => by omega), H52⟩
        · rintro k ρ54 w55 ⟨hkl, hgt, H56⟩ nx57
          change Ends _ _ (upds ρ54 [(0, .pointer (some ⟨g, 0, none⟩)), (2, .slice none 0 0), (3, .slice q pre.length c0), (4, .int .i64 (j : Int)), (5, .int .i64 (k : Int))]) w55
          refine g_seq ?_
          refine g_seq ?_
          refine g_quiet (fun w' => St W w' (imi (0 < pre.length) gA43 (.cells kA45 eA46 zA47) :: Im 1 (.slice q pre.length c0) pre.length (pre.flatMap i64c) :: imi (0 < ups.length) gA11 (.cells kA13 eA14 zA15) :: blk g (.cells #[.int .i64 op.v, .slice pp2 ups.length cc3, .slice pp4 has.length cc5, .int .i64 ph] 115 (0, 0)) :: Im 1 (.slice pp2 ups.length cc3) ups.length (ups.flatMap i64c) :: Row 4 1 (.slice pp4 has.length cc5) has.length (has.flatMap blc) :: (F.set i emp))) mixed (by kernel_rfl) H56.drew ?_
          refine q_cons (q_val rfl rfl rfl (by intro w hw; exact x_move (.int .i64 (k : Int)) rfl w) ?_)
          by_cases hc58 : (0 : Int) < (k : Int)
          · skip
            refine q_cons (q_val rfl rfl rfl (by intro w hw; exact x_gtr true rfl rfl (dtrue hc58) w) ?_)
            refine q_cons (q_val rfl rfl rfl (by intro w hw; exact x_move (.bool true) rfl w) ?_)
            refine q_cons (q_take rfl rfl ?_)
            refine q_val rfl rfl rfl (by intro w hw; exact x_move (.slice q pre.length c0) rfl w) ?_
            refine q_cons (q_take rfl rfl ?_)
            refine q_val rfl rfl rfl (by intro w hw; exact x_move (.int .i64 (k : Int)) rfl w) ?_
            refine q_cons (q_take rfl rfl ?_)
            refine q_val rfl rfl rfl (by intro w hw; exact x_sub ((k : Int) - 1) rfl rfl (wi64 (by omega)) w) ?_
            refine q_cons (q_take rfl rfl ?_)
            refine q_val rfl rfl rfl (by intro w hw; exact x_indexAddr gA43 (off := oA44) ((k : Int) - 1) 1 (oA44 + (k - 1) * 1) (by exact congrArg (fun z_ => Value.slice z_ pre.length c0) (hp49 (by omega))) rfl el_101 (by omega) (by rw [show ((k : Int) - 1 : Int).toNat = k - 1 from by omega]) w) ?_
            refine q_cons (q_take rfl rfl ?_)
            refine q_val rfl rfl rfl (by intro w hw; exact x_load (.int .i64 ((pre.getD (k - 1) default).v)) ag_3 rfl (hw.imi_at (i := 0) rfl (by omega)) (elem_cell (L := pre) (i := k - 1) i64c_len (hx50 (by omega)) (by omega) default 0 (by decide) _ rfl)) ?_
            refine q_cons (q_take rfl rfl ?_)
            refine q_val rfl rfl rfl (by intro w hw; exact x_move (.pointer (some ⟨g, 0, none⟩)) rfl w) ?_
            refine q_cons (q_take rfl rfl ?_)
            refine q_val rfl rfl rfl (by intro w hw; exact x_nilCheck (.pointer (some ⟨g, 0, none⟩)) rfl ⟨_, rfl⟩ w) ?_
            refine q_cons (q_take rfl rfl ?_)
            refine q_val rfl rfl rfl (by intro w hw; exact x_fieldAddr 115 1 1 1 101 rfl fi_115_1 rfl w) ?_
            refine q_cons (q_take rfl rfl ?_)
            refine q_val rfl rfl rfl (by intro w hw; exact x_load (.slice pp2 ups.length cc3) ag_101 rfl (hw.blk_at (i := 3) rfl) rfl) ?_
            refine q_cons (q_take rfl rfl ?_)
            refine q_val rfl rfl rfl (by intro w hw; exact x_move (.int .i64 (j : Int)) rfl w) ?_
            refine q_cons (q_take rfl rfl ?_)
            refine q_val rfl rfl rfl (by intro w hw; exact x_indexAddr gA11 (off := oA12) (j : Int) 1 (oA12 + j * 1) (by exact congrArg (fun z_ => Value.slice z_ ups.length cc3) (hp17 (by omega))) rfl el_101 (by omega) rfl w) ?_
            refine q_cons (q_take rfl rfl ?_)
            refine q_val rfl rfl rfl (by intro w hw; exact x_load (.int .i64 ((ups.getD j default).v)) ag_3 rfl (hw.imi_at (i := 2) rfl (by omega)) (elem_cell (L := ups) (i := j) i64c_len (hx18 (by omega)) (by omega) default 0 (by decide) _ rfl)) ?_
            refine q_cons (q_take rfl rfl ?_)
            by_cases hc59 : (ups.getD j default).v < (pre.getD (k - 1) default).v
            · skip
              refine q_val rfl rfl rfl (by intro w hw; exact x_gtr true rfl rfl (dtrue hc59) w) ?_
              refine q_cons (q_val rfl rfl rfl (by intro w hw; exact x_pick_t (.bool true) rfl rfl w) ?_)
              refine q_nil ?_
              intro w60 H61
              refine g_true rfl ?_
              refine g_skip ?_
              refine g_block ?_
              refine g_region ?_
              refine r_cons (s_move (.int .i64 (k : Int)) rfl rfl ?_)
              refine r_cons (s_sub ((k : Int) - 1) rfl rfl (wi64 (by omega)) rfl ?_)
              refine r_cons (s_assign (.int .i64 ((k : Int) - 1)) rfl rfl ?_)
              refine r_nil ?_
              refine g_inBlock ?_
              have H62 : St W w60 (imi (0 < pre.length) gA43 (.cells kA45 eA46 zA47) :: Im 1 (.slice q pre.length c0) pre.length (pre.flatMap i64c) :: imi (0 < ups.length) gA11 (.cells kA13 eA14 zA15) :: blk g (.cells #[.int .i64 op.v, .slice pp2 ups.length cc3, .slice pp4 has.length cc5, .int .i64 ph] 115 (0, 0)) :: Im 1 (.slice pp2 ups.length cc3) ups.length (ups.flatMap i64c) :: Row 4 1 (.slice pp4 has.length cc5) has.length (has.flatMap blc) :: (F.set i emp)) := ((((((H61.move 5 rfl).move 5 rfl).move 5 rfl).move 5 rfl).move 5 rfl).move 5 rfl)
              exact nx57 (k - 1) _ _ ⟨(by omega), (gt_step hgt hc59 (by omega)), H62⟩ (by first | (dsimp only; omega) | omega) ⟨by first | rfl | exact vint (by omega), by first | rfl | exact vint (by omega), by first | rfl | exact vint (by omega), by first | rfl | exact vint (by omega), by first | rfl | exact vint (by omega), trivial⟩
            · skip
              refine q_val rfl rfl rfl (by intro w hw; exact x_gtr false rfl rfl (dfalse hc59) w) ?_
              refine q_cons (q_val rfl rfl rfl (by intro w hw; exact x_pick_t (.bool false) rfl rfl w) ?_)
              refine q_nil ?_
              intro w63 H64
              refine g_false rfl ?_
              refine g_exit (by rfl) ?_
              refine g_seq ?_
              refine g_region ?_
              refine r_cons (s_move (.slice q pre.length c0) rfl rfl ?_)
              refine r_cons (s_move (.int .i64 (k : Int)) rfl rfl ?_)
              have hc65 := Im.cap H64 (i := 1) rfl
              refine r_cons (s_slice_h q (k : Int) 1 (.slice q k c0) rfl rfl el_101 (by omega) (by first | rfl | (congr 1; omega)) rfl ?_)
              have H66 : St W w63 (Im 1 (.slice q k c0) k ((pre.take k).flatMap i64c) :: imi (0 < pre.length) gA43 (.cells kA45 eA46 zA47) :: Im 1 (.slice q pre.length c0) pre.length (pre.flatMap i64c) :: imi (0 < ups.length) gA11 (.cells kA13 eA14 zA15) :: blk g (.cells #[.int .i64 op.v, .slice pp2 ups.length cc3, .slice pp4 has.length cc5, .int .i64 ph] 115 (0, 0)) :: Im 1 (.slice pp2 ups.length cc3) ups.length (ups.flatMap i64c) :: Row 4 1 (.slice pp4 has.length cc5) has.length (has.flatMap blc) :: (F.set i emp)) := Im.cut_h i64c_len k H64 (i := 1) rfl (by omega)
              have H67 := Row.nil_intro H66 3 1
              refine r_cons (s_append H67 0 rfl rfl rfl (Im.rd H67 (i := 1) rfl) ap_101 (by decide) (by unfold maxLen; omega) (by omega) (n' := k) (xs' := (pre.take k).flatMap i64c) (by omega) (by first | rfl | simp) rfl ?_); intro vv68 w69 H70 hn71
              obtain ⟨pp72, cc73, rfl⟩ := Row.slice H70 (i := 0) rfl
              refine r_cons (s_assign (.slice pp72 k cc73) rfl rfl ?_)
              refine r_nil ?_
              have H74 : St W w69 (Im 1 (.slice q k c0) k ((pre.take k).flatMap i64c) :: imi (0 < pre.length) gA43 (.cells kA45 eA46 zA47) :: Im 1 (.slice q pre.length c0) pre.length (pre.flatMap i64c) :: imi (0 < ups.length) gA11 (.cells kA13 eA14 zA15) :: blk g (.cells #[.int .i64 op.v, .slice pp2 ups.length cc3, .slice pp4 has.length cc5, .int .i64 ph] 115 (0, 0)) :: Im 1 (.slice pp2 ups.length cc3) ups.length (ups.flatMap i64c) :: Row 4 1 (.slice pp4 has.length cc5) has.length (has.flatMap blc) :: Row 3 1 (.slice pp72 k cc73) k ((pre.take k).flatMap i64c) :: (F.set i emp)) := (((((((H70.move 7 rfl).move 7 rfl).move 7 rfl).move 7 rfl).move 7 rfl).move 7 rfl).move 7 rfl)
              refine g_mix (fun t_ w => St W w (Im 1 (.slice q k c0) k ((pre.take k).flatMap i64c) :: imi (0 < pre.length) gA43 (.cells kA45 eA46 zA47) :: Im 1 (.slice q pre.length c0) pre.length (pre.flatMap i64c) :: imi (0 < ups.length) gA11 (.cells kA13 eA14 zA15) :: blk g (.cells #[.int .i64 op.v, .slice pp2 ups.length cc3, .slice pp4 has.length cc5, .int .i64 ph] 115 (0, 0)) :: Im 1 (.slice pp2 ups.length cc3) ups.length (ups.flatMap i64c) :: Row 4 1 (.slice pp4 has.length cc5) has.length (has.flatMap blc) :: t_)) (Row 3 1 (.slice pp72 k cc73) k ((pre.take k).flatMap i64c) :: (F.set i emp)) mixed 15 rfl H74.drew ?_
              refine f_first 0 (listed' := #[true, false, false, false, false, false, false, false, false, false, false, false, false, false, false]) rfl (by kernel_rfl) (by kernel_rfl) (by kernel_rfl) rfl ?_
              refine f_val rfl rfl rfl (by intro t_ w hw; exact x_move (.slice pp72 k cc73) rfl w) ?_
              refine f_first 1 (listed' := #[true, true, false, false, false, false, false, false, false, false, false, false, false, false, false]) rfl (by kernel_rfl) (by kernel_rfl) (by kernel_rfl) rfl ?_
              refine f_val rfl rfl rfl (by intro t_ w hw; exact x_move (.pointer (some ⟨g, 0, none⟩)) rfl w) ?_
              refine f_first 2 (listed' := #[true, true, true, false, false, false, false, false, false, false, false, false, false, false, false]) rfl (by kernel_rfl) (by kernel_rfl) (by kernel_rfl) rfl ?_
              refine f_val rfl rfl rfl (by intro t_ w hw; exact x_nilCheck (.pointer (some ⟨g, 0, none⟩)) rfl ⟨_, rfl⟩ w) ?_
              refine f_first 3 (listed' := #[true, true, true, true, false, false, false, false, false, false, false, false, false, false, false]) rfl (by kernel_rfl) (by kernel_rfl) (by kernel_rfl) rfl ?_
              refine f_val rfl rfl rfl (by intro t_ w hw; exact x_fieldAddr 115 1 1 1 101 rfl fi_115_1 rfl w) ?_
              refine f_first 4 (listed' := #[true, true, true, true, true, false, false, false, false, false, false, false, false, false, false]) rfl (by kernel_rfl) (by kernel_rfl) (by kernel_rfl) rfl ?_
              refine f_val rfl rfl rfl (by intro t_ w hw; exact x_load (.slice pp2 ups.length cc3) ag_101 rfl (hw.blk_at (i := 4) rfl) rfl) ?_
              refine f_first 5 (listed' := #[true, true, true, true, true, true, false, false, false, false, false, false, false, false, false]) rfl (by kernel_rfl) (by kernel_rfl) (by kernel_rfl) rfl ?_
              refine f_val rfl rfl rfl (by intro t_ w hw; exact x_move (.int .i64 (j : Int)) rfl w) ?_
              refine f_first 6 (listed' := #[true, true, true, true, true, true, true, false, false, false, false, false, false, false, false]) rfl (by kernel_rfl) (by kernel_rfl) (by kernel_rfl) rfl ?_
              refine f_val rfl rfl rfl (by intro t_ w hw; exact x_indexAddr gA11 (off := oA12) (j : Int) 1 (oA12 + j * 1) (by exact congrArg (fun z_ => Value.slice z_ ups.length cc3) (hp17 (by omega))) rfl el_101 (by omega) rfl w) ?_
              refine f_first 7 (listed' := #[true, true, true, true, true, true, true, true, false, false, false, false, false, false, false]) rfl (by kernel_rfl) (by kernel_rfl) (by kernel_rfl) rfl ?_
              refine f_val rfl rfl rfl (by intro t_ w hw; exact x_load (.int .i64 ((ups.getD j default).v)) ag_3 rfl (hw.imi_at (i := 3) rfl (by omega)) (elem_cell (L := ups) (i := j) i64c_len (hx18 (by omega)) (by omega) default 0 (by decide) _ rfl)) ?_
              refine f_first 10 (listed' := #[true, true, true, true, true, true, true, true, false, false, true, false, false, false, false]) rfl (by kernel_rfl) (by kernel_rfl) (by kernel_rfl) rfl ?_
              refine f_val rfl rfl rfl (by intro t_ w hw; exact x_move (.slice q pre.length c0) rfl w) ?_
              refine f_first 11 (listed' := #[true, true, true, true, true, true, true, true, false, false, true, true, false, false, false]) rfl (by kernel_rfl) (by kernel_rfl) (by kernel_rfl) rfl ?_
              refine f_val rfl rfl rfl (by intro t_ w hw; exact x_move (.int .i64 (k : Int)) rfl w) ?_
              refine f_first 12 (listed' := #[true, true, true, true, true, true, true, true, false, false, true, true, true, false, false]) rfl (by kernel_rfl) (by kernel_rfl) (by kernel_rfl) rfl ?_
              have hc75 := Im.cap H74 (i := 2) rfl
              refine f_val rfl rfl rfl (by intro t_ w hw; exact x_slice_l q (k : Int) 1 (.slice (cutAt q k c0 1) (pre.length - k) (c0 - k)) rfl rfl el_101 (by omega) (by first | rfl | (congr 1; omega)) w) ?_
              refine f_all (rs := [8]) (by kernel_rfl) (by simp) ?_
              refine a_cons ⟨_, rfl, ?_⟩ (fun x hx => absurd hx (by simp))
              intro w76 H77
              try dsimp only at H77
              have H78 : St W w76 (Im 1 (.slice (cutAt q k c0 1) (pre.length - k) (c0 - k)) (pre.length - k) ((pre.drop k).flatMap i64c) :: Im 1 (.slice q k c0) k ((pre.take k).flatMap i64c) :: imi (0 < pre.length) gA43 (.cells kA45 eA46 zA47) :: Im 1 (.slice q pre.length c0) pre.length (pre.flatMap i64c) :: imi (0 < ups.length) gA11 (.cells kA13 eA14 zA15) :: blk g (.cells #[.int .i64 op.v, .slice pp2 ups.length cc3, .slice pp4 has.length cc5, .int .i64 ph] 115 (0, 0)) :: Im 1 (.slice pp2 ups.length cc3) ups.length (ups.flatMap i64c) :: Row 4 1 (.slice pp4 has.length cc5) has.length (has.flatMap blc) :: Row 3 1 (.slice pp72 k cc73) k ((pre.take k).flatMap i64c) :: (F.set i emp)) := Im.cut_l i64c_len k H77 (i := 2) rfl (by omega)
              refine s_buildSlice H78 1 1 (cs := #[.int .i64 ((ups.getD j default).v)]) #[.int .i64 0] el_101 ze_3 (by decide) (by decide) (by kernel_rfl) rfl ?_; intro bk79 w80 H81
              have H82 : St W w80 (Im 1 (.slice q k c0) k ((pre.take k).flatMap i64c) :: imi (0 < pre.length) gA43 (.cells kA45 eA46 zA47) :: Im 1 (.slice q pre.length c0) pre.length (pre.flatMap i64c) :: imi (0 < ups.length) gA11 (.cells kA13 eA14 zA15) :: blk g (.cells #[.int .i64 op.v, .slice pp2 ups.length cc3, .slice pp4 has.length cc5, .int .i64 ph] 115 (0, 0)) :: Im 1 (.slice pp2 ups.length cc3) ups.length (ups.flatMap i64c) :: Row 4 1 (.slice pp4 has.length cc5) has.length (has.flatMap blc) :: blk bk79 (.cells #[.int .i64 ((ups.getD j default).v)] 3 (0, 0)) :: Im 1 (.slice (cutAt q k c0 1) (pre.length - k) (c0 - k)) (pre.length - k) ((pre.drop k).flatMap i64c) :: Row 3 1 (.slice pp72 k cc73) k ((pre.take k).flatMap i64c) :: (F.set i emp)) := ((((((((((H81.move 9 rfl).move 2 rfl).move 2 rfl).move 9 rfl).move 9 rfl).move 9 rfl).move 9 rfl).move 9 rfl).move 9 rfl).move 9 rfl)
              refine ⟨blk bk79 (.cells #[.int .i64 ((ups.getD j default).v)] 3 (0, 0)) :: Im 1 (.slice (cutAt q k c0 1) (pre.length - k) (c0 - k)) (pre.length - k) ((pre.drop k).flatMap i64c) :: Row 3 1 (.slice pp72 k cc73) k ((pre.take k).flatMap i64c) :: (F.set i emp), ?_, H82⟩
              change FReg _ _ _ _ _ #[true, true, true, true, true, true, true, true, true, false, true, true, true, false, false] _ _
              refine f_all (rs := [9]) (by kernel_rfl) (by simp) ?_
              refine a_cons ⟨_, rfl, ?_⟩ (fun x hx => absurd hx (by simp))
              intro w83 H84
              try dsimp only at H84
              refine s_append H84 9 rfl rfl rfl (rd_blk (H84.blk_at (i := 7) rfl) rfl (Nat.le_of_ble_eq_true rfl) (by simp [Value.oneCell'])) ap_101 (by decide) (by unfold maxLen; omega) (by omega) (n' := k + 1) (xs' := (pre.take k).flatMap i64c ++ ([.int .i64 ((ups.getD j default).v)] : List Value)) (by omega) (by first | rfl | simp) rfl ?_; intro vv85 w86 H87 hn88
              obtain ⟨pp89, cc90, rfl⟩ := Row.slice H87 (i := 9) rfl
              refine ⟨blk bk79 (.cells #[.int .i64 ((ups.getD j default).v)] 3 (0, 0)) :: Im 1 (.slice (cutAt q k c0 1) (pre.length - k) (c0 - k)) (pre.length - k) ((pre.drop k).flatMap i64c) :: Row 3 1 (.slice pp89 (k + 1) cc90) (k + 1) ((pre.take k).flatMap i64c ++ ([.int .i64 ((ups.getD j default).v)] : List Value)) :: (F.set i emp), ?_, H87⟩
              change FReg _ _ _ _ _ #[true, true, true, true, true, true, true, true, true, true, true, true, true, false, false] _ _
              refine f_all (rs := [13]) (by kernel_rfl) (by simp) ?_
              refine a_cons ⟨_, rfl, ?_⟩ (fun x hx => absurd hx (by simp))
              intro w91 H92
              try dsimp only at H92
              refine s_append H92 9 rfl rfl rfl (Im.rd H92 (i := 8) rfl) ap_101 (by decide) (by unfold maxLen; omega) (by omega) (n' := k + 1 + pre.length - k) (xs' := (pre.take k).flatMap i64c ++ ([.int .i64 ((ups.getD j default).v)] : List Value) ++ (pre.drop k).flatMap i64c) (by omega) (by first | rfl | simp) rfl ?_; intro vv93 w94 H95 hn96
              obtain ⟨pp97, cc98, rfl⟩ := Row.slice H95 (i := 9) rfl
              refine ⟨blk bk79 (.cells #[.int .i64 ((ups.getD j default).v)] 3 (0, 0)) :: Im 1 (.slice (cutAt q k c0 1) (pre.length - k) (c0 - k)) (pre.length - k) ((pre.drop k).flatMap i64c) :: Row 3 1 (.slice pp97 (k + 1 + pre.length - k) cc98) (k + 1 + pre.length - k) ((pre.take k).flatMap i64c ++ ([.int .i64 ((ups.getD j default).v)] : List Value) ++ (pre.drop k).flatMap i64c) :: (F.set i emp), ?_, H95⟩
              change FReg _ _ _ _ _ #[true, true, true, true, true, true, true, true, true, true, true, true, true, true, false] _ _
              refine f_first 14 (listed' := #[true, true, true, true, true, true, true, true, true, true, true, true, true, true, true]) rfl (by kernel_rfl) (by kernel_rfl) (by kernel_rfl) rfl ?_
              refine f_val rfl rfl rfl (by intro t_ w hw; exact x_assign (.slice pp97 (k + 1 + pre.length - k) cc98) rfl w) ?_
              refine f_done (by kernel_rfl) ?_
              intro w99 H100
              refine g_inBlock ?_
              refine g_region ?_
              refine r_cons (s_move (.int .i64 (j : Int)) rfl rfl ?_)
              refine r_cons (s_add ((j : Int) + 1) rfl rfl (wi64 (by omega)) rfl ?_)
              refine r_cons (s_assign (.int .i64 ((j : Int) + 1)) rfl rfl ?_)
              refine r_nil ?_
              have hnl : k + 1 + pre.length - k = (pre.take k ++ [(ups.getD j default)] ++ pre.drop k).length := by rw [ins_len _ _ (by omega)]; omega
              have H101 : St W w99 (Im 1 (.slice q k c0) k ((pre.take k).flatMap i64c) :: imi (0 < pre.length) gA43 (.cells kA45 eA46 zA47) :: Im 1 (.slice q pre.length c0) pre.length (pre.flatMap i64c) :: imi (0 < ups.length) gA11 (.cells kA13 eA14 zA15) :: blk g (.cells #[.int .i64 op.v, .slice pp2 ups.length cc3, .slice pp4 has.length cc5, .int .i64 ph] 115 (0, 0)) :: Im 1 (.slice pp2 ups.length cc3) ups.length (ups.flatMap i64c) :: Row 4 1 (.slice pp4 has.length cc5) has.length (has.flatMap blc) :: blk bk79 (.cells #[.int .i64 ((ups.getD j default).v)] 3 (0, 0)) :: Im 1 (.slice (cutAt q k c0 1) (pre.length - k) (c0 - k)) (pre.length - k) ((pre.drop k).flatMap i64c) :: Row 3 1 (.slice pp97 ((pre.take k ++ [(ups.getD j default)] ++ pre.drop k).length) cc98) ((pre.take k ++ [(ups.getD j default)] ++ pre.drop k).length) ((pre.take k ++ [(ups.getD j default)] ++ pre.drop k).flatMap i64c) :: (F.set i emp)) := by rw [flatI_ins, ← hnl]; first | exact H100 | (simpa only [List.append_assoc] using H100)
              have hin := ins_step (ups := ups) (has := has) (k := k) hkl hs hp hb36 hgt (.inr (by omega))
              have H102 : St W w99 (Row 3 1 (.slice pp97 ((pre.take k ++ [(ups.getD j default)] ++ pre.drop k).length) cc98) ((pre.take k ++ [(ups.getD j default)] ++ pre.drop k).length) ((pre.take k ++ [(ups.getD j default)] ++ pre.drop k).flatMap i64c) :: imi (0 < ups.length) gA11 (.cells kA13 eA14 zA15) :: blk g (.cells #[.int .i64 op.v, .slice pp2 ups.length cc3, .slice pp4 has.length cc5, .int .i64 ph] 115 (0, 0)) :: Im 1 (.slice pp2 ups.length cc3) ups.length (ups.flatMap i64c) :: Row 4 1 (.slice pp4 has.length cc5) has.length (has.flatMap blc) :: (F.set i emp)) := ((((((((((H101.move 6 rfl).move 6 rfl).move 6 rfl).move 6 rfl).move 9 rfl).drop 5 rfl).drop 5 rfl).drop 5 rfl).drop 5 rfl).drop 5 rfl)
              exact nx26 (j + 1, (pre.take k ++ [(ups.getD j default)] ++ pre.drop k), pp97, cc98) _ _ ⟨(by omega), hin.1, hin.2, H102⟩ (by first | (dsimp only; omega) | omega) ⟨by first | rfl | exact vint (by omega), by first | rfl | exact vint (by omega), by rw [← hnl]; rfl, by first | rfl | exact vint (by omega), trivial⟩
          · skip
            refine q_cons (q_val rfl rfl rfl (by intro w hw; exact x_gtr false rfl rfl (dfalse hc58) w) ?_)
            refine q_cons (q_val rfl rfl rfl (by intro w hw; exact x_move (.bool false) rfl w) ?_)
            refine q_cons (q_pass rfl rfl rfl rfl rfl ?_)
            refine q_cons (q_pass rfl rfl rfl rfl rfl ?_)
            refine q_cons (q_pass rfl rfl rfl rfl rfl ?_)
            refine q_cons (q_pass rfl rfl rfl rfl rfl ?_)
            refine q_cons (q_pass rfl rfl rfl rfl rfl ?_)
            refine q_cons (q_pass rfl rfl rfl rfl rfl ?_)
            refine q_cons (q_pass rfl rfl rfl rfl rfl ?_)
            refine q_cons (q_pass rfl rfl rfl rfl rfl ?_)
            refine q_cons (q_pass rfl rfl rfl rfl rfl ?_)
            refine q_cons (q_pass rfl rfl rfl rfl rfl ?_)
            refine q_cons (q_pass rfl rfl rfl rfl rfl ?_)
            refine q_cons (q_pass rfl rfl rfl rfl rfl ?_)
            refine q_cons (q_pass rfl rfl rfl rfl rfl ?_)
            refine q_cons (q_val rfl rfl rfl (by intro w hw; exact x_pick_f (.bool false) rfl rfl w) ?_)
            refine q_nil ?_
            intro w103 H104
            refine g_false rfl ?_
            refine g_exit (by rfl) ?_
            refine g_seq ?_
            refine g_region ?_
            refine r_cons (s_move (.slice q pre.length c0) rfl rfl ?_)
            refine r_cons (s_move (.int .i64 (k : Int)) rfl rfl ?_)
            have hc105 := Im.cap H104 (i := 1) rfl
            refine r_cons (s_slice_h q (k : Int) 1 (.slice q k c0) rfl rfl el_101 (by omega) (by first | rfl | (congr 1; omega)) rfl ?_)
            have H106 : St W w103 (Im 1 (.slice q k c0) k ((pre.take k).flatMap i64c) :: imi (0 < pre.length) gA43 (.cells kA45 eA46 zA47) :: Im 1 (.slice q pre.length c0) pre.length (pre.flatMap i64c) :: imi (0 < ups.length) gA11 (.cells kA13 eA14 zA15) :: blk g (.cells #[.int .i64 op.v, .slice pp2 ups.length cc3, .slice pp4 has.length cc5, .int .i64 ph] 115 (0, 0)) :: Im 1 (.slice pp2 ups.length cc3) ups.length (ups.flatMap i64c) :: Row 4 1 (.slice pp4 has.length cc5) has.length (has.flatMap blc) :: (F.set i emp)) := Im.cut_h i64c_len k H104 (i := 1) rfl (by omega)
            have H107 := Row.nil_intro H106 3 1
            refine r_cons (s_append H107 0 rfl rfl rfl (Im.rd H107 (i := 1) rfl) ap_101 (by decide) (by unfold maxLen; omega) (by omega) (n' := k) (xs' := (pre.take k).flatMap i64c) (by omega) (by first | rfl | simp) rfl ?_); intro vv108 w109 H110 hn111
            obtain ⟨pp112, cc113, rfl⟩ := Row.slice H110 (i := 0) rfl
            refine r_cons (s_assign (.slice pp112 k cc113) rfl rfl ?_)
            refine r_nil ?_
            have H114 : St W w109 (Im 1 (.slice q k c0) k ((pre.take k).flatMap i64c) :: imi (0 < pre.length) gA43 (.cells kA45 eA46 zA47) :: Im 1 (.slice q pre.length c0) pre.length (pre.flatMap i64c) :: imi (0 < ups.length) gA11 (.cells kA13 eA14 zA15) :: blk g (.cells #[.int .i64 op.v, .slice pp2 ups.length cc3, .slice pp4 has.length cc5, .int .i64 ph] 115 (0, 0)) :: Im 1 (.slice pp2 ups.length cc3) ups.length (ups.flatMap i64c) :: Row 4 1 (.slice pp4 has.length cc5) has.length (has.flatMap blc) :: Row 3 1 (.slice pp112 k cc113) k ((pre.take k).flatMap i64c) :: (F.set i emp)) := (((((((H110.move 7 rfl).move 7 rfl).move 7 rfl).move 7 rfl).move 7 rfl).move 7 rfl).move 7 rfl)
            refine g_mix (fun t_ w => St W w (Im 1 (.slice q k c0) k ((pre.take k).flatMap i64c) :: imi (0 < pre.length) gA43 (.cells kA45 eA46 zA47) :: Im 1 (.slice q pre.length c0) pre.length (pre.flatMap i64c) :: imi (0 < ups.length) gA11 (.cells kA13 eA14 zA15) :: blk g (.cells #[.int .i64 op.v, .slice pp2 ups.length cc3, .slice pp4 has.length cc5, .int .i64 ph] 115 (0, 0)) :: Im 1 (.slice pp2 ups.length cc3) ups.length (ups.flatMap i64c) :: Row 4 1 (.slice pp4 has.length cc5) has.length (has.flatMap blc) :: t_)) (Row 3 1 (.slice pp112 k cc113) k ((pre.take k).flatMap i64c) :: (F.set i emp)) mixed 15 rfl H114.drew ?_
            refine f_first 0 (listed' := #[true, false, false, false, false, false, false, false, false, false, false, false, false, false, false]) rfl (by kernel_rfl) (by kernel_rfl) (by kernel_rfl) rfl ?_
            refine f_val rfl rfl rfl (by intro t_ w hw; exact x_move (.slice pp112 k cc113) rfl w) ?_
            refine f_first 1 (listed' := #[true, true, false, false, false, false, false, false, false, false, false, false, false, false, false]) rfl (by kernel_rfl) (by kernel_rfl) (by kernel_rfl) rfl ?_
            refine f_val rfl rfl rfl (by intro t_ w hw; exact x_move (.pointer (some ⟨g, 0, none⟩)) rfl w) ?_
            refine f_first 2 (listed' := #[true, true, true, false, false, false, false, false, false, false, false, false, false, false, false]) rfl (by kernel_rfl) (by kernel_rfl) (by kernel_rfl) rfl ?_
            refine f_val rfl rfl rfl (by intro t_ w hw; exact x_nilCheck (.pointer (some ⟨g, 0, none⟩)) rfl ⟨_, rfl⟩ w) ?_
            refine f_first 3 (listed' := #[true, true, true, true, false, false, false, false, false, false, false, false, false, false, false]) rfl (by kernel_rfl) (by kernel_rfl) (by kernel_rfl) rfl ?_
            refine f_val rfl rfl rfl (by intro t_ w hw; exact x_fieldAddr 115 1 1 1 101 rfl fi_115_1 rfl w) ?_
            refine f_first 4 (listed' := #[true, true, true, true, true, false, false, false, false, false, false, false, false, false, false]) rfl (by kernel_rfl) (by kernel_rfl) (by kernel_rfl) rfl ?_
            refine f_val rfl rfl rfl (by intro t_ w hw; exact x_load (.slice pp2 ups.length cc3) ag_101 rfl (hw.blk_at (i := 4) rfl) rfl) ?_
            refine f_first 5 (listed' := #[true, true, true, true, true, true, false, false, false, false, false, false, false, false, false]) rfl (by kernel_rfl) (by kernel_rfl) (by kernel_rfl) rfl ?_
            refine f_val rfl rfl rfl (by intro t_ w hw; exact x_move (.int .i64 (j : Int)) rfl w) ?_
            refine f_first 6 (listed' := #[true, true, true, true, true, true, true, false, false, false, false, false, false, false, false]) rfl (by kernel_rfl) (by kernel_rfl) (by kernel_rfl) rfl ?_
            refine f_val rfl rfl rfl (by intro t_ w hw; exact x_indexAddr gA11 (off := oA12) (j : Int) 1 (oA12 + j * 1) (by exact congrArg (fun z_ => Value.slice z_ ups.length cc3) (hp17 (by omega))) rfl el_101 (by omega) rfl w) ?_
            refine f_first 7 (listed' := #[true, true, true, true, true, true, true, true, false, false, false, false, false, false, false]) rfl (by kernel_rfl) (by kernel_rfl) (by kernel_rfl) rfl ?_
            refine f_val rfl rfl rfl (by intro t_ w hw; exact x_load (.int .i64 ((ups.getD j default).v)) ag_3 rfl (hw.imi_at (i := 3) rfl (by omega)) (elem_cell (L := ups) (i := j) i64c_len (hx18 (by omega)) (by omega) default 0 (by decide) _ rfl)) ?_
            refine f_first 10 (listed' := #[true, true, true, true, true, true, true, true, false, false, true, false, false, false, false]) rfl (by kernel_rfl) (by kernel_rfl) (by kernel_rfl) rfl ?_
            refine f_val rfl rfl rfl (by intro t_ w hw; exact x_move (.slice q pre.length c0) rfl w) ?_
            refine f_first 11 (listed' := #[true, true, true, true, true, true, true, true, false, false, true, true, false, false, false]) rfl (by kernel_rfl) (by kernel_rfl) (by kernel_rfl) rfl ?_
            refine f_val rfl rfl rfl (by intro t_ w hw; exact x_move (.int .i64 (k : Int)) rfl w) ?_
            refine f_first 12 (listed' := #[true, true, true, true, true, true, true, true, false, false, true, true, true, false, false]) rfl (by kernel_rfl) (by kernel_rfl) (by kernel_rfl) rfl ?_
            have hc115 := Im.cap H114 (i := 2) rfl
            refine f_val rfl rfl rfl (by intro t_ w hw; exact x_slice_l q (k : Int) 1 (.slice (cutAt q k c0 1) (pre.length - k) (c0 - k)) rfl rfl el_101 (by omega) (by first | rfl | (congr 1; omega)) w) ?_
            refine f_all (rs := [8]) (by kernel_rfl) (by simp) ?_
            refine a_cons ⟨_, rfl, ?_⟩ (fun x hx => absurd hx (by simp))
            intro w116 H117
            try dsimp only at H117
            have H118 : St W w116 (Im 1 (.slice (cutAt q k c0 1) (pre.length - k) (c0 - k)) (pre.length - k) ((pre.drop k).flatMap i64c) :: Im 1 (.slice q k c0) k ((pre.take k).flatMap i64c) :: imi (0 < pre.length) gA43 (.cells kA45 eA46 zA47) :: Im 1 (.slice q pre.length c0) pre.length (pre.flatMap i64c) :: imi (0 < ups.length) gA11 (.cells kA13 eA14 zA15) :: blk g (.cells #[.int .i64 op.v, .slice pp2 ups.length cc3, .slice pp4 has.length cc5, .int .i64 ph] 115 (0, 0)) :: Im 1 (.slice pp2 ups.length cc3) ups.length (ups.flatMap i64c) :: Row 4 1 (.slice pp4 has.length cc5) has.length (has.flatMap blc) :: Row 3 1 (.slice pp112 k cc113) k ((pre.take k).flatMap i64c) :: (F.set i emp)) := Im.cut_l i64c_len k H117 (i := 2) rfl (by omega)
            refine s_buildSlice H118 1 1 (cs := #[.int .i64 ((ups.getD j default).v)]) #[.int .i64 0] el_101 ze_3 (by decide) (by decide) (by kernel_rfl) rfl ?_; intro bk119 w120 H121
            have H122 : St W w120 (Im 1 (.slice q k c0) k ((pre.take k).flatMap i64c) :: imi (0 < pre.length) gA43 (.cells kA45 eA46 zA47) :: Im 1 (.slice q pre.length c0) pre.length (pre.flatMap i64c) :: imi (0 < ups.length) gA11 (.cells kA13 eA14 zA15) :: blk g (.cells #[.int .i64 op.v, .slice pp2 ups.length cc3, .slice pp4 has.length cc5, .int .i64 ph] 115 (0, 0)) :: Im 1 (.slice pp2 ups.length cc3) ups.length (ups.flatMap i64c) :: Row 4 1 (.slice pp4 has.length cc5) has.length (has.flatMap blc) :: blk bk119 (.cells #[.int .i64 ((ups.getD j default).v)] 3 (0, 0)) :: Im 1 (.slice (cutAt q k c0 1) (pre.length - k) (c0 - k)) (pre.length - k) ((pre.drop k).flatMap i64c) :: Row 3 1 (.slice pp112 k cc113) k ((pre.take k).flatMap i64c) :: (F.set i emp)) := ((((((((((H121.move 9 rfl).move 2 rfl).move 2 rfl).move 9 rfl).move 9 rfl).move 9 rfl).move 9 rfl).move 9 rfl).move 9 rfl).move 9 rfl)
            refine ⟨blk bk119 (.cells #[.int .i64 ((ups.getD j default).v)] 3 (0, 0)) :: Im 1 (.slice (cutAt q k c0 1) (pre.length - k) (c0 - k)) (pre.length - k) ((pre.drop k).flatMap i64c) :: Row 3 1 (.slice pp112 k cc113) k ((pre.take k).flatMap i64c) :: (F.set i emp), ?_, H122⟩
            change FReg _ _ _ _ _ #[true, true, true, true, true, true, true, true, true, false, true, true, true, false, false] _ _
            refine f_all (rs := [9]) (by kernel_rfl) (by simp) ?_
            refine a_cons ⟨_, rfl, ?_⟩ (fun x hx => absurd hx (by simp))
            intro w123 H124
            try dsimp only at H124
            refine s_append H124 9 rfl rfl rfl (rd_blk (H124.blk_at (i := 7) rfl) rfl (Nat.le_of_ble_eq_true rfl) (by simp [Value.oneCell'])) ap_101 (by decide) (by unfold maxLen; omega) (by omega) (n' := k + 1) (xs' := (pre.take k).flatMap i64c ++ ([.int .i64 ((ups.getD j default).v)] : List Value)) (by omega) (by first | rfl | simp) rfl ?_; intro vv125 w126 H127 hn128
            obtain ⟨pp129, cc130, rfl⟩ := Row.slice H127 (i := 9) rfl
            refine ⟨blk bk119 (.cells #[.int .i64 ((ups.getD j default).v)] 3 (0, 0)) :: Im 1 (.slice (cutAt q k c0 1) (pre.length - k) (c0 - k)) (pre.length - k) ((pre.drop k).flatMap i64c) :: Row 3 1 (.slice pp129 (k + 1) cc130) (k + 1) ((pre.take k).flatMap i64c ++ ([.int .i64 ((ups.getD j default).v)] : List Value)) :: (F.set i emp), ?_, H127⟩
            change FReg _ _ _ _ _ #[true, true, true, true, true, true, true, true, true, true, true, true, true, false, false] _ _
            refine f_all (rs := [13]) (by kernel_rfl) (by simp) ?_
            refine a_cons ⟨_, rfl, ?_⟩ (fun x hx => absurd hx (by simp))
            intro w131 H132
            try dsimp only at H132
            refine s_append H132 9 rfl rfl rfl (Im.rd H132 (i := 8) rfl) ap_101 (by decide) (by unfold maxLen; omega) (by omega) (n' := k + 1 + pre.length - k) (xs' := (pre.take k).flatMap i64c ++ ([.int .i64 ((ups.getD j default).v)] : List Value) ++ (pre.drop k).flatMap i64c) (by omega) (by first | rfl | simp) rfl ?_; intro vv133 w134 H135 hn136
            obtain ⟨pp137, cc138, rfl⟩ := Row.slice H135 (i := 9) rfl
            refine ⟨blk bk119 (.cells #[.int .i64 ((ups.getD j default).v)] 3 (0, 0)) :: Im 1 (.slice (cutAt q k c0 1) (pre.length - k) (c0 - k)) (pre.length - k) ((pre.drop k).flatMap i64c) :: Row 3 1 (.slice pp137 (k + 1 + pre.length - k) cc138) (k + 1 + pre.length - k) ((pre.take k).flatMap i64c ++ ([.int .i64 ((ups.getD j default).v)] : List Value) ++ (pre.drop k).flatMap i64c) :: (F.set i emp), ?_, H135⟩
            change FReg _ _ _ _ _ #[true, true, true, true, true, true, true, true, true, true, true, true, true, true, false] _ _
            refine f_first 14 (listed' := #[true, true, true, true, true, true, true, true, true, true, true, true, true, true, true]) rfl (by kernel_rfl) (by kernel_rfl) (by kernel_rfl) rfl ?_
            refine f_val rfl rfl rfl (by intro t_ w hw; exact x_assign (.slice pp137 (k + 1 + pre.length - k) cc138) rfl w) ?_
            refine f_done (by kernel_rfl) ?_
            intro w139 H140
            refine g_inBlock ?_
            refine g_region ?_
            refine r_cons (s_move (.int .i64 (j : Int)) rfl rfl ?_)
            refine r_cons (s_add ((j : Int) + 1) rfl rfl (wi64 (by omega)) rfl ?_)
            refine r_cons (s_assign (.int .i64 ((j : Int) + 1)) rfl rfl ?_)
            refine r_nil ?_
            have hnl : k + 1 + pre.length - k = (pre.take k ++ [(ups.getD j default)] ++ pre.drop k).length := by rw [ins_len _ _ (by omega)]; omega
            have H141 : St W w139 (Im 1 (.slice q k c0) k ((pre.take k).flatMap i64c) :: imi (0 < pre.length) gA43 (.cells kA45 eA46 zA47) :: Im 1 (.slice q pre.length c0) pre.length (pre.flatMap i64c) :: imi (0 < ups.length) gA11 (.cells kA13 eA14 zA15) :: blk g (.cells #[.int .i64 op.v, .slice pp2 ups.length cc3, .slice pp4 has.length cc5, .int .i64 ph] 115 (0, 0)) :: Im 1 (.slice pp2 ups.length cc3) ups.length (ups.flatMap i64c) :: Row 4 1 (.slice pp4 has.length cc5) has.length (has.flatMap blc) :: blk bk119 (.cells #[.int .i64 ((ups.getD j default).v)] 3 (0, 0)) :: Im 1 (.slice (cutAt q k c0 1) (pre.length - k) (c0 - k)) (pre.length - k) ((pre.drop k).flatMap i64c) :: Row 3 1 (.slice pp137 ((pre.take k ++ [(ups.getD j default)] ++ pre.drop k).length) cc138) ((pre.take k ++ [(ups.getD j default)] ++ pre.drop k).length) ((pre.take k ++ [(ups.getD j default)] ++ pre.drop k).flatMap i64c) :: (F.set i emp)) := by rw [flatI_ins, ← hnl]; first | exact H140 | (simpa only [List.append_assoc] using H140)
            have hin := ins_step (ups := ups) (has := has) (k := k) hkl hs hp hb36 hgt (.inl (by omega))
            have H142 : St W w139 (Row 3 1 (.slice pp137 ((pre.take k ++ [(ups.getD j default)] ++ pre.drop k).length) cc138) ((pre.take k ++ [(ups.getD j default)] ++ pre.drop k).length) ((pre.take k ++ [(ups.getD j default)] ++ pre.drop k).flatMap i64c) :: imi (0 < ups.length) gA11 (.cells kA13 eA14 zA15) :: blk g (.cells #[.int .i64 op.v, .slice pp2 ups.length cc3, .slice pp4 has.length cc5, .int .i64 ph] 115 (0, 0)) :: Im 1 (.slice pp2 ups.length cc3) ups.length (ups.flatMap i64c) :: Row 4 1 (.slice pp4 has.length cc5) has.length (has.flatMap blc) :: (F.set i emp)) := ((((((((((H141.move 6 rfl).move 6 rfl).move 6 rfl).move 6 rfl).move 9 rfl).drop 5 rfl).drop 5 rfl).drop 5 rfl).drop 5 rfl).drop 5 rfl)
            exact nx26 (j + 1, (pre.take k ++ [(ups.getD j default)] ++ pre.drop k), pp137, cc138) _ _ ⟨(by omega), hin.1, hin.2, H142⟩ (by first | (dsimp only; omega) | omega) ⟨by first | rfl | exact vint (by omega), by first | rfl | exact vint (by omega), by rw [← hnl]; rfl, by first | rfl | exact vint (by omega), trivial⟩
    · skip
      refine r_cons (s_lss false rfl rfl (dfalse hc27) rfl ?_)
      refine r_nil ?_
      refine g_false rfl ?_
      refine g_exit (by rfl) ?_
      refine g_seq ?_
      refine g_region ?_
      refine r_cons (s_move (.slice q pre.length c0) rfl rfl ?_)
      refine r_cons (s_assign (.slice q pre.length c0) rfl rfl ?_)
      refine r_nil ?_
      refine g_ret' [.slice q pre.length c0] Try.func58 Try.results58 ⟨rfl, trivial⟩ ?_
      obtain rfl : j = ups.length := by omega
      have hso := hMR.sorted hs hp
      have H143 : St W w24 (Im 1 (.slice q pre.length c0) pre.length (pre.flatMap i64c) :: imi (0 < ups.length) gA11 (.cells kA13 eA14 zA15) :: blk g (.cells #[.int .i64 op.v, .slice pp2 ups.length cc3, .slice pp4 has.length cc5, .int .i64 ph] 115 (0, 0)) :: Im 1 (.slice pp2 ups.length cc3) ups.length (ups.flatMap i64c) :: Row 4 1 (.slice pp4 has.length cc5) has.length (has.flatMap blc) :: (F.set i emp)) := Row.im H25 (i := 0) rfl
      have H144 : St W w24 (Im 1 (.slice q ((sortI M).length) c0) ((sortI M).length) ((sortI M).flatMap i64c) :: imi (0 < ups.length) gA11 (.cells kA13 eA14 zA15) :: blk g (.cells #[.int .i64 op.v, .slice pp2 ups.length cc3, .slice pp4 has.length cc5, .int .i64 ph] 115 (0, 0)) :: Im 1 (.slice pp2 ups.length cc3) ups.length (ups.flatMap i64c) :: Row 4 1 (.slice pp4 has.length cc5) has.length (has.flatMap blc) :: (F.set i emp)) := by rw [← hso]; exact H143
      have H145 : St W w24 (blk g (.cells #[.int .i64 op.v, .slice pp2 ups.length cc3, .slice pp4 has.length cc5, .int .i64 ph] 115 (0, 0)) :: Im 1 (.slice pp2 ups.length cc3) ups.length (ups.flatMap i64c) :: Row 4 1 (.slice pp4 has.length cc5) has.length (has.flatMap blc) :: Im 1 (.slice q ((sortI M).length) c0) ((sortI M).length) ((sortI M).flatMap i64c) :: imi (0 < ups.length) gA11 (.cells kA13 eA14 zA15) :: (F.set i emp)) := (((H144.move 4 rfl).move 4 rfl).move 4 rfl)
      have H146 : St W w24 (RvA g op ups has ph :: Im 1 (.slice q ((sortI M).length) c0) ((sortI M).length) ((sortI M).flatMap i64c) :: imi (0 < ups.length) gA11 (.cells kA13 eA14 zA15) :: (F.set i emp)) := St.shut_ex ((pp2, cc3), (pp4, cc5)) (St.shut_star (ls := [blk g (.cells #[.int .i64 op.v, .slice pp2 ups.length cc3, .slice pp4 has.length cc5, .int .i64 ph] 115 (0, 0)), Im 1 (.slice pp2 ups.length cc3) ups.length (ups.flatMap i64c), Row 4 1 (.slice pp4 has.length cc5) has.length (has.flatMap blc)]) H145)
      have H147 : St W w24 (Im 1 (.slice q ((sortI M).length) c0) ((sortI M).length) ((sortI M).flatMap i64c) :: RvA g op ups has ph :: (F.set i emp)) := ((H146.move 1 rfl).drop 2 rfl)
      have H148 : St W w24 (RvA g op ups has ph :: (Im 1 (.slice q ((sortI M).length) c0) ((sortI M).length) ((sortI M).flatMap i64c) :: F).set (i + 1) emp) := (H147.move 1 rfl)
      exact ⟨_, _, by rw [hso]; rfl, St.back_same (i := i + 1) (by exact hi) H148⟩
set_option maxHeartbeats 4000000 in
set_option maxRecDepth 100000 in
theorem Values1_ {W w : World} {F : List Atom} (g l : Nat) (L : List I64) (p : Option Addr) (c : Nat) (J Jx : List I64 → Atom) {i j : Nat} (hi : F[i]? = some (imm g (.cells #[.slice p L.length c] 101 (0, 0)))) (hj : F[j]? = some (Im 1 (.slice p L.length c) L.length (L.flatMap i64c))) (hY : ∀ w G pre (x : I64), (pre ++ [x]) <+: L → St W w (J pre :: emp :: G) → YieldAt Try.prog l [.int .i64 x.v] w (fun v w' => (v = .bool true ∧ St W w' (J (pre ++ [x]) :: G)) ∨ (v = .bool false ∧ St W w' (Jx (pre ++ [x]) :: G)))) (H : St W w (J [] :: F)) : Calls Try.prog 129 #[.func (.yield l) #[] #[], .pointer (some ⟨g, 0, none⟩)] w (Ret fun v w' => ∃ M : List I64, (M = L ∧ St W w' (J M :: F)) ∨ (True ∧ St W w' (Jx M :: F))) := by
  have H0 := (H.dup (i := j + 1) (by exact hj) (Im_pers _ _ _ _)).dup (i := i + 2) (by exact hi) (imm_pers _ _)
  have H1 : St W w (imm g (.cells #[.slice p L.length c] 101 (0, 0)) :: Im 1 (.slice p L.length c) L.length (L.flatMap i64c) :: J [] :: F) := H0
  have hml0 := Im.len H0 (i := 1) rfl
  refine calls_of_go (n := 16) Try.func129 rfl Try.ntmps129 rfl ?_
  refine g_seq ?_
  refine g_region ?_
  refine r_cons (s_load (.slice p L.length c) ag_101 rfl (H1.imm_at (i := 0) rfl) rfl rfl ?_)
  refine r_cons (s_len L.length rfl ⟨_, un_101⟩ rfl ?_)
  refine r_cons (s_move (.int .i64 0) rfl rfl ?_)
  refine r_nil ?_
  refine g_block ?_
  obtain ⟨pA2, cA3, gA4, oA5, kA6, eA7, zA8, he14, hn9, hp10, hx11, hs12, hml, H13⟩ := Im.open_ H1 (i := 1) rfl
  obtain ⟨rfl, rfl⟩ : p = pA2 ∧ c = cA3 := by injection he14 with a_ b_ c_; exact ⟨a_, c_⟩
  have H15 : St W w (J [] :: imi (0 < L.length) gA4 (.cells kA6 eA7 zA8) :: F) := (((H13.move 3 rfl).drop 2 rfl).drop 2 rfl)
  refine g_loop_inv (fun (x_ : Nat × (List I64)) => match x_ with | (j2, pre) => [(0, .func (.yield l) #[] #[]), (5, .slice p L.length c), (6, .int .i64 (L.length : Int)), (7, .int .i64 (j2 : Int))]) (fun (x_ : Nat × (List I64)) w => match x_ with | (j2, pre) => (j2 ≤ L.length) ∧ (pre = L.take j2) ∧ St W w (J pre :: imi (0 < L.length) gA4 (.cells kA6 eA7 zA8) :: F)) (fun (x_ : Nat × (List I64)) => match x_ with | (j2, pre) => L.length - j2) (0, []) ?_ ?_ ?_
  · exact ⟨by first | rfl | exact vint (by omega), by first | rfl | exact vint (by omega), by first | rfl | exact vint (by omega), by first | rfl | exact vint (by omega), trivial⟩
  · exact ⟨(by omega), (by simp), H15⟩
  · rintro ⟨j2, pre⟩ ρ16 w17 ⟨hjn, hpj, H18⟩ nx19
    change Ends _ _ (upds ρ16 [(0, .func (.yield l) #[] #[]), (5, .slice p L.length c), (6, .int .i64 (L.length : Int)), (7, .int .i64 (j2 : Int))]) w17
    refine g_seq ?_
    refine g_region ?_
    by_cases hc20 : (j2 : Int) < (L.length : Int)
    · skip
      refine r_cons (s_lss true rfl rfl (dtrue hc20) rfl ?_)
      refine r_nil ?_
      refine g_seq ?_
      refine g_true rfl ?_
      refine g_skip ?_
      refine g_seq ?_
      refine g_block ?_
      refine g_seq ?_
      refine g_region ?_
      refine r_cons (s_indexAddr gA4 (off := oA5) (j2 : Int) 1 (oA5 + j2 * 1) (by exact congrArg (fun z_ => Value.slice z_ L.length c) (hp10 (by omega))) rfl el_101 (by omega) rfl rfl ?_)
      refine r_cons (s_load (.int .i64 ((L.getD j2 default).v)) ag_3 rfl (H18.imi_at (i := 1) rfl (by omega)) (elem_cell (L := L) (i := j2) i64c_len (hx11 (by omega)) (by omega) default 0 (by decide) _ rfl) rfl ?_)
      refine r_cons (s_assign (.int .i64 ((L.getD j2 default).v)) rfl rfl ?_)
      refine r_nil ?_
      refine g_seq ?_
      refine g_region ?_
      refine r_cons (s_move (.func (.yield l) #[] #[]) rfl rfl ?_)
      refine r_cons (s_move (.int .i64 ((L.getD j2 default).v)) rfl rfl ?_)
      refine r_cons (s_yield l [.int .i64 ((L.getD j2 default).v)] rfl rfl rfl (hY _ _ pre (L.getD j2 default) (take_pre hpj (by omega)).2 (H18.cons_emp.move 1 rfl)) ?_)
      rintro _ w21 (⟨rfl, H22⟩ | ⟨rfl, H22⟩)
      · skip
        have H23 : St W w21 (J (pre ++ [(L.getD j2 default)]) :: imi (0 < L.length) gA4 (.cells kA6 eA7 zA8) :: F) := H22
        refine r_cons (s_not true rfl false rfl rfl ?_)
        refine r_nil ?_
        refine g_false rfl ?_
        refine g_skip ?_
        refine g_inBlock ?_
        refine g_region ?_
        refine r_cons (s_add ((j2 : Int) + 1) rfl rfl (wi64 (by omega)) rfl ?_)
        refine r_cons (s_move (.int .i64 ((j2 : Int) + 1)) rfl rfl ?_)
        refine r_nil ?_
        have H24 : St W w21 (J (pre ++ [(L.getD j2 default)]) :: imi (0 < L.length) gA4 (.cells kA6 eA7 zA8) :: F) := ((H23.move 1 rfl).move 1 rfl)
        exact nx19 (j2 + 1, (pre ++ [(L.getD j2 default)])) _ _ ⟨(by omega), (take_pre hpj (by omega)).1, H24⟩ (by first | (dsimp only; omega) | omega) ⟨by first | rfl | exact vint (by omega), by first | rfl | exact vint (by omega), by first | rfl | exact vint (by omega), by first | rfl | exact vint (by omega), trivial⟩
      · skip
        have H25 : St W w21 (Jx (pre ++ [(L.getD j2 default)]) :: imi (0 < L.length) gA4 (.cells kA6 eA7 zA8) :: F) := H22
        refine r_cons (s_not false rfl true rfl rfl ?_)
        refine r_nil ?_
        refine g_true rfl ?_
        refine g_ret' [] Try.func129 Try.results129 trivial ?_
        have H26 : St W w21 (Jx (pre ++ [(L.getD j2 default)]) :: F) := (H25.drop 1 rfl)
        exact ⟨_, .inr ⟨trivial, H26⟩⟩
    · skip
      refine r_cons (s_lss false rfl rfl (dfalse hc20) rfl ?_)
      refine r_nil ?_
      refine g_seq ?_
      refine g_false rfl ?_
      refine g_exit (by rfl) ?_
      refine g_end' [] Try.func129 Try.results129 trivial ?_
      have H27 : St W w17 (J pre :: F) := (H18.drop 1 rfl)
      obtain rfl : j2 = L.length := by omega
      exact ⟨_, .inl ⟨by rw [hpj, List.take_length], H27⟩⟩
set_option maxHeartbeats 4000000 in
set_option maxRecDepth 100000 in
theorem Equal_ints {W w : World} {F : List Atom} (L : List I64) (u v : Value) {j k : Nat} (hj : F[j]? = some (Im 1 u L.length (L.flatMap i64c))) (hk : F[k]? = some (Im 1 v L.length (L.flatMap i64c))) (H : St W w F) : Calls Try.prog 57 #[u, v] w (Ret fun v w' => v = .bool true ∧ St W w' F) := by
  obtain ⟨pp1, cc2, rfl, hsh3⟩ := Rd.shape (Im.rd H (i := j) hj)
  have H4 := H.dup (i := j) hj (Im_pers _ _ _ _)
  have hmlH4 := Im.len H4 (i := 0) rfl
  obtain ⟨pp5, cc6, rfl, hsh7⟩ := Rd.shape (Im.rd H (i := k) hk)
  have H8 := H4.dup (i := k + 1) (by exact hk) (Im_pers _ _ _ _)
  refine calls_of_go (n := 26) Try.func57 rfl Try.ntmps57 rfl ?_
  refine g_seq ?_
  refine g_region ?_
  refine r_cons (s_assign (.bool false) rfl rfl ?_)
  refine r_nil ?_
  refine g_seq ?_
  refine g_seq ?_
  refine g_region ?_
  refine r_cons (s_move (.slice pp1 L.length cc2) rfl rfl ?_)
  refine r_cons (s_len L.length rfl ⟨_, un_101⟩ rfl ?_)
  refine r_cons (s_move (.slice pp5 L.length cc6) rfl rfl ?_)
  refine r_cons (s_len L.length rfl ⟨_, un_101⟩ rfl ?_)
  refine r_cons (s_neq false rfl rfl (ntrue rfl) rfl ?_)
  refine r_nil ?_
  refine g_false rfl ?_
  refine g_skip ?_
  refine g_seq ?_
  refine g_seq ?_
  refine g_region ?_
  refine r_cons (s_move (.slice pp1 L.length cc2) rfl rfl ?_)
  refine r_cons (s_len L.length rfl ⟨_, un_101⟩ rfl ?_)
  refine r_cons (s_move (.int .i64 0) rfl rfl ?_)
  refine r_nil ?_
  refine g_block ?_
  obtain ⟨pA9, cA10, gA11, oA12, kA13, eA14, zA15, he21, hn16, hp17, hx18, hs19, hml, H20⟩ := Im.open_ H8 (i := 0) rfl
  obtain ⟨rfl, rfl⟩ : pp5 = pA9 ∧ cc6 = cA10 := by injection he21 with a_ b_ c_; exact ⟨a_, c_⟩
  obtain ⟨pA22, cA23, gA24, oA25, kA26, eA27, zA28, he34, hn29, hp30, hx31, hs32, hml, H33⟩ := Im.open_ H20 (i := 2) rfl
  obtain ⟨rfl, rfl⟩ : pp1 = pA22 ∧ cc2 = cA23 := by injection he34 with a_ b_ c_; exact ⟨a_, c_⟩
  refine g_loop_inv (fun (x_ : Nat) => match x_ with | j2 => [(0, .slice pp1 L.length cc2), (1, .slice pp5 L.length cc6), (4, .bool false), (12, .int .i64 (L.length : Int)), (13, .int .i64 (j2 : Int))]) (fun (x_ : Nat) w => match x_ with | j2 => (j2 ≤ L.length) ∧ St W w (imi (0 < L.length) gA24 (.cells kA26 eA27 zA28) :: imi (0 < L.length) gA11 (.cells kA13 eA14 zA15) :: Im 1 (.slice pp5 L.length cc6) L.length (L.flatMap i64c) :: Im 1 (.slice pp1 L.length cc2) L.length (L.flatMap i64c) :: F)) (fun (x_ : Nat) => match x_ with | j2 => L.length - j2) (0) ?_ ?_ ?_
  · exact ⟨by first | rfl | exact vint (by omega), by first | rfl | exact vint (by omega), by first | rfl | exact vint (by omega), by first | rfl | exact vint (by omega), by first | rfl | exact vint (by omega), trivial⟩
  · exact ⟨(by omega), H33⟩
  · rintro j2 ρ35 w36 ⟨hjn, H37⟩ nx38
    change Ends _ _ (upds ρ35 [(0, .slice pp1 L.length cc2), (1, .slice pp5 L.length cc6), (4, .bool false), (12, .int .i64 (L.length : Int)), (13, .int .i64 (j2 : Int))]) w36
    refine g_seq ?_
    refine g_region ?_
    by_cases hc39 : (j2 : Int) < (L.length : Int)
    · skip
      refine r_cons (s_lss true rfl rfl (dtrue hc39) rfl ?_)
      refine r_nil ?_
      refine g_seq ?_
      refine g_true rfl ?_
      refine g_skip ?_
      refine g_seq ?_
      refine g_block ?_
      refine g_seq ?_
      refine g_region ?_
      refine r_cons (s_move (.int .i64 (j2 : Int)) rfl rfl ?_)
      refine r_cons (s_assign (.int .i64 (j2 : Int)) rfl rfl ?_)
      refine r_nil ?_
      refine g_seq ?_
      refine g_quiet (fun w' => St W w' (imi (0 < L.length) gA24 (.cells kA26 eA27 zA28) :: imi (0 < L.length) gA11 (.cells kA13 eA14 zA15) :: Im 1 (.slice pp5 L.length cc6) L.length (L.flatMap i64c) :: Im 1 (.slice pp1 L.length cc2) L.length (L.flatMap i64c) :: F)) mixed (by kernel_rfl) H37.drew ?_
      refine q_cons (q_val rfl rfl rfl (by intro w hw; exact x_move (.slice pp1 L.length cc2) rfl w) ?_)
      refine q_cons (q_val rfl rfl rfl (by intro w hw; exact x_move (.int .i64 (j2 : Int)) rfl w) ?_)
      refine q_cons (q_val rfl rfl rfl (by intro w hw; exact x_indexAddr gA24 (off := oA25) (j2 : Int) 1 (oA25 + j2 * 1) (by exact congrArg (fun z_ => Value.slice z_ L.length cc2) (hp30 (by omega))) rfl el_101 (by omega) rfl w) ?_)
      refine q_cons (q_val rfl rfl rfl (by intro w hw; exact x_load (.int .i64 ((L.getD j2 default).v)) ag_3 rfl (hw.imi_at (i := 0) rfl (by omega)) (elem_cell (L := L) (i := j2) i64c_len (hx31 (by omega)) (by omega) default 0 (by decide) _ rfl)) ?_)
      refine q_cons (q_val rfl rfl rfl (by intro w hw; exact x_move (.slice pp5 L.length cc6) rfl w) ?_)
      refine q_cons (q_val rfl rfl rfl (by intro w hw; exact x_move (.int .i64 (j2 : Int)) rfl w) ?_)
      refine q_cons (q_val rfl rfl rfl (by intro w hw; exact x_indexAddr gA11 (off := oA12) (j2 : Int) 1 (oA12 + j2 * 1) (by exact congrArg (fun z_ => Value.slice z_ L.length cc6) (hp17 (by omega))) rfl el_101 (by omega) rfl w) ?_)
      refine q_cons (q_val rfl rfl rfl (by intro w hw; exact x_load (.int .i64 ((L.getD j2 default).v)) ag_3 rfl (hw.imi_at (i := 1) rfl (by omega)) (elem_cell (L := L) (i := j2) i64c_len (hx18 (by omega)) (by omega) default 0 (by decide) _ rfl)) ?_)
      refine q_cons (q_val rfl rfl rfl (by intro w hw; exact x_neq false rfl rfl (ntrue rfl) w) ?_)
      refine q_nil ?_
      intro w40 H41
      refine g_false rfl ?_
      refine g_skip ?_
      refine g_inBlock ?_
      refine g_region ?_
      refine r_cons (s_add ((j2 : Int) + 1) rfl rfl (wi64 (by omega)) rfl ?_)
      refine r_cons (s_move (.int .i64 ((j2 : Int) + 1)) rfl rfl ?_)
      refine r_nil ?_
      have H42 : St W w40 (imi (0 < L.length) gA24 (.cells kA26 eA27 zA28) :: imi (0 < L.length) gA11 (.cells kA13 eA14 zA15) :: Im 1 (.slice pp5 L.length cc6) L.length (L.flatMap i64c) :: Im 1 (.slice pp1 L.length cc2) L.length (L.flatMap i64c) :: F) := ((((H41.move 3 rfl).move 3 rfl).move 3 rfl).move 3 rfl)
      exact nx38 (j2 + 1) _ _ ⟨(by omega), H42⟩ (by first | (dsimp only; omega) | omega) ⟨by first | rfl | exact vint (by omega), by first | rfl | exact vint (by omega), by first | rfl | exact vint (by omega), by first | rfl | exact vint (by omega), by first | rfl | exact vint (by omega), trivial⟩
    · skip
      refine r_cons (s_lss false rfl rfl (dfalse hc39) rfl ?_)
      refine r_nil ?_
      refine g_seq ?_
      refine g_false rfl ?_
      refine g_exit (by rfl) ?_
      refine g_seq ?_
      refine g_region ?_
      refine r_cons (s_assign (.bool true) rfl rfl ?_)
      refine r_nil ?_
      refine g_ret' [.bool true] Try.func57 Try.results57 ⟨rfl, trivial⟩ ?_
      have H43 : St W w36 F := ((((H37.drop 0 rfl).drop 0 rfl).drop 0 rfl).drop 0 rfl)
      exact ⟨rfl, H43⟩
end Sl
