/- Walks of the program's functions. Printed by a program of this claim's author. No condition. -/
import Derived.Test.YtheggchlcpafmaaSlR
import Derived.Test.YtheggchlcpafmaaProg
import Derived.Test.YtheggchlcpafmaaWalkEventRises0
namespace Sl
open _root_.Go _root_.Go.RowKit _root_.Go.Proofs
set_option linter.all false
set_option maxHeartbeats 4000000 in
set_option maxRecDepth 100000 in
theorem EventRises_ {W w : World} {F : List Atom} (ops : List OpM) (sv : Value) (hb : ops.length ≤ 140737488355328) {j k : Nat} (hj : F[j]? = some (Im 7 sv ops.length (ops.flatMap opCell))) (hk : F[k]? = some (opsA ops)) (H : St W w F) : Calls Try.prog 3 #[sv] w (Ret fun v w' => v = .bool true ∧ St W w' F) := by
  obtain ⟨pA1, cA2, gA3, oA4, kA5, eA6, zA7, rfl, hn8, hp9, hx10, hs11, H12⟩ := Im.open_ H hj
  have H13 := H12.dup (i := k + 1) (by simpa using hk) (opsA_pers _)
  refine calls_of_go (n := 121) Try.func3 rfl Try.ntmps3 rfl ?_
  refine g_seq ?_
  refine g_region ?_
  refine r_cons (s_assign (.bool false) rfl rfl ?_)
  refine r_nil ?_
  refine g_seq ?_
  refine g_region ?_
  refine r_cons (s_call [.int .i64 4] pl_11 rfl rfl (event_New 4 (by decide) H13) ?_)
  rintro _ w15 ⟨bk14, rfl, H16⟩
  refine r_cons (s_move (.tuple #[.pointer (some ⟨bk14, 0, none⟩), .int .i64 0]) rfl rfl ?_)
  refine r_cons (s_extract (.pointer (some ⟨bk14, 0, none⟩)) #[.pointer (some ⟨bk14, 0, none⟩), .int .i64 0] rfl rfl rfl ?_)
  refine r_cons (s_extract (.int .i64 0) #[.pointer (some ⟨bk14, 0, none⟩), .int .i64 0] rfl rfl rfl ?_)
  refine r_cons (s_assign (.pointer (some ⟨bk14, 0, none⟩)) rfl rfl ?_)
  refine r_cons (s_assign (.int .i64 0) rfl rfl ?_)
  refine r_nil ?_
  refine g_seq ?_
  refine g_seq ?_
  refine g_region ?_
  refine r_cons (s_call [] pl_12 rfl rfl (begun_ H16) ?_)
  rintro _ w17 ⟨rfl, H18⟩
  refine r_cons (s_not true rfl false rfl rfl ?_)
  refine r_cons (s_move (.bool false) rfl rfl ?_)
  refine r_cons (r_take rfl rfl ?_)
  refine s_move (.pointer (some ⟨bk14, 0, none⟩)) rfl rfl ?_
  refine r_cons (r_take rfl rfl ?_)
  refine s_peql false un_23 rfl rfl rfl rfl ?_
  refine r_cons (s_pick_f (.bool false) rfl rfl rfl ?_)
  refine r_cons (s_move (.bool false) rfl rfl ?_)
  refine r_cons (r_take rfl rfl ?_)
  refine s_move (.int .i64 0) rfl rfl ?_
  refine r_cons (r_take rfl rfl ?_)
  refine s_neq false rfl rfl (ntrue (by decide)) rfl ?_
  refine r_cons (s_pick_f (.bool false) rfl rfl rfl ?_)
  refine r_nil ?_
  refine g_false rfl ?_
  refine g_skip ?_
  refine g_seq ?_
  refine g_region ?_
  refine r_cons (s_alloc H18 28 ze_28 rfl ?_); intro bk19 w20 H21
  refine r_cons (s_alloc H21 28 ze_28 rfl ?_); intro bk22 w23 H24
  refine r_nil ?_
  refine g_seq ?_
  refine g_seq ?_
  refine g_region ?_
  refine r_cons (s_move (.slice pA1 ops.length cA2) rfl rfl ?_)
  refine r_cons (s_len ops.length rfl ⟨_, un_22⟩ rfl ?_)
  refine r_cons (s_move (.int .i64 0) rfl rfl ?_)
  refine r_nil ?_
  refine g_block ?_
  have H25 : St W w23 (Streams bk14 4 zeroSt [] :: blk bk19 (.cells #[.int .i64 0, .int .i64 0, .int .i64 0, .int .i64 0] 28 (0, 0)) :: blk bk22 (.cells #[.int .i64 0, .int .i64 0, .int .i64 0, .int .i64 0] 28 (0, 0)) :: opsA ops :: imi (0 < ops.length) gA3 (.cells kA5 eA6 zA7) :: F) := (((((H24.move 4 rfl).move 4 rfl).move 2 rfl).move 3 rfl).move 4 rfl)
  refine g_loop_inv (fun (x : Nat × (List S3) × (List EvM) × (List Int) × (List Int)) => match x with | (i, st, evs, nx, la) => [(2, .bool false), (3, .pointer (some ⟨bk14, 0, none⟩)), (5, .pointer (some ⟨bk19, 0, none⟩)), (6, .pointer (some ⟨bk22, 0, none⟩)), (28, .slice pA1 ops.length cA2), (29, .int .i64 (ops.length : Int)), (30, .int .i64 (i : Int))]) (fun (x : Nat × (List S3) × (List EvM) × (List Int) × (List Int)) w => match x with | (i, st, evs, nx, la) => (i ≤ ops.length) ∧ (Inv4 st nx la) ∧ St W w (Streams bk14 4 st evs :: blk bk19 (.cells (intCells nx) 28 (0, 0)) :: blk bk22 (.cells (intCells la) 28 (0, 0)) :: opsA ops :: imi (0 < ops.length) gA3 (.cells kA5 eA6 zA7) :: F)) (fun (x : Nat × (List S3) × (List EvM) × (List Int) × (List Int)) => match x with | (i, st, evs, nx, la) => ops.length - i) (0, zeroSt, [], [0, 0, 0, 0], [0, 0, 0, 0]) ?_ ?_ ?_
  · exact ⟨by first | rfl | exact vint (by omega), by first | rfl | exact vint (by omega), by first | rfl | exact vint (by omega), by first | rfl | exact vint (by omega), by first | rfl | exact vint (by omega), by first | rfl | exact vint (by omega), by first | rfl | exact vint (by omega), trivial⟩
  · exact ⟨(by omega), Inv4_0, H25⟩
  · rintro ⟨i, st, evs, nx, la⟩ ρ26 w27 ⟨hi, hI, H28⟩ nx29
    change Ends _ _ (upds ρ26 [(2, .bool false), (3, .pointer (some ⟨bk14, 0, none⟩)), (5, .pointer (some ⟨bk19, 0, none⟩)), (6, .pointer (some ⟨bk22, 0, none⟩)), (28, .slice pA1 ops.length cA2), (29, .int .i64 (ops.length : Int)), (30, .int .i64 (i : Int))]) w27
    refine g_seq ?_
    refine g_region ?_
    by_cases hc30 : (i : Int) < (ops.length : Int)
    · skip
      refine r_cons (s_lss true rfl rfl (dtrue hc30) rfl ?_)
      refine r_nil ?_
      refine g_seq ?_
      refine g_true rfl ?_
      refine g_skip ?_
      refine g_seq ?_
      refine g_block ?_
      refine g_seq ?_
      refine g_region ?_
      refine r_cons (s_indexAddr gA3 (off := oA4) (i : Int) 7 (oA4 + i * 7) (by exact congrArg (fun p => Value.slice p ops.length cA2) (hp9 (by omega))) rfl el_22 (by omega) rfl rfl ?_)
      refine r_cons (s_loadAgg [.int .i64 ((ops.getD i default).do_.v), .int .i64 ((ops.getD i default).ev.src.v), .int .i64 ((ops.getD i default).ev.seq.v), .int .i64 ((ops.getD i default).ev.time.v), .string ((ops.getD i default).ev.typ.v), .slice ((ops.getD i default).p) ((ops.getD i default).ev.attrs.length) ((ops.getD i default).c), .int .i64 ((ops.getD i default).source.v)] 7 ag_35 rfl (H28.imi_at (i := 4) rfl (by omega)) (by have := elem_size (i := i) (s := 7) (hs11 (by omega)) (by omega); omega) (elem_take opCell_len (hx10 (by omega)) (by omega) default) rfl ?_)
      refine r_cons (s_alloc H28 35 ze_35 rfl ?_); intro bk31 w32 H33
      refine r_cons (s_storeAgg H33 0 #[.int .i64 ((ops.getD i default).do_.v), .int .i64 ((ops.getD i default).ev.src.v), .int .i64 ((ops.getD i default).ev.seq.v), .int .i64 ((ops.getD i default).ev.time.v), .string ((ops.getD i default).ev.typ.v), .slice ((ops.getD i default).p) ((ops.getD i default).ev.attrs.length) ((ops.getD i default).c), .int .i64 ((ops.getD i default).source.v)] 7 rfl rfl rfl sz_35 rfl (by simp [Value.oneCell']) (Nat.le_of_ble_eq_true rfl) (fun o h1 h2 => by first | (simp; done) | (simp; omega)) (cs' := #[.int .i64 ((ops.getD i default).do_.v), .int .i64 ((ops.getD i default).ev.src.v), .int .i64 ((ops.getD i default).ev.seq.v), .int .i64 ((ops.getD i default).ev.time.v), .string ((ops.getD i default).ev.typ.v), .slice ((ops.getD i default).p) ((ops.getD i default).ev.attrs.length) ((ops.getD i default).c), .int .i64 ((ops.getD i default).source.v)]) rfl ?_); intro w34 H35
      refine r_nil ?_
      refine g_seq ?_
      refine g_region ?_
      refine r_cons (s_alloc H35 28 ze_28 rfl ?_); intro bk36 w37 H38
      refine r_nil ?_
      refine g_seq ?_
      refine g_seq ?_
      refine g_region ?_
      refine r_cons (s_move (.int .i64 0) rfl rfl ?_)
      refine r_nil ?_
      refine g_block ?_
      have H39 : St W w37 (blk bk36 (.cells #[.int .i64 0, .int .i64 0, .int .i64 0, .int .i64 0] 28 (0, 0)) :: blk bk31 (.cells #[.int .i64 ((ops.getD i default).do_.v), .int .i64 ((ops.getD i default).ev.src.v), .int .i64 ((ops.getD i default).ev.seq.v), .int .i64 ((ops.getD i default).ev.time.v), .string ((ops.getD i default).ev.typ.v), .slice ((ops.getD i default).p) ((ops.getD i default).ev.attrs.length) ((ops.getD i default).c), .int .i64 ((ops.getD i default).source.v)] 35 (0, 0)) :: Streams bk14 4 st evs :: blk bk19 (.cells (intCells nx) 28 (0, 0)) :: blk bk22 (.cells (intCells la) 28 (0, 0)) :: opsA ops :: imi (0 < ops.length) gA3 (.cells kA5 eA6 zA7) :: F) := (((((((H38.move 6 rfl).move 6 rfl).move 6 rfl).move 6 rfl).move 6 rfl).move 6 rfl).move 6 rfl)
      refine g_loop_inv (fun (x : Nat × (List Int)) => match x with | (j, wa) => [(2, .bool false), (3, .pointer (some ⟨bk14, 0, none⟩)), (5, .pointer (some ⟨bk19, 0, none⟩)), (6, .pointer (some ⟨bk22, 0, none⟩)), (28, .slice pA1 ops.length cA2), (29, .int .i64 (ops.length : Int)), (30, .int .i64 (i : Int)), (8, .pointer (some ⟨bk31, 0, none⟩)), (9, .pointer (some ⟨bk36, 0, none⟩)), (34, .int .i64 (j : Int))]) (fun (x : Nat × (List Int)) w => match x with | (j, wa) => (j ≤ 4) ∧ (wa.length = 4) ∧ (∀ q, q < j → wa.getD q 0 = markOf 4 st (q : Int)) ∧ St W w (blk bk36 (.cells (intCells wa) 28 (0, 0)) :: blk bk31 (.cells #[.int .i64 ((ops.getD i default).do_.v), .int .i64 ((ops.getD i default).ev.src.v), .int .i64 ((ops.getD i default).ev.seq.v), .int .i64 ((ops.getD i default).ev.time.v), .string ((ops.getD i default).ev.typ.v), .slice ((ops.getD i default).p) ((ops.getD i default).ev.attrs.length) ((ops.getD i default).c), .int .i64 ((ops.getD i default).source.v)] 35 (0, 0)) :: Streams bk14 4 st evs :: blk bk19 (.cells (intCells nx) 28 (0, 0)) :: blk bk22 (.cells (intCells la) 28 (0, 0)) :: opsA ops :: imi (0 < ops.length) gA3 (.cells kA5 eA6 zA7) :: F)) (fun (x : Nat × (List Int)) => match x with | (j, wa) => 4 - j) (0, [0, 0, 0, 0]) ?_ ?_ ?_
      · exact ⟨by first | rfl | exact vint (by omega), by first | rfl | exact vint (by omega), by first | rfl | exact vint (by omega), by first | rfl | exact vint (by omega), by first | rfl | exact vint (by omega), by first | rfl | exact vint (by omega), by first | rfl | exact vint (by omega), by first | rfl | exact vint (by omega), by first | rfl | exact vint (by omega), by first | rfl | exact vint (by omega), trivial⟩
      · exact ⟨(by omega), rfl, (fun q hq => by omega), H39⟩
      · rintro ⟨j, wa⟩ ρ40 w41 ⟨hj4, hw, hm, H42⟩ nx43
        change Ends _ _ (upds ρ40 [(2, .bool false), (3, .pointer (some ⟨bk14, 0, none⟩)), (5, .pointer (some ⟨bk19, 0, none⟩)), (6, .pointer (some ⟨bk22, 0, none⟩)), (28, .slice pA1 ops.length cA2), (29, .int .i64 (ops.length : Int)), (30, .int .i64 (i : Int)), (8, .pointer (some ⟨bk31, 0, none⟩)), (9, .pointer (some ⟨bk36, 0, none⟩)), (34, .int .i64 (j : Int))]) w41
        refine g_seq ?_
        refine g_region ?_
        by_cases hc44 : (j : Int) < 4
        · skip
          refine r_cons (s_lss true rfl rfl (dtrue hc44) rfl ?_)
          refine r_nil ?_
          refine g_seq ?_
          refine g_true rfl ?_
          refine g_skip ?_
          refine g_seq ?_
          refine g_block ?_
          refine g_seq ?_
          refine g_region ?_
          refine r_cons (s_move (.int .i64 (j : Int)) rfl rfl ?_)
          refine r_cons (s_assign (.int .i64 (j : Int)) rfl rfl ?_)
          refine r_nil ?_
          refine g_region ?_
          refine r_cons (s_move (.int .i64 (j : Int)) rfl rfl ?_)
          refine r_cons (s_move (.pointer (some ⟨bk14, 0, none⟩)) rfl rfl ?_)
          refine r_cons (s_move (.int .i64 (j : Int)) rfl rfl ?_)
          refine r_cons (s_call [.pointer (some ⟨bk14, 0, none⟩), .int .i64 (j : Int)] pl_13 rfl rfl (Streams_Mark bk14 4 st evs (j : Int) (i := 2) rfl H42) ?_)
          rintro _ w45 ⟨rfl, H46⟩
          refine r_cons (s_indexAddr_arr (j : Int) 1 (0 + j * 1) rfl rfl ar_28 (by omega) rfl rfl ?_)
          refine r_cons (s_store H46 0 (.int .i64 (markOf 4 st (j : Int))) rfl rfl rfl sz_2 rfl (by rw [ints_size]; have hh := hw; omega) rfl (ints_set (by have hh := hw; omega) _) ?_); intro w47 H48
          refine r_nil ?_
          refine g_inBlock ?_
          refine g_region ?_
          refine r_cons (s_add ((j : Int) + 1) rfl rfl (wi64 (by omega)) rfl ?_)
          refine r_cons (s_move (.int .i64 ((j : Int) + 1)) rfl rfl ?_)
          refine r_nil ?_
          have H49 : St W w47 (blk bk36 (.cells (intCells (wa.set j (markOf 4 st (j : Int)))) 28 (0, 0)) :: blk bk31 (.cells #[.int .i64 ((ops.getD i default).do_.v), .int .i64 ((ops.getD i default).ev.src.v), .int .i64 ((ops.getD i default).ev.seq.v), .int .i64 ((ops.getD i default).ev.time.v), .string ((ops.getD i default).ev.typ.v), .slice ((ops.getD i default).p) ((ops.getD i default).ev.attrs.length) ((ops.getD i default).c), .int .i64 ((ops.getD i default).source.v)] 35 (0, 0)) :: Streams bk14 4 st evs :: blk bk19 (.cells (intCells nx) 28 (0, 0)) :: blk bk22 (.cells (intCells la) 28 (0, 0)) :: opsA ops :: imi (0 < ops.length) gA3 (.cells kA5 eA6 zA7) :: F) := (((((((H48.move 6 rfl).move 6 rfl).move 6 rfl).move 6 rfl).move 6 rfl).move 6 rfl).move 6 rfl)
          exact nx43 (j + 1, wa.set j (markOf 4 st (j : Int))) _ _ ⟨(by omega), (by rw [List.length_set]; exact hw), (by intro q hq; rw [getD_set (by omega)]; split <;> first | (subst_vars; simp; done) | exact hm q (by omega)), H49⟩ (by first | (dsimp only; omega) | omega) ⟨by first | rfl | exact vint (by omega), by first | rfl | exact vint (by omega), by first | rfl | exact vint (by omega), by first | rfl | exact vint (by omega), by first | rfl | exact vint (by omega), by first | rfl | exact vint (by omega), by first | rfl | exact vint (by omega), by first | rfl | exact vint (by omega), by first | rfl | exact vint (by omega), by first | rfl | exact vint (by omega), trivial⟩
        · skip
          refine r_cons (s_lss false rfl rfl (dfalse hc44) rfl ?_)
          refine r_nil ?_
          refine g_seq ?_
          refine g_false rfl ?_
          refine g_exit (by rfl) ?_
          refine g_seq ?_
          refine g_region ?_
          refine r_cons (s_fieldAddr 35 1 1 1 33 rfl fi_35_1 rfl rfl ?_)
          refine r_cons (s_fieldAddr 33 0 0 1 30 rfl fi_33_0 rfl rfl ?_)
          refine r_cons (s_fieldAddr 30 0 0 1 3 rfl fi_30_0 rfl rfl ?_)
          refine r_cons (s_load (.int .i64 ((ops.getD i default).ev.src.v)) ag_3 rfl (H42.blk_at (i := 1) rfl) rfl rfl ?_)
          refine r_cons (s_assign (.int .i64 ((ops.getD i default).ev.src.v)) rfl rfl ?_)
          refine r_nil ?_
          refine g_seq ?_
          refine g_block ?_
          refine g_seq ?_
          refine g_region ?_
          refine r_cons (s_fieldAddr 35 0 0 0 3 rfl fi_35_0 rfl rfl ?_)
          refine r_cons (s_load (.int .i64 ((ops.getD i default).do_.v)) ag_3 rfl (H42.blk_at (i := 1) rfl) rfl rfl ?_)
          by_cases hc50 : (ops.getD i default).do_.v = 1
          · skip
            refine r_cons (s_eql true rfl rfl (dtrue hc50) rfl ?_)
            refine r_cons (s_assign (.bool true) rfl rfl ?_)
            refine r_nil ?_
            refine g_true rfl ?_
            refine g_region ?_
            refine r_cons (s_move (.pointer (some ⟨bk14, 0, none⟩)) rfl rfl ?_)
            refine r_cons (s_fieldAddr 35 2 6 6 3 rfl fi_35_2 rfl rfl ?_)
            refine r_cons (s_load (.int .i64 ((ops.getD i default).source.v)) ag_3 rfl (H42.blk_at (i := 1) rfl) rfl rfl ?_)
            refine r_cons (s_call [.pointer (some ⟨bk14, 0, none⟩), .int .i64 ((ops.getD i default).source.v)] pl_14 rfl rfl (Streams_Close bk14 4 st evs ((ops.getD i default).source.v) (i := 2) rfl H42) ?_)
            rintro _ w51 ⟨rfl, H52⟩
            refine r_nil ?_
            refine g_inBlock ?_
            refine g_seq ?_
            refine g_region ?_
            refine r_cons (s_move (.int .i64 0) rfl rfl ?_)
            refine r_nil ?_
            refine g_block ?_
            have hup : ∀ s : Nat, s < 4 → markOf 4 st s ≤ markOf 4 (closeSt 4 st ((ops.getD i default).source.v)) s := (fun s hs => mark_close hI s hs)
            have hI2 := Inv4_close (n := (ops.getD i default).source.v) hI
            have H53 : St W w51 (blk bk36 (.cells (intCells wa) 28 (0, 0)) :: blk bk31 (.cells #[.int .i64 ((ops.getD i default).do_.v), .int .i64 ((ops.getD i default).ev.src.v), .int .i64 ((ops.getD i default).ev.seq.v), .int .i64 ((ops.getD i default).ev.time.v), .string ((ops.getD i default).ev.typ.v), .slice ((ops.getD i default).p) ((ops.getD i default).ev.attrs.length) ((ops.getD i default).c), .int .i64 ((ops.getD i default).source.v)] 35 (0, 0)) :: Streams bk14 4 (closeSt 4 st ((ops.getD i default).source.v)) evs :: blk bk19 (.cells (intCells nx) 28 (0, 0)) :: blk bk22 (.cells (intCells la) 28 (0, 0)) :: opsA ops :: imi (0 < ops.length) gA3 (.cells kA5 eA6 zA7) :: F) := (((((((H52.move 6 rfl).move 6 rfl).move 6 rfl).move 6 rfl).move 6 rfl).move 6 rfl).move 6 rfl)
            refine g_loop_inv (fun (x : Nat) => match x with | j2 => [(2, .bool false), (3, .pointer (some ⟨bk14, 0, none⟩)), (5, .pointer (some ⟨bk19, 0, none⟩)), (6, .pointer (some ⟨bk22, 0, none⟩)), (28, .slice pA1 ops.length cA2), (29, .int .i64 (ops.length : Int)), (30, .int .i64 (i : Int)), (9, .pointer (some ⟨bk36, 0, none⟩)), (109, .int .i64 (j2 : Int))]) (fun (x : Nat) w => match x with | j2 => (j2 ≤ 4) ∧ St W w (blk bk36 (.cells (intCells wa) 28 (0, 0)) :: blk bk31 (.cells #[.int .i64 ((ops.getD i default).do_.v), .int .i64 ((ops.getD i default).ev.src.v), .int .i64 ((ops.getD i default).ev.seq.v), .int .i64 ((ops.getD i default).ev.time.v), .string ((ops.getD i default).ev.typ.v), .slice ((ops.getD i default).p) ((ops.getD i default).ev.attrs.length) ((ops.getD i default).c), .int .i64 ((ops.getD i default).source.v)] 35 (0, 0)) :: Streams bk14 4 (closeSt 4 st ((ops.getD i default).source.v)) evs :: blk bk19 (.cells (intCells nx) 28 (0, 0)) :: blk bk22 (.cells (intCells la) 28 (0, 0)) :: opsA ops :: imi (0 < ops.length) gA3 (.cells kA5 eA6 zA7) :: F)) (fun (x : Nat) => match x with | j2 => 4 - j2) (0) ?_ ?_ ?_
            · exact ⟨by first | rfl | exact vint (by omega), by first | rfl | exact vint (by omega), by first | rfl | exact vint (by omega), by first | rfl | exact vint (by omega), by first | rfl | exact vint (by omega), by first | rfl | exact vint (by omega), by first | rfl | exact vint (by omega), by first | rfl | exact vint (by omega), by first | rfl | exact vint (by omega), trivial⟩
            · exact ⟨(by omega), H53⟩
            · rintro j2 ρ54 w55 ⟨hj2, H56⟩ nx57
              change Ends _ _ (upds ρ54 [(2, .bool false), (3, .pointer (some ⟨bk14, 0, none⟩)), (5, .pointer (some ⟨bk19, 0, none⟩)), (6, .pointer (some ⟨bk22, 0, none⟩)), (28, .slice pA1 ops.length cA2), (29, .int .i64 (ops.length : Int)), (30, .int .i64 (i : Int)), (9, .pointer (some ⟨bk36, 0, none⟩)), (109, .int .i64 (j2 : Int))]) w55
              refine g_seq ?_
              refine g_region ?_
              by_cases hc58 : (j2 : Int) < 4
              · skip
                refine r_cons (s_lss true rfl rfl (dtrue hc58) rfl ?_)
                refine r_nil ?_
                refine g_seq ?_
                refine g_true rfl ?_
                refine g_skip ?_
                refine g_seq ?_
                refine g_block ?_
                refine g_seq ?_
                refine g_region ?_
                refine r_cons (s_move (.int .i64 (j2 : Int)) rfl rfl ?_)
                refine r_cons (s_assign (.int .i64 (j2 : Int)) rfl rfl ?_)
                refine r_nil ?_
                refine g_seq ?_
                refine g_quiet (fun w' => St W w' (blk bk36 (.cells (intCells wa) 28 (0, 0)) :: blk bk31 (.cells #[.int .i64 ((ops.getD i default).do_.v), .int .i64 ((ops.getD i default).ev.src.v), .int .i64 ((ops.getD i default).ev.seq.v), .int .i64 ((ops.getD i default).ev.time.v), .string ((ops.getD i default).ev.typ.v), .slice ((ops.getD i default).p) ((ops.getD i default).ev.attrs.length) ((ops.getD i default).c), .int .i64 ((ops.getD i default).source.v)] 35 (0, 0)) :: Streams bk14 4 (closeSt 4 st ((ops.getD i default).source.v)) evs :: blk bk19 (.cells (intCells nx) 28 (0, 0)) :: blk bk22 (.cells (intCells la) 28 (0, 0)) :: opsA ops :: imi (0 < ops.length) gA3 (.cells kA5 eA6 zA7) :: F)) mixed (by kernel_rfl) H56.drew ?_
                refine q_cons (q_val rfl rfl rfl (by intro w hw; exact x_move (.pointer (some ⟨bk14, 0, none⟩)) rfl w) ?_)
                refine q_cons (q_val rfl rfl rfl (by intro w hw; exact x_move (.int .i64 (j2 : Int)) rfl w) ?_)
                refine q_cons (q_enter (args := #[.pointer (some ⟨bk14, 0, none⟩), .int .i64 (j2 : Int)]) (v := .int .i64 (markOf 4 (closeSt 4 st ((ops.getD i default).source.v)) (j2 : Int))) rfl rfl rfl (x_call pl_13 [.pointer (some ⟨bk14, 0, none⟩), .int .i64 (j2 : Int)] rfl) (fun w hw => Streams_Mark bk14 4 (closeSt 4 st ((ops.getD i default).source.v)) evs (j2 : Int) (i := 2) rfl hw) ?_)
                refine q_cons (q_val rfl rfl rfl (by intro w hw; exact x_move (.int .i64 (j2 : Int)) rfl w) ?_)
                refine q_cons (q_val rfl rfl rfl (by intro w hw; exact x_indexAddr_arr (j2 : Int) 1 (0 + j2 * 1) rfl rfl ar_28 (by omega) rfl w) ?_)
                refine q_cons (q_val rfl rfl rfl (by intro w hw; exact x_load (.int .i64 (wa.getD j2 0)) ag_2 rfl (hw.blk_at (i := 0) rfl) (ints_get (by have hh := hw; omega))) ?_)
                refine q_cons (q_val rfl rfl rfl (by intro w hw; exact x_lss false rfl rfl (dfalse (by have hh := hup j2 (by omega); have h3 := hm j2 (by omega); omega)) w) ?_)
                refine q_nil ?_
                intro w59 H60
                refine g_false rfl ?_
                refine g_skip ?_
                refine g_inBlock ?_
                refine g_region ?_
                refine r_cons (s_add ((j2 : Int) + 1) rfl rfl (wi64 (by omega)) rfl ?_)
                refine r_cons (s_move (.int .i64 ((j2 : Int) + 1)) rfl rfl ?_)
                refine r_nil ?_
                have H61 : St W w59 (blk bk36 (.cells (intCells wa) 28 (0, 0)) :: blk bk31 (.cells #[.int .i64 ((ops.getD i default).do_.v), .int .i64 ((ops.getD i default).ev.src.v), .int .i64 ((ops.getD i default).ev.seq.v), .int .i64 ((ops.getD i default).ev.time.v), .string ((ops.getD i default).ev.typ.v), .slice ((ops.getD i default).p) ((ops.getD i default).ev.attrs.length) ((ops.getD i default).c), .int .i64 ((ops.getD i default).source.v)] 35 (0, 0)) :: Streams bk14 4 (closeSt 4 st ((ops.getD i default).source.v)) evs :: blk bk19 (.cells (intCells nx) 28 (0, 0)) :: blk bk22 (.cells (intCells la) 28 (0, 0)) :: opsA ops :: imi (0 < ops.length) gA3 (.cells kA5 eA6 zA7) :: F) := (((((((H60.move 6 rfl).move 6 rfl).move 6 rfl).move 6 rfl).move 6 rfl).move 6 rfl).move 6 rfl)
                exact nx57 (j2 + 1) _ _ ⟨(by omega), H61⟩ (by first | (dsimp only; omega) | omega) ⟨by first | rfl | exact vint (by omega), by first | rfl | exact vint (by omega), by first | rfl | exact vint (by omega), by first | rfl | exact vint (by omega), by first | rfl | exact vint (by omega), by first | rfl | exact vint (by omega), by first | rfl | exact vint (by omega), by first | rfl | exact vint (by omega), by first | rfl | exact vint (by omega), trivial⟩
              · skip
                refine r_cons (s_lss false rfl rfl (dfalse hc58) rfl ?_)
                refine r_nil ?_
                refine g_seq ?_
                refine g_false rfl ?_
                refine g_exit (by rfl) ?_
                refine g_inBlock ?_
                refine g_region ?_
                refine r_cons (s_add ((i : Int) + 1) rfl rfl (wi64 (by omega)) rfl ?_)
                refine r_cons (s_move (.int .i64 ((i : Int) + 1)) rfl rfl ?_)
                refine r_nil ?_
                have H62 : St W w55 (Streams bk14 4 (closeSt 4 st ((ops.getD i default).source.v)) evs :: blk bk19 (.cells (intCells nx) 28 (0, 0)) :: blk bk22 (.cells (intCells la) 28 (0, 0)) :: opsA ops :: imi (0 < ops.length) gA3 (.cells kA5 eA6 zA7) :: F) := (((((((H56.move 6 rfl).move 6 rfl).move 6 rfl).move 6 rfl).move 6 rfl).drop 5 rfl).drop 5 rfl)
                exact nx29 (i + 1, closeSt 4 st ((ops.getD i default).source.v), evs, nx, la) _ _ ⟨(by omega), hI2, H62⟩ (by first | (dsimp only; omega) | omega) ⟨by first | rfl | exact vint (by omega), by first | rfl | exact vint (by omega), by first | rfl | exact vint (by omega), by first | rfl | exact vint (by omega), by first | rfl | exact vint (by omega), by first | rfl | exact vint (by omega), by first | rfl | exact vint (by omega), trivial⟩
          · skip
            refine r_cons (s_eql false rfl rfl (dfalse hc50) rfl ?_)
            refine r_cons (s_assign (.bool false) rfl rfl ?_)
            refine r_nil ?_
            refine g_false rfl ?_
            refine g_seq ?_
            refine g_region ?_
            refine r_cons (s_move (.int .i64 ((ops.getD i default).ev.src.v)) rfl rfl ?_)
            by_cases hc63 : (0 : Int) ≤ (ops.getD i default).ev.src.v
            · skip
              refine r_cons (s_geq true rfl rfl (dtrue hc63) rfl ?_)
              refine r_cons (s_move (.bool true) rfl rfl ?_)
              refine r_cons (r_take rfl rfl ?_)
              refine s_move (.int .i64 ((ops.getD i default).ev.src.v)) rfl rfl ?_
              refine r_cons (r_take rfl rfl ?_)
              by_cases hc64 : (ops.getD i default).ev.src.v < 4
              · skip
                refine s_lss true rfl rfl (dtrue hc64) rfl ?_
                refine r_cons (s_pick_t (.bool true) rfl rfl rfl ?_)
                refine r_cons (s_assign (.bool true) rfl rfl ?_)
                refine r_nil ?_
                refine g_true rfl ?_
                refine g_seq ?_
                refine g_region ?_
                refine r_cons (s_move (.pointer (some ⟨bk14, 0, none⟩)) rfl rfl ?_)
                refine r_cons (s_move (.int .i64 ((ops.getD i default).ev.src.v)) rfl rfl ?_)
                refine r_cons (s_call [.pointer (some ⟨bk14, 0, none⟩), .int .i64 ((ops.getD i default).ev.src.v)] pl_15 rfl rfl (Streams_Closed bk14 4 st evs ((ops.getD i default).ev.src.v) (i := 2) rfl H42) ?_)
                rintro _ w65 ⟨rfl, H66⟩
                refine r_cons (s_assign (.bool (closedOf 4 st ((ops.getD i default).ev.src.v))) rfl rfl ?_)
                refine r_nil ?_
                refine g_seq ?_
                refine g_region ?_
                refine r_cons (s_move (.pointer (some ⟨bk14, 0, none⟩)) rfl rfl ?_)
                refine r_cons (s_fieldAddr 35 1 1 1 33 rfl fi_35_1 rfl rfl ?_)
                have H67 := opsA_at H66 (i := 5) rfl (j := i) (by omega)
                refine r_cons (s_loadAgg [.int .i64 ((ops.getD i default).ev.src.v), .int .i64 ((ops.getD i default).ev.seq.v), .int .i64 ((ops.getD i default).ev.time.v), .string ((ops.getD i default).ev.typ.v), .slice ((ops.getD i default).p) ((ops.getD i default).ev.attrs.length) ((ops.getD i default).c)] 5 ag_33 rfl (H67.blk_at (i := 2) rfl) (Nat.le_of_ble_eq_true rfl) rfl rfl ?_)
                refine r_cons (s_call [.pointer (some ⟨bk14, 0, none⟩), .agg #[.int .i64 ((ops.getD i default).ev.src.v), .int .i64 ((ops.getD i default).ev.seq.v), .int .i64 ((ops.getD i default).ev.time.v), .string ((ops.getD i default).ev.typ.v), .slice ((ops.getD i default).p) ((ops.getD i default).ev.attrs.length) ((ops.getD i default).c)]] pl_16 rfl rfl (Streams_Accept bk14 4 st evs ((ops.getD i default).ev) (.slice ((ops.getD i default).p) ((ops.getD i default).ev.attrs.length) ((ops.getD i default).c)) (j := 0) rfl (i := 3) rfl H67) ?_)
                rintro _ w68 ⟨rfl, H69⟩
                by_cases hc70 : acceptE 4 st evs.length ((ops.getD i default).ev) = 0
                · skip
                  refine r_cons (s_eql true rfl rfl (dtrue hc70) rfl ?_)
                  refine r_nil ?_
                  refine g_true rfl ?_
                  refine g_seq ?_
                  refine g_seq ?_
                  refine g_quiet (fun w' => St W w' (Attrs (.slice ((ops.getD i default).p) ((ops.getD i default).ev.attrs.length) ((ops.getD i default).c)) ((ops.getD i default).ev.attrs) :: blk bk36 (.cells (intCells wa) 28 (0, 0)) :: blk bk31 (.cells #[.int .i64 ((ops.getD i default).do_.v), .int .i64 ((ops.getD i default).ev.src.v), .int .i64 ((ops.getD i default).ev.seq.v), .int .i64 ((ops.getD i default).ev.time.v), .string ((ops.getD i default).ev.typ.v), .slice ((ops.getD i default).p) ((ops.getD i default).ev.attrs.length) ((ops.getD i default).c), .int .i64 ((ops.getD i default).source.v)] 35 (0, 0)) :: Streams bk14 4 (accSt 4 st evs ((ops.getD i default).ev)) (accEvs 4 st evs ((ops.getD i default).ev)) :: blk bk19 (.cells (intCells nx) 28 (0, 0)) :: blk bk22 (.cells (intCells la) 28 (0, 0)) :: opsA ops :: imi (0 < ops.length) gA3 (.cells kA5 eA6 zA7) :: F)) mixed (by kernel_rfl) H69.drew ?_
                  have hA : acceptE 4 st evs.length (ops.getD i default).ev = 0 := ‹_›
                  have hg := closed_open hA
                  have ha := acceptE_is hA
                  have hN := hI.2.2.2 (ops.getD i default).ev.src.v.toNat (by omega)
                  have hM := mark_open hA
                  have hW := hm (ops.getD i default).ev.src.v.toNat (by omega)
                  have hT := timeB_range (evE_range ha.1).2.2.1
                  refine q_cons (q_val rfl rfl rfl (by intro w hw; exact x_move (.bool (closedOf 4 st ((ops.getD i default).ev.src.v))) rfl w) ?_)
                  refine q_cons (q_val rfl rfl rfl (by intro w hw; exact x_move (.bool (closedOf 4 st ((ops.getD i default).ev.src.v))) rfl w) ?_)
                  refine q_cons (q_take rfl (congrArg some hg) ?_)
                  refine q_val rfl rfl rfl (by intro w hw; exact x_fieldAddr 35 1 1 1 33 rfl fi_35_1 rfl w) ?_
                  refine q_cons (q_take rfl (congrArg some hg) ?_)
                  refine q_val rfl rfl rfl (by intro w hw; exact x_fieldAddr 33 0 0 1 30 rfl fi_33_0 rfl w) ?_
                  refine q_cons (q_take rfl (congrArg some hg) ?_)
                  refine q_val rfl rfl rfl (by intro w hw; exact x_fieldAddr 30 1 1 2 2 rfl fi_30_1 rfl w) ?_
                  refine q_cons (q_take rfl (congrArg some hg) ?_)
                  refine q_val rfl rfl rfl (by intro w hw; exact x_load (.int .i64 ((ops.getD i default).ev.seq.v)) ag_2 rfl (hw.blk_at (i := 2) rfl) rfl) ?_
                  refine q_cons (q_take rfl (congrArg some hg) ?_)
                  refine q_val rfl rfl rfl (by intro w hw; exact x_move (.int .i64 ((ops.getD i default).ev.src.v)) rfl w) ?_
                  refine q_cons (q_take rfl (congrArg some hg) ?_)
                  refine q_val rfl rfl rfl (by intro w hw; exact x_indexAddr_arr ((ops.getD i default).ev.src.v) 1 (0 + (((ops.getD i default).ev.src.v).toNat) * 1) rfl rfl ar_28 (by omega) rfl w) ?_
                  refine q_cons (q_take rfl (congrArg some hg) ?_)
                  refine q_val rfl rfl rfl (by intro w hw; exact x_load (.int .i64 (nx.getD (((ops.getD i default).ev.src.v).toNat) 0)) ag_2 rfl (hw.blk_at (i := 4) rfl) (ints_get (by have hh := hI.2.1; omega))) ?_
                  refine q_cons (q_take rfl (congrArg some hg) ?_)
                  refine q_val rfl rfl rfl (by intro w hw; exact x_neq false rfl rfl (ntrue (by rw [hN.1]; exact ha.2.2.2.2.1)) w) ?_
                  refine q_cons (q_val rfl rfl rfl (by intro w hw; exact x_pick_f (.bool false) (by exact congrArg Value.bool hg) rfl w) ?_)
                  refine q_cons (q_val rfl rfl rfl (by intro w hw; exact x_move (.bool false) rfl w) ?_)
                  refine q_cons (q_take rfl rfl ?_)
                  refine q_val rfl rfl rfl (by intro w hw; exact x_fieldAddr 35 1 1 1 33 rfl fi_35_1 rfl w) ?_
                  refine q_cons (q_take rfl rfl ?_)
                  refine q_val rfl rfl rfl (by intro w hw; exact x_fieldAddr 33 1 2 3 2 rfl fi_33_1 rfl w) ?_
                  refine q_cons (q_take rfl rfl ?_)
                  refine q_val rfl rfl rfl (by intro w hw; exact x_load (.int .i64 ((ops.getD i default).ev.time.v)) ag_2 rfl (hw.blk_at (i := 2) rfl) rfl) ?_
                  refine q_cons (q_take rfl rfl ?_)
                  refine q_val rfl rfl rfl (by intro w hw; exact x_move (.int .i64 ((ops.getD i default).ev.src.v)) rfl w) ?_
                  refine q_cons (q_take rfl rfl ?_)
                  refine q_val rfl rfl rfl (by intro w hw; exact x_indexAddr_arr ((ops.getD i default).ev.src.v) 1 (0 + (((ops.getD i default).ev.src.v).toNat) * 1) rfl rfl ar_28 (by omega) rfl w) ?_
                  refine q_cons (q_take rfl rfl ?_)
                  refine q_val rfl rfl rfl (by intro w hw; exact x_load (.int .i64 (la.getD (((ops.getD i default).ev.src.v).toNat) 0)) ag_2 rfl (hw.blk_at (i := 5) rfl) (ints_get (by have hh := hI.2.2.1; omega))) ?_
                  refine q_cons (q_take rfl rfl ?_)
                  refine q_val rfl rfl rfl (by intro w hw; exact x_lss false rfl rfl (dfalse (by have := hN.2.1; have := ha.2.2.2.2.2; omega)) w) ?_
                  refine q_cons (q_val rfl rfl rfl (by intro w hw; exact x_pick_f (.bool false) rfl rfl w) ?_)
                  refine q_cons (q_val rfl rfl rfl (by intro w hw; exact x_move (.bool false) rfl w) ?_)
                  refine q_cons (q_take rfl rfl ?_)
                  refine q_val rfl rfl rfl (by intro w hw; exact x_fieldAddr 35 1 1 1 33 rfl fi_35_1 rfl w) ?_
                  refine q_cons (q_take rfl rfl ?_)
                  refine q_val rfl rfl rfl (by intro w hw; exact x_fieldAddr 33 1 2 3 2 rfl fi_33_1 rfl w) ?_
                  refine q_cons (q_take rfl rfl ?_)
                  refine q_val rfl rfl rfl (by intro w hw; exact x_load (.int .i64 ((ops.getD i default).ev.time.v)) ag_2 rfl (hw.blk_at (i := 2) rfl) rfl) ?_
                  refine q_cons (q_take rfl rfl ?_)
                  refine q_val rfl rfl rfl (by intro w hw; exact x_move (.int .i64 ((ops.getD i default).ev.src.v)) rfl w) ?_
                  refine q_cons (q_take rfl rfl ?_)
                  refine q_val rfl rfl rfl (by intro w hw; exact x_indexAddr_arr ((ops.getD i default).ev.src.v) 1 (0 + (((ops.getD i default).ev.src.v).toNat) * 1) rfl rfl ar_28 (by omega) rfl w) ?_
                  refine q_cons (q_take rfl rfl ?_)
                  refine q_val rfl rfl rfl (by intro w hw; exact x_load (.int .i64 (wa.getD (((ops.getD i default).ev.src.v).toNat) 0)) ag_2 rfl (hw.blk_at (i := 1) rfl) (ints_get (by have hh := hw; omega))) ?_
                  refine q_cons (q_take rfl rfl ?_)
                  refine q_val rfl rfl rfl (by intro w hw; exact x_lss false rfl rfl (dfalse (by have := ha.2.2.2.2.2; have hh : (((ops.getD i default).ev.src.v.toNat : Nat) : Int) = (ops.getD i default).ev.src.v := (by omega); rw [hh] at hW; have hM2 := hM; rw [hh] at hM2; omega)) w) ?_
                  refine q_cons (q_val rfl rfl rfl (by intro w hw; exact x_pick_f (.bool false) rfl rfl w) ?_)
                  refine q_nil ?_
                  intro w71 H72
                  refine g_false rfl ?_
                  refine g_skip ?_
                  refine g_seq ?_
                  refine g_region ?_
                  refine r_cons (s_move (.int .i64 ((ops.getD i default).ev.src.v)) rfl rfl ?_)
                  refine r_cons (s_indexAddr_arr ((ops.getD i default).ev.src.v) 1 (0 + (((ops.getD i default).ev.src.v).toNat) * 1) rfl rfl ar_28 (by omega) rfl rfl ?_)
                  refine r_cons (s_load (.int .i64 (nx.getD (((ops.getD i default).ev.src.v).toNat) 0)) ag_2 rfl (H72.blk_at (i := 4) rfl) (ints_get (by have hh := hI.2.1; omega)) rfl ?_)
                  refine r_cons (s_add (nx.getD (((ops.getD i default).ev.src.v).toNat) 0 + 1) rfl rfl (wi64 (by omega)) rfl ?_)
                  refine r_cons (s_indexAddr_arr ((ops.getD i default).ev.src.v) 1 (0 + (((ops.getD i default).ev.src.v).toNat) * 1) rfl rfl ar_28 (by omega) rfl rfl ?_)
                  refine r_cons (s_store H72 4 (.int .i64 (nx.getD (((ops.getD i default).ev.src.v).toNat) 0 + 1)) rfl rfl rfl sz_2 rfl (by rw [ints_size]; have hh := hI.2.1; omega) rfl (ints_set (by have hh := hI.2.1; omega) _) ?_); intro w73 H74
                  refine r_nil ?_
                  refine g_region ?_
                  refine r_cons (s_move (.int .i64 ((ops.getD i default).ev.src.v)) rfl rfl ?_)
                  refine r_cons (s_fieldAddr 35 1 1 1 33 rfl fi_35_1 rfl rfl ?_)
                  refine r_cons (s_fieldAddr 33 1 2 3 2 rfl fi_33_1 rfl rfl ?_)
                  refine r_cons (s_load (.int .i64 ((ops.getD i default).ev.time.v)) ag_2 rfl (H74.blk_at (i := 2) rfl) rfl rfl ?_)
                  refine r_cons (s_indexAddr_arr ((ops.getD i default).ev.src.v) 1 (0 + (((ops.getD i default).ev.src.v).toNat) * 1) rfl rfl ar_28 (by omega) rfl rfl ?_)
                  refine r_cons (s_store H74 5 (.int .i64 ((ops.getD i default).ev.time.v)) rfl rfl rfl sz_2 rfl (by rw [ints_size]; have hh := hI.2.2.1; omega) rfl (ints_set (by have hh := hI.2.2.1; omega) _) ?_); intro w75 H76
                  refine r_nil ?_
                  refine g_inBlock ?_
                  refine g_seq ?_
                  refine g_region ?_
                  refine r_cons (s_move (.int .i64 0) rfl rfl ?_)
                  refine r_nil ?_
                  refine g_block ?_
                  have hup : ∀ s : Nat, s < 4 → markOf 4 st s ≤ markOf 4 (accSt 4 st evs ((ops.getD i default).ev)) s := (fun s hs => mark_acc hI s hs)
                  have hI2 := Inv4_acc hI ‹_›
                  have H77 : St W w75 (Attrs (.slice ((ops.getD i default).p) ((ops.getD i default).ev.attrs.length) ((ops.getD i default).c)) ((ops.getD i default).ev.attrs) :: blk bk36 (.cells (intCells wa) 28 (0, 0)) :: blk bk31 (.cells #[.int .i64 ((ops.getD i default).do_.v), .int .i64 ((ops.getD i default).ev.src.v), .int .i64 ((ops.getD i default).ev.seq.v), .int .i64 ((ops.getD i default).ev.time.v), .string ((ops.getD i default).ev.typ.v), .slice ((ops.getD i default).p) ((ops.getD i default).ev.attrs.length) ((ops.getD i default).c), .int .i64 ((ops.getD i default).source.v)] 35 (0, 0)) :: Streams bk14 4 (accSt 4 st evs ((ops.getD i default).ev)) (accEvs 4 st evs ((ops.getD i default).ev)) :: blk bk19 (.cells (intCells (nx.set (((ops.getD i default).ev.src.v).toNat) (nx.getD (((ops.getD i default).ev.src.v).toNat) 0 + 1))) 28 (0, 0)) :: blk bk22 (.cells (intCells (la.set (((ops.getD i default).ev.src.v).toNat) ((ops.getD i default).ev.time.v))) 28 (0, 0)) :: opsA ops :: imi (0 < ops.length) gA3 (.cells kA5 eA6 zA7) :: F) := ((((((((H76.move 7 rfl).move 7 rfl).move 7 rfl).move 7 rfl).move 7 rfl).move 7 rfl).move 7 rfl).move 7 rfl)
                  refine g_loop_inv (fun (x : Nat) => match x with | j2 => [(2, .bool false), (3, .pointer (some ⟨bk14, 0, none⟩)), (5, .pointer (some ⟨bk19, 0, none⟩)), (6, .pointer (some ⟨bk22, 0, none⟩)), (28, .slice pA1 ops.length cA2), (29, .int .i64 (ops.length : Int)), (30, .int .i64 (i : Int)), (9, .pointer (some ⟨bk36, 0, none⟩)), (109, .int .i64 (j2 : Int))]) (fun (x : Nat) w => match x with | j2 => (j2 ≤ 4) ∧ St W w (Attrs (.slice ((ops.getD i default).p) ((ops.getD i default).ev.attrs.length) ((ops.getD i default).c)) ((ops.getD i default).ev.attrs) :: blk bk36 (.cells (intCells wa) 28 (0, 0)) :: blk bk31 (.cells #[.int .i64 ((ops.getD i default).do_.v), .int .i64 ((ops.getD i default).ev.src.v), .int .i64 ((ops.getD i default).ev.seq.v), .int .i64 ((ops.getD i default).ev.time.v), .string ((ops.getD i default).ev.typ.v), .slice ((ops.getD i default).p) ((ops.getD i default).ev.attrs.length) ((ops.getD i default).c), .int .i64 ((ops.getD i default).source.v)] 35 (0, 0)) :: Streams bk14 4 (accSt 4 st evs ((ops.getD i default).ev)) (accEvs 4 st evs ((ops.getD i default).ev)) :: blk bk19 (.cells (intCells (nx.set (((ops.getD i default).ev.src.v).toNat) (nx.getD (((ops.getD i default).ev.src.v).toNat) 0 + 1))) 28 (0, 0)) :: blk bk22 (.cells (intCells (la.set (((ops.getD i default).ev.src.v).toNat) ((ops.getD i default).ev.time.v))) 28 (0, 0)) :: opsA ops :: imi (0 < ops.length) gA3 (.cells kA5 eA6 zA7) :: F)) (fun (x : Nat) => match x with | j2 => 4 - j2) (0) ?_ ?_ ?_
                  · exact ⟨by first | rfl | exact vint (by omega), by first | rfl | exact vint (by omega), by first | rfl | exact vint (by omega), by first | rfl | exact vint (by omega), by first | rfl | exact vint (by omega), by first | rfl | exact vint (by omega), by first | rfl | exact vint (by omega), by first | rfl | exact vint (by omega), by first | rfl | exact vint (by omega), trivial⟩
                  · exact ⟨(by omega), H77⟩
                  · rintro j2 ρ78 w79 ⟨hj2, H80⟩ nx81
                    change Ends _ _ (upds ρ78 [(2, .bool false), (3, .pointer (some ⟨bk14, 0, none⟩)), (5, .pointer (some ⟨bk19, 0, none⟩)), (6, .pointer (some ⟨bk22, 0, none⟩)), (28, .slice pA1 ops.length cA2), (29, .int .i64 (ops.length : Int)), (30, .int .i64 (i : Int)), (9, .pointer (some ⟨bk36, 0, none⟩)), (109, .int .i64 (j2 : Int))]) w79
                    refine g_seq ?_
                    refine g_region ?_
                    by_cases hc82 : (j2 : Int) < 4
                    · skip
                      refine r_cons (s_lss true rfl rfl (dtrue hc82) rfl ?_)
                      refine r_nil ?_
                      refine g_seq ?_
                      refine g_true rfl ?_
                      refine g_skip ?_
                      refine g_seq ?_
                      refine g_block ?_
                      refine g_seq ?_
                      refine g_region ?_
                      refine r_cons (s_move (.int .i64 (j2 : Int)) rfl rfl ?_)
                      refine r_cons (s_assign (.int .i64 (j2 : Int)) rfl rfl ?_)
                      refine r_nil ?_
                      refine g_seq ?_
                      refine g_quiet (fun w' => St W w' (Attrs (.slice ((ops.getD i default).p) ((ops.getD i default).ev.attrs.length) ((ops.getD i default).c)) ((ops.getD i default).ev.attrs) :: blk bk36 (.cells (intCells wa) 28 (0, 0)) :: blk bk31 (.cells #[.int .i64 ((ops.getD i default).do_.v), .int .i64 ((ops.getD i default).ev.src.v), .int .i64 ((ops.getD i default).ev.seq.v), .int .i64 ((ops.getD i default).ev.time.v), .string ((ops.getD i default).ev.typ.v), .slice ((ops.getD i default).p) ((ops.getD i default).ev.attrs.length) ((ops.getD i default).c), .int .i64 ((ops.getD i default).source.v)] 35 (0, 0)) :: Streams bk14 4 (accSt 4 st evs ((ops.getD i default).ev)) (accEvs 4 st evs ((ops.getD i default).ev)) :: blk bk19 (.cells (intCells (nx.set (((ops.getD i default).ev.src.v).toNat) (nx.getD (((ops.getD i default).ev.src.v).toNat) 0 + 1))) 28 (0, 0)) :: blk bk22 (.cells (intCells (la.set (((ops.getD i default).ev.src.v).toNat) ((ops.getD i default).ev.time.v))) 28 (0, 0)) :: opsA ops :: imi (0 < ops.length) gA3 (.cells kA5 eA6 zA7) :: F)) mixed (by kernel_rfl) H80.drew ?_
                      refine q_cons (q_val rfl rfl rfl (by intro w hw; exact x_move (.pointer (some ⟨bk14, 0, none⟩)) rfl w) ?_)
                      refine q_cons (q_val rfl rfl rfl (by intro w hw; exact x_move (.int .i64 (j2 : Int)) rfl w) ?_)
                      refine q_cons (q_enter (args := #[.pointer (some ⟨bk14, 0, none⟩), .int .i64 (j2 : Int)]) (v := .int .i64 (markOf 4 (accSt 4 st evs ((ops.getD i default).ev)) (j2 : Int))) rfl rfl rfl (x_call pl_13 [.pointer (some ⟨bk14, 0, none⟩), .int .i64 (j2 : Int)] rfl) (fun w hw => Streams_Mark bk14 4 (accSt 4 st evs ((ops.getD i default).ev)) (accEvs 4 st evs ((ops.getD i default).ev)) (j2 : Int) (i := 3) rfl hw) ?_)
                      refine q_cons (q_val rfl rfl rfl (by intro w hw; exact x_move (.int .i64 (j2 : Int)) rfl w) ?_)
                      refine q_cons (q_val rfl rfl rfl (by intro w hw; exact x_indexAddr_arr (j2 : Int) 1 (0 + j2 * 1) rfl rfl ar_28 (by omega) rfl w) ?_)
                      refine q_cons (q_val rfl rfl rfl (by intro w hw; exact x_load (.int .i64 (wa.getD j2 0)) ag_2 rfl (hw.blk_at (i := 1) rfl) (ints_get (by have hh := hw; omega))) ?_)
                      refine q_cons (q_val rfl rfl rfl (by intro w hw; exact x_lss false rfl rfl (dfalse (by have hh := hup j2 (by omega); have h3 := hm j2 (by omega); omega)) w) ?_)
                      refine q_nil ?_
                      intro w83 H84
                      refine g_false rfl ?_
                      refine g_skip ?_
                      refine g_inBlock ?_
                      refine g_region ?_
                      refine r_cons (s_add ((j2 : Int) + 1) rfl rfl (wi64 (by omega)) rfl ?_)
                      refine r_cons (s_move (.int .i64 ((j2 : Int) + 1)) rfl rfl ?_)
                      refine r_nil ?_
                      have H85 : St W w83 (Attrs (.slice ((ops.getD i default).p) ((ops.getD i default).ev.attrs.length) ((ops.getD i default).c)) ((ops.getD i default).ev.attrs) :: blk bk36 (.cells (intCells wa) 28 (0, 0)) :: blk bk31 (.cells #[.int .i64 ((ops.getD i default).do_.v), .int .i64 ((ops.getD i default).ev.src.v), .int .i64 ((ops.getD i default).ev.seq.v), .int .i64 ((ops.getD i default).ev.time.v), .string ((ops.getD i default).ev.typ.v), .slice ((ops.getD i default).p) ((ops.getD i default).ev.attrs.length) ((ops.getD i default).c), .int .i64 ((ops.getD i default).source.v)] 35 (0, 0)) :: Streams bk14 4 (accSt 4 st evs ((ops.getD i default).ev)) (accEvs 4 st evs ((ops.getD i default).ev)) :: blk bk19 (.cells (intCells (nx.set (((ops.getD i default).ev.src.v).toNat) (nx.getD (((ops.getD i default).ev.src.v).toNat) 0 + 1))) 28 (0, 0)) :: blk bk22 (.cells (intCells (la.set (((ops.getD i default).ev.src.v).toNat) ((ops.getD i default).ev.time.v))) 28 (0, 0)) :: opsA ops :: imi (0 < ops.length) gA3 (.cells kA5 eA6 zA7) :: F) := ((((((((H84.move 7 rfl).move 7 rfl).move 7 rfl).move 7 rfl).move 7 rfl).move 7 rfl).move 7 rfl).move 7 rfl)
                      exact nx81 (j2 + 1) _ _ ⟨(by omega), H85⟩ (by first | (dsimp only; omega) | omega) ⟨by first | rfl | exact vint (by omega), by first | rfl | exact vint (by omega), by first | rfl | exact vint (by omega), by first | rfl | exact vint (by omega), by first | rfl | exact vint (by omega), by first | rfl | exact vint (by omega), by first | rfl | exact vint (by omega), by first | rfl | exact vint (by omega), by first | rfl | exact vint (by omega), trivial⟩
                    · skip
                      refine r_cons (s_lss false rfl rfl (dfalse hc82) rfl ?_)
                      refine r_nil ?_
                      refine g_seq ?_
                      refine g_false rfl ?_
                      refine g_exit (by rfl) ?_
                      refine g_inBlock ?_
                      refine g_region ?_
                      refine r_cons (s_add ((i : Int) + 1) rfl rfl (wi64 (by omega)) rfl ?_)
                      refine r_cons (s_move (.int .i64 ((i : Int) + 1)) rfl rfl ?_)
                      refine r_nil ?_
                      have H86 : St W w79 (Streams bk14 4 (accSt 4 st evs ((ops.getD i default).ev)) (accEvs 4 st evs ((ops.getD i default).ev)) :: blk bk19 (.cells (intCells (nx.set (((ops.getD i default).ev.src.v).toNat) (nx.getD (((ops.getD i default).ev.src.v).toNat) 0 + 1))) 28 (0, 0)) :: blk bk22 (.cells (intCells (la.set (((ops.getD i default).ev.src.v).toNat) ((ops.getD i default).ev.time.v))) 28 (0, 0)) :: opsA ops :: imi (0 < ops.length) gA3 (.cells kA5 eA6 zA7) :: F) := ((((((((H80.move 7 rfl).move 7 rfl).move 7 rfl).move 7 rfl).move 7 rfl).drop 5 rfl).drop 5 rfl).drop 5 rfl)
                      exact nx29 (i + 1, accSt 4 st evs ((ops.getD i default).ev), accEvs 4 st evs ((ops.getD i default).ev), nx.set (((ops.getD i default).ev.src.v).toNat) (nx.getD (((ops.getD i default).ev.src.v).toNat) 0 + 1), la.set (((ops.getD i default).ev.src.v).toNat) ((ops.getD i default).ev.time.v)) _ _ ⟨(by omega), hI2, H86⟩ (by first | (dsimp only; omega) | omega) ⟨by first | rfl | exact vint (by omega), by first | rfl | exact vint (by omega), by first | rfl | exact vint (by omega), by first | rfl | exact vint (by omega), by first | rfl | exact vint (by omega), by first | rfl | exact vint (by omega), by first | rfl | exact vint (by omega), trivial⟩
                · skip
                  refine r_cons (s_eql false rfl rfl (dfalse hc70) rfl ?_)
                  refine r_nil ?_
                  refine g_false rfl ?_
                  refine g_skip ?_
                  refine g_inBlock ?_
                  refine g_seq ?_
                  refine g_region ?_
                  refine r_cons (s_move (.int .i64 0) rfl rfl ?_)
                  refine r_nil ?_
                  refine g_block ?_
                  have hup : ∀ s : Nat, s < 4 → markOf 4 st s ≤ markOf 4 (accSt 4 st evs ((ops.getD i default).ev)) s := (fun s hs => mark_acc hI s hs)
                  have hI2 := Inv4_no hI ‹_›
                  have H87 : St W w68 (Attrs (.slice ((ops.getD i default).p) ((ops.getD i default).ev.attrs.length) ((ops.getD i default).c)) ((ops.getD i default).ev.attrs) :: blk bk36 (.cells (intCells wa) 28 (0, 0)) :: blk bk31 (.cells #[.int .i64 ((ops.getD i default).do_.v), .int .i64 ((ops.getD i default).ev.src.v), .int .i64 ((ops.getD i default).ev.seq.v), .int .i64 ((ops.getD i default).ev.time.v), .string ((ops.getD i default).ev.typ.v), .slice ((ops.getD i default).p) ((ops.getD i default).ev.attrs.length) ((ops.getD i default).c), .int .i64 ((ops.getD i default).source.v)] 35 (0, 0)) :: Streams bk14 4 (accSt 4 st evs ((ops.getD i default).ev)) (accEvs 4 st evs ((ops.getD i default).ev)) :: blk bk19 (.cells (intCells nx) 28 (0, 0)) :: blk bk22 (.cells (intCells la) 28 (0, 0)) :: opsA ops :: imi (0 < ops.length) gA3 (.cells kA5 eA6 zA7) :: F) := ((((((((H69.move 7 rfl).move 7 rfl).move 7 rfl).move 7 rfl).move 7 rfl).move 7 rfl).move 7 rfl).move 7 rfl)
                  refine g_loop_inv (fun (x : Nat) => match x with | j2 => [(2, .bool false), (3, .pointer (some ⟨bk14, 0, none⟩)), (5, .pointer (some ⟨bk19, 0, none⟩)), (6, .pointer (some ⟨bk22, 0, none⟩)), (28, .slice pA1 ops.length cA2), (29, .int .i64 (ops.length : Int)), (30, .int .i64 (i : Int)), (9, .pointer (some ⟨bk36, 0, none⟩)), (109, .int .i64 (j2 : Int))]) (fun (x : Nat) w => match x with | j2 => (j2 ≤ 4) ∧ St W w (Attrs (.slice ((ops.getD i default).p) ((ops.getD i default).ev.attrs.length) ((ops.getD i default).c)) ((ops.getD i default).ev.attrs) :: blk bk36 (.cells (intCells wa) 28 (0, 0)) :: blk bk31 (.cells #[.int .i64 ((ops.getD i default).do_.v), .int .i64 ((ops.getD i default).ev.src.v), .int .i64 ((ops.getD i default).ev.seq.v), .int .i64 ((ops.getD i default).ev.time.v), .string ((ops.getD i default).ev.typ.v), .slice ((ops.getD i default).p) ((ops.getD i default).ev.attrs.length) ((ops.getD i default).c), .int .i64 ((ops.getD i default).source.v)] 35 (0, 0)) :: Streams bk14 4 (accSt 4 st evs ((ops.getD i default).ev)) (accEvs 4 st evs ((ops.getD i default).ev)) :: blk bk19 (.cells (intCells nx) 28 (0, 0)) :: blk bk22 (.cells (intCells la) 28 (0, 0)) :: opsA ops :: imi (0 < ops.length) gA3 (.cells kA5 eA6 zA7) :: F)) (fun (x : Nat) => match x with | j2 => 4 - j2) (0) ?_ ?_ ?_
                  · exact ⟨by first | rfl | exact vint (by omega), by first | rfl | exact vint (by omega), by first | rfl | exact vint (by omega), by first | rfl | exact vint (by omega), by first | rfl | exact vint (by omega), by first | rfl | exact vint (by omega), by first | rfl | exact vint (by omega), by first | rfl | exact vint (by omega), by first | rfl | exact vint (by omega), trivial⟩
                  · exact ⟨(by omega), H87⟩
                  · rintro j2 ρ88 w89 ⟨hj2, H90⟩ nx91
                    change Ends _ _ (upds ρ88 [(2, .bool false), (3, .pointer (some ⟨bk14, 0, none⟩)), (5, .pointer (some ⟨bk19, 0, none⟩)), (6, .pointer (some ⟨bk22, 0, none⟩)), (28, .slice pA1 ops.length cA2), (29, .int .i64 (ops.length : Int)), (30, .int .i64 (i : Int)), (9, .pointer (some ⟨bk36, 0, none⟩)), (109, .int .i64 (j2 : Int))]) w89
                    refine g_seq ?_
                    refine g_region ?_
                    by_cases hc92 : (j2 : Int) < 4
                    · skip
                      refine r_cons (s_lss true rfl rfl (dtrue hc92) rfl ?_)
                      refine r_nil ?_
                      refine g_seq ?_
                      refine g_true rfl ?_
                      refine g_skip ?_
                      refine g_seq ?_
                      refine g_block ?_
                      refine g_seq ?_
                      refine g_region ?_
                      refine r_cons (s_move (.int .i64 (j2 : Int)) rfl rfl ?_)
                      refine r_cons (s_assign (.int .i64 (j2 : Int)) rfl rfl ?_)
                      refine r_nil ?_
                      refine g_seq ?_
                      refine g_quiet (fun w' => St W w' (Attrs (.slice ((ops.getD i default).p) ((ops.getD i default).ev.attrs.length) ((ops.getD i default).c)) ((ops.getD i default).ev.attrs) :: blk bk36 (.cells (intCells wa) 28 (0, 0)) :: blk bk31 (.cells #[.int .i64 ((ops.getD i default).do_.v), .int .i64 ((ops.getD i default).ev.src.v), .int .i64 ((ops.getD i default).ev.seq.v), .int .i64 ((ops.getD i default).ev.time.v), .string ((ops.getD i default).ev.typ.v), .slice ((ops.getD i default).p) ((ops.getD i default).ev.attrs.length) ((ops.getD i default).c), .int .i64 ((ops.getD i default).source.v)] 35 (0, 0)) :: Streams bk14 4 (accSt 4 st evs ((ops.getD i default).ev)) (accEvs 4 st evs ((ops.getD i default).ev)) :: blk bk19 (.cells (intCells nx) 28 (0, 0)) :: blk bk22 (.cells (intCells la) 28 (0, 0)) :: opsA ops :: imi (0 < ops.length) gA3 (.cells kA5 eA6 zA7) :: F)) mixed (by kernel_rfl) H90.drew ?_
                      refine q_cons (q_val rfl rfl rfl (by intro w hw; exact x_move (.pointer (some ⟨bk14, 0, none⟩)) rfl w) ?_)
                      refine q_cons (q_val rfl rfl rfl (by intro w hw; exact x_move (.int .i64 (j2 : Int)) rfl w) ?_)
                      refine q_cons (q_enter (args := #[.pointer (some ⟨bk14, 0, none⟩), .int .i64 (j2 : Int)]) (v := .int .i64 (markOf 4 (accSt 4 st evs ((ops.getD i default).ev)) (j2 : Int))) rfl rfl rfl (x_call pl_13 [.pointer (some ⟨bk14, 0, none⟩), .int .i64 (j2 : Int)] rfl) (fun w hw => Streams_Mark bk14 4 (accSt 4 st evs ((ops.getD i default).ev)) (accEvs 4 st evs ((ops.getD i default).ev)) (j2 : Int) (i := 3) rfl hw) ?_)
                      refine q_cons (q_val rfl rfl rfl (by intro w hw; exact x_move (.int .i64 (j2 : Int)) rfl w) ?_)
                      refine q_cons (q_val rfl rfl rfl (by intro w hw; exact x_indexAddr_arr (j2 : Int) 1 (0 + j2 * 1) rfl rfl ar_28 (by omega) rfl w) ?_)
                      refine q_cons (q_val rfl rfl rfl (by intro w hw; exact x_load (.int .i64 (wa.getD j2 0)) ag_2 rfl (hw.blk_at (i := 1) rfl) (ints_get (by have hh := hw; omega))) ?_)
                      refine q_cons (q_val rfl rfl rfl (by intro w hw; exact x_lss false rfl rfl (dfalse (by have hh := hup j2 (by omega); have h3 := hm j2 (by omega); omega)) w) ?_)
                      refine q_nil ?_
                      intro w93 H94
                      refine g_false rfl ?_
                      refine g_skip ?_
                      refine g_inBlock ?_
                      refine g_region ?_
                      refine r_cons (s_add ((j2 : Int) + 1) rfl rfl (wi64 (by omega)) rfl ?_)
                      refine r_cons (s_move (.int .i64 ((j2 : Int) + 1)) rfl rfl ?_)
                      refine r_nil ?_
                      have H95 : St W w93 (Attrs (.slice ((ops.getD i default).p) ((ops.getD i default).ev.attrs.length) ((ops.getD i default).c)) ((ops.getD i default).ev.attrs) :: blk bk36 (.cells (intCells wa) 28 (0, 0)) :: blk bk31 (.cells #[.int .i64 ((ops.getD i default).do_.v), .int .i64 ((ops.getD i default).ev.src.v), .int .i64 ((ops.getD i default).ev.seq.v), .int .i64 ((ops.getD i default).ev.time.v), .string ((ops.getD i default).ev.typ.v), .slice ((ops.getD i default).p) ((ops.getD i default).ev.attrs.length) ((ops.getD i default).c), .int .i64 ((ops.getD i default).source.v)] 35 (0, 0)) :: Streams bk14 4 (accSt 4 st evs ((ops.getD i default).ev)) (accEvs 4 st evs ((ops.getD i default).ev)) :: blk bk19 (.cells (intCells nx) 28 (0, 0)) :: blk bk22 (.cells (intCells la) 28 (0, 0)) :: opsA ops :: imi (0 < ops.length) gA3 (.cells kA5 eA6 zA7) :: F) := ((((((((H94.move 7 rfl).move 7 rfl).move 7 rfl).move 7 rfl).move 7 rfl).move 7 rfl).move 7 rfl).move 7 rfl)
                      exact nx91 (j2 + 1) _ _ ⟨(by omega), H95⟩ (by first | (dsimp only; omega) | omega) ⟨by first | rfl | exact vint (by omega), by first | rfl | exact vint (by omega), by first | rfl | exact vint (by omega), by first | rfl | exact vint (by omega), by first | rfl | exact vint (by omega), by first | rfl | exact vint (by omega), by first | rfl | exact vint (by omega), by first | rfl | exact vint (by omega), by first | rfl | exact vint (by omega), trivial⟩
                    · skip
                      refine r_cons (s_lss false rfl rfl (dfalse hc92) rfl ?_)
                      refine r_nil ?_
                      refine g_seq ?_
                      refine g_false rfl ?_
                      refine g_exit (by rfl) ?_
                      refine g_inBlock ?_
                      refine g_region ?_
                      refine r_cons (s_add ((i : Int) + 1) rfl rfl (wi64 (by omega)) rfl ?_)
                      refine r_cons (s_move (.int .i64 ((i : Int) + 1)) rfl rfl ?_)
                      refine r_nil ?_
                      have H96 : St W w89 (Streams bk14 4 (accSt 4 st evs ((ops.getD i default).ev)) (accEvs 4 st evs ((ops.getD i default).ev)) :: blk bk19 (.cells (intCells nx) 28 (0, 0)) :: blk bk22 (.cells (intCells la) 28 (0, 0)) :: opsA ops :: imi (0 < ops.length) gA3 (.cells kA5 eA6 zA7) :: F) := ((((((((H90.move 7 rfl).move 7 rfl).move 7 rfl).move 7 rfl).move 7 rfl).drop 5 rfl).drop 5 rfl).drop 5 rfl)
                      exact nx29 (i + 1, accSt 4 st evs ((ops.getD i default).ev), accEvs 4 st evs ((ops.getD i default).ev), nx, la) _ _ ⟨(by omega), hI2, H96⟩ (by first | (dsimp only; omega) | omega) ⟨by first | rfl | exact vint (by omega), by first | rfl | exact vint (by omega), by first | rfl | exact vint (by omega), by first | rfl | exact vint (by omega), by first | rfl | exact vint (by omega), by first | rfl | exact vint (by omega), by first | rfl | exact vint (by omega), trivial⟩
              · skip
                refine s_lss false rfl rfl (dfalse hc64) rfl ?_
                refine r_cons (s_pick_t (.bool false) rfl rfl rfl ?_)
                refine r_cons (s_assign (.bool false) rfl rfl ?_)
                refine r_nil ?_
                refine g_false rfl ?_
                refine g_skip ?_
                refine g_inBlock ?_
                refine g_seq ?_
                refine g_region ?_
                refine r_cons (s_move (.int .i64 0) rfl rfl ?_)
                refine r_nil ?_
                refine g_block ?_
                have hup : ∀ s : Nat, s < 4 → markOf 4 st s ≤ markOf 4 st s := (fun s hs => Int.le_refl _)
                have hI2 := hI
                have H97 : St W w41 (blk bk36 (.cells (intCells wa) 28 (0, 0)) :: blk bk31 (.cells #[.int .i64 ((ops.getD i default).do_.v), .int .i64 ((ops.getD i default).ev.src.v), .int .i64 ((ops.getD i default).ev.seq.v), .int .i64 ((ops.getD i default).ev.time.v), .string ((ops.getD i default).ev.typ.v), .slice ((ops.getD i default).p) ((ops.getD i default).ev.attrs.length) ((ops.getD i default).c), .int .i64 ((ops.getD i default).source.v)] 35 (0, 0)) :: Streams bk14 4 st evs :: blk bk19 (.cells (intCells nx) 28 (0, 0)) :: blk bk22 (.cells (intCells la) 28 (0, 0)) :: opsA ops :: imi (0 < ops.length) gA3 (.cells kA5 eA6 zA7) :: F) := (((((((H42.move 6 rfl).move 6 rfl).move 6 rfl).move 6 rfl).move 6 rfl).move 6 rfl).move 6 rfl)
                refine g_loop_inv (fun (x : Nat) => match x with | j2 => [(2, .bool false), (3, .pointer (some ⟨bk14, 0, none⟩)), (5, .pointer (some ⟨bk19, 0, none⟩)), (6, .pointer (some ⟨bk22, 0, none⟩)), (28, .slice pA1 ops.length cA2), (29, .int .i64 (ops.length : Int)), (30, .int .i64 (i : Int)), (9, .pointer (some ⟨bk36, 0, none⟩)), (109, .int .i64 (j2 : Int))]) (fun (x : Nat) w => match x with | j2 => (j2 ≤ 4) ∧ St W w (blk bk36 (.cells (intCells wa) 28 (0, 0)) :: blk bk31 (.cells #[.int .i64 ((ops.getD i default).do_.v), .int .i64 ((ops.getD i default).ev.src.v), .int .i64 ((ops.getD i default).ev.seq.v), .int .i64 ((ops.getD i default).ev.time.v), .string ((ops.getD i default).ev.typ.v), .slice ((ops.getD i default).p) ((ops.getD i default).ev.attrs.length) ((ops.getD i default).c), .int .i64 ((ops.getD i default).source.v)] 35 (0, 0)) :: Streams bk14 4 st evs :: blk bk19 (.cells (intCells nx) 28 (0, 0)) :: blk bk22 (.cells (intCells la) 28 (0, 0)) :: opsA ops :: imi (0 < ops.length) gA3 (.cells kA5 eA6 zA7) :: F)) (fun (x : Nat) => match x with | j2 => 4 - j2) (0) ?_ ?_ ?_
                · exact ⟨by first | rfl | exact vint (by omega), by first | rfl | exact vint (by omega), by first | rfl | exact vint (by omega), by first | rfl | exact vint (by omega), by first | rfl | exact vint (by omega), by first | rfl | exact vint (by omega), by first | rfl | exact vint (by omega), by first | rfl | exact vint (by omega), by first | rfl | exact vint (by omega), trivial⟩
                · exact ⟨(by omega), H97⟩
                · rintro j2 ρ98 w99 ⟨hj2, H100⟩ nx101
                  change Ends _ _ (upds ρ98 [(2, .bool false), (3, .pointer (some ⟨bk14, 0, none⟩)), (5, .pointer (some ⟨bk19, 0, none⟩)), (6, .pointer (some ⟨bk22, 0, none⟩)), (28, .slice pA1 ops.length cA2), (29, .int .i64 (ops.length : Int)), (30, .int .i64 (i : Int)), (9, .pointer (some ⟨bk36, 0, none⟩)), (109, .int .i64 (j2 : Int))]) w99
                  refine g_seq ?_
                  refine g_region ?_
                  by_cases hc102 : (j2 : Int) < 4
                  · skip
                    refine r_cons (s_lss true rfl rfl (dtrue hc102) rfl ?_)
                    refine r_nil ?_
                    refine g_seq ?_
                    refine g_true rfl ?_
                    refine g_skip ?_
                    refine g_seq ?_
                    refine g_block ?_
                    refine g_seq ?_
                    refine g_region ?_
                    refine r_cons (s_move (.int .i64 (j2 : Int)) rfl rfl ?_)
                    refine r_cons (s_assign (.int .i64 (j2 : Int)) rfl rfl ?_)
                    refine r_nil ?_
                    refine g_seq ?_
                    refine g_quiet (fun w' => St W w' (blk bk36 (.cells (intCells wa) 28 (0, 0)) :: blk bk31 (.cells #[.int .i64 ((ops.getD i default).do_.v), .int .i64 ((ops.getD i default).ev.src.v), .int .i64 ((ops.getD i default).ev.seq.v), .int .i64 ((ops.getD i default).ev.time.v), .string ((ops.getD i default).ev.typ.v), .slice ((ops.getD i default).p) ((ops.getD i default).ev.attrs.length) ((ops.getD i default).c), .int .i64 ((ops.getD i default).source.v)] 35 (0, 0)) :: Streams bk14 4 st evs :: blk bk19 (.cells (intCells nx) 28 (0, 0)) :: blk bk22 (.cells (intCells la) 28 (0, 0)) :: opsA ops :: imi (0 < ops.length) gA3 (.cells kA5 eA6 zA7) :: F)) mixed (by kernel_rfl) H100.drew ?_
                    refine q_cons (q_val rfl rfl rfl (by intro w hw; exact x_move (.pointer (some ⟨bk14, 0, none⟩)) rfl w) ?_)
                    refine q_cons (q_val rfl rfl rfl (by intro w hw; exact x_move (.int .i64 (j2 : Int)) rfl w) ?_)
                    refine q_cons (q_enter (args := #[.pointer (some ⟨bk14, 0, none⟩), .int .i64 (j2 : Int)]) (v := .int .i64 (markOf 4 st (j2 : Int))) rfl rfl rfl (x_call pl_13 [.pointer (some ⟨bk14, 0, none⟩), .int .i64 (j2 : Int)] rfl) (fun w hw => Streams_Mark bk14 4 st evs (j2 : Int) (i := 2) rfl hw) ?_)
                    refine q_cons (q_val rfl rfl rfl (by intro w hw; exact x_move (.int .i64 (j2 : Int)) rfl w) ?_)
                    refine q_cons (q_val rfl rfl rfl (by intro w hw; exact x_indexAddr_arr (j2 : Int) 1 (0 + j2 * 1) rfl rfl ar_28 (by omega) rfl w) ?_)
                    refine q_cons (q_val rfl rfl rfl (by intro w hw; exact x_load (.int .i64 (wa.getD j2 0)) ag_2 rfl (hw.blk_at (i := 0) rfl) (ints_get (by have hh := hw; omega))) ?_)
                    refine q_cons (q_val rfl rfl rfl (by intro w hw; exact x_lss false rfl rfl (dfalse (by have hh := hup j2 (by omega); have h3 := hm j2 (by omega); omega)) w) ?_)
                    refine q_nil ?_
                    intro w103 H104
                    refine g_false rfl ?_
                    refine g_skip ?_
                    refine g_inBlock ?_
                    refine g_region ?_
                    refine r_cons (s_add ((j2 : Int) + 1) rfl rfl (wi64 (by omega)) rfl ?_)
                    refine r_cons (s_move (.int .i64 ((j2 : Int) + 1)) rfl rfl ?_)
                    refine r_nil ?_
                    have H105 : St W w103 (blk bk36 (.cells (intCells wa) 28 (0, 0)) :: blk bk31 (.cells #[.int .i64 ((ops.getD i default).do_.v), .int .i64 ((ops.getD i default).ev.src.v), .int .i64 ((ops.getD i default).ev.seq.v), .int .i64 ((ops.getD i default).ev.time.v), .string ((ops.getD i default).ev.typ.v), .slice ((ops.getD i default).p) ((ops.getD i default).ev.attrs.length) ((ops.getD i default).c), .int .i64 ((ops.getD i default).source.v)] 35 (0, 0)) :: Streams bk14 4 st evs :: blk bk19 (.cells (intCells nx) 28 (0, 0)) :: blk bk22 (.cells (intCells la) 28 (0, 0)) :: opsA ops :: imi (0 < ops.length) gA3 (.cells kA5 eA6 zA7) :: F) := (((((((H104.move 6 rfl).move 6 rfl).move 6 rfl).move 6 rfl).move 6 rfl).move 6 rfl).move 6 rfl)
                    exact nx101 (j2 + 1) _ _ ⟨(by omega), H105⟩ (by first | (dsimp only; omega) | omega) ⟨by first | rfl | exact vint (by omega), by first | rfl | exact vint (by omega), by first | rfl | exact vint (by omega), by first | rfl | exact vint (by omega), by first | rfl | exact vint (by omega), by first | rfl | exact vint (by omega), by first | rfl | exact vint (by omega), by first | rfl | exact vint (by omega), by first | rfl | exact vint (by omega), trivial⟩
                  · skip
                    refine r_cons (s_lss false rfl rfl (dfalse hc102) rfl ?_)
                    refine r_nil ?_
                    refine g_seq ?_
                    refine g_false rfl ?_
                    refine g_exit (by rfl) ?_
                    refine g_inBlock ?_
                    refine g_region ?_
                    refine r_cons (s_add ((i : Int) + 1) rfl rfl (wi64 (by omega)) rfl ?_)
                    refine r_cons (s_move (.int .i64 ((i : Int) + 1)) rfl rfl ?_)
                    refine r_nil ?_
                    have H106 : St W w99 (Streams bk14 4 st evs :: blk bk19 (.cells (intCells nx) 28 (0, 0)) :: blk bk22 (.cells (intCells la) 28 (0, 0)) :: opsA ops :: imi (0 < ops.length) gA3 (.cells kA5 eA6 zA7) :: F) := (((((((H100.move 6 rfl).move 6 rfl).move 6 rfl).move 6 rfl).move 6 rfl).drop 5 rfl).drop 5 rfl)
                    exact nx29 (i + 1, st, evs, nx, la) _ _ ⟨(by omega), hI2, H106⟩ (by first | (dsimp only; omega) | omega) ⟨by first | rfl | exact vint (by omega), by first | rfl | exact vint (by omega), by first | rfl | exact vint (by omega), by first | rfl | exact vint (by omega), by first | rfl | exact vint (by omega), by first | rfl | exact vint (by omega), by first | rfl | exact vint (by omega), trivial⟩
            · skip
              refine r_cons (s_geq false rfl rfl (dfalse hc63) rfl ?_)
              refine r_cons (s_move (.bool false) rfl rfl ?_)
              refine r_cons (r_pass rfl rfl rfl rfl rfl ?_)
              refine r_cons (r_pass rfl rfl rfl rfl rfl ?_)
              refine r_cons (s_pick_f (.bool false) rfl rfl rfl ?_)
              refine r_cons (s_assign (.bool false) rfl rfl ?_)
              refine r_nil ?_
              refine g_false rfl ?_
              refine g_skip ?_
              refine g_inBlock ?_
              refine g_seq ?_
              refine g_region ?_
              refine r_cons (s_move (.int .i64 0) rfl rfl ?_)
              refine r_nil ?_
              refine g_block ?_
              have hup : ∀ s : Nat, s < 4 → markOf 4 st s ≤ markOf 4 st s := (fun s hs => Int.le_refl _)
              have hI2 := hI
              have H107 : St W w41 (blk bk36 (.cells (intCells wa) 28 (0, 0)) :: blk bk31 (.cells #[.int .i64 ((ops.getD i default).do_.v), .int .i64 ((ops.getD i default).ev.src.v), .int .i64 ((ops.getD i default).ev.seq.v), .int .i64 ((ops.getD i default).ev.time.v), .string ((ops.getD i default).ev.typ.v), .slice ((ops.getD i default).p) ((ops.getD i default).ev.attrs.length) ((ops.getD i default).c), .int .i64 ((ops.getD i default).source.v)] 35 (0, 0)) :: Streams bk14 4 st evs :: blk bk19 (.cells (intCells nx) 28 (0, 0)) :: blk bk22 (.cells (intCells la) 28 (0, 0)) :: opsA ops :: imi (0 < ops.length) gA3 (.cells kA5 eA6 zA7) :: F) := (((((((H42.move 6 rfl).move 6 rfl).move 6 rfl).move 6 rfl).move 6 rfl).move 6 rfl).move 6 rfl)
              refine g_loop_inv (fun (x : Nat) => match x with | j2 => [(2, .bool false), (3, .pointer (some ⟨bk14, 0, none⟩)), (5, .pointer (some ⟨bk19, 0, none⟩)), (6, .pointer (some ⟨bk22, 0, none⟩)), (28, .slice pA1 ops.length cA2), (29, .int .i64 (ops.length : Int)), (30, .int .i64 (i : Int)), (9, .pointer (some ⟨bk36, 0, none⟩)), (109, .int .i64 (j2 : Int))]) (fun (x : Nat) w => match x with | j2 => (j2 ≤ 4) ∧ St W w (blk bk36 (.cells (intCells wa) 28 (0, 0)) :: blk bk31 (.cells #[.int .i64 ((ops.getD i default).do_.v), .int .i64 ((ops.getD i default).ev.src.v), .int .i64 ((ops.getD i default).ev.seq.v), .int .i64 ((ops.getD i default).ev.time.v), .string ((ops.getD i default).ev.typ.v), .slice ((ops.getD i default).p) ((ops.getD i default).ev.attrs.length) ((ops.getD i default).c), .int .i64 ((ops.getD i default).source.v)] 35 (0, 0)) :: Streams bk14 4 st evs :: blk bk19 (.cells (intCells nx) 28 (0, 0)) :: blk bk22 (.cells (intCells la) 28 (0, 0)) :: opsA ops :: imi (0 < ops.length) gA3 (.cells kA5 eA6 zA7) :: F)) (fun (x : Nat) => match x with | j2 => 4 - j2) (0) ?_ ?_ ?_
              · exact ⟨by first | rfl | exact vint (by omega), by first | rfl | exact vint (by omega), by first | rfl | exact vint (by omega), by first | rfl | exact vint (by omega), by first | rfl | exact vint (by omega), by first | rfl | exact vint (by omega), by first | rfl | exact vint (by omega), by first | rfl | exact vint (by omega), by first | rfl | exact vint (by omega), trivial⟩
              · exact ⟨(by omega), H107⟩
              · rintro j2 ρ108 w109 ⟨hj2, H110⟩ nx111
                change Ends _ _ (upds ρ108 [(2, .bool false), (3, .pointer (some ⟨bk14, 0, none⟩)), (5, .pointer (some ⟨bk19, 0, none⟩)), (6, .pointer (some ⟨bk22, 0, none⟩)), (28, .slice pA1 ops.length cA2), (29, .int .i64 (ops.length : Int)), (30, .int .i64 (i : Int)), (9, .pointer (some ⟨bk36, 0, none⟩)), (109, .int .i64 (j2 : Int))]) w109
                refine g_seq ?_
                refine g_region ?_
                by_cases hc112 : (j2 : Int) < 4
                · skip
                  refine r_cons (s_lss true rfl rfl (dtrue hc112) rfl ?_)
                  refine r_nil ?_
                  refine g_seq ?_
                  refine g_true rfl ?_
                  refine g_skip ?_
                  refine g_seq ?_
                  refine g_block ?_
                  refine g_seq ?_
                  refine g_region ?_
                  refine r_cons (s_move (.int .i64 (j2 : Int)) rfl rfl ?_)
                  refine r_cons (s_assign (.int .i64 (j2 : Int)) rfl rfl ?_)
                  refine r_nil ?_
                  refine g_seq ?_
                  refine g_quiet (fun w' => St W w' (blk bk36 (.cells (intCells wa) 28 (0, 0)) :: blk bk31 (.cells #[.int .i64 ((ops.getD i default).do_.v), .int .i64 ((ops.getD i default).ev.src.v), .int .i64 ((ops.getD i default).ev.seq.v), .int .i64 ((ops.getD i default).ev.time.v), .string ((ops.getD i default).ev.typ.v), .slice ((ops.getD i default).p) ((ops.getD i default).ev.attrs.length) ((ops.getD i default).c), .int .i64 ((ops.getD i default).source.v)] 35 (0, 0)) :: Streams bk14 4 st evs :: blk bk19 (.cells (intCells nx) 28 (0, 0)) :: blk bk22 (.cells (intCells la) 28 (0, 0)) :: opsA ops :: imi (0 < ops.length) gA3 (.cells kA5 eA6 zA7) :: F)) mixed (by kernel_rfl) H110.drew ?_
                  refine q_cons (q_val rfl rfl rfl (by intro w hw; exact x_move (.pointer (some ⟨bk14, 0, none⟩)) rfl w) ?_)
                  refine q_cons (q_val rfl rfl rfl (by intro w hw; exact x_move (.int .i64 (j2 : Int)) rfl w) ?_)
                  refine q_cons (q_enter (args := #[.pointer (some ⟨bk14, 0, none⟩), .int .i64 (j2 : Int)]) (v := .int .i64 (markOf 4 st (j2 : Int))) rfl rfl rfl (x_call pl_13 [.pointer (some ⟨bk14, 0, none⟩), .int .i64 (j2 : Int)] rfl) (fun w hw => Streams_Mark bk14 4 st evs (j2 : Int) (i := 2) rfl hw) ?_)
                  refine q_cons (q_val rfl rfl rfl (by intro w hw; exact x_move (.int .i64 (j2 : Int)) rfl w) ?_)
                  refine q_cons (q_val rfl rfl rfl (by intro w hw; exact x_indexAddr_arr (j2 : Int) 1 (0 + j2 * 1) rfl rfl ar_28 (by omega) rfl w) ?_)
                  refine q_cons (q_val rfl rfl rfl (by intro w hw; exact x_load (.int .i64 (wa.getD j2 0)) ag_2 rfl (hw.blk_at (i := 0) rfl) (ints_get (by have hh := hw; omega))) ?_)
                  refine q_cons (q_val rfl rfl rfl (by intro w hw; exact x_lss false rfl rfl (dfalse (by have hh := hup j2 (by omega); have h3 := hm j2 (by omega); omega)) w) ?_)
                  refine q_nil ?_
                  intro w113 H114
                  refine g_false rfl ?_
                  refine g_skip ?_
                  refine g_inBlock ?_
                  refine g_region ?_
                  refine r_cons (s_add ((j2 : Int) + 1) rfl rfl (wi64 (by omega)) rfl ?_)
                  refine r_cons (s_move (.int .i64 ((j2 : Int) + 1)) rfl rfl ?_)
                  refine r_nil ?_
                  have H115 : St W w113 (blk bk36 (.cells (intCells wa) 28 (0, 0)) :: blk bk31 (.cells #[.int .i64 ((ops.getD i default).do_.v), .int .i64 ((ops.getD i default).ev.src.v), .int .i64 ((ops.getD i default).ev.seq.v), .int .i64 ((ops.getD i default).ev.time.v), .string ((ops.getD i default).ev.typ.v), .slice ((ops.getD i default).p) ((ops.getD i default).ev.attrs.length) ((ops.getD i default).c), .int .i64 ((ops.getD i default).source.v)] 35 (0, 0)) :: Streams bk14 4 st evs :: blk bk19 (.cells (intCells nx) 28 (0, 0)) :: blk bk22 (.cells (intCells la) 28 (0, 0)) :: opsA ops :: imi (0 < ops.length) gA3 (.cells kA5 eA6 zA7) :: F) := (((((((H114.move 6 rfl).move 6 rfl).move 6 rfl).move 6 rfl).move 6 rfl).move 6 rfl).move 6 rfl)
                  exact nx111 (j2 + 1) _ _ ⟨(by omega), H115⟩ (by first | (dsimp only; omega) | omega) ⟨by first | rfl | exact vint (by omega), by first | rfl | exact vint (by omega), by first | rfl | exact vint (by omega), by first | rfl | exact vint (by omega), by first | rfl | exact vint (by omega), by first | rfl | exact vint (by omega), by first | rfl | exact vint (by omega), by first | rfl | exact vint (by omega), by first | rfl | exact vint (by omega), trivial⟩
                · skip
                  refine r_cons (s_lss false rfl rfl (dfalse hc112) rfl ?_)
                  refine r_nil ?_
                  refine g_seq ?_
                  refine g_false rfl ?_
                  refine g_exit (by rfl) ?_
                  refine g_inBlock ?_
                  refine g_region ?_
                  refine r_cons (s_add ((i : Int) + 1) rfl rfl (wi64 (by omega)) rfl ?_)
                  refine r_cons (s_move (.int .i64 ((i : Int) + 1)) rfl rfl ?_)
                  refine r_nil ?_
                  have H116 : St W w109 (Streams bk14 4 st evs :: blk bk19 (.cells (intCells nx) 28 (0, 0)) :: blk bk22 (.cells (intCells la) 28 (0, 0)) :: opsA ops :: imi (0 < ops.length) gA3 (.cells kA5 eA6 zA7) :: F) := (((((((H110.move 6 rfl).move 6 rfl).move 6 rfl).move 6 rfl).move 6 rfl).drop 5 rfl).drop 5 rfl)
                  exact nx29 (i + 1, st, evs, nx, la) _ _ ⟨(by omega), hI2, H116⟩ (by first | (dsimp only; omega) | omega) ⟨by first | rfl | exact vint (by omega), by first | rfl | exact vint (by omega), by first | rfl | exact vint (by omega), by first | rfl | exact vint (by omega), by first | rfl | exact vint (by omega), by first | rfl | exact vint (by omega), by first | rfl | exact vint (by omega), trivial⟩
    · skip
      refine r_cons (s_lss false rfl rfl (dfalse hc30) rfl ?_)
      refine r_nil ?_
      refine g_seq ?_
      refine g_false rfl ?_
      refine g_exit (by rfl) ?_
      refine g_seq ?_
      refine g_region ?_
      refine r_cons (s_assign (.bool true) rfl rfl ?_)
      refine r_nil ?_
      refine g_ret' [.bool true] Try.func3 Try.results3 ⟨rfl, trivial⟩ ?_
      have H117 : St W w27 F := (((((H28.drop 0 rfl).drop 0 rfl).drop 0 rfl).drop 0 rfl).drop 0 rfl)
      exact ⟨rfl, H117⟩
end Sl
