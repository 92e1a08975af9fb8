/- Walks of the program's functions. Printed by a program of this claim's author. No condition. -/
import Derived.Test.YtheggchlcpafmaaSlQ
import Derived.Test.YtheggchlcpafmaaSlR
import Derived.Test.YtheggchlcpafmaaSlBB
import Derived.Test.YtheggchlcpafmaaProg
import Derived.Test.YtheggchlcpafmaaWalkEventStreams1
namespace Sl
open _root_.Go _root_.Go.RowKit _root_.Go.Proofs
set_option linter.all false
set_option maxHeartbeats 4000000 in
set_option maxRecDepth 100000 in
theorem EventStreams_ {W w : World} {F : List Atom} (n : Int) (hnr : -9223372036854775808 ≤ n ∧ n ≤ 9223372036854775807) (ops : List OpM) (sv : Value) (hb : ops.length ≤ 140737488355328) {j k : Nat} (hj : F[j]? = some (Im 7 sv ops.length (ops.flatMap opCell))) (hk : F[k]? = some (opsA ops)) (H : St W w F) : Calls Try.prog 5 #[.int .i64 n, sv] w (Ret fun v w' => v = .bool true ∧ St W w' F) := by
  obtain ⟨pA1, cA2, gA3, oA4, kA5, eA6, zA7, rfl, hn8, hp9, hx10, hs11, hml, H12⟩ := Im.open_ H hj
  have H13 := H12.dup (i := k + 1) (by simpa using hk) (opsA_pers _)
  refine calls_of_go (n := 142) Try.func5 rfl Try.ntmps5 rfl ?_
  refine g_seq ?_
  refine g_region ?_
  refine r_cons (s_assign (.bool false) rfl rfl ?_)
  refine r_nil ?_
  refine g_seq ?_
  refine g_region ?_
  refine r_cons (s_move (.int .i64 n) rfl rfl ?_)
  by_cases hc14 : 1 ≤ n ∧ n ≤ 16
  · skip
    refine r_cons (s_call [.int .i64 n] pl_11 rfl rfl (event_New n hc14 H13) ?_)
    rintro _ w16 ⟨bk15, rfl, H17⟩
    refine r_cons (s_move (.tuple #[.pointer (some ⟨bk15, 0, none⟩), .int .i64 0]) rfl rfl ?_)
    refine r_cons (s_extract (.pointer (some ⟨bk15, 0, none⟩)) #[.pointer (some ⟨bk15, 0, none⟩), .int .i64 0] rfl rfl rfl ?_)
    refine r_cons (s_extract (.int .i64 0) #[.pointer (some ⟨bk15, 0, none⟩), .int .i64 0] rfl rfl rfl ?_)
    refine r_cons (s_assign (.pointer (some ⟨bk15, 0, none⟩)) rfl rfl ?_)
    refine r_cons (s_assign (.int .i64 0) rfl rfl ?_)
    refine r_nil ?_
    refine g_seq ?_
    refine g_region ?_
    refine r_cons (s_move (.int .i64 n) rfl rfl ?_)
    refine r_cons (s_call [.int .i64 n] pl_24 rfl rfl (ref04_New n hc14 H17) ?_)
    rintro _ w19 ⟨bk18, rfl, H20⟩
    refine r_cons (s_move (.tuple #[.pointer (some ⟨bk18, 0, none⟩), .int .i64 0]) rfl rfl ?_)
    refine r_cons (s_extract (.pointer (some ⟨bk18, 0, none⟩)) #[.pointer (some ⟨bk18, 0, none⟩), .int .i64 0] rfl rfl rfl ?_)
    refine r_cons (s_extract (.int .i64 0) #[.pointer (some ⟨bk18, 0, none⟩), .int .i64 0] rfl rfl rfl ?_)
    refine r_cons (s_assign (.pointer (some ⟨bk18, 0, none⟩)) rfl rfl ?_)
    refine r_cons (s_assign (.int .i64 0) rfl rfl ?_)
    refine r_nil ?_
    refine g_seq ?_
    refine g_seq ?_
    refine g_region ?_
    refine r_cons (s_call [] pl_12 rfl rfl (begun_ H20) ?_)
    rintro _ w21 ⟨rfl, H22⟩
    refine r_cons (s_not true rfl false rfl rfl ?_)
    refine r_cons (s_move (.bool false) rfl rfl ?_)
    refine r_cons (r_take rfl rfl ?_)
    refine s_move (.int .i64 0) rfl rfl ?_
    refine r_cons (r_take rfl rfl ?_)
    refine s_move (.int .i64 0) rfl rfl ?_
    refine r_cons (r_take rfl rfl ?_)
    refine s_neq false rfl rfl (ntrue (by decide)) rfl ?_
    refine r_cons (s_pick_f (.bool false) rfl rfl rfl ?_)
    refine r_cons (s_move (.bool false) rfl rfl ?_)
    refine r_cons (r_take rfl rfl ?_)
    refine s_move (.pointer (some ⟨bk15, 0, none⟩)) rfl rfl ?_
    refine r_cons (r_take rfl rfl ?_)
    refine s_peql false un_23 rfl rfl rfl rfl ?_
    refine r_cons (r_take rfl rfl ?_)
    refine s_move (.pointer (some ⟨bk18, 0, none⟩)) rfl rfl ?_
    refine r_cons (r_take rfl rfl ?_)
    refine s_peql false un_44 rfl rfl rfl rfl ?_
    refine r_cons (r_take rfl rfl ?_)
    refine s_bneq false un_4 rfl rfl (ntrue rfl) rfl ?_
    refine r_cons (s_pick_f (.bool false) rfl rfl rfl ?_)
    refine r_nil ?_
    refine g_false rfl ?_
    refine g_skip ?_
    refine g_seq ?_
    refine g_seq ?_
    refine g_region ?_
    refine r_cons (s_move (.pointer (some ⟨bk18, 0, none⟩)) rfl rfl ?_)
    refine r_cons (s_peql false un_44 rfl rfl rfl rfl ?_)
    refine r_nil ?_
    refine g_false rfl ?_
    refine g_skip ?_
    refine g_seq ?_
    refine g_seq ?_
    refine g_region ?_
    refine r_cons (s_move (.slice pA1 ops.length cA2) rfl rfl ?_)
    refine r_cons (s_len ops.length rfl ⟨_, un_22⟩ rfl ?_)
    refine r_cons (s_move (.int .i64 0) rfl rfl ?_)
    refine r_nil ?_
    refine g_block ?_
    have H23 : St W w21 (Streams bk15 n zeroSt [] :: RStr bk18 n [] (List.replicate n.toNat false) :: opsA ops :: imi (0 < ops.length) gA3 (.cells kA5 eA6 zA7) :: F) := ((((H22.move 3 rfl).move 3 rfl).move 2 rfl).move 3 rfl)
    refine g_loop_inv (fun (x_ : Nat × Nat × (List S3) × (List EvM) × (List EvD) × (List Bool)) => match x_ with | (i, X, st, evs, L, gone) => [(0, .int .i64 n), (4, .bool false), (5, .pointer (some ⟨X, 0, none⟩)), (7, .pointer (some ⟨bk18, 0, none⟩)), (40, .slice pA1 ops.length cA2), (41, .int .i64 (ops.length : Int)), (42, .int .i64 (i : Int))]) (fun (x_ : Nat × Nat × (List S3) × (List EvM) × (List EvD) × (List Bool)) w => match x_ with | (i, X, st, evs, L, gone) => (i ≤ ops.length) ∧ (SR n st evs gone) ∧ (L.map EvD.ev = evs) ∧ (okEvs evs) ∧ St W w (Streams X n st evs :: RStr bk18 n L gone :: opsA ops :: imi (0 < ops.length) gA3 (.cells kA5 eA6 zA7) :: F)) (fun (x_ : Nat × Nat × (List S3) × (List EvM) × (List EvD) × (List Bool)) => match x_ with | (i, X, st, evs, L, gone) => ops.length - i) (0, bk15, zeroSt, [], [], (List.replicate n.toNat false)) ?_ ?_ ?_
    · exact ⟨by first | rfl | exact vint (by omega), by first | rfl | exact vint (by omega), by first | rfl | exact vint (by omega), by first | rfl | exact vint (by omega), by first | rfl | exact vint (by omega), by first | rfl | exact vint (by omega), by first | rfl | exact vint (by omega), trivial⟩
    · exact ⟨(by omega), (SR.init hc14.1 hc14.2), rfl, okEvs_nil, H23⟩
    · rintro ⟨i, X, st, evs, L, gone⟩ ρ24 w25 ⟨hi, hSR, hL, hok, H26⟩ nx27
      change Ends _ _ (upds ρ24 [(0, .int .i64 n), (4, .bool false), (5, .pointer (some ⟨X, 0, none⟩)), (7, .pointer (some ⟨bk18, 0, none⟩)), (40, .slice pA1 ops.length cA2), (41, .int .i64 (ops.length : Int)), (42, .int .i64 (i : Int))]) w25
      have hgl := hSR.lm
      have hm16 := hSR.m16
      refine g_seq ?_
      refine g_region ?_
      by_cases hc28 : (i : Int) < (ops.length : Int)
      · skip
        refine r_cons (s_lss true rfl rfl (dtrue hc28) rfl ?_)
        refine r_nil ?_
        refine g_seq ?_
        refine g_true rfl ?_
        refine g_skip ?_
        refine g_seq ?_
        refine g_block ?_
        refine g_seq ?_
        refine g_region ?_
        refine r_cons (s_indexAddr gA3 (off := oA4) (i : Int) 7 (oA4 + i * 7) (by exact congrArg (fun z_ => Value.slice z_ ops.length cA2) (hp9 (by omega))) rfl el_22 (by omega) rfl rfl ?_)
        refine r_cons (s_loadAgg [.int .i64 ((ops.getD i default).do_.v), .int .i64 ((ops.getD i default).ev.src.v), .int .i64 ((ops.getD i default).ev.seq.v), .int .i64 ((ops.getD i default).ev.time.v), .string ((ops.getD i default).ev.typ.v), .slice ((ops.getD i default).p) ((ops.getD i default).ev.attrs.length) ((ops.getD i default).c), .int .i64 ((ops.getD i default).source.v)] 7 ag_35 rfl (H26.imi_at (i := 3) rfl (by omega)) (by have := elem_size (i := i) (s := 7) (hs11 (by omega)) (by omega); omega) (elem_take opCell_len (hx10 (by omega)) (by omega) default) rfl ?_)
        refine r_cons (s_alloc H26 35 ze_35 rfl ?_); intro bk29 w30 H31
        refine r_cons (s_storeAgg H31 0 #[.int .i64 ((ops.getD i default).do_.v), .int .i64 ((ops.getD i default).ev.src.v), .int .i64 ((ops.getD i default).ev.seq.v), .int .i64 ((ops.getD i default).ev.time.v), .string ((ops.getD i default).ev.typ.v), .slice ((ops.getD i default).p) ((ops.getD i default).ev.attrs.length) ((ops.getD i default).c), .int .i64 ((ops.getD i default).source.v)] 7 rfl rfl rfl sz_35 rfl (by simp [Value.oneCell']) (Nat.le_of_ble_eq_true rfl) (fun o h1 h2 => by first | (simp; done) | (simp; omega)) (cs' := #[.int .i64 ((ops.getD i default).do_.v), .int .i64 ((ops.getD i default).ev.src.v), .int .i64 ((ops.getD i default).ev.seq.v), .int .i64 ((ops.getD i default).ev.time.v), .string ((ops.getD i default).ev.typ.v), .slice ((ops.getD i default).p) ((ops.getD i default).ev.attrs.length) ((ops.getD i default).c), .int .i64 ((ops.getD i default).source.v)]) rfl ?_); intro w32 H33
        refine r_nil ?_
        refine g_seq ?_
        refine g_region ?_
        refine r_cons (s_assign (.bool true) rfl rfl ?_)
        refine r_nil ?_
        refine g_seq ?_
        refine g_seq ?_
        refine g_region ?_
        have H34 := opsA_at H33 (i := 3) rfl (j := i) (by omega)
        refine r_cons (s_fieldAddr 35 0 0 0 3 rfl fi_35_0 rfl rfl ?_)
        refine r_cons (s_load (.int .i64 ((ops.getD i default).do_.v)) ag_3 rfl (H34.blk_at (i := 1) rfl) rfl rfl ?_)
        refine r_nil ?_
        refine g_block ?_
        refine g_seq ?_
        refine g_region ?_
        by_cases hc35 : (ops.getD i default).do_.v = 0
        · skip
          refine r_cons (s_eql true rfl rfl (dtrue hc35) rfl ?_)
          refine r_cons (s_assign (.bool true) rfl rfl ?_)
          refine r_nil ?_
          refine g_true rfl ?_
          have H36 : St W w32 (Attrs (.slice ((ops.getD i default).p) ((ops.getD i default).ev.attrs.length) ((ops.getD i default).c)) ((ops.getD i default).ev.attrs) :: blk bk29 (.cells #[.int .i64 ((ops.getD i default).do_.v), .int .i64 ((ops.getD i default).ev.src.v), .int .i64 ((ops.getD i default).ev.seq.v), .int .i64 ((ops.getD i default).ev.time.v), .string ((ops.getD i default).ev.typ.v), .slice ((ops.getD i default).p) ((ops.getD i default).ev.attrs.length) ((ops.getD i default).c), .int .i64 ((ops.getD i default).source.v)] 35 (0, 0)) :: opsA ops :: imi (0 < ops.length) gA3 (.cells kA5 eA6 zA7) :: Streams X n st evs :: RStr bk18 n L gone :: F) := ((((((H34.move 3 rfl).move 3 rfl).move 5 rfl).move 5 rfl).move 5 rfl).move 5 rfl)
          refine g_mix (fun t_ w => St W w (Attrs (.slice ((ops.getD i default).p) ((ops.getD i default).ev.attrs.length) ((ops.getD i default).c)) ((ops.getD i default).ev.attrs) :: blk bk29 (.cells #[.int .i64 ((ops.getD i default).do_.v), .int .i64 ((ops.getD i default).ev.src.v), .int .i64 ((ops.getD i default).ev.seq.v), .int .i64 ((ops.getD i default).ev.time.v), .string ((ops.getD i default).ev.typ.v), .slice ((ops.getD i default).p) ((ops.getD i default).ev.attrs.length) ((ops.getD i default).c), .int .i64 ((ops.getD i default).source.v)] 35 (0, 0)) :: opsA ops :: imi (0 < ops.length) gA3 (.cells kA5 eA6 zA7) :: t_)) (Streams X n st evs :: RStr bk18 n L gone :: F) mixed 10 rfl H36.drew ?_
          refine f_first 0 (listed' := #[true, false, false, false, false, false, false, false, false, false]) rfl (by kernel_rfl) (by kernel_rfl) (by kernel_rfl) rfl ?_
          refine f_val rfl rfl rfl (by intro t_ w hw; exact x_move (.pointer (some ⟨X, 0, none⟩)) rfl w) ?_
          refine f_first 1 (listed' := #[true, true, false, false, false, false, false, false, false, false]) rfl (by kernel_rfl) (by kernel_rfl) (by kernel_rfl) rfl ?_
          refine f_val rfl rfl rfl (by intro t_ w hw; exact x_fieldAddr 35 1 1 1 33 rfl fi_35_1 rfl w) ?_
          refine f_first 2 (listed' := #[true, true, true, false, false, false, false, false, false, false]) rfl (by kernel_rfl) (by kernel_rfl) (by kernel_rfl) rfl ?_
          refine f_val rfl rfl rfl (by intro t_ w hw; exact x_loadAgg [.int .i64 ((ops.getD i default).ev.src.v), .int .i64 ((ops.getD i default).ev.seq.v), .int .i64 ((ops.getD i default).ev.time.v), .string ((ops.getD i default).ev.typ.v), .slice ((ops.getD i default).p) ((ops.getD i default).ev.attrs.length) ((ops.getD i default).c)] 5 ag_33 rfl (hw.blk_at (i := 1) rfl) (Nat.le_of_ble_eq_true rfl) rfl) ?_
          refine f_first 4 (listed' := #[true, true, true, false, true, false, false, false, false, false]) rfl (by kernel_rfl) (by kernel_rfl) (by kernel_rfl) rfl ?_
          refine f_val rfl rfl rfl (by intro t_ w hw; exact x_move (.pointer (some ⟨bk18, 0, none⟩)) rfl w) ?_
          refine f_first 5 (listed' := #[true, true, true, false, true, true, false, false, false, false]) rfl (by kernel_rfl) (by kernel_rfl) (by kernel_rfl) rfl ?_
          refine f_val rfl rfl rfl (by intro t_ w hw; exact x_fieldAddr 35 1 1 1 33 rfl fi_35_1 rfl w) ?_
          refine f_first 6 (listed' := #[true, true, true, false, true, true, true, false, false, false]) rfl (by kernel_rfl) (by kernel_rfl) (by kernel_rfl) rfl ?_
          refine f_val rfl rfl rfl (by intro t_ w hw; exact x_loadAgg [.int .i64 ((ops.getD i default).ev.src.v), .int .i64 ((ops.getD i default).ev.seq.v), .int .i64 ((ops.getD i default).ev.time.v), .string ((ops.getD i default).ev.typ.v), .slice ((ops.getD i default).p) ((ops.getD i default).ev.attrs.length) ((ops.getD i default).c)] 5 ag_33 rfl (hw.blk_at (i := 1) rfl) (Nat.le_of_ble_eq_true rfl) rfl) ?_
          refine f_all (rs := [3]) (by kernel_rfl) (by simp) ?_
          refine a_cons ⟨_, rfl, ?_⟩ (fun x hx => absurd hx (by simp))
          intro w37 H38
          try dsimp only at H38
          refine s_call [.pointer (some ⟨X, 0, none⟩), .agg #[.int .i64 ((ops.getD i default).ev.src.v), .int .i64 ((ops.getD i default).ev.seq.v), .int .i64 ((ops.getD i default).ev.time.v), .string ((ops.getD i default).ev.typ.v), .slice ((ops.getD i default).p) ((ops.getD i default).ev.attrs.length) ((ops.getD i default).c)]] pl_16 rfl rfl (Streams_Accept X n st evs ((ops.getD i default).ev) (.slice ((ops.getD i default).p) ((ops.getD i default).ev.attrs.length) ((ops.getD i default).c)) (j := 0) rfl (i := 4) rfl H38) ?_
          rintro _ w39 ⟨rfl, H40⟩
          refine ⟨Streams X n (accSt n st evs ((ops.getD i default).ev)) (accEvs n st evs ((ops.getD i default).ev)) :: RStr bk18 n L gone :: F, ?_, H40⟩
          change FReg _ _ _ _ _ #[true, true, true, true, true, true, true, false, false, false] _ _
          refine f_all (rs := [7]) (by kernel_rfl) (by simp) ?_
          refine a_cons ⟨_, rfl, ?_⟩ (fun x hx => absurd hx (by simp))
          intro w41 H42
          try dsimp only at H42
          refine s_call [.pointer (some ⟨bk18, 0, none⟩), .agg #[.int .i64 ((ops.getD i default).ev.src.v), .int .i64 ((ops.getD i default).ev.seq.v), .int .i64 ((ops.getD i default).ev.time.v), .string ((ops.getD i default).ev.typ.v), .slice ((ops.getD i default).p) ((ops.getD i default).ev.attrs.length) ((ops.getD i default).c)]] pl_25 rfl rfl (RStr_Accept bk18 n L gone (by first | assumption | omega) (by first | assumption | omega) ((ops.getD i default).ev) (.slice ((ops.getD i default).p) ((ops.getD i default).ev.attrs.length) ((ops.getD i default).c)) (j := 0) rfl (i := 5) rfl H42) ?_
          rintro _ w45 ⟨rfl, L243, hL244, H46⟩
          refine ⟨Streams X n (accSt n st evs ((ops.getD i default).ev)) (accEvs n st evs ((ops.getD i default).ev)) :: RStr bk18 n L243 gone :: F, ?_, H46⟩
          change FReg _ _ _ _ _ #[true, true, true, true, true, true, true, true, false, false] _ _
          refine f_first 8 (listed' := #[true, true, true, true, true, true, true, true, true, false]) rfl (by kernel_rfl) (by kernel_rfl) (by kernel_rfl) rfl ?_
          refine f_val rfl rfl rfl (by intro t_ w hw; exact x_eql true rfl rfl (dtrue (by rw [hL]; exact hSR.acc _)) w) ?_
          refine f_first 9 (listed' := #[true, true, true, true, true, true, true, true, true, true]) rfl (by kernel_rfl) (by kernel_rfl) (by kernel_rfl) rfl ?_
          refine f_val rfl rfl rfl (by intro t_ w hw; exact x_assign (.bool true) rfl w) ?_
          refine f_done (by kernel_rfl) ?_
          intro w47 H48
          refine g_inBlock ?_
          refine g_seq ?_
          refine g_seq ?_
          refine g_region ?_
          refine r_cons (s_assign (.int .i64 (-1)) rfl rfl ?_)
          refine r_nil ?_
          refine g_block ?_
          have hSR2 := hSR.acc_keep (ops.getD i default).ev
          have hL2 : L243.map EvD.ev = accEvs n st evs ((ops.getD i default).ev) := by rw [hL244, hL, hSR.list]
          have hok2 : okEvs (accEvs n st evs ((ops.getD i default).ev)) := okEvs_acc hok _
          have hgl2 := hSR2.lm
          have hlen2 : L243.length = (accEvs n st evs ((ops.getD i default).ev)).length := by rw [← hL2, List.length_map]
          have H49 : St W w47 (Streams X n (accSt n st evs ((ops.getD i default).ev)) (accEvs n st evs ((ops.getD i default).ev)) :: RStr bk18 n L243 gone :: opsA ops :: imi (0 < ops.length) gA3 (.cells kA5 eA6 zA7) :: F) := ((((((H48.move 3 rfl).move 3 rfl).move 5 rfl).move 5 rfl).drop 4 rfl).drop 4 rfl)
          refine g_loop_inv (fun (x_ : Int) => match x_ with | s => [(0, .int .i64 n), (4, .bool false), (5, .pointer (some ⟨X, 0, none⟩)), (7, .pointer (some ⟨bk18, 0, none⟩)), (40, .slice pA1 ops.length cA2), (41, .int .i64 (ops.length : Int)), (42, .int .i64 (i : Int)), (11, .bool true), (13, .int .i64 s)]) (fun (x_ : Int) w => match x_ with | s => (-1 ≤ s ∧ s ≤ n + 1) ∧ St W w (Streams X n (accSt n st evs ((ops.getD i default).ev)) (accEvs n st evs ((ops.getD i default).ev)) :: RStr bk18 n L243 gone :: opsA ops :: imi (0 < ops.length) gA3 (.cells kA5 eA6 zA7) :: F)) (fun (x_ : Int) => match x_ with | s => (n + 1 - s).toNat) ((-1 : Int)) ?_ ?_ ?_
          · exact ⟨by first | rfl | exact vint (by omega), by first | rfl | exact vint (by omega), by first | rfl | exact vint (by omega), by first | rfl | exact vint (by omega), by first | rfl | exact vint (by omega), by first | rfl | exact vint (by omega), by first | rfl | exact vint (by omega), by first | rfl | exact vint (by omega), by first | rfl | exact vint (by omega), trivial⟩
          · exact ⟨(by omega), H49⟩
          · rintro s ρ50 w51 ⟨hs, H52⟩ nx53
            change Ends _ _ (upds ρ50 [(0, .int .i64 n), (4, .bool false), (5, .pointer (some ⟨X, 0, none⟩)), (7, .pointer (some ⟨bk18, 0, none⟩)), (40, .slice pA1 ops.length cA2), (41, .int .i64 (ops.length : Int)), (42, .int .i64 (i : Int)), (11, .bool true), (13, .int .i64 s)]) w51
            refine g_seq ?_
            refine g_seq ?_
            refine g_region ?_
            refine r_cons (s_move (.int .i64 s) rfl rfl ?_)
            refine r_cons (s_move (.int .i64 n) rfl rfl ?_)
            by_cases hc54 : s ≤ n
            · skip
              refine r_cons (s_leq true rfl rfl (dtrue hc54) rfl ?_)
              refine r_nil ?_
              refine g_true rfl ?_
              refine g_skip ?_
              refine g_seq ?_
              refine g_block ?_
              refine g_region ?_
              refine r_cons (s_move (.bool true) rfl rfl ?_)
              refine r_cons (s_move (.bool true) rfl rfl ?_)
              refine r_cons (r_take rfl rfl ?_)
              refine s_move (.pointer (some ⟨X, 0, none⟩)) rfl rfl ?_
              refine r_cons (r_take rfl rfl ?_)
              refine s_move (.int .i64 s) rfl rfl ?_
              refine r_cons (r_take rfl rfl ?_)
              refine s_call [.pointer (some ⟨X, 0, none⟩), .int .i64 s] pl_28 rfl rfl (Streams_Next X n (accSt n st evs ((ops.getD i default).ev)) (accEvs n st evs ((ops.getD i default).ev)) s (i := 0) rfl H52) ?_
              rintro _ w55 ⟨rfl, H56⟩
              refine r_cons (r_take rfl rfl ?_)
              refine s_move (.pointer (some ⟨bk18, 0, none⟩)) rfl rfl ?_
              refine r_cons (r_take rfl rfl ?_)
              refine s_move (.int .i64 s) rfl rfl ?_
              refine r_cons (r_take rfl rfl ?_)
              refine s_call [.pointer (some ⟨bk18, 0, none⟩), .int .i64 s] pl_29 rfl rfl (RStr_Next bk18 n L243 gone s (i := 1) rfl H56) ?_
              rintro _ w57 ⟨rfl, H58⟩
              refine r_cons (r_take rfl rfl ?_)
              refine s_eql true rfl rfl (dtrue (by rw [hL2]; exact hSR2.next s)) rfl ?_
              refine r_cons (s_pick_t (.bool true) rfl rfl rfl ?_)
              refine r_cons (s_move (.bool true) rfl rfl ?_)
              refine r_cons (r_take rfl rfl ?_)
              refine s_move (.pointer (some ⟨X, 0, none⟩)) rfl rfl ?_
              refine r_cons (r_take rfl rfl ?_)
              refine s_move (.int .i64 s) rfl rfl ?_
              refine r_cons (r_take rfl rfl ?_)
              refine s_call [.pointer (some ⟨X, 0, none⟩), .int .i64 s] pl_13 rfl rfl (Streams_Mark X n (accSt n st evs ((ops.getD i default).ev)) (accEvs n st evs ((ops.getD i default).ev)) s (i := 0) rfl H58) ?_
              rintro _ w59 ⟨rfl, H60⟩
              refine r_cons (r_take rfl rfl ?_)
              refine s_move (.pointer (some ⟨bk18, 0, none⟩)) rfl rfl ?_
              refine r_cons (r_take rfl rfl ?_)
              refine s_move (.int .i64 s) rfl rfl ?_
              refine r_cons (r_take rfl rfl ?_)
              refine s_call [.pointer (some ⟨bk18, 0, none⟩), .int .i64 s] pl_30 rfl rfl (RStr_Mark bk18 n L243 gone s (by first | assumption | omega) (by first | assumption | omega) (i := 1) rfl H60) ?_
              rintro _ w61 ⟨rfl, H62⟩
              refine r_cons (r_take rfl rfl ?_)
              refine s_eql true rfl rfl (dtrue (by rw [hL2]; exact hSR2.mark s)) rfl ?_
              refine r_cons (s_pick_t (.bool true) rfl rfl rfl ?_)
              refine r_cons (s_move (.bool true) rfl rfl ?_)
              refine r_cons (r_take rfl rfl ?_)
              refine s_move (.pointer (some ⟨X, 0, none⟩)) rfl rfl ?_
              refine r_cons (r_take rfl rfl ?_)
              refine s_move (.int .i64 s) rfl rfl ?_
              refine r_cons (r_take rfl rfl ?_)
              refine s_call [.pointer (some ⟨X, 0, none⟩), .int .i64 s] pl_15 rfl rfl (Streams_Closed X n (accSt n st evs ((ops.getD i default).ev)) (accEvs n st evs ((ops.getD i default).ev)) s (i := 0) rfl H62) ?_
              rintro _ w63 ⟨rfl, H64⟩
              refine r_cons (r_take rfl rfl ?_)
              refine s_move (.pointer (some ⟨bk18, 0, none⟩)) rfl rfl ?_
              refine r_cons (r_take rfl rfl ?_)
              refine s_move (.int .i64 s) rfl rfl ?_
              refine r_cons (r_take rfl rfl ?_)
              refine s_call [.pointer (some ⟨bk18, 0, none⟩), .int .i64 s] pl_31 rfl rfl (RStr_Closed bk18 n L243 gone s (by first | assumption | omega) (by first | assumption | omega) (i := 1) rfl H64) ?_
              rintro _ w65 ⟨rfl, H66⟩
              refine r_cons (r_take rfl rfl ?_)
              refine s_beql true un_4 rfl rfl (dtrue (hSR2.closed s)) rfl ?_
              refine r_cons (s_pick_t (.bool true) rfl rfl rfl ?_)
              refine r_cons (s_assign (.bool true) rfl rfl ?_)
              refine r_nil ?_
              refine g_inBlock ?_
              refine g_region ?_
              refine r_cons (s_move (.int .i64 s) rfl rfl ?_)
              refine r_cons (s_add (s + 1) rfl rfl (wi64 (by omega)) rfl ?_)
              refine r_cons (s_assign (.int .i64 (s + 1)) rfl rfl ?_)
              refine r_nil ?_
              have H67 : St W w65 (Streams X n (accSt n st evs ((ops.getD i default).ev)) (accEvs n st evs ((ops.getD i default).ev)) :: RStr bk18 n L243 gone :: opsA ops :: imi (0 < ops.length) gA3 (.cells kA5 eA6 zA7) :: F) := ((((H66.move 3 rfl).move 3 rfl).move 3 rfl).move 3 rfl)
              exact nx53 (s + 1) _ _ ⟨(by omega), H67⟩ (by first | (dsimp only; omega) | omega) ⟨by first | rfl | exact vint (by omega), by first | rfl | exact vint (by omega), by first | rfl | exact vint (by omega), by first | rfl | exact vint (by omega), by first | rfl | exact vint (by omega), by first | rfl | exact vint (by omega), by first | rfl | exact vint (by omega), by first | rfl | exact vint (by omega), by first | rfl | exact vint (by omega), trivial⟩
            · skip
              refine r_cons (s_leq false rfl rfl (dfalse hc54) rfl ?_)
              refine r_nil ?_
              refine g_false rfl ?_
              refine g_exit (by rfl) ?_
              refine g_seq ?_
              have H68 := H52.move 1 rfl
              obtain ⟨⟨⟨pp69, cc70⟩, pp71, cc72⟩, H73⟩ := St.open_ex H68
              have H74 := St.open_star H73
              dsimp only at H74
              have H75 : St W w51 (blk bk18 (.cells #[.int .i64 n, .slice pp69 L243.length cc70, .slice pp71 gone.length cc72] 52 (0, 0)) :: Im 5 (.slice pp69 L243.length cc70) L243.length (L243.flatMap evdCell) :: evA L243 :: Im 1 (.slice pp71 gone.length cc72) gone.length (gone.flatMap blc) :: Streams X n (accSt n st evs ((ops.getD i default).ev)) (accEvs n st evs ((ops.getD i default).ev)) :: opsA ops :: imi (0 < ops.length) gA3 (.cells kA5 eA6 zA7) :: F) := H74
              refine g_quiet (fun w' => St W w' (blk bk18 (.cells #[.int .i64 n, .slice pp69 L243.length cc70, .slice pp71 gone.length cc72] 52 (0, 0)) :: Im 5 (.slice pp69 L243.length cc70) L243.length (L243.flatMap evdCell) :: evA L243 :: Im 1 (.slice pp71 gone.length cc72) gone.length (gone.flatMap blc) :: Streams X n (accSt n st evs ((ops.getD i default).ev)) (accEvs n st evs ((ops.getD i default).ev)) :: opsA ops :: imi (0 < ops.length) gA3 (.cells kA5 eA6 zA7) :: F)) mixed (by kernel_rfl) H75.drew ?_
              refine q_cons (q_val rfl rfl rfl (by intro w hw; exact x_move (.bool true) rfl w) ?_)
              refine q_cons (q_val rfl rfl rfl (by intro w hw; exact x_not true rfl false rfl w) ?_)
              refine q_cons (q_val rfl rfl rfl (by intro w hw; exact x_move (.bool false) rfl w) ?_)
              refine q_cons (q_take rfl rfl ?_)
              refine q_val rfl rfl rfl (by intro w hw; exact x_move (.pointer (some ⟨X, 0, none⟩)) rfl w) ?_
              refine q_cons (q_take rfl rfl ?_)
              refine q_enter (args := #[.pointer (some ⟨X, 0, none⟩)]) (v := .int .i64 ((accEvs n st evs ((ops.getD i default).ev)).length : Int)) rfl rfl rfl (x_call pl_32 [.pointer (some ⟨X, 0, none⟩)] rfl) (fun w hw => Streams_Len X n (accSt n st evs ((ops.getD i default).ev)) (accEvs n st evs ((ops.getD i default).ev))  (i := 4) rfl hw) ?_
              refine q_cons (q_take rfl rfl ?_)
              refine q_val rfl rfl rfl (by intro w hw; exact x_move (.pointer (some ⟨bk18, 0, none⟩)) rfl w) ?_
              refine q_cons (q_take rfl rfl ?_)
              refine q_val rfl rfl rfl (by intro w hw; exact x_nilCheck (.pointer (some ⟨bk18, 0, none⟩)) rfl ⟨_, rfl⟩ w) ?_
              refine q_cons (q_take rfl rfl ?_)
              refine q_val rfl rfl rfl (by intro w hw; exact x_fieldAddr 52 1 1 1 49 rfl fi_52_1 rfl w) ?_
              refine q_cons (q_take rfl rfl ?_)
              refine q_val rfl rfl rfl (by intro w hw; exact x_load (.slice pp69 L243.length cc70) ag_49 rfl (hw.blk_at (i := 0) rfl) rfl) ?_
              refine q_cons (q_take rfl rfl ?_)
              refine q_val rfl rfl rfl (by intro w hw; exact x_len L243.length rfl ⟨_, un_49⟩ w) ?_
              refine q_cons (q_take rfl rfl ?_)
              refine q_val rfl rfl rfl (by intro w hw; exact x_neq false rfl rfl (ntrue (by omega)) w) ?_
              refine q_cons (q_val rfl rfl rfl (by intro w hw; exact x_pick_f (.bool false) rfl rfl w) ?_)
              refine q_nil ?_
              intro w76 H77
              refine g_false rfl ?_
              refine g_skip ?_
              refine g_inBlock ?_
              refine g_region ?_
              refine r_cons (s_add ((i : Int) + 1) rfl rfl (wi64 (by omega)) rfl ?_)
              refine r_cons (s_move (.int .i64 ((i : Int) + 1)) rfl rfl ?_)
              refine r_nil ?_
              have H78 : St W w76 (RStr bk18 n L243 gone :: Streams X n (accSt n st evs ((ops.getD i default).ev)) (accEvs n st evs ((ops.getD i default).ev)) :: opsA ops :: imi (0 < ops.length) gA3 (.cells kA5 eA6 zA7) :: F) := St.shut_ex ((pp69, cc70), (pp71, cc72)) (St.shut_star (ls := [blk bk18 (.cells #[.int .i64 n, .slice pp69 L243.length cc70, .slice pp71 gone.length cc72] 52 (0, 0)), Im 5 (.slice pp69 L243.length cc70) L243.length (L243.flatMap evdCell), evA L243, Im 1 (.slice pp71 gone.length cc72) gone.length (gone.flatMap blc)]) H77)
              have H79 : St W w76 (Streams X n (accSt n st evs ((ops.getD i default).ev)) (accEvs n st evs ((ops.getD i default).ev)) :: RStr bk18 n L243 gone :: opsA ops :: imi (0 < ops.length) gA3 (.cells kA5 eA6 zA7) :: F) := ((((H78.move 3 rfl).move 3 rfl).move 2 rfl).move 3 rfl)
              exact nx27 (i + 1, X, accSt n st evs ((ops.getD i default).ev), accEvs n st evs ((ops.getD i default).ev), L243, gone) _ _ ⟨(by omega), hSR2, hL2, hok2, H79⟩ (by first | (dsimp only; omega) | omega) ⟨by first | rfl | exact vint (by omega), by first | rfl | exact vint (by omega), by first | rfl | exact vint (by omega), by first | rfl | exact vint (by omega), by first | rfl | exact vint (by omega), by first | rfl | exact vint (by omega), by first | rfl | exact vint (by omega), trivial⟩
        · skip
          refine r_cons (s_eql false rfl rfl (dfalse hc35) rfl ?_)
          refine r_cons (s_assign (.bool false) rfl rfl ?_)
          refine r_nil ?_
          refine g_false rfl ?_
          refine g_seq ?_
          refine g_region ?_
          by_cases hc80 : (ops.getD i default).do_.v = 1
          · skip
            refine r_cons (s_eql true rfl rfl (dtrue hc80) rfl ?_)
            refine r_cons (s_assign (.bool true) rfl rfl ?_)
            refine r_nil ?_
            refine g_true rfl ?_
            have H81 : St W w32 (Attrs (.slice ((ops.getD i default).p) ((ops.getD i default).ev.attrs.length) ((ops.getD i default).c)) ((ops.getD i default).ev.attrs) :: blk bk29 (.cells #[.int .i64 ((ops.getD i default).do_.v), .int .i64 ((ops.getD i default).ev.src.v), .int .i64 ((ops.getD i default).ev.seq.v), .int .i64 ((ops.getD i default).ev.time.v), .string ((ops.getD i default).ev.typ.v), .slice ((ops.getD i default).p) ((ops.getD i default).ev.attrs.length) ((ops.getD i default).c), .int .i64 ((ops.getD i default).source.v)] 35 (0, 0)) :: opsA ops :: imi (0 < ops.length) gA3 (.cells kA5 eA6 zA7) :: Streams X n st evs :: RStr bk18 n L gone :: F) := ((((((H34.move 3 rfl).move 3 rfl).move 5 rfl).move 5 rfl).move 5 rfl).move 5 rfl)
            refine g_mix (fun t_ w => St W w (Attrs (.slice ((ops.getD i default).p) ((ops.getD i default).ev.attrs.length) ((ops.getD i default).c)) ((ops.getD i default).ev.attrs) :: blk bk29 (.cells #[.int .i64 ((ops.getD i default).do_.v), .int .i64 ((ops.getD i default).ev.src.v), .int .i64 ((ops.getD i default).ev.seq.v), .int .i64 ((ops.getD i default).ev.time.v), .string ((ops.getD i default).ev.typ.v), .slice ((ops.getD i default).p) ((ops.getD i default).ev.attrs.length) ((ops.getD i default).c), .int .i64 ((ops.getD i default).source.v)] 35 (0, 0)) :: opsA ops :: imi (0 < ops.length) gA3 (.cells kA5 eA6 zA7) :: t_)) (Streams X n st evs :: RStr bk18 n L gone :: F) mixed 10 rfl H81.drew ?_
            refine f_first 0 (listed' := #[true, false, false, false, false, false, false, false, false, false]) rfl (by kernel_rfl) (by kernel_rfl) (by kernel_rfl) rfl ?_
            refine f_val rfl rfl rfl (by intro t_ w hw; exact x_move (.pointer (some ⟨X, 0, none⟩)) rfl w) ?_
            refine f_first 1 (listed' := #[true, true, false, false, false, false, false, false, false, false]) rfl (by kernel_rfl) (by kernel_rfl) (by kernel_rfl) rfl ?_
            refine f_val rfl rfl rfl (by intro t_ w hw; exact x_fieldAddr 35 2 6 6 3 rfl fi_35_2 rfl w) ?_
            refine f_first 2 (listed' := #[true, true, true, false, false, false, false, false, false, false]) rfl (by kernel_rfl) (by kernel_rfl) (by kernel_rfl) rfl ?_
            refine f_val rfl rfl rfl (by intro t_ w hw; exact x_load (.int .i64 ((ops.getD i default).source.v)) ag_3 rfl (hw.blk_at (i := 1) rfl) rfl) ?_
            refine f_first 4 (listed' := #[true, true, true, false, true, false, false, false, false, false]) rfl (by kernel_rfl) (by kernel_rfl) (by kernel_rfl) rfl ?_
            refine f_val rfl rfl rfl (by intro t_ w hw; exact x_move (.pointer (some ⟨bk18, 0, none⟩)) rfl w) ?_
            refine f_first 5 (listed' := #[true, true, true, false, true, true, false, false, false, false]) rfl (by kernel_rfl) (by kernel_rfl) (by kernel_rfl) rfl ?_
            refine f_val rfl rfl rfl (by intro t_ w hw; exact x_fieldAddr 35 2 6 6 3 rfl fi_35_2 rfl w) ?_
            refine f_first 6 (listed' := #[true, true, true, false, true, true, true, false, false, false]) rfl (by kernel_rfl) (by kernel_rfl) (by kernel_rfl) rfl ?_
            refine f_val rfl rfl rfl (by intro t_ w hw; exact x_load (.int .i64 ((ops.getD i default).source.v)) ag_3 rfl (hw.blk_at (i := 1) rfl) rfl) ?_
            refine f_all (rs := [3]) (by kernel_rfl) (by simp) ?_
            refine a_cons ⟨_, rfl, ?_⟩ (fun x hx => absurd hx (by simp))
            intro w82 H83
            try dsimp only at H83
            refine s_call [.pointer (some ⟨X, 0, none⟩), .int .i64 ((ops.getD i default).source.v)] pl_14 rfl rfl (Streams_Close X n st evs ((ops.getD i default).source.v) (i := 4) rfl H83) ?_
            rintro _ w84 ⟨rfl, H85⟩
            refine ⟨Streams X n (closeSt n st ((ops.getD i default).source.v)) evs :: RStr bk18 n L gone :: F, ?_, H85⟩
            change FReg _ _ _ _ _ #[true, true, true, true, true, true, true, false, false, false] _ _
            refine f_all (rs := [7]) (by kernel_rfl) (by simp) ?_
            refine a_cons ⟨_, rfl, ?_⟩ (fun x hx => absurd hx (by simp))
            intro w86 H87
            try dsimp only at H87
            refine s_call [.pointer (some ⟨bk18, 0, none⟩), .int .i64 ((ops.getD i default).source.v)] pl_26 rfl rfl (RStr_Close bk18 n L gone ((ops.getD i default).source.v) (by first | assumption | omega) (by first | assumption | omega) (i := 5) rfl H87) ?_
            rintro _ w88 ⟨rfl, H89⟩
            refine ⟨Streams X n (closeSt n st ((ops.getD i default).source.v)) evs :: RStr bk18 n L (rGone n gone ((ops.getD i default).source.v)) :: F, ?_, H89⟩
            change FReg _ _ _ _ _ #[true, true, true, true, true, true, true, true, false, false] _ _
            refine f_first 8 (listed' := #[true, true, true, true, true, true, true, true, true, false]) rfl (by kernel_rfl) (by kernel_rfl) (by kernel_rfl) rfl ?_
            refine f_val rfl rfl rfl (by intro t_ w hw; exact x_eql true rfl rfl (dtrue (hSR.close _)) w) ?_
            refine f_first 9 (listed' := #[true, true, true, true, true, true, true, true, true, true]) rfl (by kernel_rfl) (by kernel_rfl) (by kernel_rfl) rfl ?_
            refine f_val rfl rfl rfl (by intro t_ w hw; exact x_assign (.bool true) rfl w) ?_
            refine f_done (by kernel_rfl) ?_
            intro w90 H91
            refine g_inBlock ?_
            refine g_seq ?_
            refine g_seq ?_
            refine g_region ?_
            refine r_cons (s_assign (.int .i64 (-1)) rfl rfl ?_)
            refine r_nil ?_
            refine g_block ?_
            have hSR2 := hSR.close_keep (ops.getD i default).source.v
            have hL2 := hL
            have hok2 := hok
            have hgl2 := hSR2.lm
            have hlen2 : L.length = (evs).length := by rw [← hL2, List.length_map]
            have H92 : St W w90 (Streams X n (closeSt n st ((ops.getD i default).source.v)) evs :: RStr bk18 n L (rGone n gone ((ops.getD i default).source.v)) :: opsA ops :: imi (0 < ops.length) gA3 (.cells kA5 eA6 zA7) :: F) := ((((((H91.move 3 rfl).move 3 rfl).move 5 rfl).move 5 rfl).drop 4 rfl).drop 4 rfl)
            refine g_loop_inv (fun (x_ : Int) => match x_ with | s => [(0, .int .i64 n), (4, .bool false), (5, .pointer (some ⟨X, 0, none⟩)), (7, .pointer (some ⟨bk18, 0, none⟩)), (40, .slice pA1 ops.length cA2), (41, .int .i64 (ops.length : Int)), (42, .int .i64 (i : Int)), (11, .bool true), (13, .int .i64 s)]) (fun (x_ : Int) w => match x_ with | s => (-1 ≤ s ∧ s ≤ n + 1) ∧ St W w (Streams X n (closeSt n st ((ops.getD i default).source.v)) evs :: RStr bk18 n L (rGone n gone ((ops.getD i default).source.v)) :: opsA ops :: imi (0 < ops.length) gA3 (.cells kA5 eA6 zA7) :: F)) (fun (x_ : Int) => match x_ with | s => (n + 1 - s).toNat) ((-1 : Int)) ?_ ?_ ?_
            · exact ⟨by first | rfl | exact vint (by omega), by first | rfl | exact vint (by omega), by first | rfl | exact vint (by omega), by first | rfl | exact vint (by omega), by first | rfl | exact vint (by omega), by first | rfl | exact vint (by omega), by first | rfl | exact vint (by omega), by first | rfl | exact vint (by omega), by first | rfl | exact vint (by omega), trivial⟩
            · exact ⟨(by omega), H92⟩
            · rintro s ρ93 w94 ⟨hs, H95⟩ nx96
              change Ends _ _ (upds ρ93 [(0, .int .i64 n), (4, .bool false), (5, .pointer (some ⟨X, 0, none⟩)), (7, .pointer (some ⟨bk18, 0, none⟩)), (40, .slice pA1 ops.length cA2), (41, .int .i64 (ops.length : Int)), (42, .int .i64 (i : Int)), (11, .bool true), (13, .int .i64 s)]) w94
              refine g_seq ?_
              refine g_seq ?_
              refine g_region ?_
              refine r_cons (s_move (.int .i64 s) rfl rfl ?_)
              refine r_cons (s_move (.int .i64 n) rfl rfl ?_)
              by_cases hc97 : s ≤ n
              · skip
                refine r_cons (s_leq true rfl rfl (dtrue hc97) rfl ?_)
                refine r_nil ?_
                refine g_true rfl ?_
                refine g_skip ?_
                refine g_seq ?_
                refine g_block ?_
                refine g_region ?_
                refine r_cons (s_move (.bool true) rfl rfl ?_)
                refine r_cons (s_move (.bool true) rfl rfl ?_)
                refine r_cons (r_take rfl rfl ?_)
                refine s_move (.pointer (some ⟨X, 0, none⟩)) rfl rfl ?_
                refine r_cons (r_take rfl rfl ?_)
                refine s_move (.int .i64 s) rfl rfl ?_
                refine r_cons (r_take rfl rfl ?_)
                refine s_call [.pointer (some ⟨X, 0, none⟩), .int .i64 s] pl_28 rfl rfl (Streams_Next X n (closeSt n st ((ops.getD i default).source.v)) evs s (i := 0) rfl H95) ?_
                rintro _ w98 ⟨rfl, H99⟩
                refine r_cons (r_take rfl rfl ?_)
                refine s_move (.pointer (some ⟨bk18, 0, none⟩)) rfl rfl ?_
                refine r_cons (r_take rfl rfl ?_)
                refine s_move (.int .i64 s) rfl rfl ?_
                refine r_cons (r_take rfl rfl ?_)
                refine s_call [.pointer (some ⟨bk18, 0, none⟩), .int .i64 s] pl_29 rfl rfl (RStr_Next bk18 n L (rGone n gone ((ops.getD i default).source.v)) s (i := 1) rfl H99) ?_
                rintro _ w100 ⟨rfl, H101⟩
                refine r_cons (r_take rfl rfl ?_)
                refine s_eql true rfl rfl (dtrue (by rw [hL2]; exact hSR2.next s)) rfl ?_
                refine r_cons (s_pick_t (.bool true) rfl rfl rfl ?_)
                refine r_cons (s_move (.bool true) rfl rfl ?_)
                refine r_cons (r_take rfl rfl ?_)
                refine s_move (.pointer (some ⟨X, 0, none⟩)) rfl rfl ?_
                refine r_cons (r_take rfl rfl ?_)
                refine s_move (.int .i64 s) rfl rfl ?_
                refine r_cons (r_take rfl rfl ?_)
                refine s_call [.pointer (some ⟨X, 0, none⟩), .int .i64 s] pl_13 rfl rfl (Streams_Mark X n (closeSt n st ((ops.getD i default).source.v)) evs s (i := 0) rfl H101) ?_
                rintro _ w102 ⟨rfl, H103⟩
                refine r_cons (r_take rfl rfl ?_)
                refine s_move (.pointer (some ⟨bk18, 0, none⟩)) rfl rfl ?_
                refine r_cons (r_take rfl rfl ?_)
                refine s_move (.int .i64 s) rfl rfl ?_
                refine r_cons (r_take rfl rfl ?_)
                refine s_call [.pointer (some ⟨bk18, 0, none⟩), .int .i64 s] pl_30 rfl rfl (RStr_Mark bk18 n L (rGone n gone ((ops.getD i default).source.v)) s (by first | assumption | omega) (by first | assumption | omega) (i := 1) rfl H103) ?_
                rintro _ w104 ⟨rfl, H105⟩
                refine r_cons (r_take rfl rfl ?_)
                refine s_eql true rfl rfl (dtrue (by rw [hL2]; exact hSR2.mark s)) rfl ?_
                refine r_cons (s_pick_t (.bool true) rfl rfl rfl ?_)
                refine r_cons (s_move (.bool true) rfl rfl ?_)
                refine r_cons (r_take rfl rfl ?_)
                refine s_move (.pointer (some ⟨X, 0, none⟩)) rfl rfl ?_
                refine r_cons (r_take rfl rfl ?_)
                refine s_move (.int .i64 s) rfl rfl ?_
                refine r_cons (r_take rfl rfl ?_)
                refine s_call [.pointer (some ⟨X, 0, none⟩), .int .i64 s] pl_15 rfl rfl (Streams_Closed X n (closeSt n st ((ops.getD i default).source.v)) evs s (i := 0) rfl H105) ?_
                rintro _ w106 ⟨rfl, H107⟩
                refine r_cons (r_take rfl rfl ?_)
                refine s_move (.pointer (some ⟨bk18, 0, none⟩)) rfl rfl ?_
                refine r_cons (r_take rfl rfl ?_)
                refine s_move (.int .i64 s) rfl rfl ?_
                refine r_cons (r_take rfl rfl ?_)
                refine s_call [.pointer (some ⟨bk18, 0, none⟩), .int .i64 s] pl_31 rfl rfl (RStr_Closed bk18 n L (rGone n gone ((ops.getD i default).source.v)) s (by first | assumption | omega) (by first | assumption | omega) (i := 1) rfl H107) ?_
                rintro _ w108 ⟨rfl, H109⟩
                refine r_cons (r_take rfl rfl ?_)
                refine s_beql true un_4 rfl rfl (dtrue (hSR2.closed s)) rfl ?_
                refine r_cons (s_pick_t (.bool true) rfl rfl rfl ?_)
                refine r_cons (s_assign (.bool true) rfl rfl ?_)
                refine r_nil ?_
                refine g_inBlock ?_
                refine g_region ?_
                refine r_cons (s_move (.int .i64 s) rfl rfl ?_)
                refine r_cons (s_add (s + 1) rfl rfl (wi64 (by omega)) rfl ?_)
                refine r_cons (s_assign (.int .i64 (s + 1)) rfl rfl ?_)
                refine r_nil ?_
                have H110 : St W w108 (Streams X n (closeSt n st ((ops.getD i default).source.v)) evs :: RStr bk18 n L (rGone n gone ((ops.getD i default).source.v)) :: opsA ops :: imi (0 < ops.length) gA3 (.cells kA5 eA6 zA7) :: F) := ((((H109.move 3 rfl).move 3 rfl).move 3 rfl).move 3 rfl)
                exact nx96 (s + 1) _ _ ⟨(by omega), H110⟩ (by first | (dsimp only; omega) | omega) ⟨by first | rfl | exact vint (by omega), by first | rfl | exact vint (by omega), by first | rfl | exact vint (by omega), by first | rfl | exact vint (by omega), by first | rfl | exact vint (by omega), by first | rfl | exact vint (by omega), by first | rfl | exact vint (by omega), by first | rfl | exact vint (by omega), by first | rfl | exact vint (by omega), trivial⟩
              · skip
                refine r_cons (s_leq false rfl rfl (dfalse hc97) rfl ?_)
                refine r_nil ?_
                refine g_false rfl ?_
                refine g_exit (by rfl) ?_
                refine g_seq ?_
                have H111 := H95.move 1 rfl
                obtain ⟨⟨⟨pp112, cc113⟩, pp114, cc115⟩, H116⟩ := St.open_ex H111
                have H117 := St.open_star H116
                dsimp only at H117
                have H118 : St W w94 (blk bk18 (.cells #[.int .i64 n, .slice pp112 L.length cc113, .slice pp114 ((rGone n gone ((ops.getD i default).source.v)).length) cc115] 52 (0, 0)) :: Im 5 (.slice pp112 L.length cc113) L.length (L.flatMap evdCell) :: evA L :: Im 1 (.slice pp114 ((rGone n gone ((ops.getD i default).source.v)).length) cc115) ((rGone n gone ((ops.getD i default).source.v)).length) ((rGone n gone ((ops.getD i default).source.v)).flatMap blc) :: Streams X n (closeSt n st ((ops.getD i default).source.v)) evs :: opsA ops :: imi (0 < ops.length) gA3 (.cells kA5 eA6 zA7) :: F) := H117
                refine g_quiet (fun w' => St W w' (blk bk18 (.cells #[.int .i64 n, .slice pp112 L.length cc113, .slice pp114 ((rGone n gone ((ops.getD i default).source.v)).length) cc115] 52 (0, 0)) :: Im 5 (.slice pp112 L.length cc113) L.length (L.flatMap evdCell) :: evA L :: Im 1 (.slice pp114 ((rGone n gone ((ops.getD i default).source.v)).length) cc115) ((rGone n gone ((ops.getD i default).source.v)).length) ((rGone n gone ((ops.getD i default).source.v)).flatMap blc) :: Streams X n (closeSt n st ((ops.getD i default).source.v)) evs :: opsA ops :: imi (0 < ops.length) gA3 (.cells kA5 eA6 zA7) :: F)) mixed (by kernel_rfl) H118.drew ?_
                refine q_cons (q_val rfl rfl rfl (by intro w hw; exact x_move (.bool true) rfl w) ?_)
                refine q_cons (q_val rfl rfl rfl (by intro w hw; exact x_not true rfl false rfl w) ?_)
                refine q_cons (q_val rfl rfl rfl (by intro w hw; exact x_move (.bool false) rfl w) ?_)
                refine q_cons (q_take rfl rfl ?_)
                refine q_val rfl rfl rfl (by intro w hw; exact x_move (.pointer (some ⟨X, 0, none⟩)) rfl w) ?_
                refine q_cons (q_take rfl rfl ?_)
                refine q_enter (args := #[.pointer (some ⟨X, 0, none⟩)]) (v := .int .i64 (evs.length : Int)) rfl rfl rfl (x_call pl_32 [.pointer (some ⟨X, 0, none⟩)] rfl) (fun w hw => Streams_Len X n (closeSt n st ((ops.getD i default).source.v)) evs  (i := 4) rfl hw) ?_
                refine q_cons (q_take rfl rfl ?_)
                refine q_val rfl rfl rfl (by intro w hw; exact x_move (.pointer (some ⟨bk18, 0, none⟩)) rfl w) ?_
                refine q_cons (q_take rfl rfl ?_)
                refine q_val rfl rfl rfl (by intro w hw; exact x_nilCheck (.pointer (some ⟨bk18, 0, none⟩)) rfl ⟨_, rfl⟩ w) ?_
                refine q_cons (q_take rfl rfl ?_)
                refine q_val rfl rfl rfl (by intro w hw; exact x_fieldAddr 52 1 1 1 49 rfl fi_52_1 rfl w) ?_
                refine q_cons (q_take rfl rfl ?_)
                refine q_val rfl rfl rfl (by intro w hw; exact x_load (.slice pp112 L.length cc113) ag_49 rfl (hw.blk_at (i := 0) rfl) rfl) ?_
                refine q_cons (q_take rfl rfl ?_)
                refine q_val rfl rfl rfl (by intro w hw; exact x_len L.length rfl ⟨_, un_49⟩ w) ?_
                refine q_cons (q_take rfl rfl ?_)
                refine q_val rfl rfl rfl (by intro w hw; exact x_neq false rfl rfl (ntrue (by omega)) w) ?_
                refine q_cons (q_val rfl rfl rfl (by intro w hw; exact x_pick_f (.bool false) rfl rfl w) ?_)
                refine q_nil ?_
                intro w119 H120
                refine g_false rfl ?_
                refine g_skip ?_
                refine g_inBlock ?_
                refine g_region ?_
                refine r_cons (s_add ((i : Int) + 1) rfl rfl (wi64 (by omega)) rfl ?_)
                refine r_cons (s_move (.int .i64 ((i : Int) + 1)) rfl rfl ?_)
                refine r_nil ?_
                have H121 : St W w119 (RStr bk18 n L (rGone n gone ((ops.getD i default).source.v)) :: Streams X n (closeSt n st ((ops.getD i default).source.v)) evs :: opsA ops :: imi (0 < ops.length) gA3 (.cells kA5 eA6 zA7) :: F) := St.shut_ex ((pp112, cc113), (pp114, cc115)) (St.shut_star (ls := [blk bk18 (.cells #[.int .i64 n, .slice pp112 L.length cc113, .slice pp114 ((rGone n gone ((ops.getD i default).source.v)).length) cc115] 52 (0, 0)), Im 5 (.slice pp112 L.length cc113) L.length (L.flatMap evdCell), evA L, Im 1 (.slice pp114 ((rGone n gone ((ops.getD i default).source.v)).length) cc115) ((rGone n gone ((ops.getD i default).source.v)).length) ((rGone n gone ((ops.getD i default).source.v)).flatMap blc)]) H120)
                have H122 : St W w119 (Streams X n (closeSt n st ((ops.getD i default).source.v)) evs :: RStr bk18 n L (rGone n gone ((ops.getD i default).source.v)) :: opsA ops :: imi (0 < ops.length) gA3 (.cells kA5 eA6 zA7) :: F) := ((((H121.move 3 rfl).move 3 rfl).move 2 rfl).move 3 rfl)
                exact nx27 (i + 1, X, closeSt n st ((ops.getD i default).source.v), evs, L, rGone n gone ((ops.getD i default).source.v)) _ _ ⟨(by omega), hSR2, hL2, hok2, H122⟩ (by first | (dsimp only; omega) | omega) ⟨by first | rfl | exact vint (by omega), by first | rfl | exact vint (by omega), by first | rfl | exact vint (by omega), by first | rfl | exact vint (by omega), by first | rfl | exact vint (by omega), by first | rfl | exact vint (by omega), by first | rfl | exact vint (by omega), trivial⟩
          · skip
            refine r_cons (s_eql false rfl rfl (dfalse hc80) rfl ?_)
            refine r_cons (s_assign (.bool false) rfl rfl ?_)
            refine r_nil ?_
            refine g_false rfl ?_
            refine g_seq ?_
            refine g_region ?_
            refine r_cons (s_move (.pointer (some ⟨X, 0, none⟩)) rfl rfl ?_)
            refine r_cons (s_call [.pointer (some ⟨X, 0, none⟩)] pl_27 rfl rfl (Streams_Clone X n st evs hok.1 hok.2 (i := 2) rfl H34) ?_)
            rintro _ w124 ⟨bk123, rfl, H125⟩
            refine r_cons (s_assign (.pointer (some ⟨bk123, 0, none⟩)) rfl rfl ?_)
            refine r_nil ?_
            refine g_seq ?_
            refine g_seq ?_
            refine g_region ?_
            refine r_cons (s_move (.pointer (some ⟨bk123, 0, none⟩)) rfl rfl ?_)
            refine r_cons (s_peql false un_23 rfl rfl rfl rfl ?_)
            refine r_nil ?_
            refine g_false rfl ?_
            refine g_skip ?_
            refine g_seq ?_
            refine g_region ?_
            refine r_cons (s_move (.pointer (some ⟨X, 0, none⟩)) rfl rfl ?_)
            refine r_cons (s_fieldAddr 35 1 1 1 33 rfl fi_35_1 rfl rfl ?_)
            refine r_cons (s_loadAgg [.int .i64 ((ops.getD i default).ev.src.v), .int .i64 ((ops.getD i default).ev.seq.v), .int .i64 ((ops.getD i default).ev.time.v), .string ((ops.getD i default).ev.typ.v), .slice ((ops.getD i default).p) ((ops.getD i default).ev.attrs.length) ((ops.getD i default).c)] 5 ag_33 rfl (H125.blk_at (i := 2) rfl) (Nat.le_of_ble_eq_true rfl) rfl rfl ?_)
            refine r_cons (s_call [.pointer (some ⟨X, 0, none⟩), .agg #[.int .i64 ((ops.getD i default).ev.src.v), .int .i64 ((ops.getD i default).ev.seq.v), .int .i64 ((ops.getD i default).ev.time.v), .string ((ops.getD i default).ev.typ.v), .slice ((ops.getD i default).p) ((ops.getD i default).ev.attrs.length) ((ops.getD i default).c)]] pl_16 rfl rfl (Streams_Accept X n st evs ((ops.getD i default).ev) (.slice ((ops.getD i default).p) ((ops.getD i default).ev.attrs.length) ((ops.getD i default).c)) (j := 1) rfl (i := 3) rfl H125) ?_)
            rintro _ w126 ⟨rfl, H127⟩
            refine r_nil ?_
            refine g_seq ?_
            refine g_region ?_
            refine r_cons (s_move (.pointer (some ⟨X, 0, none⟩)) rfl rfl ?_)
            refine r_cons (s_fieldAddr 35 2 6 6 3 rfl fi_35_2 rfl rfl ?_)
            refine r_cons (s_load (.int .i64 ((ops.getD i default).source.v)) ag_3 rfl (H127.blk_at (i := 2) rfl) rfl rfl ?_)
            refine r_cons (s_call [.pointer (some ⟨X, 0, none⟩), .int .i64 ((ops.getD i default).source.v)] pl_14 rfl rfl (Streams_Close X n (accSt n st evs ((ops.getD i default).ev)) (accEvs n st evs ((ops.getD i default).ev)) ((ops.getD i default).source.v) (i := 3) rfl H127) ?_)
            rintro _ w128 ⟨rfl, H129⟩
            refine r_nil ?_
            refine g_region ?_
            refine r_cons (s_move (.pointer (some ⟨bk123, 0, none⟩)) rfl rfl ?_)
            refine r_cons (s_assign (.pointer (some ⟨bk123, 0, none⟩)) rfl rfl ?_)
            refine r_nil ?_
            refine g_inBlock ?_
            refine g_seq ?_
            refine g_seq ?_
            refine g_region ?_
            refine r_cons (s_assign (.int .i64 (-1)) rfl rfl ?_)
            refine r_nil ?_
            refine g_block ?_
            have hSR2 := hSR
            have hL2 := hL
            have hok2 := hok
            have hgl2 := hSR2.lm
            have hlen2 : L.length = (evs).length := by rw [← hL2, List.length_map]
            have H130 : St W w128 (Streams bk123 n st evs :: RStr bk18 n L gone :: opsA ops :: imi (0 < ops.length) gA3 (.cells kA5 eA6 zA7) :: F) := (((((((H129.move 6 rfl).move 6 rfl).move 6 rfl).move 3 rfl).drop 4 rfl).drop 4 rfl).drop 4 rfl)
            refine g_loop_inv (fun (x_ : Int) => match x_ with | s => [(0, .int .i64 n), (4, .bool false), (5, .pointer (some ⟨bk123, 0, none⟩)), (7, .pointer (some ⟨bk18, 0, none⟩)), (40, .slice pA1 ops.length cA2), (41, .int .i64 (ops.length : Int)), (42, .int .i64 (i : Int)), (11, .bool true), (13, .int .i64 s)]) (fun (x_ : Int) w => match x_ with | s => (-1 ≤ s ∧ s ≤ n + 1) ∧ St W w (Streams bk123 n st evs :: RStr bk18 n L gone :: opsA ops :: imi (0 < ops.length) gA3 (.cells kA5 eA6 zA7) :: F)) (fun (x_ : Int) => match x_ with | s => (n + 1 - s).toNat) ((-1 : Int)) ?_ ?_ ?_
            · exact ⟨by first | rfl | exact vint (by omega), by first | rfl | exact vint (by omega), by first | rfl | exact vint (by omega), by first | rfl | exact vint (by omega), by first | rfl | exact vint (by omega), by first | rfl | exact vint (by omega), by first | rfl | exact vint (by omega), by first | rfl | exact vint (by omega), by first | rfl | exact vint (by omega), trivial⟩
            · exact ⟨(by omega), H130⟩
            · rintro s ρ131 w132 ⟨hs, H133⟩ nx134
              change Ends _ _ (upds ρ131 [(0, .int .i64 n), (4, .bool false), (5, .pointer (some ⟨bk123, 0, none⟩)), (7, .pointer (some ⟨bk18, 0, none⟩)), (40, .slice pA1 ops.length cA2), (41, .int .i64 (ops.length : Int)), (42, .int .i64 (i : Int)), (11, .bool true), (13, .int .i64 s)]) w132
              refine g_seq ?_
              refine g_seq ?_
              refine g_region ?_
              refine r_cons (s_move (.int .i64 s) rfl rfl ?_)
              refine r_cons (s_move (.int .i64 n) rfl rfl ?_)
              by_cases hc135 : s ≤ n
              · skip
                refine r_cons (s_leq true rfl rfl (dtrue hc135) rfl ?_)
                refine r_nil ?_
                refine g_true rfl ?_
                refine g_skip ?_
                refine g_seq ?_
                refine g_block ?_
                refine g_region ?_
                refine r_cons (s_move (.bool true) rfl rfl ?_)
                refine r_cons (s_move (.bool true) rfl rfl ?_)
                refine r_cons (r_take rfl rfl ?_)
                refine s_move (.pointer (some ⟨bk123, 0, none⟩)) rfl rfl ?_
                refine r_cons (r_take rfl rfl ?_)
                refine s_move (.int .i64 s) rfl rfl ?_
                refine r_cons (r_take rfl rfl ?_)
                refine s_call [.pointer (some ⟨bk123, 0, none⟩), .int .i64 s] pl_28 rfl rfl (Streams_Next bk123 n st evs s (i := 0) rfl H133) ?_
                rintro _ w136 ⟨rfl, H137⟩
                refine r_cons (r_take rfl rfl ?_)
                refine s_move (.pointer (some ⟨bk18, 0, none⟩)) rfl rfl ?_
                refine r_cons (r_take rfl rfl ?_)
                refine s_move (.int .i64 s) rfl rfl ?_
                refine r_cons (r_take rfl rfl ?_)
                refine s_call [.pointer (some ⟨bk18, 0, none⟩), .int .i64 s] pl_29 rfl rfl (RStr_Next bk18 n L gone s (i := 1) rfl H137) ?_
                rintro _ w138 ⟨rfl, H139⟩
                refine r_cons (r_take rfl rfl ?_)
                refine s_eql true rfl rfl (dtrue (by rw [hL2]; exact hSR2.next s)) rfl ?_
                refine r_cons (s_pick_t (.bool true) rfl rfl rfl ?_)
                refine r_cons (s_move (.bool true) rfl rfl ?_)
                refine r_cons (r_take rfl rfl ?_)
                refine s_move (.pointer (some ⟨bk123, 0, none⟩)) rfl rfl ?_
                refine r_cons (r_take rfl rfl ?_)
                refine s_move (.int .i64 s) rfl rfl ?_
                refine r_cons (r_take rfl rfl ?_)
                refine s_call [.pointer (some ⟨bk123, 0, none⟩), .int .i64 s] pl_13 rfl rfl (Streams_Mark bk123 n st evs s (i := 0) rfl H139) ?_
                rintro _ w140 ⟨rfl, H141⟩
                refine r_cons (r_take rfl rfl ?_)
                refine s_move (.pointer (some ⟨bk18, 0, none⟩)) rfl rfl ?_
                refine r_cons (r_take rfl rfl ?_)
                refine s_move (.int .i64 s) rfl rfl ?_
                refine r_cons (r_take rfl rfl ?_)
                refine s_call [.pointer (some ⟨bk18, 0, none⟩), .int .i64 s] pl_30 rfl rfl (RStr_Mark bk18 n L gone s (by first | assumption | omega) (by first | assumption | omega) (i := 1) rfl H141) ?_
                rintro _ w142 ⟨rfl, H143⟩
                refine r_cons (r_take rfl rfl ?_)
                refine s_eql true rfl rfl (dtrue (by rw [hL2]; exact hSR2.mark s)) rfl ?_
                refine r_cons (s_pick_t (.bool true) rfl rfl rfl ?_)
                refine r_cons (s_move (.bool true) rfl rfl ?_)
                refine r_cons (r_take rfl rfl ?_)
                refine s_move (.pointer (some ⟨bk123, 0, none⟩)) rfl rfl ?_
                refine r_cons (r_take rfl rfl ?_)
                refine s_move (.int .i64 s) rfl rfl ?_
                refine r_cons (r_take rfl rfl ?_)
                refine s_call [.pointer (some ⟨bk123, 0, none⟩), .int .i64 s] pl_15 rfl rfl (Streams_Closed bk123 n st evs s (i := 0) rfl H143) ?_
                rintro _ w144 ⟨rfl, H145⟩
                refine r_cons (r_take rfl rfl ?_)
                refine s_move (.pointer (some ⟨bk18, 0, none⟩)) rfl rfl ?_
                refine r_cons (r_take rfl rfl ?_)
                refine s_move (.int .i64 s) rfl rfl ?_
                refine r_cons (r_take rfl rfl ?_)
                refine s_call [.pointer (some ⟨bk18, 0, none⟩), .int .i64 s] pl_31 rfl rfl (RStr_Closed bk18 n L gone s (by first | assumption | omega) (by first | assumption | omega) (i := 1) rfl H145) ?_
                rintro _ w146 ⟨rfl, H147⟩
                refine r_cons (r_take rfl rfl ?_)
                refine s_beql true un_4 rfl rfl (dtrue (hSR2.closed s)) rfl ?_
                refine r_cons (s_pick_t (.bool true) rfl rfl rfl ?_)
                refine r_cons (s_assign (.bool true) rfl rfl ?_)
                refine r_nil ?_
                refine g_inBlock ?_
                refine g_region ?_
                refine r_cons (s_move (.int .i64 s) rfl rfl ?_)
                refine r_cons (s_add (s + 1) rfl rfl (wi64 (by omega)) rfl ?_)
                refine r_cons (s_assign (.int .i64 (s + 1)) rfl rfl ?_)
                refine r_nil ?_
                have H148 : St W w146 (Streams bk123 n st evs :: RStr bk18 n L gone :: opsA ops :: imi (0 < ops.length) gA3 (.cells kA5 eA6 zA7) :: F) := ((((H147.move 3 rfl).move 3 rfl).move 3 rfl).move 3 rfl)
                exact nx134 (s + 1) _ _ ⟨(by omega), H148⟩ (by first | (dsimp only; omega) | omega) ⟨by first | rfl | exact vint (by omega), by first | rfl | exact vint (by omega), by first | rfl | exact vint (by omega), by first | rfl | exact vint (by omega), by first | rfl | exact vint (by omega), by first | rfl | exact vint (by omega), by first | rfl | exact vint (by omega), by first | rfl | exact vint (by omega), by first | rfl | exact vint (by omega), trivial⟩
              · skip
                refine r_cons (s_leq false rfl rfl (dfalse hc135) rfl ?_)
                refine r_nil ?_
                refine g_false rfl ?_
                refine g_exit (by rfl) ?_
                refine g_seq ?_
                have H149 := H133.move 1 rfl
                obtain ⟨⟨⟨pp150, cc151⟩, pp152, cc153⟩, H154⟩ := St.open_ex H149
                have H155 := St.open_star H154
                dsimp only at H155
                have H156 : St W w132 (blk bk18 (.cells #[.int .i64 n, .slice pp150 L.length cc151, .slice pp152 gone.length cc153] 52 (0, 0)) :: Im 5 (.slice pp150 L.length cc151) L.length (L.flatMap evdCell) :: evA L :: Im 1 (.slice pp152 gone.length cc153) gone.length (gone.flatMap blc) :: Streams bk123 n st evs :: opsA ops :: imi (0 < ops.length) gA3 (.cells kA5 eA6 zA7) :: F) := H155
                refine g_quiet (fun w' => St W w' (blk bk18 (.cells #[.int .i64 n, .slice pp150 L.length cc151, .slice pp152 gone.length cc153] 52 (0, 0)) :: Im 5 (.slice pp150 L.length cc151) L.length (L.flatMap evdCell) :: evA L :: Im 1 (.slice pp152 gone.length cc153) gone.length (gone.flatMap blc) :: Streams bk123 n st evs :: opsA ops :: imi (0 < ops.length) gA3 (.cells kA5 eA6 zA7) :: F)) mixed (by kernel_rfl) H156.drew ?_
                refine q_cons (q_val rfl rfl rfl (by intro w hw; exact x_move (.bool true) rfl w) ?_)
                refine q_cons (q_val rfl rfl rfl (by intro w hw; exact x_not true rfl false rfl w) ?_)
                refine q_cons (q_val rfl rfl rfl (by intro w hw; exact x_move (.bool false) rfl w) ?_)
                refine q_cons (q_take rfl rfl ?_)
                refine q_val rfl rfl rfl (by intro w hw; exact x_move (.pointer (some ⟨bk123, 0, none⟩)) rfl w) ?_
                refine q_cons (q_take rfl rfl ?_)
                refine q_enter (args := #[.pointer (some ⟨bk123, 0, none⟩)]) (v := .int .i64 (evs.length : Int)) rfl rfl rfl (x_call pl_32 [.pointer (some ⟨bk123, 0, none⟩)] rfl) (fun w hw => Streams_Len bk123 n st evs  (i := 4) rfl hw) ?_
                refine q_cons (q_take rfl rfl ?_)
                refine q_val rfl rfl rfl (by intro w hw; exact x_move (.pointer (some ⟨bk18, 0, none⟩)) rfl w) ?_
                refine q_cons (q_take rfl rfl ?_)
                refine q_val rfl rfl rfl (by intro w hw; exact x_nilCheck (.pointer (some ⟨bk18, 0, none⟩)) rfl ⟨_, rfl⟩ w) ?_
                refine q_cons (q_take rfl rfl ?_)
                refine q_val rfl rfl rfl (by intro w hw; exact x_fieldAddr 52 1 1 1 49 rfl fi_52_1 rfl w) ?_
                refine q_cons (q_take rfl rfl ?_)
                refine q_val rfl rfl rfl (by intro w hw; exact x_load (.slice pp150 L.length cc151) ag_49 rfl (hw.blk_at (i := 0) rfl) rfl) ?_
                refine q_cons (q_take rfl rfl ?_)
                refine q_val rfl rfl rfl (by intro w hw; exact x_len L.length rfl ⟨_, un_49⟩ w) ?_
                refine q_cons (q_take rfl rfl ?_)
                refine q_val rfl rfl rfl (by intro w hw; exact x_neq false rfl rfl (ntrue (by omega)) w) ?_
                refine q_cons (q_val rfl rfl rfl (by intro w hw; exact x_pick_f (.bool false) rfl rfl w) ?_)
                refine q_nil ?_
                intro w157 H158
                refine g_false rfl ?_
                refine g_skip ?_
                refine g_inBlock ?_
                refine g_region ?_
                refine r_cons (s_add ((i : Int) + 1) rfl rfl (wi64 (by omega)) rfl ?_)
                refine r_cons (s_move (.int .i64 ((i : Int) + 1)) rfl rfl ?_)
                refine r_nil ?_
                have H159 : St W w157 (RStr bk18 n L gone :: Streams bk123 n st evs :: opsA ops :: imi (0 < ops.length) gA3 (.cells kA5 eA6 zA7) :: F) := St.shut_ex ((pp150, cc151), (pp152, cc153)) (St.shut_star (ls := [blk bk18 (.cells #[.int .i64 n, .slice pp150 L.length cc151, .slice pp152 gone.length cc153] 52 (0, 0)), Im 5 (.slice pp150 L.length cc151) L.length (L.flatMap evdCell), evA L, Im 1 (.slice pp152 gone.length cc153) gone.length (gone.flatMap blc)]) H158)
                have H160 : St W w157 (Streams bk123 n st evs :: RStr bk18 n L gone :: opsA ops :: imi (0 < ops.length) gA3 (.cells kA5 eA6 zA7) :: F) := ((((H159.move 3 rfl).move 3 rfl).move 2 rfl).move 3 rfl)
                exact nx27 (i + 1, bk123, st, evs, L, gone) _ _ ⟨(by omega), hSR2, hL2, hok2, H160⟩ (by first | (dsimp only; omega) | omega) ⟨by first | rfl | exact vint (by omega), by first | rfl | exact vint (by omega), by first | rfl | exact vint (by omega), by first | rfl | exact vint (by omega), by first | rfl | exact vint (by omega), by first | rfl | exact vint (by omega), by first | rfl | exact vint (by omega), trivial⟩
      · skip
        refine r_cons (s_lss false rfl rfl (dfalse hc28) rfl ?_)
        refine r_nil ?_
        refine g_seq ?_
        refine g_false rfl ?_
        refine g_exit (by rfl) ?_
        refine g_seq ?_
        have H161 := H26.move 1 rfl
        obtain ⟨⟨⟨pp162, cc163⟩, pp164, cc165⟩, H166⟩ := St.open_ex H161
        have H167 := St.open_star H166
        dsimp only at H167
        have H168 : St W w25 (blk bk18 (.cells #[.int .i64 n, .slice pp162 L.length cc163, .slice pp164 gone.length cc165] 52 (0, 0)) :: Im 5 (.slice pp162 L.length cc163) L.length (L.flatMap evdCell) :: evA L :: Im 1 (.slice pp164 gone.length cc165) gone.length (gone.flatMap blc) :: Streams X n st evs :: opsA ops :: imi (0 < ops.length) gA3 (.cells kA5 eA6 zA7) :: F) := H167
        refine g_mix (fun t_ w => St W w (blk bk18 (.cells #[.int .i64 n, .slice pp162 L.length cc163, .slice pp164 gone.length cc165] 52 (0, 0)) :: Im 5 (.slice pp162 L.length cc163) L.length (L.flatMap evdCell) :: evA L :: Im 1 (.slice pp164 gone.length cc165) gone.length (gone.flatMap blc) :: Streams X n st evs :: opsA ops :: imi (0 < ops.length) gA3 (.cells kA5 eA6 zA7) :: t_)) F mixed 14 rfl H168.drew ?_
        refine f_first 0 (listed' := #[true, false, false, false, false, false, false, false, false, false, false, false, false, false]) rfl (by kernel_rfl) (by kernel_rfl) (by kernel_rfl) rfl ?_
        have htl : toldB evs (L.map EvD.ev) = true := decide_eq_true hL.symm
        refine f_val rfl rfl rfl (by intro t_ w hw; exact x_move (.pointer (some ⟨X, 0, none⟩)) rfl w) ?_
        refine f_first 2 (listed' := #[true, false, true, false, false, false, false, false, false, false, false, false, false, false]) rfl (by kernel_rfl) (by kernel_rfl) (by kernel_rfl) rfl ?_
        refine f_val rfl rfl rfl (by intro t_ w hw; exact x_move (.pointer (some ⟨bk18, 0, none⟩)) rfl w) ?_
        refine f_first 3 (listed' := #[true, false, true, true, false, false, false, false, false, false, false, false, false, false]) rfl (by kernel_rfl) (by kernel_rfl) (by kernel_rfl) rfl ?_
        refine f_val rfl rfl rfl (by intro t_ w hw; exact x_nilCheck (.pointer (some ⟨bk18, 0, none⟩)) rfl ⟨_, rfl⟩ w) ?_
        refine f_first 4 (listed' := #[true, false, true, true, true, false, false, false, false, false, false, false, false, false]) rfl (by kernel_rfl) (by kernel_rfl) (by kernel_rfl) rfl ?_
        refine f_val rfl rfl rfl (by intro t_ w hw; exact x_fieldAddr 52 1 1 1 49 rfl fi_52_1 rfl w) ?_
        refine f_first 5 (listed' := #[true, false, true, true, true, true, false, false, false, false, false, false, false, false]) rfl (by kernel_rfl) (by kernel_rfl) (by kernel_rfl) rfl ?_
        refine f_val rfl rfl rfl (by intro t_ w hw; exact x_load (.slice pp162 L.length cc163) ag_49 rfl (hw.blk_at (i := 0) rfl) rfl) ?_
        refine f_all (rs := [1]) (by kernel_rfl) (by simp) ?_
        refine a_cons ⟨_, rfl, ?_⟩ (fun x hx => absurd hx (by simp))
        intro w169 H170
        try dsimp only at H170
        refine s_call [.pointer (some ⟨X, 0, none⟩)] pl_34 rfl rfl (Streams_All X n st evs hok.1 hok.2 (i := 4) rfl H170) ?_
        rintro _ w172 ⟨bk171, rfl, H173⟩
        have H174 : St W w172 (blk bk18 (.cells #[.int .i64 n, .slice pp162 L.length cc163, .slice pp164 gone.length cc165] 52 (0, 0)) :: Im 5 (.slice pp162 L.length cc163) L.length (L.flatMap evdCell) :: evA L :: Im 1 (.slice pp164 gone.length cc165) gone.length (gone.flatMap blc) :: Streams X n st evs :: opsA ops :: imi (0 < ops.length) gA3 (.cells kA5 eA6 zA7) :: AllA bk171 evs :: F) := (((((((H173.move 7 rfl).move 7 rfl).move 7 rfl).move 7 rfl).move 7 rfl).move 7 rfl).move 7 rfl)
        refine ⟨AllA bk171 evs :: F, ?_, H174⟩
        change FReg _ _ _ _ _ #[true, true, true, true, true, true, false, false, false, false, false, false, false, false] _ _
        refine f_all (rs := [6]) (by kernel_rfl) (by simp) ?_
        refine a_cons ⟨_, rfl, ?_⟩ (fun x hx => absurd hx (by simp))
        intro w175 H176
        try dsimp only at H176
        refine s_call [.func (.func 72) #[] #[.pointer (some ⟨bk171, 0, none⟩)], .slice pp162 L.length cc163] pl_33 rfl rfl (told_ bk171 evs L (.slice pp162 L.length cc163) hok.1 hok.2 (i := 7) (j := 1) (k := 2) rfl rfl rfl H176) ?_
        rintro _ w177 ⟨rfl, H178⟩
        refine ⟨AllA bk171 evs :: F, ?_, H178⟩
        change FReg _ _ _ _ _ #[true, true, true, true, true, true, true, false, false, false, false, false, false, false] _ _
        refine f_first 7 (listed' := #[true, true, true, true, true, true, true, true, false, false, false, false, false, false]) rfl (by kernel_rfl) (by kernel_rfl) (by kernel_rfl) rfl ?_
        refine f_val rfl rfl rfl (by intro t_ w hw; exact x_move (.bool (toldB evs (L.map EvD.ev))) rfl w) ?_
        refine f_first 8 (listed' := #[true, true, true, true, true, true, true, true, true, false, false, false, false, false]) rfl (by kernel_rfl) (by kernel_rfl) (by kernel_rfl) rfl ?_
        refine f_take rfl (by exact congrArg some htl) ?_
        refine f_val rfl rfl rfl (by intro t_ w hw; exact x_move (.pointer (some ⟨X, 0, none⟩)) rfl w) ?_
        refine f_first 9 (listed' := #[true, true, true, true, true, true, true, true, true, true, false, false, false, false]) rfl (by kernel_rfl) (by kernel_rfl) (by kernel_rfl) rfl ?_
        refine f_take rfl (by exact congrArg some htl) ?_
        refine f_enter (args := #[.pointer (some ⟨X, 0, none⟩)]) (v := .int .i64 n) rfl rfl rfl (x_call pl_35 [.pointer (some ⟨X, 0, none⟩)] rfl) (fun t_ w hw => Streams_Sources X n st evs (i := 4) rfl hw) ?_
        refine f_first 10 (listed' := #[true, true, true, true, true, true, true, true, true, true, true, false, false, false]) rfl (by kernel_rfl) (by kernel_rfl) (by kernel_rfl) rfl ?_
        refine f_take rfl (by exact congrArg some htl) ?_
        refine f_val rfl rfl rfl (by intro t_ w hw; exact x_move (.int .i64 n) rfl w) ?_
        refine f_first 11 (listed' := #[true, true, true, true, true, true, true, true, true, true, true, true, false, false]) rfl (by kernel_rfl) (by kernel_rfl) (by kernel_rfl) rfl ?_
        refine f_take rfl (by exact congrArg some htl) ?_
        refine f_val rfl rfl rfl (by intro t_ w hw; exact x_eql true rfl rfl (dtrue rfl) w) ?_
        refine f_first 12 (listed' := #[true, true, true, true, true, true, true, true, true, true, true, true, true, false]) rfl (by kernel_rfl) (by kernel_rfl) (by kernel_rfl) rfl ?_
        refine f_val rfl rfl rfl (by intro t_ w hw; exact x_pick_t (.bool true) (by exact congrArg Value.bool htl) rfl w) ?_
        refine f_first 13 (listed' := #[true, true, true, true, true, true, true, true, true, true, true, true, true, true]) rfl (by kernel_rfl) (by kernel_rfl) (by kernel_rfl) rfl ?_
        refine f_val rfl rfl rfl (by intro t_ w hw; exact x_assign (.bool true) rfl w) ?_
        refine f_done (by kernel_rfl) ?_
        intro w179 H180
        refine g_ret' [.bool true] Try.func5 Try.results5 ⟨rfl, trivial⟩ ?_
        have H181 : St W w179 (RStr bk18 n L gone :: Streams X n st evs :: opsA ops :: imi (0 < ops.length) gA3 (.cells kA5 eA6 zA7) :: AllA bk171 evs :: F) := St.shut_ex ((pp162, cc163), (pp164, cc165)) (St.shut_star (ls := [blk bk18 (.cells #[.int .i64 n, .slice pp162 L.length cc163, .slice pp164 gone.length cc165] 52 (0, 0)), Im 5 (.slice pp162 L.length cc163) L.length (L.flatMap evdCell), evA L, Im 1 (.slice pp164 gone.length cc165) gone.length (gone.flatMap blc)]) H180)
        have H182 : St W w179 F := (((((H181.drop 0 rfl).drop 0 rfl).drop 0 rfl).drop 0 rfl).drop 0 rfl)
        exact ⟨rfl, H182⟩
  · skip
    refine r_cons (s_call [.int .i64 n] pl_11 rfl rfl (event_New_no n hc14 H13) ?_)
    rintro _ w183 ⟨rfl, H184⟩
    refine r_cons (s_move (.tuple #[.pointer none, .int .i64 1]) rfl rfl ?_)
    refine r_cons (s_extract (.pointer none) #[.pointer none, .int .i64 1] rfl rfl rfl ?_)
    refine r_cons (s_extract (.int .i64 1) #[.pointer none, .int .i64 1] rfl rfl rfl ?_)
    refine r_cons (s_assign (.pointer none) rfl rfl ?_)
    refine r_cons (s_assign (.int .i64 1) rfl rfl ?_)
    refine r_nil ?_
    refine g_seq ?_
    refine g_region ?_
    refine r_cons (s_move (.int .i64 n) rfl rfl ?_)
    refine r_cons (s_call [.int .i64 n] pl_24 rfl rfl (ref04_New_no n hc14 H184) ?_)
    rintro _ w185 ⟨rfl, H186⟩
    refine r_cons (s_move (.tuple #[.pointer none, .int .i64 1]) rfl rfl ?_)
    refine r_cons (s_extract (.pointer none) #[.pointer none, .int .i64 1] rfl rfl rfl ?_)
    refine r_cons (s_extract (.int .i64 1) #[.pointer none, .int .i64 1] rfl rfl rfl ?_)
    refine r_cons (s_assign (.pointer none) rfl rfl ?_)
    refine r_cons (s_assign (.int .i64 1) rfl rfl ?_)
    refine r_nil ?_
    refine g_seq ?_
    refine g_seq ?_
    refine g_region ?_
    refine r_cons (s_call [] pl_12 rfl rfl (begun_ H186) ?_)
    rintro _ w187 ⟨rfl, H188⟩
    refine r_cons (s_not true rfl false rfl rfl ?_)
    refine r_cons (s_move (.bool false) rfl rfl ?_)
    refine r_cons (r_take rfl rfl ?_)
    refine s_move (.int .i64 1) rfl rfl ?_
    refine r_cons (r_take rfl rfl ?_)
    refine s_move (.int .i64 1) rfl rfl ?_
    refine r_cons (r_take rfl rfl ?_)
    refine s_neq false rfl rfl (ntrue (by decide)) rfl ?_
    refine r_cons (s_pick_f (.bool false) rfl rfl rfl ?_)
    refine r_cons (s_move (.bool false) rfl rfl ?_)
    refine r_cons (r_take rfl rfl ?_)
    refine s_move (.pointer none) rfl rfl ?_
    refine r_cons (r_take rfl rfl ?_)
    refine s_peql true un_23 rfl rfl rfl rfl ?_
    refine r_cons (r_take rfl rfl ?_)
    refine s_move (.pointer none) rfl rfl ?_
    refine r_cons (r_take rfl rfl ?_)
    refine s_peql true un_44 rfl rfl rfl rfl ?_
    refine r_cons (r_take rfl rfl ?_)
    refine s_bneq false un_4 rfl rfl (ntrue rfl) rfl ?_
    refine r_cons (s_pick_f (.bool false) rfl rfl rfl ?_)
    refine r_nil ?_
    refine g_false rfl ?_
    refine g_skip ?_
    refine g_seq ?_
    refine g_seq ?_
    refine g_region ?_
    refine r_cons (s_move (.pointer none) rfl rfl ?_)
    refine r_cons (s_peql true un_44 rfl rfl rfl rfl ?_)
    refine r_nil ?_
    refine g_true rfl ?_
    refine g_seq ?_
    refine g_region ?_
    refine r_cons (s_assign (.bool true) rfl rfl ?_)
    refine r_nil ?_
    refine g_ret' [.bool true] Try.func5 Try.results5 ⟨rfl, trivial⟩ ?_
    have H189 : St W w187 F := ((H188.drop 0 rfl).drop 0 rfl)
    exact ⟨rfl, H189⟩
end Sl
