/- Walks of the program's functions. Printed by a program of this claim's author. No condition. -/
import Derived.Test.YthkkmoilphmplaaSlQ
import Derived.Test.YthkkmoilphmplaaSlK
import Derived.Test.YthkkmoilphmplaaSlP
import Derived.Test.YthkkmoilphmplaaProg
import Derived.Test.YthkkmoilphmplaaWalkBitsPuts0
namespace Sl
open _root_.Go _root_.Go.RowKit _root_.Go.Proofs
set_option linter.all false
set_option maxHeartbeats 4000000 in
set_option maxRecDepth 100000 in
theorem live01 {W w : World} {F : List Atom}  (H : St W w F) : Calls Try.prog 9 #[] w (Ret fun v w' => v = .bool true ∧ St W w' F) := by
  refine calls_of_go (n := 49) Try.func9 rfl Try.ntmps9 rfl ?_
  refine g_seq ?_
  refine g_region ?_
  refine r_cons (s_assign (.bool false) rfl rfl ?_)
  refine r_nil ?_
  refine g_seq ?_
  refine g_region ?_
  refine r_cons (s_call [] pl_11 rfl rfl (NewSink H) ?_)
  rintro _ w2 ⟨bk1, rfl, H3⟩
  refine r_cons (s_assign (.pointer (some ⟨bk1, 0, none⟩)) rfl rfl ?_)
  refine r_nil ?_
  refine g_seq ?_
  refine g_seq ?_
  refine g_region ?_
  refine r_cons (s_move (.pointer (some ⟨bk1, 0, none⟩)) rfl rfl ?_)
  refine r_cons (s_peql false un_27 rfl rfl rfl rfl ?_)
  refine r_cons (s_move (.bool false) rfl rfl ?_)
  refine r_cons (r_take rfl rfl ?_)
  refine s_move (.pointer (some ⟨bk1, 0, none⟩)) rfl rfl ?_
  refine r_cons (r_take rfl rfl ?_)
  refine s_call [.pointer (some ⟨bk1, 0, none⟩), .int .u64 4] pl_12 rfl rfl (Sink_Nat bk1 [] 4 (by omega) (by first | omega | (repeat (first | exact Nat.zero_le _ | assumption | refine putL_le ?_ | refine bitsL_le ?_))) (i := 0) rfl H3) ?_
  rintro _ w4 ⟨rfl, H5⟩
  refine r_cons (r_take rfl rfl ?_)
  refine s_neq false rfl rfl (ntrue (by decide +kernel)) rfl ?_
  refine r_cons (s_pick_f (.bool false) rfl rfl rfl ?_)
  refine r_cons (s_move (.bool false) rfl rfl ?_)
  refine r_cons (r_take rfl rfl ?_)
  refine s_move (.pointer (some ⟨bk1, 0, none⟩)) rfl rfl ?_
  refine r_cons (r_take rfl rfl ?_)
  refine s_call [.pointer (some ⟨bk1, 0, none⟩)] pl_13 rfl rfl (Sink_Len bk1 (putL [] (natB 4))   (i := 0) rfl H5) ?_
  rintro _ w6 ⟨rfl, H7⟩
  refine r_cons (r_take rfl rfl ?_)
  refine s_neq false rfl rfl (ntrue (by decide +kernel)) rfl ?_
  refine r_cons (s_pick_f (.bool false) rfl rfl rfl ?_)
  refine r_cons (s_move (.bool false) rfl rfl ?_)
  refine r_cons (r_take rfl rfl ?_)
  refine s_move (.pointer (some ⟨bk1, 0, none⟩)) rfl rfl ?_
  refine r_cons (r_take rfl rfl ?_)
  refine s_call [.pointer (some ⟨bk1, 0, none⟩)] pl_22 rfl rfl (Sink_Out bk1 (putL [] (natB 4)) (by first | omega | (repeat (first | exact Nat.zero_le _ | assumption | refine putL_le ?_ | refine bitsL_le ?_))) (i := 0) rfl H7) ?_
  rintro _ w10 ⟨pp8, cc9, rfl, H11⟩
  refine r_cons (r_take rfl rfl ?_)
  refine s_buildSlice H11 1 1 (cs := #[.int .u8 40]) #[.int .u8 0] el_33 ze_5 (by decide) (by decide) (by kernel_rfl) rfl ?_; intro bk12 w13 H14
  refine r_cons (r_take rfl rfl ?_)
  have H15 : St W w13 (Im 1 (.slice (some ⟨bk12, 0, none⟩) 1 1) 1 (([40] : List UInt8).flatMap u8c) :: Row 5 1 (.slice pp8 (((putL [] (natB 4)).length + 7) / 8) cc9) (((putL [] (natB 4)).length + 7) / 8) ((pk (putL [] (natB 4))).flatMap u8c) :: SinkA bk1 (putL [] (natB 4)) :: F) := Row.im (Row.of_blk (n := 1) (size := 1) H14 (i := 0) rfl (by unfold maxLen; omega) (by simp) (by simp [Value.oneCell'])) (i := 0) rfl
  refine s_call [.slice pp8 (((putL [] (natB 4)).length + 7) / 8) cc9, .slice (some ⟨bk12, 0, none⟩) 1 1] pl_21 rfl rfl (bytes_Equal _ _ _ _ _ _ (pk (putL [] (natB 4))) ([40] : List UInt8) RdA.row RdA.im (j := 1) rfl (k := 0) rfl H15) ?_
  rintro _ w16 ⟨rfl, H17⟩
  refine r_cons (r_take rfl rfl ?_)
  have h40 : decide (pk (putL [] (natB 4)) = [40]) = true := by decide +kernel
  refine s_not (decide ((pk (putL [] (natB 4))) = ([40] : List UInt8))) rfl false (by rw [h40]; rfl) rfl ?_
  refine r_cons (s_pick_f (.bool false) rfl rfl rfl ?_)
  refine r_nil ?_
  refine g_false rfl ?_
  refine g_skip ?_
  refine g_seq ?_
  refine g_region ?_
  refine r_cons (s_buildSlice H17 1 1 (cs := #[.int .u8 40]) #[.int .u8 0] el_33 ze_5 (by decide) (by decide) (by kernel_rfl) rfl ?_); intro bk18 w19 H20
  have H21 : St W w19 (Im 1 (.slice (some ⟨bk18, 0, none⟩) 1 1) 1 (([40] : List UInt8).flatMap u8c) :: Im 1 (.slice (some ⟨bk12, 0, none⟩) 1 1) 1 (([40] : List UInt8).flatMap u8c) :: Row 5 1 (.slice pp8 (((putL [] (natB 4)).length + 7) / 8) cc9) (((putL [] (natB 4)).length + 7) / 8) ((pk (putL [] (natB 4))).flatMap u8c) :: SinkA bk1 (putL [] (natB 4)) :: F) := Row.im (Row.of_blk (n := 1) (size := 1) H20 (i := 0) rfl (by unfold maxLen; omega) (by simp) (by simp [Value.oneCell'])) (i := 0) rfl
  refine r_cons (s_call [.slice (some ⟨bk18, 0, none⟩) 1 1] pl_14 rfl rfl (NewSource _ _ ([40] : List UInt8) (RdA.im) (by first | omega | decide) (j := 0) rfl H21) ?_)
  rintro _ w23 ⟨bk22, rfl, H24⟩
  refine r_cons (s_assign (.pointer (some ⟨bk22, 0, none⟩)) rfl rfl ?_)
  refine r_nil ?_
  refine g_seq ?_
  refine g_seq ?_
  refine g_region ?_
  refine r_cons (s_move (.pointer (some ⟨bk22, 0, none⟩)) rfl rfl ?_)
  refine r_cons (s_peql false un_35 rfl rfl rfl rfl ?_)
  refine r_nil ?_
  refine g_false rfl ?_
  refine g_skip ?_
  refine g_seq ?_
  refine g_region ?_
  refine r_cons (s_move (.pointer (some ⟨bk22, 0, none⟩)) rfl rfl ?_)
  refine r_cons (s_call [.pointer (some ⟨bk22, 0, none⟩)] pl_25 rfl rfl (Src_Nat bk22 ([40] : List UInt8) 0 (by first | omega | decide +kernel | (repeat (first | assumption | exact Nat.zero_le _ | refine natN_pos ?_ | refine srcN_pos ?_ | refine textN_pos ?_))) (by first | omega | decide +kernel)   (i := 0) rfl H24) ?_)
  rintro _ w25 ⟨rfl, H26⟩
  refine r_cons (s_move (.tuple #[.int .u64 (natU (remB ([40] : List UInt8) 0) : Int), .int .i64 (natE (remB ([40] : List UInt8) 0))]) rfl rfl ?_)
  refine r_cons (s_extract (.int .u64 (natU (remB ([40] : List UInt8) 0) : Int)) #[.int .u64 (natU (remB ([40] : List UInt8) 0) : Int), .int .i64 (natE (remB ([40] : List UInt8) 0))] rfl rfl rfl ?_)
  refine r_cons (s_extract (.int .i64 (natE (remB ([40] : List UInt8) 0))) #[.int .u64 (natU (remB ([40] : List UInt8) 0) : Int), .int .i64 (natE (remB ([40] : List UInt8) 0))] rfl rfl rfl ?_)
  refine r_cons (s_assign (.int .u64 (natU (remB ([40] : List UInt8) 0) : Int)) rfl rfl ?_)
  refine r_cons (s_assign (.int .i64 (natE (remB ([40] : List UInt8) 0))) rfl rfl ?_)
  refine r_nil ?_
  refine g_seq ?_
  refine g_region ?_
  refine r_cons (s_move (.int .u64 (natU (remB ([40] : List UInt8) 0) : Int)) rfl rfl ?_)
  refine r_cons (s_eql true rfl rfl (dtrue (by decide +kernel)) rfl ?_)
  refine r_cons (s_move (.bool true) rfl rfl ?_)
  refine r_cons (r_take rfl rfl ?_)
  refine s_move (.int .i64 (natE (remB ([40] : List UInt8) 0))) rfl rfl ?_
  refine r_cons (r_take rfl rfl ?_)
  refine s_eql true rfl rfl (dtrue (by decide +kernel)) rfl ?_
  refine r_cons (s_pick_t (.bool true) rfl rfl rfl ?_)
  refine r_cons (s_move (.bool true) rfl rfl ?_)
  refine r_cons (r_take rfl rfl ?_)
  refine s_move (.pointer (some ⟨bk22, 0, none⟩)) rfl rfl ?_
  refine r_cons (r_take rfl rfl ?_)
  refine s_call [.pointer (some ⟨bk22, 0, none⟩)] pl_18 rfl rfl (Src_End bk22 ([40] : List UInt8) (0 + natN (remB ([40] : List UInt8) 0)) (by first | omega | decide +kernel | (repeat (first | assumption | exact Nat.zero_le _ | refine natN_pos ?_ | refine srcN_pos ?_ | refine textN_pos ?_))) (by first | omega | decide +kernel)   (i := 0) rfl H26) ?_
  rintro _ w27 ⟨rfl, H28⟩
  refine r_cons (r_take rfl rfl ?_)
  refine s_eql true rfl rfl (dtrue (by decide +kernel)) rfl ?_
  refine r_cons (s_pick_t (.bool true) rfl rfl rfl ?_)
  refine r_cons (s_move (.bool true) rfl rfl ?_)
  refine r_cons (r_take rfl rfl ?_)
  refine s_call [.int .u64 1] pl_10 rfl rfl (Size (1) (by omega) H28) ?_
  rintro _ w29 ⟨rfl, H30⟩
  refine r_cons (r_take rfl rfl ?_)
  refine s_eql true rfl rfl (dtrue (by decide +kernel)) rfl ?_
  refine r_cons (s_pick_t (.bool true) rfl rfl rfl ?_)
  refine r_cons (s_assign (.bool true) rfl rfl ?_)
  refine r_nil ?_
  refine g_ret' [.bool true] Try.func9 Try.results9 ⟨rfl, trivial⟩ ?_
  have H31 : St W w29 F := (((((H30.drop 0 rfl).drop 0 rfl).drop 0 rfl).drop 0 rfl).drop 0 rfl)
  exact ⟨rfl, H31⟩
set_option maxHeartbeats 4000000 in
set_option maxRecDepth 100000 in
theorem ref01_Pack {W w : World} {F : List Atom} (L : List Bool) (lv : Value) (hL : L.length ≤ 1125899906842624) {j : Nat} (hj : F[j]? = some (Im 1 lv L.length (L.flatMap blc))) (H : St W w F) : Calls Try.prog 23 #[lv] w (Ret fun v w' => ∃ p c, v = .slice p ((L.length + 7) / 8) c ∧ St W w' (Row 5 1 (.slice p ((L.length + 7) / 8) c) ((L.length + 7) / 8) ((pk L).flatMap u8c) :: F)) := by
  obtain ⟨pA1, cA2, gA3, oA4, kA5, eA6, zA7, rfl, hn8, hp9, hx10, hs11, hml, H12⟩ := Im.open_ H hj
  refine calls_of_go (n := 31) Try.func23 rfl Try.ntmps23 rfl ?_
  refine g_seq ?_
  refine g_region ?_
  refine r_cons (s_assign (.slice none 0 0) rfl rfl ?_)
  refine r_nil ?_
  refine g_seq ?_
  refine g_region ?_
  refine r_cons (s_move (.slice pA1 L.length cA2) rfl rfl ?_)
  refine r_cons (s_len L.length rfl ⟨_, un_23⟩ rfl ?_)
  refine r_cons (s_add ((L.length : Int) + 7) rfl rfl (wi64 (by omega)) rfl ?_)
  refine r_cons (s_quo (((L.length + 7) / 8 : Nat) : Int) rfl rfl (by omega) (by rw [tdiv_pos (by omega)]; exact (wi64 (by omega)).trans (by omega)) rfl ?_)
  refine r_cons (s_make H12 (((L.length + 7) / 8 : Nat) : Int) 1 1 rfl rfl un_33 in_5 (by omega) (by omega) (by omega) (by exact made_bytes ((L.length + 7) / 8)) rfl ?_); intro bk13 w14 H15
  have H16 : St W w14 (Row 5 1 (.slice (some ⟨bk13, 0, none⟩) ((L.length + 7) / 8) ((L.length + 7) / 8)) ((L.length + 7) / 8) ((List.replicate ((L.length + 7) / 8) (0 : UInt8)).flatMap u8c) :: imi (0 < L.length) gA3 (.cells kA5 eA6 zA7) :: F) := Row.of_list (xs := (List.replicate ((L.length + 7) / 8) (0 : UInt8)).flatMap u8c) (n := (L.length + 7) / 8) H15 (i := 0) rfl (by unfold maxLen; omega) (by simp [flat1, u8c_len, blc_len]) (by intro x hx; first | exact one_u8 _ x hx | exact one_bl _ x hx)
  have H17 : St W w14 (Row 5 1 (.slice (some ⟨bk13, 0, none⟩) ((L.length + 7) / 8) ((L.length + 7) / 8)) ((L.length + 7) / 8) ((pkA L 0).flatMap u8c) :: imi (0 < L.length) gA3 (.cells kA5 eA6 zA7) :: F) := by rw [pkA_zero]; exact H16
  refine r_cons (s_assign (.slice (some ⟨bk13, 0, none⟩) ((L.length + 7) / 8) ((L.length + 7) / 8)) rfl rfl ?_)
  refine r_nil ?_
  refine g_seq ?_
  refine g_seq ?_
  refine g_region ?_
  refine r_cons (s_assign (.int .i64 0) rfl rfl ?_)
  refine r_nil ?_
  refine g_block ?_
  have H18 : St W w14 (Row 5 1 (.slice (some ⟨bk13, 0, none⟩) ((L.length + 7) / 8) ((L.length + 7) / 8)) ((L.length + 7) / 8) ((pkA L 0).flatMap u8c) :: imi (0 < L.length) gA3 (.cells kA5 eA6 zA7) :: F) := ((H17.move 1 rfl).move 1 rfl)
  refine g_loop_inv (fun (x : Nat × (Option Addr) × Nat) => match x with | (j, pq, cq) => [(0, .slice pA1 L.length cA2), (2, .slice none 0 0), (3, .slice pq ((L.length + 7) / 8) cq), (4, .int .i64 (j : Int))]) (fun (x : Nat × (Option Addr) × Nat) w => match x with | (j, pq, cq) => (j ≤ L.length) ∧ St W w (Row 5 1 (.slice pq ((L.length + 7) / 8) cq) ((L.length + 7) / 8) ((pkA L j).flatMap u8c) :: imi (0 < L.length) gA3 (.cells kA5 eA6 zA7) :: F)) (fun (x : Nat × (Option Addr) × Nat) => match x with | (j, pq, cq) => L.length - j) (0, (some ⟨bk13, 0, none⟩), (L.length + 7) / 8) ?_ ?_ ?_
  · exact ⟨by first | rfl | exact vint (by omega), by first | rfl | exact vint (by omega), by first | rfl | exact vint (by omega), by first | rfl | exact vint (by omega), trivial⟩
  · exact ⟨(by omega), H18⟩
  · rintro ⟨j, pq, cq⟩ ρ19 w20 ⟨hj2, H21⟩ nx22
    change Ends _ _ (upds ρ19 [(0, .slice pA1 L.length cA2), (2, .slice none 0 0), (3, .slice pq ((L.length + 7) / 8) cq), (4, .int .i64 (j : Int))]) w20
    refine g_seq ?_
    refine g_seq ?_
    refine g_region ?_
    refine r_cons (s_move (.int .i64 (j : Int)) rfl rfl ?_)
    refine r_cons (s_move (.slice pA1 L.length cA2) rfl rfl ?_)
    refine r_cons (s_len L.length rfl ⟨_, un_23⟩ rfl ?_)
    by_cases hc23 : (j : Int) < (L.length : Int)
    · skip
      refine r_cons (s_lss true rfl rfl (dtrue hc23) rfl ?_)
      refine r_nil ?_
      refine g_true rfl ?_
      refine g_skip ?_
      refine g_seq ?_
      refine g_block ?_
      refine g_seq ?_
      refine g_region ?_
      refine r_cons (s_move (.slice pA1 L.length cA2) rfl rfl ?_)
      obtain ⟨bk24, cur25, hp26, h27, h28, h29, h30, h31, H32⟩ := Row.open2 H21 (i := 0) rfl (by omega)
      refine r_cons (s_move (.int .i64 (j : Int)) rfl rfl ?_)
      refine r_cons (s_indexAddr gA3 (off := oA4) (j : Int) 1 (oA4 + j * 1) (by exact congrArg (fun z_ => Value.slice z_ L.length cA2) (hp9 (by omega))) rfl el_23 (by omega) rfl rfl ?_)
      refine r_cons (s_load (.bool (L.getD j false)) ag_4 rfl (H32.imi_at (i := 1) rfl (by omega)) (elem_cell blc_len (hx10 (by omega)) (by omega) false 0 (by decide) _ rfl) rfl ?_)
      refine r_nil ?_
      by_cases hb33 : (L.getD j false) = true
      · skip
        refine g_true (congrArg Value.bool hb33) ?_
        have H34 : St W w20 (imi (0 < L.length) gA3 (.cells kA5 eA6 zA7) :: blk bk24 (.cells cur25 5 (0, 0)) :: F) := (H32.move 1 rfl)
        refine g_mix (fun t_ w => St W w (imi (0 < L.length) gA3 (.cells kA5 eA6 zA7) :: t_)) (blk bk24 (.cells cur25 5 (0, 0)) :: F) mixed 11 rfl H34.drew ?_
        refine f_first 0 (listed' := #[true, false, false, false, false, false, false, false, false, false, false]) rfl (by kernel_rfl) (by kernel_rfl) (by kernel_rfl) rfl ?_
        refine f_val rfl rfl rfl (by intro t_ w hw; exact x_move (.slice pq ((L.length + 7) / 8) cq) rfl w) ?_
        refine f_first 1 (listed' := #[true, true, false, false, false, false, false, false, false, false, false]) rfl (by kernel_rfl) (by kernel_rfl) (by kernel_rfl) rfl ?_
        refine f_val rfl rfl rfl (by intro t_ w hw; exact x_move (.int .i64 (j : Int)) rfl w) ?_
        refine f_first 2 (listed' := #[true, true, true, false, false, false, false, false, false, false, false]) rfl (by kernel_rfl) (by kernel_rfl) (by kernel_rfl) rfl ?_
        refine f_val rfl rfl rfl (by intro t_ w hw; exact x_quo ((j : Int) / 8) rfl rfl (by omega) (by rw [tdiv_pos (by omega)]; exact wi64 (by omega)) w) ?_
        refine f_first 3 (listed' := #[true, true, true, true, false, false, false, false, false, false, false]) rfl (by kernel_rfl) (by kernel_rfl) (by kernel_rfl) rfl ?_
        refine f_val rfl rfl rfl (by intro t_ w hw; exact x_indexAddr bk24 (off := 0) ((j : Int) / 8) 1 (0 + (j / 8) * 1) (by exact congrArg (fun z_ => Value.slice z_ ((L.length + 7) / 8) cq) ((fun (_ : 0 < 1) => hp26) (by omega))) rfl el_33 (by omega) (by rw [show ((j : Int) / 8 : Int).toNat = j / 8 from by omega]) w) ?_
        refine f_first 5 (listed' := #[true, true, true, true, false, true, false, false, false, false, false]) rfl (by kernel_rfl) (by kernel_rfl) (by kernel_rfl) rfl ?_
        refine f_val rfl rfl rfl (by intro t_ w hw; exact x_move (.int .i64 (j : Int)) rfl w) ?_
        refine f_first 6 (listed' := #[true, true, true, true, false, true, true, false, false, false, false]) rfl (by kernel_rfl) (by kernel_rfl) (by kernel_rfl) rfl ?_
        refine f_val rfl rfl rfl (by intro t_ w hw; exact x_rem ((j : Int) % 8) rfl rfl (by omega) (tmod_pos (by omega)) w) ?_
        refine f_first 7 (listed' := #[true, true, true, true, false, true, true, true, false, false, false]) rfl (by kernel_rfl) (by kernel_rfl) (by kernel_rfl) rfl ?_
        refine f_val rfl rfl rfl (by intro t_ w hw; exact x_shr ((2 ^ (7 - j % 8) : Nat) : Int) rfl rfl (by omega) (shr128 j rfl) w) ?_
        refine f_all (rs := [4]) (by kernel_rfl) (by simp) ?_
        refine a_cons ⟨_, rfl, ?_⟩ (fun x hx => absurd hx (by simp))
        intro w35 H36
        try dsimp only at H36
        refine s_load (.int .u8 (((pkA L j).getD (j / 8) 0).toNat : Int)) ag_5 rfl (H36.blk_at (i := 1) rfl) (elem_cell u8c_len (by rw [(pkA_len L j)]; exact h30) (by have hh : (pkA L j).length = (L.length + 7) / 8 := (pkA_len L j); omega) 0 0 (by decide) _ rfl) rfl ?_
        refine ⟨blk bk24 (.cells cur25 5 (0, 0)) :: F, ?_, H36⟩
        change FReg _ _ _ _ _ #[true, true, true, true, true, true, true, true, false, false, false] _ _
        refine f_first 8 (listed' := #[true, true, true, true, true, true, true, true, true, false, false]) rfl (by kernel_rfl) (by kernel_rfl) (by kernel_rfl) rfl ?_
        refine f_val rfl rfl rfl (by intro t_ w hw; exact x_add ((byteN (L.take j) (j / 8) + 2 ^ (7 - j % 8) : Nat) : Int) rfl rfl (by rw [pkA_getD (by omega), u8_nat (byteN_lt _ _)]; have hpl := pkA_lt (L := L) (j := j) (by omega); have hp2 : 0 < 2 ^ (7 - j % 8) := Nat.pow_pos (by decide); exact (wu8 (by omega)).trans (by omega)) w) ?_
        refine f_first 9 (listed' := #[true, true, true, true, true, true, true, true, true, true, false]) rfl (by kernel_rfl) (by kernel_rfl) (by kernel_rfl) rfl ?_
        refine f_val rfl rfl rfl (by intro t_ w hw; exact x_indexAddr bk24 (off := 0) ((j : Int) / 8) 1 (0 + (j / 8) * 1) (by exact congrArg (fun z_ => Value.slice z_ ((L.length + 7) / 8) cq) ((fun (_ : 0 < 1) => hp26) (by omega))) rfl el_33 (by omega) (by rw [show ((j : Int) / 8 : Int).toNat = j / 8 from by omega]) w) ?_
        refine f_all (rs := [10]) (by kernel_rfl) (by simp) ?_
        refine a_cons ⟨_, rfl, ?_⟩ (fun x hx => absurd hx (by simp))
        intro w37 H38
        try dsimp only at H38
        have hx41 := row_set1 (f := u8c) (L := pkA L j) (cur := cur25) u8c_len (by rw [(pkA_len L j)]; exact h30) (show (pkA L j).length * 1 ≤ cur25.size by rw [(pkA_len L j), h29]; exact Nat.mul_le_mul_right 1 h27) (j := j / 8) (by have hh := (pkA_len L j); omega) 0 (.int .u8 ((byteN (L.take j) (j / 8) + 2 ^ (7 - j % 8) : Nat) : Int)) (UInt8.ofNat (byteN (L.take j) (j / 8) + 2 ^ (7 - j % 8))) ((u8_set (pkA_lt (by omega))))
        refine s_store H38 1 (.int .u8 ((byteN (L.take j) (j / 8) + 2 ^ (7 - j % 8) : Nat) : Int)) rfl rfl rfl sz_5 rfl (by have hh := (pkA_len L j); have hk := (show (pkA L j).length * 1 ≤ cur25.size by rw [(pkA_len L j), h29]; exact Nat.mul_le_mul_right 1 h27); omega) rfl (cs' := (cur25.setIfInBounds (0 + (j / 8) * 1) (.int .u8 ((byteN (L.take j) (j / 8) + 2 ^ (7 - j % 8) : Nat) : Int)))) rfl ?_; intro w39 H40
        refine ⟨blk bk24 (.cells (cur25.setIfInBounds (0 + (j / 8) * 1) (.int .u8 ((byteN (L.take j) (j / 8) + 2 ^ (7 - j % 8) : Nat) : Int))) 5 (0, 0)) :: F, ?_, H40⟩
        change FReg _ _ _ _ _ #[true, true, true, true, true, true, true, true, true, true, true] _ _
        refine f_done (by kernel_rfl) ?_
        intro w42 H43
        refine g_inBlock ?_
        refine g_region ?_
        refine r_cons (s_move (.int .i64 (j : Int)) rfl rfl ?_)
        refine r_cons (s_add ((j : Int) + 1) rfl rfl (wi64 (by omega)) rfl ?_)
        refine r_cons (s_assign (.int .i64 ((j : Int) + 1)) rfl rfl ?_)
        refine r_nil ?_
        have H44 := Row.shut2 (p := pq) (n := (L.length + 7) / 8) (c := cq) (size := 1) (xs := (pkA L (j + 1)).flatMap u8c) H43 (i := 1) rfl hp26 h27 h28 (by rw [Array.size_setIfInBounds]; exact h29) (by have hh : ((cur25.setIfInBounds (0 + (j / 8) * 1) (.int .u8 ((byteN (L.take j) (j / 8) + 2 ^ (7 - j % 8) : Nat) : Int))).toList.drop 0).take (((pkA L j).set (j / 8) (UInt8.ofNat (byteN (L.take j) (j / 8) + 2 ^ (7 - j % 8)))).length * 1) = ((pkA L j).set (j / 8) (UInt8.ofNat (byteN (L.take j) (j / 8) + 2 ^ (7 - j % 8)))).flatMap u8c := hx41; have hk : ((pkA L j).set (j / 8) (UInt8.ofNat (byteN (L.take j) (j / 8) + 2 ^ (7 - j % 8)))).length = (L.length + 7) / 8 := (by rw [List.length_set]; exact (pkA_len L j)); rw [hk] at hh; rw [(pkA_true (by omega) hb33).symm] at hh; exact hh) (one_u8 _)
        have H45 : St W w42 (Row 5 1 (.slice pq ((L.length + 7) / 8) cq) ((L.length + 7) / 8) ((pkA L (j + 1)).flatMap u8c) :: imi (0 < L.length) gA3 (.cells kA5 eA6 zA7) :: F) := (H44.move 1 rfl)
        exact nx22 (j + 1, pq, cq) _ _ ⟨(by omega), H45⟩ (by first | (dsimp only; omega) | omega) ⟨by first | rfl | exact vint (by omega), by first | rfl | exact vint (by omega), by first | rfl | exact vint (by omega), by first | rfl | exact vint (by omega), trivial⟩
      · have hb33 := eq_false_of_ne_true hb33
        refine g_false (congrArg Value.bool hb33) ?_
        refine g_skip ?_
        refine g_inBlock ?_
        refine g_region ?_
        refine r_cons (s_move (.int .i64 (j : Int)) rfl rfl ?_)
        refine r_cons (s_add ((j : Int) + 1) rfl rfl (wi64 (by omega)) rfl ?_)
        refine r_cons (s_assign (.int .i64 ((j : Int) + 1)) rfl rfl ?_)
        refine r_nil ?_
        have H46 := Row.shut2 (p := pq) (n := (L.length + 7) / 8) (c := cq) (size := 1) (xs := (pkA L (j + 1)).flatMap u8c) H32 (i := 0) rfl hp26 h27 h28 h29 (by have hh : (cur25.toList.drop 0).take ((pkA L j).length * 1) = (pkA L j).flatMap u8c := (by rw [(pkA_len L j)]; exact h30); have hk : (pkA L j).length = (L.length + 7) / 8 := (pkA_len L j); rw [hk] at hh; rw [(pkA_false (by omega) hb33).symm] at hh; exact hh) (one_u8 _)
        have H47 : St W w20 (Row 5 1 (.slice pq ((L.length + 7) / 8) cq) ((L.length + 7) / 8) ((pkA L (j + 1)).flatMap u8c) :: imi (0 < L.length) gA3 (.cells kA5 eA6 zA7) :: F) := ((H46.move 1 rfl).move 1 rfl)
        exact nx22 (j + 1, pq, cq) _ _ ⟨(by omega), H47⟩ (by first | (dsimp only; omega) | omega) ⟨by first | rfl | exact vint (by omega), by first | rfl | exact vint (by omega), by first | rfl | exact vint (by omega), by first | rfl | exact vint (by omega), trivial⟩
    · skip
      refine r_cons (s_lss false rfl rfl (dfalse hc23) rfl ?_)
      refine r_nil ?_
      refine g_false rfl ?_
      refine g_exit (by rfl) ?_
      refine g_seq ?_
      refine g_region ?_
      refine r_cons (s_move (.slice pq ((L.length + 7) / 8) cq) rfl rfl ?_)
      refine r_cons (s_assign (.slice pq ((L.length + 7) / 8) cq) rfl rfl ?_)
      refine r_nil ?_
      refine g_ret' [.slice pq ((L.length + 7) / 8) cq] Try.func23 Try.results23 ⟨rfl, trivial⟩ ?_
      have H48 : St W w20 (Row 5 1 (.slice pq ((L.length + 7) / 8) cq) ((L.length + 7) / 8) ((pkA L j).flatMap u8c) :: F) := (H21.drop 1 rfl)
      obtain rfl : j = L.length := by omega
      exact ⟨_, _, rfl, by rw [← pkA_all]; exact H48⟩
set_option maxHeartbeats 4000000 in
set_option maxRecDepth 100000 in
theorem put01 {W w : World} {F : List Atom} (b : Nat) (L : List Bool) (p : PartV) (hs : p.s.v.size ≤ 1099511627776) (hb : L.length ≤ 1048576) {i : Nat} (hi : F[i]? = some (SinkA b L)) (H : St W w F) : Calls Try.prog 20 #[.pointer (some ⟨b, 0, none⟩), .agg #[.int .i64 p.kind.v, .int .u64 (p.u.v : Int), .int .i64 p.n.v, .string p.s.v]] w (Ret fun v w' => ∃ q n c, v = .tuple #[.slice q n c, .bool (partMay p), .int .i64 (partE L p)] ∧ n = (partB p).length ∧ St W w' (Row 4 1 (.slice q n c) n ((partB p).flatMap blc) :: F.set i (SinkA b (partL L p)))) := by
  have H0 := H.front hi
  have hkl := p.u.lt
  have hnl := p.n.lo
  have hnh := p.n.hi
  have hsl := s64_lo p.u.lt
  have hsh := s64_hi p.u.lt
  refine calls_of_go (n := 74) Try.func20 rfl Try.ntmps20 rfl ?_
  refine g_seq ?_
  refine g_region ?_
  refine r_cons (s_box H0 40 (.agg #[.int .i64 p.kind.v, .int .u64 (p.u.v : Int), .int .i64 p.n.v, .string p.s.v]) rfl (cs := #[.int .i64 p.kind.v, .int .u64 (p.u.v : Int), .int .i64 p.n.v, .string p.s.v]) rfl rfl ?_); intro bk1 w2 H3
  refine r_cons (s_assign (.slice none 0 0) rfl rfl ?_)
  refine r_cons (s_assign (.bool false) rfl rfl ?_)
  refine r_cons (s_assign (.int .i64 0) rfl rfl ?_)
  refine r_nil ?_
  refine g_seq ?_
  refine g_seq ?_
  refine g_region ?_
  refine r_cons (s_fieldAddr 40 0 0 0 3 rfl fi_40_0 rfl rfl ?_)
  refine r_cons (s_load (.int .i64 p.kind.v) ag_3 rfl (H3.blk_at (i := 0) rfl) rfl rfl ?_)
  refine r_nil ?_
  refine g_block ?_
  refine g_seq ?_
  refine g_region ?_
  by_cases hc4 : p.kind.v = 0
  · skip
    refine r_cons (s_eql true rfl rfl (dtrue hc4) rfl ?_)
    refine r_cons (s_assign (.bool true) rfl rfl ?_)
    refine r_nil ?_
    refine g_true rfl ?_
    refine g_seq ?_
    refine g_mix (fun t_ w => St W w (blk bk1 (.cells #[.int .i64 p.kind.v, .int .u64 (p.u.v : Int), .int .i64 p.n.v, .string p.s.v] 40 (0, 0)) :: t_)) (SinkA b L :: (F.set i emp)) mixed 21 rfl H3.drew ?_
    refine f_first 0 (listed' := #[true, false, false, false, false, false, false, false, false, false, false, false, false, false, false, false, false, false, false, false, false]) rfl (by kernel_rfl) (by kernel_rfl) (by kernel_rfl) rfl ?_
    refine f_val rfl rfl rfl (by intro t_ w hw; exact x_fieldAddr 40 1 1 1 22 rfl fi_40_1 rfl w) ?_
    refine f_first 1 (listed' := #[true, true, false, false, false, false, false, false, false, false, false, false, false, false, false, false, false, false, false, false, false]) rfl (by kernel_rfl) (by kernel_rfl) (by kernel_rfl) rfl ?_
    refine f_val rfl rfl rfl (by intro t_ w hw; exact x_load (.int .u64 (p.u.v : Int)) ag_22 rfl (hw.blk_at (i := 0) rfl) rfl) ?_
    refine f_first 2 (listed' := #[true, true, true, false, false, false, false, false, false, false, false, false, false, false, false, false, false, false, false, false, false]) rfl (by kernel_rfl) (by kernel_rfl) (by kernel_rfl) rfl ?_
    refine f_val rfl rfl rfl (by intro t_ w hw; exact x_fieldAddr 40 2 2 2 3 rfl fi_40_2 rfl w) ?_
    refine f_first 3 (listed' := #[true, true, true, true, false, false, false, false, false, false, false, false, false, false, false, false, false, false, false, false, false]) rfl (by kernel_rfl) (by kernel_rfl) (by kernel_rfl) rfl ?_
    refine f_val rfl rfl rfl (by intro t_ w hw; exact x_load (.int .i64 p.n.v) ag_3 rfl (hw.blk_at (i := 0) rfl) rfl) ?_
    refine f_first 4 (listed' := #[true, true, true, true, true, false, false, false, false, false, false, false, false, false, false, false, false, false, false, false, false]) rfl (by kernel_rfl) (by kernel_rfl) (by kernel_rfl) rfl ?_
    refine f_val rfl rfl rfl (by intro t_ w hw; exact x_max2 (max p.n.v 0) rfl rfl (by split <;> omega) w) ?_
    refine f_first 5 (listed' := #[true, true, true, true, true, true, false, false, false, false, false, false, false, false, false, false, false, false, false, false, false]) rfl (by kernel_rfl) (by kernel_rfl) (by kernel_rfl) rfl ?_
    refine f_val rfl rfl rfl (by intro t_ w hw; exact x_min2 (((min (max p.n.v 0) 64).toNat : Nat) : Int) rfl rfl (by split <;> omega) w) ?_
    refine f_first 7 (listed' := #[true, true, true, true, true, true, false, true, false, false, false, false, false, false, false, false, false, false, false, false, false]) rfl (by kernel_rfl) (by kernel_rfl) (by kernel_rfl) rfl ?_
    refine f_val rfl rfl rfl (by intro t_ w hw; exact x_fieldAddr 40 1 1 1 22 rfl fi_40_1 rfl w) ?_
    refine f_first 8 (listed' := #[true, true, true, true, true, true, false, true, true, false, false, false, false, false, false, false, false, false, false, false, false]) rfl (by kernel_rfl) (by kernel_rfl) (by kernel_rfl) rfl ?_
    refine f_val rfl rfl rfl (by intro t_ w hw; exact x_load (.int .u64 (p.u.v : Int)) ag_22 rfl (hw.blk_at (i := 0) rfl) rfl) ?_
    refine f_first 9 (listed' := #[true, true, true, true, true, true, false, true, true, true, false, false, false, false, false, false, false, false, false, false, false]) rfl (by kernel_rfl) (by kernel_rfl) (by kernel_rfl) rfl ?_
    refine f_val rfl rfl rfl (by intro t_ w hw; exact x_fieldAddr 40 2 2 2 3 rfl fi_40_2 rfl w) ?_
    refine f_first 10 (listed' := #[true, true, true, true, true, true, false, true, true, true, true, false, false, false, false, false, false, false, false, false, false]) rfl (by kernel_rfl) (by kernel_rfl) (by kernel_rfl) rfl ?_
    refine f_val rfl rfl rfl (by intro t_ w hw; exact x_load (.int .i64 p.n.v) ag_3 rfl (hw.blk_at (i := 0) rfl) rfl) ?_
    refine f_first 12 (listed' := #[true, true, true, true, true, true, false, true, true, true, true, false, true, false, false, false, false, false, false, false, false]) rfl (by kernel_rfl) (by kernel_rfl) (by kernel_rfl) rfl ?_
    refine f_val rfl rfl rfl (by intro t_ w hw; exact x_move (.pointer (some ⟨b, 0, none⟩)) rfl w) ?_
    refine f_first 13 (listed' := #[true, true, true, true, true, true, false, true, true, true, true, false, true, true, false, false, false, false, false, false, false]) rfl (by kernel_rfl) (by kernel_rfl) (by kernel_rfl) rfl ?_
    refine f_val rfl rfl rfl (by intro t_ w hw; exact x_fieldAddr 40 1 1 1 22 rfl fi_40_1 rfl w) ?_
    refine f_first 14 (listed' := #[true, true, true, true, true, true, false, true, true, true, true, false, true, true, true, false, false, false, false, false, false]) rfl (by kernel_rfl) (by kernel_rfl) (by kernel_rfl) rfl ?_
    refine f_val rfl rfl rfl (by intro t_ w hw; exact x_load (.int .u64 (p.u.v : Int)) ag_22 rfl (hw.blk_at (i := 0) rfl) rfl) ?_
    refine f_first 15 (listed' := #[true, true, true, true, true, true, false, true, true, true, true, false, true, true, true, true, false, false, false, false, false]) rfl (by kernel_rfl) (by kernel_rfl) (by kernel_rfl) rfl ?_
    refine f_val rfl rfl rfl (by intro t_ w hw; exact x_fieldAddr 40 2 2 2 3 rfl fi_40_2 rfl w) ?_
    refine f_first 16 (listed' := #[true, true, true, true, true, true, false, true, true, true, true, false, true, true, true, true, true, false, false, false, false]) rfl (by kernel_rfl) (by kernel_rfl) (by kernel_rfl) rfl ?_
    refine f_val rfl rfl rfl (by intro t_ w hw; exact x_load (.int .i64 p.n.v) ag_3 rfl (hw.blk_at (i := 0) rfl) rfl) ?_
    refine f_all (rs := [6]) (by kernel_rfl) (by simp) ?_
    refine a_cons ⟨_, rfl, ?_⟩ (fun x hx => absurd hx (by simp))
    intro w5 H6
    try dsimp only at H6
    refine s_call [.int .u64 (p.u.v : Int), .int .i64 (((min (max p.n.v 0) 64).toNat : Nat) : Int)] pl_35 rfl rfl (ref01_Low p.u.v ((min (max p.n.v 0) 64).toNat) (by omega) (by omega) H6) ?_
    rintro _ w9 ⟨pp7, cc8, rfl, H10⟩
    have H11 : St W w9 (blk bk1 (.cells #[.int .i64 p.kind.v, .int .u64 (p.u.v : Int), .int .i64 p.n.v, .string p.s.v] 40 (0, 0)) :: Row 4 1 (.slice pp7 ((min (max p.n.v 0) 64).toNat) cc8) ((min (max p.n.v 0) 64).toNat) ((lowB p.u.v ((min (max p.n.v 0) 64).toNat)).flatMap blc) :: SinkA b L :: (F.set i emp)) := (((H10.move 2 rfl).move 1 rfl).move 2 rfl)
    refine ⟨Row 4 1 (.slice pp7 ((min (max p.n.v 0) 64).toNat) cc8) ((min (max p.n.v 0) 64).toNat) ((lowB p.u.v ((min (max p.n.v 0) 64).toNat)).flatMap blc) :: SinkA b L :: (F.set i emp), ?_, H11⟩
    change FReg _ _ _ _ _ #[true, true, true, true, true, true, true, true, true, true, true, false, true, true, true, true, true, false, false, false, false] _ _
    refine f_first 11 (listed' := #[true, true, true, true, true, true, true, true, true, true, true, true, true, true, true, true, true, false, false, false, false]) rfl (by kernel_rfl) (by kernel_rfl) (by kernel_rfl) rfl ?_
    refine f_enter (args := #[.int .u64 (p.u.v : Int), .int .i64 p.n.v]) (v := .bool (fitsB p.u.v p.n.v)) rfl rfl rfl (x_call pl_46 [.int .u64 (p.u.v : Int), .int .i64 p.n.v] rfl) (fun t_ w hw => ref01_Fits (p.u.v) p.n.v (by omega) hw) ?_
    refine f_all (rs := [17]) (by kernel_rfl) (by simp) ?_
    refine a_cons ⟨_, rfl, ?_⟩ (fun x hx => absurd hx (by simp))
    intro w12 H13
    try dsimp only at H13
    refine s_call [.pointer (some ⟨b, 0, none⟩), .int .u64 (p.u.v : Int), .int .i64 p.n.v] pl_29 rfl rfl (Sink_Bits b L p.u.v p.n.v (by omega) (by first | omega | (repeat (first | exact Nat.zero_le _ | assumption | refine putL_le ?_ | refine bitsL_le ?_))) (i := 2) rfl H13) ?_
    rintro _ w14 ⟨rfl, H15⟩
    refine ⟨Row 4 1 (.slice pp7 ((min (max p.n.v 0) 64).toNat) cc8) ((min (max p.n.v 0) 64).toNat) ((lowB p.u.v ((min (max p.n.v 0) 64).toNat)).flatMap blc) :: SinkA b (bitsL L p.u.v p.n.v) :: (F.set i emp), ?_, H15⟩
    change FReg _ _ _ _ _ #[true, true, true, true, true, true, true, true, true, true, true, true, true, true, true, true, true, true, false, false, false] _ _
    refine f_first 18 (listed' := #[true, true, true, true, true, true, true, true, true, true, true, true, true, true, true, true, true, true, true, false, false]) rfl (by kernel_rfl) (by kernel_rfl) (by kernel_rfl) rfl ?_
    refine f_val rfl rfl rfl (by intro t_ w hw; exact x_assign (.slice pp7 ((min (max p.n.v 0) 64).toNat) cc8) rfl w) ?_
    refine f_first 19 (listed' := #[true, true, true, true, true, true, true, true, true, true, true, true, true, true, true, true, true, true, true, true, false]) rfl (by kernel_rfl) (by kernel_rfl) (by kernel_rfl) rfl ?_
    refine f_val rfl rfl rfl (by intro t_ w hw; exact x_assign (.bool (fitsB p.u.v p.n.v)) rfl w) ?_
    refine f_first 20 (listed' := #[true, true, true, true, true, true, true, true, true, true, true, true, true, true, true, true, true, true, true, true, true]) rfl (by kernel_rfl) (by kernel_rfl) (by kernel_rfl) rfl ?_
    refine f_val rfl rfl rfl (by intro t_ w hw; exact x_assign (.int .i64 (bitsE L p.u.v p.n.v)) rfl w) ?_
    refine f_done (by kernel_rfl) ?_
    intro w16 H17
    refine g_ret' [.slice pp7 ((min (max p.n.v 0) 64).toNat) cc8, .bool (fitsB p.u.v p.n.v), .int .i64 (bitsE L p.u.v p.n.v)] Try.func20 Try.results20 ⟨rfl, rfl, rfl, trivial⟩ ?_
    have H18 : St W w16 (SinkA b (bitsL L p.u.v p.n.v) :: Row 4 1 (.slice pp7 ((min (max p.n.v 0) 64).toNat) cc8) ((min (max p.n.v 0) 64).toNat) ((lowB p.u.v ((min (max p.n.v 0) 64).toNat)).flatMap blc) :: (F.set i emp)) := (((H17.move 1 rfl).move 2 rfl).drop 2 rfl)
    obtain ⟨e1, e2, e3, e4⟩ := part_0 (by assumption)
    have H19 := St.back (i := i + 1) (l := Row 4 1 (.slice pp7 ((min (max p.n.v 0) 64).toNat) cc8) ((min (max p.n.v 0) 64).toNat) ((lowB p.u.v ((min (max p.n.v 0) 64).toNat)).flatMap blc) :: F) (by exact hi) H18
    refine ⟨_, _, _, by rw [e2, e3]; rfl, ?_, by rw [e1, e4]; exact H19⟩
    rw [e1]; first | rfl | (simp only [natB_len, lowB_len, textB_len]; done) | (simp only [natB_len, lowB_len, textB_len]; omega)
  · skip
    refine r_cons (s_eql false rfl rfl (dfalse hc4) rfl ?_)
    refine r_cons (s_assign (.bool false) rfl rfl ?_)
    refine r_nil ?_
    refine g_false rfl ?_
    refine g_seq ?_
    refine g_region ?_
    by_cases hc20 : p.kind.v = 1
    · skip
      refine r_cons (s_eql true rfl rfl (dtrue hc20) rfl ?_)
      refine r_cons (s_assign (.bool true) rfl rfl ?_)
      refine r_nil ?_
      refine g_true rfl ?_
      refine g_seq ?_
      refine g_mix (fun t_ w => St W w (blk bk1 (.cells #[.int .i64 p.kind.v, .int .u64 (p.u.v : Int), .int .i64 p.n.v, .string p.s.v] 40 (0, 0)) :: t_)) (SinkA b L :: (F.set i emp)) mixed 10 rfl H3.drew ?_
      refine f_first 0 (listed' := #[true, false, false, false, false, false, false, false, false, false]) rfl (by kernel_rfl) (by kernel_rfl) (by kernel_rfl) rfl ?_
      refine f_val rfl rfl rfl (by intro t_ w hw; exact x_fieldAddr 40 1 1 1 22 rfl fi_40_1 rfl w) ?_
      refine f_first 1 (listed' := #[true, true, false, false, false, false, false, false, false, false]) rfl (by kernel_rfl) (by kernel_rfl) (by kernel_rfl) rfl ?_
      refine f_val rfl rfl rfl (by intro t_ w hw; exact x_load (.int .u64 (p.u.v : Int)) ag_22 rfl (hw.blk_at (i := 0) rfl) rfl) ?_
      refine f_first 3 (listed' := #[true, true, false, true, false, false, false, false, false, false]) rfl (by kernel_rfl) (by kernel_rfl) (by kernel_rfl) rfl ?_
      refine f_val rfl rfl rfl (by intro t_ w hw; exact x_move (.pointer (some ⟨b, 0, none⟩)) rfl w) ?_
      refine f_first 4 (listed' := #[true, true, false, true, true, false, false, false, false, false]) rfl (by kernel_rfl) (by kernel_rfl) (by kernel_rfl) rfl ?_
      refine f_val rfl rfl rfl (by intro t_ w hw; exact x_fieldAddr 40 1 1 1 22 rfl fi_40_1 rfl w) ?_
      refine f_first 5 (listed' := #[true, true, false, true, true, true, false, false, false, false]) rfl (by kernel_rfl) (by kernel_rfl) (by kernel_rfl) rfl ?_
      refine f_val rfl rfl rfl (by intro t_ w hw; exact x_load (.int .u64 (p.u.v : Int)) ag_22 rfl (hw.blk_at (i := 0) rfl) rfl) ?_
      refine f_all (rs := [2]) (by kernel_rfl) (by simp) ?_
      refine a_cons ⟨_, rfl, ?_⟩ (fun x hx => absurd hx (by simp))
      intro w21 H22
      try dsimp only at H22
      refine s_call [.int .u64 (p.u.v : Int)] pl_8 rfl rfl (ref01_Nat p.u.v (by omega) H22) ?_
      rintro _ w25 ⟨pp23, cc24, rfl, H26⟩
      have H27 : St W w25 (blk bk1 (.cells #[.int .i64 p.kind.v, .int .u64 (p.u.v : Int), .int .i64 p.n.v, .string p.s.v] 40 (0, 0)) :: Row 4 1 (.slice pp23 (sizeU p.u.v) cc24) (sizeU p.u.v) ((natB p.u.v).flatMap blc) :: SinkA b L :: (F.set i emp)) := (((H26.move 2 rfl).move 1 rfl).move 2 rfl)
      refine ⟨Row 4 1 (.slice pp23 (sizeU p.u.v) cc24) (sizeU p.u.v) ((natB p.u.v).flatMap blc) :: SinkA b L :: (F.set i emp), ?_, H27⟩
      change FReg _ _ _ _ _ #[true, true, true, true, true, true, false, false, false, false] _ _
      refine f_all (rs := [6]) (by kernel_rfl) (by simp) ?_
      refine a_cons ⟨_, rfl, ?_⟩ (fun x hx => absurd hx (by simp))
      intro w28 H29
      try dsimp only at H29
      refine s_call [.pointer (some ⟨b, 0, none⟩), .int .u64 (p.u.v : Int)] pl_12 rfl rfl (Sink_Nat b L p.u.v (by omega) (by first | omega | (repeat (first | exact Nat.zero_le _ | assumption | refine putL_le ?_ | refine bitsL_le ?_))) (i := 2) rfl H29) ?_
      rintro _ w30 ⟨rfl, H31⟩
      refine ⟨Row 4 1 (.slice pp23 (sizeU p.u.v) cc24) (sizeU p.u.v) ((natB p.u.v).flatMap blc) :: SinkA b (putL L (natB p.u.v)) :: (F.set i emp), ?_, H31⟩
      change FReg _ _ _ _ _ #[true, true, true, true, true, true, true, false, false, false] _ _
      refine f_first 7 (listed' := #[true, true, true, true, true, true, true, true, false, false]) rfl (by kernel_rfl) (by kernel_rfl) (by kernel_rfl) rfl ?_
      refine f_val rfl rfl rfl (by intro t_ w hw; exact x_assign (.slice pp23 (sizeU p.u.v) cc24) rfl w) ?_
      refine f_first 8 (listed' := #[true, true, true, true, true, true, true, true, true, false]) rfl (by kernel_rfl) (by kernel_rfl) (by kernel_rfl) rfl ?_
      refine f_val rfl rfl rfl (by intro t_ w hw; exact x_assign (.bool true) rfl w) ?_
      refine f_first 9 (listed' := #[true, true, true, true, true, true, true, true, true, true]) rfl (by kernel_rfl) (by kernel_rfl) (by kernel_rfl) rfl ?_
      refine f_val rfl rfl rfl (by intro t_ w hw; exact x_assign (.int .i64 (putE L (sizeU p.u.v : Int))) rfl w) ?_
      refine f_done (by kernel_rfl) ?_
      intro w32 H33
      refine g_ret' [.slice pp23 (sizeU p.u.v) cc24, .bool true, .int .i64 (putE L (sizeU p.u.v : Int))] Try.func20 Try.results20 ⟨rfl, rfl, rfl, trivial⟩ ?_
      have H34 : St W w32 (SinkA b (putL L (natB p.u.v)) :: Row 4 1 (.slice pp23 (sizeU p.u.v) cc24) (sizeU p.u.v) ((natB p.u.v).flatMap blc) :: (F.set i emp)) := (((H33.move 1 rfl).move 2 rfl).drop 2 rfl)
      obtain ⟨e1, e2, e3, e4⟩ := part_x (by omega) (part_1 (by assumption))
      have H35 := St.back (i := i + 1) (l := Row 4 1 (.slice pp23 (sizeU p.u.v) cc24) (sizeU p.u.v) ((natB p.u.v).flatMap blc) :: F) (by exact hi) H34
      refine ⟨_, _, _, by rw [e2, e3]; rw [natB_len]; rfl, ?_, by rw [e1, e4]; exact H35⟩
      rw [e1]; first | rfl | (simp only [natB_len, lowB_len, textB_len]; done) | (simp only [natB_len, lowB_len, textB_len]; omega)
    · skip
      refine r_cons (s_eql false rfl rfl (dfalse hc20) rfl ?_)
      refine r_cons (s_assign (.bool false) rfl rfl ?_)
      refine r_nil ?_
      refine g_false rfl ?_
      refine g_seq ?_
      refine g_region ?_
      by_cases hc36 : p.kind.v = 2
      · skip
        refine r_cons (s_eql true rfl rfl (dtrue hc36) rfl ?_)
        refine r_cons (s_assign (.bool true) rfl rfl ?_)
        refine r_nil ?_
        refine g_true rfl ?_
        refine g_seq ?_
        refine g_mix (fun t_ w => St W w (blk bk1 (.cells #[.int .i64 p.kind.v, .int .u64 (p.u.v : Int), .int .i64 p.n.v, .string p.s.v] 40 (0, 0)) :: t_)) (SinkA b L :: (F.set i emp)) mixed 12 rfl H3.drew ?_
        refine f_first 0 (listed' := #[true, false, false, false, false, false, false, false, false, false, false, false]) rfl (by kernel_rfl) (by kernel_rfl) (by kernel_rfl) rfl ?_
        refine f_val rfl rfl rfl (by intro t_ w hw; exact x_fieldAddr 40 1 1 1 22 rfl fi_40_1 rfl w) ?_
        refine f_first 1 (listed' := #[true, true, false, false, false, false, false, false, false, false, false, false]) rfl (by kernel_rfl) (by kernel_rfl) (by kernel_rfl) rfl ?_
        refine f_val rfl rfl rfl (by intro t_ w hw; exact x_load (.int .u64 (p.u.v : Int)) ag_22 rfl (hw.blk_at (i := 0) rfl) rfl) ?_
        refine f_first 2 (listed' := #[true, true, true, false, false, false, false, false, false, false, false, false]) rfl (by kernel_rfl) (by kernel_rfl) (by kernel_rfl) rfl ?_
        refine f_val rfl rfl rfl (by intro t_ w hw; exact x_conv (s64 p.u.v) rfl us_22 ik_2 (rfl) w) ?_
        refine f_first 4 (listed' := #[true, true, true, false, true, false, false, false, false, false, false, false]) rfl (by kernel_rfl) (by kernel_rfl) (by kernel_rfl) rfl ?_
        refine f_val rfl rfl rfl (by intro t_ w hw; exact x_move (.pointer (some ⟨b, 0, none⟩)) rfl w) ?_
        refine f_first 5 (listed' := #[true, true, true, false, true, true, false, false, false, false, false, false]) rfl (by kernel_rfl) (by kernel_rfl) (by kernel_rfl) rfl ?_
        refine f_val rfl rfl rfl (by intro t_ w hw; exact x_fieldAddr 40 1 1 1 22 rfl fi_40_1 rfl w) ?_
        refine f_first 6 (listed' := #[true, true, true, false, true, true, true, false, false, false, false, false]) rfl (by kernel_rfl) (by kernel_rfl) (by kernel_rfl) rfl ?_
        refine f_val rfl rfl rfl (by intro t_ w hw; exact x_load (.int .u64 (p.u.v : Int)) ag_22 rfl (hw.blk_at (i := 0) rfl) rfl) ?_
        refine f_first 7 (listed' := #[true, true, true, false, true, true, true, true, false, false, false, false]) rfl (by kernel_rfl) (by kernel_rfl) (by kernel_rfl) rfl ?_
        refine f_val rfl rfl rfl (by intro t_ w hw; exact x_conv (s64 p.u.v) rfl us_22 ik_2 (rfl) w) ?_
        refine f_all (rs := [3]) (by kernel_rfl) (by simp) ?_
        refine a_cons ⟨_, rfl, ?_⟩ (fun x hx => absurd hx (by simp))
        intro w37 H38
        try dsimp only at H38
        refine s_call [.int .i64 (s64 p.u.v)] pl_47 rfl rfl (ref01_Num (s64 p.u.v) (by omega) (by omega) H38) ?_
        rintro _ w41 ⟨pp39, cc40, rfl, H42⟩
        have H43 : St W w41 (blk bk1 (.cells #[.int .i64 p.kind.v, .int .u64 (p.u.v : Int), .int .i64 p.n.v, .string p.s.v] 40 (0, 0)) :: Row 4 1 (.slice pp39 (sizeU (zigN (s64 p.u.v))) cc40) (sizeU (zigN (s64 p.u.v))) ((natB (zigN (s64 p.u.v))).flatMap blc) :: SinkA b L :: (F.set i emp)) := (((H42.move 2 rfl).move 1 rfl).move 2 rfl)
        refine ⟨Row 4 1 (.slice pp39 (sizeU (zigN (s64 p.u.v))) cc40) (sizeU (zigN (s64 p.u.v))) ((natB (zigN (s64 p.u.v))).flatMap blc) :: SinkA b L :: (F.set i emp), ?_, H43⟩
        change FReg _ _ _ _ _ #[true, true, true, true, true, true, true, true, false, false, false, false] _ _
        refine f_all (rs := [8]) (by kernel_rfl) (by simp) ?_
        refine a_cons ⟨_, rfl, ?_⟩ (fun x hx => absurd hx (by simp))
        intro w44 H45
        try dsimp only at H45
        refine s_call [.pointer (some ⟨b, 0, none⟩), .int .i64 (s64 p.u.v)] pl_30 rfl rfl (Sink_Num b L (s64 p.u.v) (by omega) (by omega) (by first | omega | (repeat (first | exact Nat.zero_le _ | assumption | refine putL_le ?_ | refine bitsL_le ?_))) (i := 2) rfl H45) ?_
        rintro _ w46 ⟨rfl, H47⟩
        refine ⟨Row 4 1 (.slice pp39 (sizeU (zigN (s64 p.u.v))) cc40) (sizeU (zigN (s64 p.u.v))) ((natB (zigN (s64 p.u.v))).flatMap blc) :: SinkA b (putL L (natB (zigN (s64 p.u.v)))) :: (F.set i emp), ?_, H47⟩
        change FReg _ _ _ _ _ #[true, true, true, true, true, true, true, true, true, false, false, false] _ _
        refine f_first 9 (listed' := #[true, true, true, true, true, true, true, true, true, true, false, false]) rfl (by kernel_rfl) (by kernel_rfl) (by kernel_rfl) rfl ?_
        refine f_val rfl rfl rfl (by intro t_ w hw; exact x_assign (.slice pp39 (sizeU (zigN (s64 p.u.v))) cc40) rfl w) ?_
        refine f_first 10 (listed' := #[true, true, true, true, true, true, true, true, true, true, true, false]) rfl (by kernel_rfl) (by kernel_rfl) (by kernel_rfl) rfl ?_
        refine f_val rfl rfl rfl (by intro t_ w hw; exact x_assign (.bool true) rfl w) ?_
        refine f_first 11 (listed' := #[true, true, true, true, true, true, true, true, true, true, true, true]) rfl (by kernel_rfl) (by kernel_rfl) (by kernel_rfl) rfl ?_
        refine f_val rfl rfl rfl (by intro t_ w hw; exact x_assign (.int .i64 (putE L (sizeU (zigN (s64 p.u.v)) : Int))) rfl w) ?_
        refine f_done (by kernel_rfl) ?_
        intro w48 H49
        refine g_ret' [.slice pp39 (sizeU (zigN (s64 p.u.v))) cc40, .bool true, .int .i64 (putE L (sizeU (zigN (s64 p.u.v)) : Int))] Try.func20 Try.results20 ⟨rfl, rfl, rfl, trivial⟩ ?_
        have H50 : St W w48 (SinkA b (putL L (natB (zigN (s64 p.u.v)))) :: Row 4 1 (.slice pp39 (sizeU (zigN (s64 p.u.v))) cc40) (sizeU (zigN (s64 p.u.v))) ((natB (zigN (s64 p.u.v))).flatMap blc) :: (F.set i emp)) := (((H49.move 1 rfl).move 2 rfl).drop 2 rfl)
        obtain ⟨e1, e2, e3, e4⟩ := part_x (by omega) (part_2 (by assumption))
        have H51 := St.back (i := i + 1) (l := Row 4 1 (.slice pp39 (sizeU (zigN (s64 p.u.v))) cc40) (sizeU (zigN (s64 p.u.v))) ((natB (zigN (s64 p.u.v))).flatMap blc) :: F) (by exact hi) H50
        refine ⟨_, _, _, by rw [e2, e3]; rw [natB_len]; rfl, ?_, by rw [e1, e4]; exact H51⟩
        rw [e1]; first | rfl | (simp only [natB_len, lowB_len, textB_len]; done) | (simp only [natB_len, lowB_len, textB_len]; omega)
      · skip
        refine r_cons (s_eql false rfl rfl (dfalse hc36) rfl ?_)
        refine r_cons (s_assign (.bool false) rfl rfl ?_)
        refine r_nil ?_
        refine g_false rfl ?_
        refine g_seq ?_
        refine g_region ?_
        by_cases hc52 : p.kind.v = 3
        · skip
          refine r_cons (s_eql true rfl rfl (dtrue hc52) rfl ?_)
          refine r_cons (s_assign (.bool true) rfl rfl ?_)
          refine r_nil ?_
          refine g_true rfl ?_
          refine g_seq ?_
          refine g_mix (fun t_ w => St W w (blk bk1 (.cells #[.int .i64 p.kind.v, .int .u64 (p.u.v : Int), .int .i64 p.n.v, .string p.s.v] 40 (0, 0)) :: t_)) (SinkA b L :: (F.set i emp)) mixed 10 rfl H3.drew ?_
          refine f_first 0 (listed' := #[true, false, false, false, false, false, false, false, false, false]) rfl (by kernel_rfl) (by kernel_rfl) (by kernel_rfl) rfl ?_
          refine f_val rfl rfl rfl (by intro t_ w hw; exact x_fieldAddr 40 3 3 3 9 rfl fi_40_3 rfl w) ?_
          refine f_first 1 (listed' := #[true, true, false, false, false, false, false, false, false, false]) rfl (by kernel_rfl) (by kernel_rfl) (by kernel_rfl) rfl ?_
          refine f_val rfl rfl rfl (by intro t_ w hw; exact x_load (.string p.s.v) ag_9 rfl (hw.blk_at (i := 0) rfl) rfl) ?_
          refine f_first 3 (listed' := #[true, true, false, true, false, false, false, false, false, false]) rfl (by kernel_rfl) (by kernel_rfl) (by kernel_rfl) rfl ?_
          refine f_val rfl rfl rfl (by intro t_ w hw; exact x_move (.pointer (some ⟨b, 0, none⟩)) rfl w) ?_
          refine f_first 4 (listed' := #[true, true, false, true, true, false, false, false, false, false]) rfl (by kernel_rfl) (by kernel_rfl) (by kernel_rfl) rfl ?_
          refine f_val rfl rfl rfl (by intro t_ w hw; exact x_fieldAddr 40 3 3 3 9 rfl fi_40_3 rfl w) ?_
          refine f_first 5 (listed' := #[true, true, false, true, true, true, false, false, false, false]) rfl (by kernel_rfl) (by kernel_rfl) (by kernel_rfl) rfl ?_
          refine f_val rfl rfl rfl (by intro t_ w hw; exact x_load (.string p.s.v) ag_9 rfl (hw.blk_at (i := 0) rfl) rfl) ?_
          refine f_all (rs := [2]) (by kernel_rfl) (by simp) ?_
          refine a_cons ⟨_, rfl, ?_⟩ (fun x hx => absurd hx (by simp))
          intro w53 H54
          try dsimp only at H54
          refine s_call [.string p.s.v] pl_48 rfl rfl (ref01_Text p.s.v (by omega) H54) ?_
          rintro _ w57 ⟨pp55, cc56, rfl, H58⟩
          have H59 : St W w57 (blk bk1 (.cells #[.int .i64 p.kind.v, .int .u64 (p.u.v : Int), .int .i64 p.n.v, .string p.s.v] 40 (0, 0)) :: Row 4 1 (.slice pp55 (sizeU p.s.v.size + 8 * p.s.v.size) cc56) (sizeU p.s.v.size + 8 * p.s.v.size) ((textB p.s.v).flatMap blc) :: SinkA b L :: (F.set i emp)) := (((H58.move 2 rfl).move 1 rfl).move 2 rfl)
          refine ⟨Row 4 1 (.slice pp55 (sizeU p.s.v.size + 8 * p.s.v.size) cc56) (sizeU p.s.v.size + 8 * p.s.v.size) ((textB p.s.v).flatMap blc) :: SinkA b L :: (F.set i emp), ?_, H59⟩
          change FReg _ _ _ _ _ #[true, true, true, true, true, true, false, false, false, false] _ _
          refine f_all (rs := [6]) (by kernel_rfl) (by simp) ?_
          refine a_cons ⟨_, rfl, ?_⟩ (fun x hx => absurd hx (by simp))
          intro w60 H61
          try dsimp only at H61
          refine s_call [.pointer (some ⟨b, 0, none⟩), .string p.s.v] pl_31 rfl rfl (Sink_Text b L p.s.v p.s.ok (by first | omega | (repeat (first | exact Nat.zero_le _ | assumption | refine putL_le ?_ | refine bitsL_le ?_))) (i := 2) rfl H61) ?_
          rintro _ w62 ⟨rfl, H63⟩
          refine ⟨Row 4 1 (.slice pp55 (sizeU p.s.v.size + 8 * p.s.v.size) cc56) (sizeU p.s.v.size + 8 * p.s.v.size) ((textB p.s.v).flatMap blc) :: SinkA b (putL L (textB p.s.v)) :: (F.set i emp), ?_, H63⟩
          change FReg _ _ _ _ _ #[true, true, true, true, true, true, true, false, false, false] _ _
          refine f_first 7 (listed' := #[true, true, true, true, true, true, true, true, false, false]) rfl (by kernel_rfl) (by kernel_rfl) (by kernel_rfl) rfl ?_
          refine f_val rfl rfl rfl (by intro t_ w hw; exact x_assign (.slice pp55 (sizeU p.s.v.size + 8 * p.s.v.size) cc56) rfl w) ?_
          refine f_first 8 (listed' := #[true, true, true, true, true, true, true, true, true, false]) rfl (by kernel_rfl) (by kernel_rfl) (by kernel_rfl) rfl ?_
          refine f_val rfl rfl rfl (by intro t_ w hw; exact x_assign (.bool true) rfl w) ?_
          refine f_first 9 (listed' := #[true, true, true, true, true, true, true, true, true, true]) rfl (by kernel_rfl) (by kernel_rfl) (by kernel_rfl) rfl ?_
          refine f_val rfl rfl rfl (by intro t_ w hw; exact x_assign (.int .i64 (putE L ((textB p.s.v).length : Int))) rfl w) ?_
          refine f_done (by kernel_rfl) ?_
          intro w64 H65
          refine g_ret' [.slice pp55 (sizeU p.s.v.size + 8 * p.s.v.size) cc56, .bool true, .int .i64 (putE L ((textB p.s.v).length : Int))] Try.func20 Try.results20 ⟨rfl, rfl, rfl, trivial⟩ ?_
          have H66 : St W w64 (SinkA b (putL L (textB p.s.v)) :: Row 4 1 (.slice pp55 (sizeU p.s.v.size + 8 * p.s.v.size) cc56) (sizeU p.s.v.size + 8 * p.s.v.size) ((textB p.s.v).flatMap blc) :: (F.set i emp)) := (((H65.move 1 rfl).move 2 rfl).drop 2 rfl)
          obtain ⟨e1, e2, e3, e4⟩ := part_x (by omega) (part_3 (by assumption))
          have H67 := St.back (i := i + 1) (l := Row 4 1 (.slice pp55 (sizeU p.s.v.size + 8 * p.s.v.size) cc56) (sizeU p.s.v.size + 8 * p.s.v.size) ((textB p.s.v).flatMap blc) :: F) (by exact hi) H66
          refine ⟨_, _, _, by rw [e2, e3]; rfl, ?_, by rw [e1, e4]; exact H67⟩
          rw [e1]; first | rfl | (simp only [natB_len, lowB_len, textB_len]; done) | (simp only [natB_len, lowB_len, textB_len]; omega)
        · skip
          refine r_cons (s_eql false rfl rfl (dfalse hc52) rfl ?_)
          refine r_cons (s_assign (.bool false) rfl rfl ?_)
          refine r_nil ?_
          refine g_false rfl ?_
          refine g_skip ?_
          refine g_inBlock ?_
          refine g_seq ?_
          refine g_mix (fun t_ w => St W w (blk bk1 (.cells #[.int .i64 p.kind.v, .int .u64 (p.u.v : Int), .int .i64 p.n.v, .string p.s.v] 40 (0, 0)) :: t_)) (SinkA b L :: (F.set i emp)) mixed 19 rfl H3.drew ?_
          refine f_first 0 (listed' := #[true, false, false, false, false, false, false, false, false, false, false, false, false, false, false, false, false, false, false]) rfl (by kernel_rfl) (by kernel_rfl) (by kernel_rfl) rfl ?_
          refine f_val rfl rfl rfl (by intro t_ w hw; exact x_fieldAddr 40 2 2 2 3 rfl fi_40_2 rfl w) ?_
          refine f_first 1 (listed' := #[true, true, false, false, false, false, false, false, false, false, false, false, false, false, false, false, false, false, false]) rfl (by kernel_rfl) (by kernel_rfl) (by kernel_rfl) rfl ?_
          refine f_val rfl rfl rfl (by intro t_ w hw; exact x_load (.int .i64 p.n.v) ag_3 rfl (hw.blk_at (i := 0) rfl) rfl) ?_
          refine f_first 2 (listed' := #[true, true, true, false, false, false, false, false, false, false, false, false, false, false, false, false, false, false, false]) rfl (by kernel_rfl) (by kernel_rfl) (by kernel_rfl) rfl ?_
          refine f_val rfl rfl rfl (by intro t_ w hw; exact x_gtr (decide ((0 : Int) < p.n.v)) rfl rfl rfl w) ?_
          refine f_first 3 (listed' := #[true, true, true, true, false, false, false, false, false, false, false, false, false, false, false, false, false, false, false]) rfl (by kernel_rfl) (by kernel_rfl) (by kernel_rfl) rfl ?_
          refine f_val rfl rfl rfl (by intro t_ w hw; exact x_fieldAddr 40 1 1 1 22 rfl fi_40_1 rfl w) ?_
          refine f_first 4 (listed' := #[true, true, true, true, true, false, false, false, false, false, false, false, false, false, false, false, false, false, false]) rfl (by kernel_rfl) (by kernel_rfl) (by kernel_rfl) rfl ?_
          refine f_val rfl rfl rfl (by intro t_ w hw; exact x_load (.int .u64 (p.u.v : Int)) ag_22 rfl (hw.blk_at (i := 0) rfl) rfl) ?_
          refine f_first 5 (listed' := #[true, true, true, true, true, true, false, false, false, false, false, false, false, false, false, false, false, false, false]) rfl (by kernel_rfl) (by kernel_rfl) (by kernel_rfl) rfl ?_
          refine f_val rfl rfl rfl (by intro t_ w hw; exact x_gtr (decide ((0 : Int) < (p.u.v : Int))) rfl rfl rfl w) ?_
          refine f_first 7 (listed' := #[true, true, true, true, true, true, false, true, false, false, false, false, false, false, false, false, false, false, false]) rfl (by kernel_rfl) (by kernel_rfl) (by kernel_rfl) rfl ?_
          refine f_val rfl rfl rfl (by intro t_ w hw; exact x_move (.pointer (some ⟨b, 0, none⟩)) rfl w) ?_
          refine f_first 8 (listed' := #[true, true, true, true, true, true, false, true, true, false, false, false, false, false, false, false, false, false, false]) rfl (by kernel_rfl) (by kernel_rfl) (by kernel_rfl) rfl ?_
          refine f_val rfl rfl rfl (by intro t_ w hw; exact x_fieldAddr 40 2 2 2 3 rfl fi_40_2 rfl w) ?_
          refine f_first 9 (listed' := #[true, true, true, true, true, true, false, true, true, true, false, false, false, false, false, false, false, false, false]) rfl (by kernel_rfl) (by kernel_rfl) (by kernel_rfl) rfl ?_
          refine f_val rfl rfl rfl (by intro t_ w hw; exact x_load (.int .i64 p.n.v) ag_3 rfl (hw.blk_at (i := 0) rfl) rfl) ?_
          refine f_first 10 (listed' := #[true, true, true, true, true, true, false, true, true, true, true, false, false, false, false, false, false, false, false]) rfl (by kernel_rfl) (by kernel_rfl) (by kernel_rfl) rfl ?_
          refine f_val rfl rfl rfl (by intro t_ w hw; exact x_gtr (decide ((0 : Int) < p.n.v)) rfl rfl rfl w) ?_
          refine f_first 11 (listed' := #[true, true, true, true, true, true, false, true, true, true, true, true, false, false, false, false, false, false, false]) rfl (by kernel_rfl) (by kernel_rfl) (by kernel_rfl) rfl ?_
          refine f_val rfl rfl rfl (by intro t_ w hw; exact x_fieldAddr 40 1 1 1 22 rfl fi_40_1 rfl w) ?_
          refine f_first 12 (listed' := #[true, true, true, true, true, true, false, true, true, true, true, true, true, false, false, false, false, false, false]) rfl (by kernel_rfl) (by kernel_rfl) (by kernel_rfl) rfl ?_
          refine f_val rfl rfl rfl (by intro t_ w hw; exact x_load (.int .u64 (p.u.v : Int)) ag_22 rfl (hw.blk_at (i := 0) rfl) rfl) ?_
          refine f_first 13 (listed' := #[true, true, true, true, true, true, false, true, true, true, true, true, true, true, false, false, false, false, false]) rfl (by kernel_rfl) (by kernel_rfl) (by kernel_rfl) rfl ?_
          refine f_val rfl rfl rfl (by intro t_ w hw; exact x_gtr (decide ((0 : Int) < (p.u.v : Int))) rfl rfl rfl w) ?_
          refine f_all (rs := [6, 14]) (by kernel_rfl) (by simp) ?_
          refine a_cons ⟨_, rfl, ?_⟩ (a_cons ⟨_, rfl, ?_⟩ (fun x hx => absurd hx (by simp)))
          · skip
            intro w68 H69
            try dsimp only at H69
            refine s_buildSlice H69 1 2 (cs := #[.bool (decide ((0 : Int) < p.n.v)), .bool (decide ((0 : Int) < (p.u.v : Int)))]) #[.bool false] el_23 ze_4 (by decide) (by decide) (by kernel_rfl) rfl ?_; intro bk70 w71 H72
            have H73 : St W w71 (blk bk1 (.cells #[.int .i64 p.kind.v, .int .u64 (p.u.v : Int), .int .i64 p.n.v, .string p.s.v] 40 (0, 0)) :: blk bk70 (.cells #[.bool (decide ((0 : Int) < p.n.v)), .bool (decide ((0 : Int) < (p.u.v : Int)))] 4 (0, 0)) :: SinkA b L :: (F.set i emp)) := (((H72.move 2 rfl).move 1 rfl).move 2 rfl)
            refine ⟨blk bk70 (.cells #[.bool (decide ((0 : Int) < p.n.v)), .bool (decide ((0 : Int) < (p.u.v : Int)))] 4 (0, 0)) :: SinkA b L :: (F.set i emp), ?_, H73⟩
            change FReg _ _ _ _ _ #[true, true, true, true, true, true, true, true, true, true, true, true, true, true, false, false, false, false, false] _ _
            refine f_all (rs := [14]) (by kernel_rfl) (by simp) ?_
            refine a_cons ⟨_, rfl, ?_⟩ (fun x hx => absurd hx (by simp))
            intro w74 H75
            try dsimp only at H75
            refine s_buildSlice H75 1 2 (cs := #[.bool (decide ((0 : Int) < p.n.v)), .bool (decide ((0 : Int) < (p.u.v : Int)))]) #[.bool false] el_23 ze_4 (by decide) (by decide) (by kernel_rfl) rfl ?_; intro bk76 w77 H78
            have H79 : St W w77 (blk bk1 (.cells #[.int .i64 p.kind.v, .int .u64 (p.u.v : Int), .int .i64 p.n.v, .string p.s.v] 40 (0, 0)) :: blk bk76 (.cells #[.bool (decide ((0 : Int) < p.n.v)), .bool (decide ((0 : Int) < (p.u.v : Int)))] 4 (0, 0)) :: blk bk70 (.cells #[.bool (decide ((0 : Int) < p.n.v)), .bool (decide ((0 : Int) < (p.u.v : Int)))] 4 (0, 0)) :: SinkA b L :: (F.set i emp)) := ((((H78.move 3 rfl).move 3 rfl).move 2 rfl).move 3 rfl)
            refine ⟨blk bk76 (.cells #[.bool (decide ((0 : Int) < p.n.v)), .bool (decide ((0 : Int) < (p.u.v : Int)))] 4 (0, 0)) :: blk bk70 (.cells #[.bool (decide ((0 : Int) < p.n.v)), .bool (decide ((0 : Int) < (p.u.v : Int)))] 4 (0, 0)) :: SinkA b L :: (F.set i emp), ?_, H79⟩
            change FReg _ _ _ _ _ #[true, true, true, true, true, true, true, true, true, true, true, true, true, true, true, false, false, false, false] _ _
            refine f_all (rs := [15]) (by kernel_rfl) (by simp) ?_
            refine a_cons ⟨_, rfl, ?_⟩ (fun x hx => absurd hx (by simp))
            intro w80 H81
            try dsimp only at H81
            have H83 : St W w80 (blk bk1 (.cells #[.int .i64 p.kind.v, .int .u64 (p.u.v : Int), .int .i64 p.n.v, .string p.s.v] 40 (0, 0)) :: Im 1 (.slice (some ⟨bk76, 0, none⟩) 2 2) 2 ([decide ((0 : Int) < p.n.v), decide ((0 : Int) < (p.u.v : Int))].flatMap blc) :: blk bk70 (.cells #[.bool (decide ((0 : Int) < p.n.v)), .bool (decide ((0 : Int) < (p.u.v : Int)))] 4 (0, 0)) :: SinkA b L :: (F.set i emp)) := Row.im (Row.of_blk (n := 2) (size := 1) H81 (i := 1) rfl (by unfold maxLen; omega) (by simp) (by simp [Value.oneCell'])) (i := 1) rfl
            refine s_call [.pointer (some ⟨b, 0, none⟩), .slice (some ⟨bk76, 0, none⟩) 2 2] pl_32 rfl rfl (Sink_Flags b L [decide ((0 : Int) < p.n.v), decide ((0 : Int) < (p.u.v : Int))] (.slice (some ⟨bk76, 0, none⟩) 2 2) (by first | omega | (repeat (first | exact Nat.zero_le _ | assumption | refine putL_le ?_ | refine bitsL_le ?_))) (j := 1) rfl (i := 3) rfl H83) ?_
            rintro _ w84 ⟨rfl, H85⟩
            refine ⟨Im 1 (.slice (some ⟨bk76, 0, none⟩) 2 2) 2 ([decide ((0 : Int) < p.n.v), decide ((0 : Int) < (p.u.v : Int))].flatMap blc) :: blk bk70 (.cells #[.bool (decide ((0 : Int) < p.n.v)), .bool (decide ((0 : Int) < (p.u.v : Int)))] 4 (0, 0)) :: SinkA b (putL L [decide ((0 : Int) < p.n.v), decide ((0 : Int) < (p.u.v : Int))]) :: (F.set i emp), ?_, H85⟩
            change FReg _ _ _ _ _ #[true, true, true, true, true, true, true, true, true, true, true, true, true, true, true, true, false, false, false] _ _
            refine f_first 16 (listed' := #[true, true, true, true, true, true, true, true, true, true, true, true, true, true, true, true, true, false, false]) rfl (by kernel_rfl) (by kernel_rfl) (by kernel_rfl) rfl ?_
            refine f_val rfl rfl rfl (by intro t_ w hw; exact x_assign (.slice (some ⟨bk70, 0, none⟩) 2 2) rfl w) ?_
            refine f_first 17 (listed' := #[true, true, true, true, true, true, true, true, true, true, true, true, true, true, true, true, true, true, false]) rfl (by kernel_rfl) (by kernel_rfl) (by kernel_rfl) rfl ?_
            refine f_val rfl rfl rfl (by intro t_ w hw; exact x_assign (.bool true) rfl w) ?_
            refine f_first 18 (listed' := #[true, true, true, true, true, true, true, true, true, true, true, true, true, true, true, true, true, true, true]) rfl (by kernel_rfl) (by kernel_rfl) (by kernel_rfl) rfl ?_
            refine f_val rfl rfl rfl (by intro t_ w hw; exact x_assign (.int .i64 (putE L ([decide ((0 : Int) < p.n.v), decide ((0 : Int) < (p.u.v : Int))].length : Int))) rfl w) ?_
            refine f_done (by kernel_rfl) ?_
            intro w86 H87
            refine g_ret' [.slice (some ⟨bk70, 0, none⟩) 2 2, .bool true, .int .i64 (putE L ([decide ((0 : Int) < p.n.v), decide ((0 : Int) < (p.u.v : Int))].length : Int))] Try.func20 Try.results20 ⟨rfl, rfl, rfl, trivial⟩ ?_
            have H88 : St W w86 (blk bk1 (.cells #[.int .i64 p.kind.v, .int .u64 (p.u.v : Int), .int .i64 p.n.v, .string p.s.v] 40 (0, 0)) :: Im 1 (.slice (some ⟨bk76, 0, none⟩) 2 2) 2 ([decide ((0 : Int) < p.n.v), decide ((0 : Int) < (p.u.v : Int))].flatMap blc) :: Row 4 1 (.slice (some ⟨bk70, 0, none⟩) 2 2) 2 [.bool (decide ((0 : Int) < p.n.v)), .bool (decide ((0 : Int) < (p.u.v : Int)))] :: SinkA b (putL L [decide ((0 : Int) < p.n.v), decide ((0 : Int) < (p.u.v : Int))]) :: (F.set i emp)) := Row.of_blk (n := 2) (size := 1) H87 (i := 2) rfl (by unfold maxLen; omega) (by simp) (by simp [Value.oneCell'])
            have H89 : St W w86 (SinkA b (putL L [decide ((0 : Int) < p.n.v), decide ((0 : Int) < (p.u.v : Int))]) :: Row 4 1 (.slice (some ⟨bk70, 0, none⟩) 2 2) 2 [.bool (decide ((0 : Int) < p.n.v)), .bool (decide ((0 : Int) < (p.u.v : Int)))] :: (F.set i emp)) := ((((H88.move 2 rfl).move 3 rfl).drop 2 rfl).drop 2 rfl)
            obtain ⟨e1, e2, e3, e4⟩ := part_x (by omega) (part_4 (by assumption) (by assumption) (by assumption) (by assumption))
            have H90 := St.back (i := i + 1) (l := Row 4 1 (.slice (some ⟨bk70, 0, none⟩) 2 2) 2 [.bool (decide ((0 : Int) < p.n.v)), .bool (decide ((0 : Int) < (p.u.v : Int)))] :: F) (by exact hi) H89
            refine ⟨_, _, _, by rw [e2, e3]; rfl, ?_, by rw [e1, e4]; exact H90⟩
            rw [e1]; first | rfl | (simp only [natB_len, lowB_len, textB_len]; done) | (simp only [natB_len, lowB_len, textB_len]; omega)
          · skip
            intro w91 H92
            try dsimp only at H92
            refine s_buildSlice H92 1 2 (cs := #[.bool (decide ((0 : Int) < p.n.v)), .bool (decide ((0 : Int) < (p.u.v : Int)))]) #[.bool false] el_23 ze_4 (by decide) (by decide) (by kernel_rfl) rfl ?_; intro bk93 w94 H95
            have H96 : St W w94 (blk bk1 (.cells #[.int .i64 p.kind.v, .int .u64 (p.u.v : Int), .int .i64 p.n.v, .string p.s.v] 40 (0, 0)) :: blk bk93 (.cells #[.bool (decide ((0 : Int) < p.n.v)), .bool (decide ((0 : Int) < (p.u.v : Int)))] 4 (0, 0)) :: SinkA b L :: (F.set i emp)) := (((H95.move 2 rfl).move 1 rfl).move 2 rfl)
            refine ⟨blk bk93 (.cells #[.bool (decide ((0 : Int) < p.n.v)), .bool (decide ((0 : Int) < (p.u.v : Int)))] 4 (0, 0)) :: SinkA b L :: (F.set i emp), ?_, H96⟩
            change FReg _ _ _ _ _ #[true, true, true, true, true, true, false, true, true, true, true, true, true, true, true, false, false, false, false] _ _
            refine f_all (rs := [6, 15]) (by kernel_rfl) (by simp) ?_
            refine a_cons ⟨_, rfl, ?_⟩ (a_cons ⟨_, rfl, ?_⟩ (fun x hx => absurd hx (by simp)))
            · skip
              intro w97 H98
              try dsimp only at H98
              refine s_buildSlice H98 1 2 (cs := #[.bool (decide ((0 : Int) < p.n.v)), .bool (decide ((0 : Int) < (p.u.v : Int)))]) #[.bool false] el_23 ze_4 (by decide) (by decide) (by kernel_rfl) rfl ?_; intro bk99 w100 H101
              have H102 : St W w100 (blk bk1 (.cells #[.int .i64 p.kind.v, .int .u64 (p.u.v : Int), .int .i64 p.n.v, .string p.s.v] 40 (0, 0)) :: blk bk99 (.cells #[.bool (decide ((0 : Int) < p.n.v)), .bool (decide ((0 : Int) < (p.u.v : Int)))] 4 (0, 0)) :: blk bk93 (.cells #[.bool (decide ((0 : Int) < p.n.v)), .bool (decide ((0 : Int) < (p.u.v : Int)))] 4 (0, 0)) :: SinkA b L :: (F.set i emp)) := ((((H101.move 3 rfl).move 3 rfl).move 2 rfl).move 3 rfl)
              refine ⟨blk bk99 (.cells #[.bool (decide ((0 : Int) < p.n.v)), .bool (decide ((0 : Int) < (p.u.v : Int)))] 4 (0, 0)) :: blk bk93 (.cells #[.bool (decide ((0 : Int) < p.n.v)), .bool (decide ((0 : Int) < (p.u.v : Int)))] 4 (0, 0)) :: SinkA b L :: (F.set i emp), ?_, H102⟩
              change FReg _ _ _ _ _ #[true, true, true, true, true, true, true, true, true, true, true, true, true, true, true, false, false, false, false] _ _
              refine f_all (rs := [15]) (by kernel_rfl) (by simp) ?_
              refine a_cons ⟨_, rfl, ?_⟩ (fun x hx => absurd hx (by simp))
              intro w103 H104
              try dsimp only at H104
              have H106 : St W w103 (blk bk1 (.cells #[.int .i64 p.kind.v, .int .u64 (p.u.v : Int), .int .i64 p.n.v, .string p.s.v] 40 (0, 0)) :: blk bk99 (.cells #[.bool (decide ((0 : Int) < p.n.v)), .bool (decide ((0 : Int) < (p.u.v : Int)))] 4 (0, 0)) :: Im 1 (.slice (some ⟨bk93, 0, none⟩) 2 2) 2 ([decide ((0 : Int) < p.n.v), decide ((0 : Int) < (p.u.v : Int))].flatMap blc) :: SinkA b L :: (F.set i emp)) := Row.im (Row.of_blk (n := 2) (size := 1) H104 (i := 2) rfl (by unfold maxLen; omega) (by simp) (by simp [Value.oneCell'])) (i := 2) rfl
              refine s_call [.pointer (some ⟨b, 0, none⟩), .slice (some ⟨bk93, 0, none⟩) 2 2] pl_32 rfl rfl (Sink_Flags b L [decide ((0 : Int) < p.n.v), decide ((0 : Int) < (p.u.v : Int))] (.slice (some ⟨bk93, 0, none⟩) 2 2) (by first | omega | (repeat (first | exact Nat.zero_le _ | assumption | refine putL_le ?_ | refine bitsL_le ?_))) (j := 2) rfl (i := 3) rfl H106) ?_
              rintro _ w107 ⟨rfl, H108⟩
              refine ⟨blk bk99 (.cells #[.bool (decide ((0 : Int) < p.n.v)), .bool (decide ((0 : Int) < (p.u.v : Int)))] 4 (0, 0)) :: Im 1 (.slice (some ⟨bk93, 0, none⟩) 2 2) 2 ([decide ((0 : Int) < p.n.v), decide ((0 : Int) < (p.u.v : Int))].flatMap blc) :: SinkA b (putL L [decide ((0 : Int) < p.n.v), decide ((0 : Int) < (p.u.v : Int))]) :: (F.set i emp), ?_, H108⟩
              change FReg _ _ _ _ _ #[true, true, true, true, true, true, true, true, true, true, true, true, true, true, true, true, false, false, false] _ _
              refine f_first 16 (listed' := #[true, true, true, true, true, true, true, true, true, true, true, true, true, true, true, true, true, false, false]) rfl (by kernel_rfl) (by kernel_rfl) (by kernel_rfl) rfl ?_
              refine f_val rfl rfl rfl (by intro t_ w hw; exact x_assign (.slice (some ⟨bk99, 0, none⟩) 2 2) rfl w) ?_
              refine f_first 17 (listed' := #[true, true, true, true, true, true, true, true, true, true, true, true, true, true, true, true, true, true, false]) rfl (by kernel_rfl) (by kernel_rfl) (by kernel_rfl) rfl ?_
              refine f_val rfl rfl rfl (by intro t_ w hw; exact x_assign (.bool true) rfl w) ?_
              refine f_first 18 (listed' := #[true, true, true, true, true, true, true, true, true, true, true, true, true, true, true, true, true, true, true]) rfl (by kernel_rfl) (by kernel_rfl) (by kernel_rfl) rfl ?_
              refine f_val rfl rfl rfl (by intro t_ w hw; exact x_assign (.int .i64 (putE L ([decide ((0 : Int) < p.n.v), decide ((0 : Int) < (p.u.v : Int))].length : Int))) rfl w) ?_
              refine f_done (by kernel_rfl) ?_
              intro w109 H110
              refine g_ret' [.slice (some ⟨bk99, 0, none⟩) 2 2, .bool true, .int .i64 (putE L ([decide ((0 : Int) < p.n.v), decide ((0 : Int) < (p.u.v : Int))].length : Int))] Try.func20 Try.results20 ⟨rfl, rfl, rfl, trivial⟩ ?_
              have H111 : St W w109 (blk bk1 (.cells #[.int .i64 p.kind.v, .int .u64 (p.u.v : Int), .int .i64 p.n.v, .string p.s.v] 40 (0, 0)) :: Row 4 1 (.slice (some ⟨bk99, 0, none⟩) 2 2) 2 [.bool (decide ((0 : Int) < p.n.v)), .bool (decide ((0 : Int) < (p.u.v : Int)))] :: Im 1 (.slice (some ⟨bk93, 0, none⟩) 2 2) 2 ([decide ((0 : Int) < p.n.v), decide ((0 : Int) < (p.u.v : Int))].flatMap blc) :: SinkA b (putL L [decide ((0 : Int) < p.n.v), decide ((0 : Int) < (p.u.v : Int))]) :: (F.set i emp)) := Row.of_blk (n := 2) (size := 1) H110 (i := 1) rfl (by unfold maxLen; omega) (by simp) (by simp [Value.oneCell'])
              have H112 : St W w109 (SinkA b (putL L [decide ((0 : Int) < p.n.v), decide ((0 : Int) < (p.u.v : Int))]) :: Row 4 1 (.slice (some ⟨bk99, 0, none⟩) 2 2) 2 [.bool (decide ((0 : Int) < p.n.v)), .bool (decide ((0 : Int) < (p.u.v : Int)))] :: (F.set i emp)) := ((((H111.move 1 rfl).move 3 rfl).drop 2 rfl).drop 2 rfl)
              obtain ⟨e1, e2, e3, e4⟩ := part_x (by omega) (part_4 (by assumption) (by assumption) (by assumption) (by assumption))
              have H113 := St.back (i := i + 1) (l := Row 4 1 (.slice (some ⟨bk99, 0, none⟩) 2 2) 2 [.bool (decide ((0 : Int) < p.n.v)), .bool (decide ((0 : Int) < (p.u.v : Int)))] :: F) (by exact hi) H112
              refine ⟨_, _, _, by rw [e2, e3]; rfl, ?_, by rw [e1, e4]; exact H113⟩
              rw [e1]; first | rfl | (simp only [natB_len, lowB_len, textB_len]; done) | (simp only [natB_len, lowB_len, textB_len]; omega)
            · skip
              intro w114 H115
              try dsimp only at H115
              have H117 : St W w114 (blk bk1 (.cells #[.int .i64 p.kind.v, .int .u64 (p.u.v : Int), .int .i64 p.n.v, .string p.s.v] 40 (0, 0)) :: Im 1 (.slice (some ⟨bk93, 0, none⟩) 2 2) 2 ([decide ((0 : Int) < p.n.v), decide ((0 : Int) < (p.u.v : Int))].flatMap blc) :: SinkA b L :: (F.set i emp)) := Row.im (Row.of_blk (n := 2) (size := 1) H115 (i := 1) rfl (by unfold maxLen; omega) (by simp) (by simp [Value.oneCell'])) (i := 1) rfl
              refine s_call [.pointer (some ⟨b, 0, none⟩), .slice (some ⟨bk93, 0, none⟩) 2 2] pl_32 rfl rfl (Sink_Flags b L [decide ((0 : Int) < p.n.v), decide ((0 : Int) < (p.u.v : Int))] (.slice (some ⟨bk93, 0, none⟩) 2 2) (by first | omega | (repeat (first | exact Nat.zero_le _ | assumption | refine putL_le ?_ | refine bitsL_le ?_))) (j := 1) rfl (i := 2) rfl H117) ?_
              rintro _ w118 ⟨rfl, H119⟩
              refine ⟨Im 1 (.slice (some ⟨bk93, 0, none⟩) 2 2) 2 ([decide ((0 : Int) < p.n.v), decide ((0 : Int) < (p.u.v : Int))].flatMap blc) :: SinkA b (putL L [decide ((0 : Int) < p.n.v), decide ((0 : Int) < (p.u.v : Int))]) :: (F.set i emp), ?_, H119⟩
              change FReg _ _ _ _ _ #[true, true, true, true, true, true, false, true, true, true, true, true, true, true, true, true, false, false, false] _ _
              refine f_all (rs := [6]) (by kernel_rfl) (by simp) ?_
              refine a_cons ⟨_, rfl, ?_⟩ (fun x hx => absurd hx (by simp))
              intro w120 H121
              try dsimp only at H121
              refine s_buildSlice H121 1 2 (cs := #[.bool (decide ((0 : Int) < p.n.v)), .bool (decide ((0 : Int) < (p.u.v : Int)))]) #[.bool false] el_23 ze_4 (by decide) (by decide) (by kernel_rfl) rfl ?_; intro bk122 w123 H124
              have H125 : St W w123 (blk bk1 (.cells #[.int .i64 p.kind.v, .int .u64 (p.u.v : Int), .int .i64 p.n.v, .string p.s.v] 40 (0, 0)) :: blk bk122 (.cells #[.bool (decide ((0 : Int) < p.n.v)), .bool (decide ((0 : Int) < (p.u.v : Int)))] 4 (0, 0)) :: Im 1 (.slice (some ⟨bk93, 0, none⟩) 2 2) 2 ([decide ((0 : Int) < p.n.v), decide ((0 : Int) < (p.u.v : Int))].flatMap blc) :: SinkA b (putL L [decide ((0 : Int) < p.n.v), decide ((0 : Int) < (p.u.v : Int))]) :: (F.set i emp)) := ((((H124.move 3 rfl).move 3 rfl).move 2 rfl).move 3 rfl)
              refine ⟨blk bk122 (.cells #[.bool (decide ((0 : Int) < p.n.v)), .bool (decide ((0 : Int) < (p.u.v : Int)))] 4 (0, 0)) :: Im 1 (.slice (some ⟨bk93, 0, none⟩) 2 2) 2 ([decide ((0 : Int) < p.n.v), decide ((0 : Int) < (p.u.v : Int))].flatMap blc) :: SinkA b (putL L [decide ((0 : Int) < p.n.v), decide ((0 : Int) < (p.u.v : Int))]) :: (F.set i emp), ?_, H125⟩
              change FReg _ _ _ _ _ #[true, true, true, true, true, true, true, true, true, true, true, true, true, true, true, true, false, false, false] _ _
              refine f_first 16 (listed' := #[true, true, true, true, true, true, true, true, true, true, true, true, true, true, true, true, true, false, false]) rfl (by kernel_rfl) (by kernel_rfl) (by kernel_rfl) rfl ?_
              refine f_val rfl rfl rfl (by intro t_ w hw; exact x_assign (.slice (some ⟨bk122, 0, none⟩) 2 2) rfl w) ?_
              refine f_first 17 (listed' := #[true, true, true, true, true, true, true, true, true, true, true, true, true, true, true, true, true, true, false]) rfl (by kernel_rfl) (by kernel_rfl) (by kernel_rfl) rfl ?_
              refine f_val rfl rfl rfl (by intro t_ w hw; exact x_assign (.bool true) rfl w) ?_
              refine f_first 18 (listed' := #[true, true, true, true, true, true, true, true, true, true, true, true, true, true, true, true, true, true, true]) rfl (by kernel_rfl) (by kernel_rfl) (by kernel_rfl) rfl ?_
              refine f_val rfl rfl rfl (by intro t_ w hw; exact x_assign (.int .i64 (putE L ([decide ((0 : Int) < p.n.v), decide ((0 : Int) < (p.u.v : Int))].length : Int))) rfl w) ?_
              refine f_done (by kernel_rfl) ?_
              intro w126 H127
              refine g_ret' [.slice (some ⟨bk122, 0, none⟩) 2 2, .bool true, .int .i64 (putE L ([decide ((0 : Int) < p.n.v), decide ((0 : Int) < (p.u.v : Int))].length : Int))] Try.func20 Try.results20 ⟨rfl, rfl, rfl, trivial⟩ ?_
              have H128 : St W w126 (blk bk1 (.cells #[.int .i64 p.kind.v, .int .u64 (p.u.v : Int), .int .i64 p.n.v, .string p.s.v] 40 (0, 0)) :: Row 4 1 (.slice (some ⟨bk122, 0, none⟩) 2 2) 2 [.bool (decide ((0 : Int) < p.n.v)), .bool (decide ((0 : Int) < (p.u.v : Int)))] :: Im 1 (.slice (some ⟨bk93, 0, none⟩) 2 2) 2 ([decide ((0 : Int) < p.n.v), decide ((0 : Int) < (p.u.v : Int))].flatMap blc) :: SinkA b (putL L [decide ((0 : Int) < p.n.v), decide ((0 : Int) < (p.u.v : Int))]) :: (F.set i emp)) := Row.of_blk (n := 2) (size := 1) H127 (i := 1) rfl (by unfold maxLen; omega) (by simp) (by simp [Value.oneCell'])
              have H129 : St W w126 (SinkA b (putL L [decide ((0 : Int) < p.n.v), decide ((0 : Int) < (p.u.v : Int))]) :: Row 4 1 (.slice (some ⟨bk122, 0, none⟩) 2 2) 2 [.bool (decide ((0 : Int) < p.n.v)), .bool (decide ((0 : Int) < (p.u.v : Int)))] :: (F.set i emp)) := ((((H128.move 1 rfl).move 3 rfl).drop 2 rfl).drop 2 rfl)
              obtain ⟨e1, e2, e3, e4⟩ := part_x (by omega) (part_4 (by assumption) (by assumption) (by assumption) (by assumption))
              have H130 := St.back (i := i + 1) (l := Row 4 1 (.slice (some ⟨bk122, 0, none⟩) 2 2) 2 [.bool (decide ((0 : Int) < p.n.v)), .bool (decide ((0 : Int) < (p.u.v : Int)))] :: F) (by exact hi) H129
              refine ⟨_, _, _, by rw [e2, e3]; rfl, ?_, by rw [e1, e4]; exact H130⟩
              rw [e1]; first | rfl | (simp only [natB_len, lowB_len, textB_len]; done) | (simp only [natB_len, lowB_len, textB_len]; omega)
set_option maxHeartbeats 4000000 in
set_option maxRecDepth 100000 in
theorem BitsPuts_ {W w : World} {F : List Atom} (l : List PartV) (lv : Value) (hm : l.length ≤ 140737488355328) (hl : ∀ k, k < l.length → (l.getD k default).s.v.size ≤ 1099511627776) {j : Nat} (hj : F[j]? = some (Im 4 lv l.length (l.flatMap partCell))) (H : St W w F) : Calls Try.prog 5 #[lv] w (Ret fun v w' => v = .bool true ∧ St W w' F) := by
  obtain ⟨pA1, cA2, gA3, oA4, kA5, eA6, zA7, rfl, hn8, hp9, hx10, hs11, hml, H12⟩ := Im.open_ H hj
  refine calls_of_go (n := 60) Try.func5 rfl Try.ntmps5 rfl ?_
  refine g_seq ?_
  refine g_region ?_
  refine r_cons (s_assign (.bool false) rfl rfl ?_)
  refine r_nil ?_
  refine g_seq ?_
  refine g_region ?_
  refine r_cons (s_call [] pl_11 rfl rfl (NewSink H12) ?_)
  rintro _ w14 ⟨bk13, rfl, H15⟩
  refine r_cons (s_assign (.pointer (some ⟨bk13, 0, none⟩)) rfl rfl ?_)
  refine r_nil ?_
  refine g_seq ?_
  refine g_seq ?_
  refine g_region ?_
  refine r_cons (s_move (.pointer (some ⟨bk13, 0, none⟩)) rfl rfl ?_)
  refine r_cons (s_peql false un_27 rfl rfl rfl rfl ?_)
  refine r_cons (s_move (.bool false) rfl rfl ?_)
  refine r_cons (r_take rfl rfl ?_)
  refine s_call [] pl_9 rfl rfl (live01 H15) ?_
  rintro _ w16 ⟨rfl, H17⟩
  refine r_cons (r_take rfl rfl ?_)
  refine s_not true rfl false rfl rfl ?_
  refine r_cons (s_pick_f (.bool false) rfl rfl rfl ?_)
  refine r_nil ?_
  refine g_false rfl ?_
  refine g_skip ?_
  refine g_seq ?_
  refine g_region ?_
  refine r_cons (s_assign (.slice none 0 0) rfl rfl ?_)
  refine r_nil ?_
  refine g_seq ?_
  refine g_seq ?_
  refine g_region ?_
  refine r_cons (s_move (.slice pA1 l.length cA2) rfl rfl ?_)
  refine r_cons (s_len l.length rfl ⟨_, un_34⟩ rfl ?_)
  refine r_cons (s_move (.int .i64 0) rfl rfl ?_)
  refine r_nil ?_
  refine g_block ?_
  have H18 := Row.nil_intro H17 4 1
  have H19 : St W w16 (Row 4 1 (.slice none 0 0) 0 [] :: SinkA bk13 [] :: imi (0 < l.length) gA3 (.cells kA5 eA6 zA7) :: F) := (((H18.move 2 rfl).move 2 rfl).move 2 rfl)
  refine g_loop_inv (fun (x : Nat × (List Bool) × (Option Addr) × Nat) => match x with | (i, L, pq, cq) => [(2, .bool false), (3, .pointer (some ⟨bk13, 0, none⟩)), (4, .slice pq L.length cq), (17, .slice pA1 l.length cA2), (18, .int .i64 (l.length : Int)), (19, .int .i64 (i : Int))]) (fun (x : Nat × (List Bool) × (Option Addr) × Nat) w => match x with | (i, L, pq, cq) => (i ≤ l.length) ∧ (L.length ≤ 1048576) ∧ St W w (Row 4 1 (.slice pq L.length cq) L.length (L.flatMap blc) :: SinkA bk13 L :: imi (0 < l.length) gA3 (.cells kA5 eA6 zA7) :: F)) (fun (x : Nat × (List Bool) × (Option Addr) × Nat) => match x with | (i, L, pq, cq) => l.length - i) (0, [], none, 0) ?_ ?_ ?_
  · exact ⟨by first | rfl | exact vint (by omega), by first | rfl | exact vint (by omega), by first | rfl | exact vint (by omega), by first | rfl | exact vint (by omega), by first | rfl | exact vint (by omega), by first | rfl | exact vint (by omega), trivial⟩
  · exact ⟨(by omega), (by decide), H19⟩
  · rintro ⟨i, L, pq, cq⟩ ρ20 w21 ⟨hi, hL, H22⟩ nx23
    change Ends _ _ (upds ρ20 [(2, .bool false), (3, .pointer (some ⟨bk13, 0, none⟩)), (4, .slice pq L.length cq), (17, .slice pA1 l.length cA2), (18, .int .i64 (l.length : Int)), (19, .int .i64 (i : Int))]) w21
    refine g_seq ?_
    refine g_region ?_
    by_cases hc24 : (i : Int) < (l.length : Int)
    · skip
      refine r_cons (s_lss true rfl rfl (dtrue hc24) rfl ?_)
      refine r_nil ?_
      refine g_seq ?_
      refine g_true rfl ?_
      refine g_skip ?_
      refine g_seq ?_
      refine g_block ?_
      refine g_seq ?_
      refine g_region ?_
      refine r_cons (s_indexAddr gA3 (off := oA4) (i : Int) 4 (oA4 + i * 4) (by exact congrArg (fun z_ => Value.slice z_ l.length cA2) (hp9 (by omega))) rfl el_34 (by omega) rfl rfl ?_)
      refine r_cons (s_loadAgg [.int .i64 ((l.getD i default).kind.v), .int .u64 ((l.getD i default).u.v : Int), .int .i64 ((l.getD i default).n.v), .string ((l.getD i default).s.v)] 4 ag_40 rfl (H22.imi_at (i := 2) rfl (by omega)) (by have := elem_size (i := i) (s := 4) (hs11 (by omega)) (by omega); omega) (elem_take partCell_len (hx10 (by omega)) (by omega) default) rfl ?_)
      refine r_cons (s_alloc H22 40 ze_40 rfl ?_); intro bk25 w26 H27
      refine r_cons (s_storeAgg H27 0 #[.int .i64 ((l.getD i default).kind.v), .int .u64 ((l.getD i default).u.v : Int), .int .i64 ((l.getD i default).n.v), .string ((l.getD i default).s.v)] 4 rfl rfl rfl sz_40 rfl (by simp [Value.oneCell']) (Nat.le_of_ble_eq_true rfl) (fun o h1 h2 => by first | (simp; done) | (simp; omega)) (cs' := #[.int .i64 ((l.getD i default).kind.v), .int .u64 ((l.getD i default).u.v : Int), .int .i64 ((l.getD i default).n.v), .string ((l.getD i default).s.v)]) rfl ?_); intro w28 H29
      refine r_nil ?_
      refine g_seq ?_
      refine g_region ?_
      refine r_cons (s_move (.pointer (some ⟨bk13, 0, none⟩)) rfl rfl ?_)
      refine r_cons (s_loadAgg [.int .i64 ((l.getD i default).kind.v), .int .u64 ((l.getD i default).u.v : Int), .int .i64 ((l.getD i default).n.v), .string ((l.getD i default).s.v)] 4 ag_40 rfl (H29.blk_at (i := 0) rfl) (Nat.le_of_ble_eq_true rfl) rfl rfl ?_)
      refine r_cons (s_call [.pointer (some ⟨bk13, 0, none⟩), .agg #[.int .i64 ((l.getD i default).kind.v), .int .u64 ((l.getD i default).u.v : Int), .int .i64 ((l.getD i default).n.v), .string ((l.getD i default).s.v)]] pl_20 rfl rfl (put01 bk13 L (l.getD i default) (hl _ (by omega)) (by first | omega | (repeat (first | exact Nat.zero_le _ | assumption | refine partL_le ?_ | refine putL_le ?_ | refine bitsL_le ?_))) (i := 2) rfl H29) ?_)
      rintro _ w34 ⟨pp30, NN31, cc32, rfl, hn33, H35⟩
      refine r_cons (s_move (.tuple #[.slice pp30 NN31 cc32, .bool (partMay (l.getD i default)), .int .i64 (partE L (l.getD i default))]) rfl rfl ?_)
      refine r_cons (s_extract (.slice pp30 NN31 cc32) #[.slice pp30 NN31 cc32, .bool (partMay (l.getD i default)), .int .i64 (partE L (l.getD i default))] rfl rfl rfl ?_)
      refine r_cons (s_extract (.bool (partMay (l.getD i default))) #[.slice pp30 NN31 cc32, .bool (partMay (l.getD i default)), .int .i64 (partE L (l.getD i default))] rfl rfl rfl ?_)
      refine r_cons (s_extract (.int .i64 (partE L (l.getD i default))) #[.slice pp30 NN31 cc32, .bool (partMay (l.getD i default)), .int .i64 (partE L (l.getD i default))] rfl rfl rfl ?_)
      refine r_cons (s_assign (.slice pp30 NN31 cc32) rfl rfl ?_)
      refine r_cons (s_assign (.bool (partMay (l.getD i default))) rfl rfl ?_)
      refine r_cons (s_assign (.int .i64 (partE L (l.getD i default))) rfl rfl ?_)
      refine r_nil ?_
      refine g_seq ?_
      refine g_block ?_
      refine g_seq ?_
      refine g_region ?_
      refine r_cons (s_move (.bool (partMay (l.getD i default))) rfl rfl ?_)
      refine r_cons (s_not (partMay (l.getD i default)) rfl (!(partMay (l.getD i default))) rfl rfl ?_)
      refine r_cons (s_assign (.bool (!(partMay (l.getD i default)))) rfl rfl ?_)
      refine r_nil ?_
      by_cases hb36 : (!(partMay (l.getD i default))) = true
      · skip
        refine g_true (congrArg Value.bool hb36) ?_
        refine g_seq ?_
        refine g_region ?_
        have hmay : partMay (l.getD i default) = false := by simpa using hb36
        have hE : partE L (l.getD i default) = 1 := by unfold partE; rw [if_neg (by rw [hmay]; decide)]
        refine r_cons (s_move (.int .i64 (partE L (l.getD i default))) rfl rfl ?_)
        refine r_cons (s_neq false rfl rfl (ntrue hE) rfl ?_)
        refine r_nil ?_
        refine g_false rfl ?_
        refine g_skip ?_
        refine g_inBlock ?_
        refine g_seq ?_
        refine g_region ?_
        refine r_cons (s_move (.pointer (some ⟨bk13, 0, none⟩)) rfl rfl ?_)
        refine r_cons (s_call [.pointer (some ⟨bk13, 0, none⟩)] pl_13 rfl rfl (Sink_Len bk13 (partL L (l.getD i default))   (i := 3) rfl H35) ?_)
        rintro _ w37 ⟨rfl, H38⟩
        refine r_cons (s_move (.slice pq L.length cq) rfl rfl ?_)
        refine r_cons (s_len L.length rfl ⟨_, un_23⟩ rfl ?_)
        refine r_cons (s_neq false rfl rfl (ntrue (by rw [show (partL L (l.getD i default)).length = _ from rfl]; first | (rw [show partL L (l.getD i default) = L from by unfold partL; first | (rw [if_neg (by rw [hmay]; decide)]; done) | (rw [if_pos hmay]; exact putL_no rfl hput)]; done) | (rw [show partL L (l.getD i default) = L ++ partB (l.getD i default) from by unfold partL; rw [if_pos hmay]; exact putL_0 rfl hput]; simp only [List.length_append]; omega))) rfl ?_)
        refine r_nil ?_
        refine g_false rfl ?_
        refine g_skip ?_
        refine g_inBlock ?_
        refine g_region ?_
        refine r_cons (s_add ((i : Int) + 1) rfl rfl (wi64 (by omega)) rfl ?_)
        refine r_cons (s_move (.int .i64 ((i : Int) + 1)) rfl rfl ?_)
        refine r_nil ?_
        have H39 : St W w37 (Row 4 1 (.slice pq L.length cq) L.length (L.flatMap blc) :: SinkA bk13 (partL L (l.getD i default)) :: imi (0 < l.length) gA3 (.cells kA5 eA6 zA7) :: F) := (((((H38.move 4 rfl).move 4 rfl).move 4 rfl).drop 3 rfl).drop 3 rfl)
        have hLL : partL L (l.getD i default) = L := by unfold partL; first | (rw [if_neg (by rw [hmay]; decide)]; done) | (rw [if_pos hmay]; exact putL_no rfl hput)
        have hNN : (partL L (l.getD i default)).length = L.length := by rw [hLL]
        have H40 : St W w37 (Row 4 1 (.slice pq ((partL L (l.getD i default)).length) cq) ((partL L (l.getD i default)).length) ((partL L (l.getD i default)).flatMap blc) :: SinkA bk13 (partL L (l.getD i default)) :: imi (0 < l.length) gA3 (.cells kA5 eA6 zA7) :: F) := by rw [hLL]; rw [hLL] at H39; exact H39
        exact nx23 (i + 1, partL L (l.getD i default), pq, cq) _ _ ⟨(by omega), (partL_le hL), H40⟩ (by first | (dsimp only; omega) | omega) ⟨by first | rfl | exact vint (by omega), by first | rfl | exact vint (by omega), congrArg (fun z_ => Value.slice pq z_ cq) hNN.symm, by first | rfl | exact vint (by omega), by first | rfl | exact vint (by omega), by first | rfl | exact vint (by omega), trivial⟩
      · have hb36 := eq_false_of_ne_true hb36
        refine g_false (congrArg Value.bool hb36) ?_
        refine g_seq ?_
        refine g_region ?_
        have hpb := partB_len (hl i (by omega))
        refine r_cons (s_move (.slice pq L.length cq) rfl rfl ?_)
        refine r_cons (s_len L.length rfl ⟨_, un_23⟩ rfl ?_)
        refine r_cons (s_move (.slice pp30 NN31 cc32) rfl rfl ?_)
        refine r_cons (s_len NN31 rfl ⟨_, un_23⟩ rfl ?_)
        refine r_cons (s_add ((L.length : Int) + (NN31 : Int)) rfl rfl (wi64 (by omega)) rfl ?_)
        by_cases hc41 : (1048576 : Int) < (L.length : Int) + (NN31 : Int)
        · skip
          refine r_cons (s_gtr true rfl rfl (dtrue hc41) rfl ?_)
          refine r_cons (s_assign (.bool true) rfl rfl ?_)
          refine r_nil ?_
          refine g_true rfl ?_
          refine g_seq ?_
          refine g_region ?_
          have hmay : partMay (l.getD i default) = true := by simpa using hb36
          have hE : partE L (l.getD i default) = putE L ((partB (l.getD i default)).length : Int) := by unfold partE; rw [if_pos hmay]
          have hput3 : putE L ((partB (l.getD i default)).length : Int) = 3 := putE_3 (by omega)
          have hput : ¬ putE L ((partB (l.getD i default)).length : Int) = 0 := by rw [hput3]; decide
          refine r_cons (s_move (.int .i64 (partE L (l.getD i default))) rfl rfl ?_)
          refine r_cons (s_neq false rfl rfl (ntrue (by rw [hE]; exact hput3)) rfl ?_)
          refine r_nil ?_
          refine g_false rfl ?_
          refine g_skip ?_
          refine g_inBlock ?_
          refine g_seq ?_
          refine g_region ?_
          refine r_cons (s_move (.pointer (some ⟨bk13, 0, none⟩)) rfl rfl ?_)
          refine r_cons (s_call [.pointer (some ⟨bk13, 0, none⟩)] pl_13 rfl rfl (Sink_Len bk13 (partL L (l.getD i default))   (i := 3) rfl H35) ?_)
          rintro _ w42 ⟨rfl, H43⟩
          refine r_cons (s_move (.slice pq L.length cq) rfl rfl ?_)
          refine r_cons (s_len L.length rfl ⟨_, un_23⟩ rfl ?_)
          refine r_cons (s_neq false rfl rfl (ntrue (by rw [show (partL L (l.getD i default)).length = _ from rfl]; first | (rw [show partL L (l.getD i default) = L from by unfold partL; first | (rw [if_neg (by rw [hmay]; decide)]; done) | (rw [if_pos hmay]; exact putL_no rfl hput)]; done) | (rw [show partL L (l.getD i default) = L ++ partB (l.getD i default) from by unfold partL; rw [if_pos hmay]; exact putL_0 rfl hput]; simp only [List.length_append]; omega))) rfl ?_)
          refine r_nil ?_
          refine g_false rfl ?_
          refine g_skip ?_
          refine g_inBlock ?_
          refine g_region ?_
          refine r_cons (s_add ((i : Int) + 1) rfl rfl (wi64 (by omega)) rfl ?_)
          refine r_cons (s_move (.int .i64 ((i : Int) + 1)) rfl rfl ?_)
          refine r_nil ?_
          have H44 : St W w42 (Row 4 1 (.slice pq L.length cq) L.length (L.flatMap blc) :: SinkA bk13 (partL L (l.getD i default)) :: imi (0 < l.length) gA3 (.cells kA5 eA6 zA7) :: F) := (((((H43.move 4 rfl).move 4 rfl).move 4 rfl).drop 3 rfl).drop 3 rfl)
          have hLL : partL L (l.getD i default) = L := by unfold partL; first | (rw [if_neg (by rw [hmay]; decide)]; done) | (rw [if_pos hmay]; exact putL_no rfl hput)
          have hNN : (partL L (l.getD i default)).length = L.length := by rw [hLL]
          have H45 : St W w42 (Row 4 1 (.slice pq ((partL L (l.getD i default)).length) cq) ((partL L (l.getD i default)).length) ((partL L (l.getD i default)).flatMap blc) :: SinkA bk13 (partL L (l.getD i default)) :: imi (0 < l.length) gA3 (.cells kA5 eA6 zA7) :: F) := by rw [hLL]; rw [hLL] at H44; exact H44
          exact nx23 (i + 1, partL L (l.getD i default), pq, cq) _ _ ⟨(by omega), (partL_le hL), H45⟩ (by first | (dsimp only; omega) | omega) ⟨by first | rfl | exact vint (by omega), by first | rfl | exact vint (by omega), congrArg (fun z_ => Value.slice pq z_ cq) hNN.symm, by first | rfl | exact vint (by omega), by first | rfl | exact vint (by omega), by first | rfl | exact vint (by omega), trivial⟩
        · skip
          refine r_cons (s_gtr false rfl rfl (dfalse hc41) rfl ?_)
          refine r_cons (s_assign (.bool false) rfl rfl ?_)
          refine r_nil ?_
          refine g_false rfl ?_
          refine g_seq ?_
          refine g_region ?_
          have hmay : partMay (l.getD i default) = true := by simpa using hb36
          have hE : partE L (l.getD i default) = putE L ((partB (l.getD i default)).length : Int) := by unfold partE; rw [if_pos hmay]
          have hput : putE L ((partB (l.getD i default)).length : Int) = 0 := putE_0 (by omega)
          refine r_cons (s_move (.slice pq L.length cq) rfl rfl ?_)
          refine r_cons (s_move (.slice pp30 NN31 cc32) rfl rfl ?_)
          refine r_cons (s_append H35 2 rfl rfl rfl (Row.rd H35 (i := 0) rfl) ap_23 (by decide) (by unfold maxLen; omega) (by omega) (n' := L.length + NN31) (xs' := L.flatMap blc ++ (partB (l.getD i default)).flatMap blc) (by omega) (by first | rfl | simp) rfl ?_); intro vv46 w47 H48 hn49
          obtain ⟨pp50, cc51, rfl⟩ := Row.slice H48 (i := 2) rfl
          refine r_cons (s_assign (.slice pp50 (L.length + NN31) cc51) rfl rfl ?_)
          refine r_nil ?_
          refine g_seq ?_
          refine g_region ?_
          refine r_cons (s_move (.int .i64 (partE L (l.getD i default))) rfl rfl ?_)
          refine r_cons (s_neq false rfl rfl (ntrue (by rw [hE]; exact hput)) rfl ?_)
          refine r_nil ?_
          refine g_false rfl ?_
          refine g_skip ?_
          refine g_inBlock ?_
          refine g_seq ?_
          refine g_region ?_
          refine r_cons (s_move (.pointer (some ⟨bk13, 0, none⟩)) rfl rfl ?_)
          refine r_cons (s_call [.pointer (some ⟨bk13, 0, none⟩)] pl_13 rfl rfl (Sink_Len bk13 (partL L (l.getD i default))   (i := 3) rfl H48) ?_)
          rintro _ w52 ⟨rfl, H53⟩
          refine r_cons (s_move (.slice pp50 (L.length + NN31) cc51) rfl rfl ?_)
          refine r_cons (s_len (L.length + NN31) rfl ⟨_, un_23⟩ rfl ?_)
          refine r_cons (s_neq false rfl rfl (ntrue (by rw [show (partL L (l.getD i default)).length = _ from rfl]; first | (rw [show partL L (l.getD i default) = L from by unfold partL; first | (rw [if_neg (by rw [hmay]; decide)]; done) | (rw [if_pos hmay]; exact putL_no rfl hput)]; done) | (rw [show partL L (l.getD i default) = L ++ partB (l.getD i default) from by unfold partL; rw [if_pos hmay]; exact putL_0 rfl hput]; simp only [List.length_append]; omega))) rfl ?_)
          refine r_nil ?_
          refine g_false rfl ?_
          refine g_skip ?_
          refine g_inBlock ?_
          refine g_region ?_
          refine r_cons (s_add ((i : Int) + 1) rfl rfl (wi64 (by omega)) rfl ?_)
          refine r_cons (s_move (.int .i64 ((i : Int) + 1)) rfl rfl ?_)
          refine r_nil ?_
          have H54 : St W w52 (Row 4 1 (.slice pp50 (L.length + NN31) cc51) (L.length + NN31) (L.flatMap blc ++ (partB (l.getD i default)).flatMap blc) :: SinkA bk13 (partL L (l.getD i default)) :: imi (0 < l.length) gA3 (.cells kA5 eA6 zA7) :: F) := (((((H53.move 4 rfl).move 4 rfl).move 4 rfl).drop 3 rfl).drop 3 rfl)
          have hLL : partL L (l.getD i default) = L ++ partB (l.getD i default) := by unfold partL; rw [if_pos hmay]; exact putL_0 rfl hput
          have hNN : (partL L (l.getD i default)).length = L.length + NN31 := by rw [hLL, List.length_append, ← hn33]
          have H55 : St W w52 (Row 4 1 (.slice pp50 ((partL L (l.getD i default)).length) cc51) ((partL L (l.getD i default)).length) ((partL L (l.getD i default)).flatMap blc) :: SinkA bk13 (partL L (l.getD i default)) :: imi (0 < l.length) gA3 (.cells kA5 eA6 zA7) :: F) := by rw [hNN, show (partL L (l.getD i default)).flatMap blc = L.flatMap blc ++ (partB (l.getD i default)).flatMap blc from by rw [hLL]; exact List.flatMap_append]; exact H54
          exact nx23 (i + 1, partL L (l.getD i default), pp50, cc51) _ _ ⟨(by omega), (partL_le hL), H55⟩ (by first | (dsimp only; omega) | omega) ⟨by first | rfl | exact vint (by omega), by first | rfl | exact vint (by omega), congrArg (fun z_ => Value.slice pp50 z_ cc51) hNN.symm, by first | rfl | exact vint (by omega), by first | rfl | exact vint (by omega), by first | rfl | exact vint (by omega), trivial⟩
    · skip
      refine r_cons (s_lss false rfl rfl (dfalse hc24) rfl ?_)
      refine r_nil ?_
      refine g_seq ?_
      refine g_false rfl ?_
      refine g_exit (by rfl) ?_
      refine g_seq ?_
      refine g_region ?_
      refine r_cons (s_move (.pointer (some ⟨bk13, 0, none⟩)) rfl rfl ?_)
      refine r_cons (s_call [.pointer (some ⟨bk13, 0, none⟩)] pl_22 rfl rfl (Sink_Out bk13 L (by first | omega | (repeat (first | exact Nat.zero_le _ | assumption | refine putL_le ?_ | refine bitsL_le ?_))) (i := 1) rfl H22) ?_)
      rintro _ w58 ⟨pp56, cc57, rfl, H59⟩
      refine r_cons (s_move (.slice pq L.length cq) rfl rfl ?_)
      have H60 : St W w58 (Row 5 1 (.slice pp56 ((L.length + 7) / 8) cc57) ((L.length + 7) / 8) ((pk L).flatMap u8c) :: Im 1 (.slice pq L.length cq) L.length (L.flatMap blc) :: SinkA bk13 L :: imi (0 < l.length) gA3 (.cells kA5 eA6 zA7) :: F) := Row.im H59 (i := 1) rfl
      refine r_cons (s_call [.slice pq L.length cq] pl_23 rfl rfl (ref01_Pack L _ (by omega) (j := 1) rfl H60) ?_)
      rintro _ w63 ⟨pp61, cc62, rfl, H64⟩
      refine r_cons (s_call [.slice pp56 ((L.length + 7) / 8) cc57, .slice pp61 ((L.length + 7) / 8) cc62] pl_21 rfl rfl (bytes_Equal _ _ _ _ _ _ (pk L) (pk L) RdA.row RdA.row (j := 1) rfl (k := 0) rfl H64) ?_)
      rintro _ w65 ⟨rfl, H66⟩
      refine r_cons (s_assign (.bool (decide ((pk L) = (pk L)))) rfl rfl ?_)
      refine r_nil ?_
      refine g_ret' [.bool (decide ((pk L) = (pk L)))] Try.func5 Try.results5 ⟨rfl, trivial⟩ ?_
      have H67 : St W w65 F := (((((H66.drop 0 rfl).drop 0 rfl).drop 0 rfl).drop 0 rfl).drop 0 rfl)
      exact ⟨congrArg Value.bool (by simp), H67⟩
end Sl
