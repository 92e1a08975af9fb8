/- Walks of the program's functions. Printed by a program of this claim's author. No condition. -/
import Derived.Test.YthkkmoilphmplaaSlQ
import Derived.Test.YthkkmoilphmplaaSlL
import Derived.Test.YthkkmoilphmplaaSlP
import Derived.Test.YthkkmoilphmplaaProg
import Derived.Test.YthkkmoilphmplaaWalkBitsBack0
namespace Sl
open _root_.Go _root_.Go.RowKit _root_.Go.Proofs
set_option linter.all false
set_option maxHeartbeats 4000000 in
set_option maxRecDepth 100000 in
theorem Src_End {W w : World} {F : List Atom} (b : Nat) (bs : List UInt8) (p : Nat) (hp : p ≤ 8 * bs.length) (hb : bs.length ≤ 140737488355328) {i : Nat} (hi : F[i]? = some (SrcA b bs p)) (H : St W w F) : Calls Try.prog 18 #[.pointer (some ⟨b, 0, none⟩)] w (Ret fun v w' => v = .int .i64 (endE (remB bs p)) ∧ St W w' F) := by
  have H0 := H.front hi
  refine calls_of_go (n := 34) Try.func18 rfl Try.ntmps18 rfl ?_
  refine g_seq ?_
  refine g_region ?_
  refine r_cons (s_assign (.int .i64 0) rfl rfl ?_)
  refine r_nil ?_
  refine g_seq ?_
  refine g_seq ?_
  refine g_region ?_
  refine r_cons (s_move (.pointer (some ⟨b, 0, none⟩)) rfl rfl ?_)
  refine r_cons (s_peql false un_35 rfl rfl rfl rfl ?_)
  refine r_cons (s_move (.bool false) rfl rfl ?_)
  refine r_cons (r_take rfl rfl ?_)
  refine s_move (.pointer (some ⟨b, 0, none⟩)) rfl rfl ?_
  refine r_cons (r_take rfl rfl ?_)
  refine s_nilCheck (.pointer (some ⟨b, 0, none⟩)) rfl ⟨_, rfl⟩ rfl ?_
  refine r_cons (r_take rfl rfl ?_)
  refine s_fieldAddr 69 0 0 0 4 rfl fi_69_0 rfl rfl ?_
  refine r_cons (r_take rfl rfl ?_)
  have H1 := H0.move 0 rfl
  obtain ⟨vv2, H3⟩ := St.open_ex H1
  have H4 := St.open_star H3
  obtain ⟨pp5, cc6, gA7, oA8, kA9, eA10, zA11, rfl, hn12, hp13, hx14, hs15, hml, H16⟩ := Im.open_ H4 (i := 1) rfl
  have H17 : St W w (imi (0 < bs.length) gA7 (.cells kA9 eA10 zA11) :: blk b (.cells #[.bool true, .slice pp5 bs.length cc6, .int .i64 ((p : Nat) : Int)] 69 (0, 0)) :: Im 1 (.slice pp5 bs.length cc6) bs.length (bs.flatMap u8c) :: (F.set i emp)) := H16
  refine s_load (.bool true) ag_4 rfl (H17.blk_at (i := 1) rfl) rfl rfl ?_
  refine r_cons (r_take rfl rfl ?_)
  refine s_not true rfl false rfl rfl ?_
  refine r_cons (s_pick_f (.bool false) rfl rfl rfl ?_)
  refine r_nil ?_
  refine g_false rfl ?_
  refine g_skip ?_
  refine g_seq ?_
  refine g_seq ?_
  refine g_region ?_
  refine r_cons (s_move (.pointer (some ⟨b, 0, none⟩)) rfl rfl ?_)
  have H18 : St W w (blk b (.cells #[.bool true, .slice pp5 bs.length cc6, .int .i64 ((p : Nat) : Int)] 69 (0, 0)) :: Im 1 (.slice pp5 bs.length cc6) bs.length (bs.flatMap u8c) :: (F.set i emp)) := (((H17.move 2 rfl).move 2 rfl).drop 2 rfl)
  have H19 : St W w (SrcA b bs p :: (F.set i emp)) := St.shut_ex (.slice pp5 bs.length cc6) (St.shut_star (ls := [blk b (.cells #[.bool true, .slice pp5 bs.length cc6, .int .i64 ((p : Nat) : Int)] 69 (0, 0)), Im 1 (.slice pp5 bs.length cc6) bs.length (bs.flatMap u8c)]) H18)
  refine r_cons (s_call [.pointer (some ⟨b, 0, none⟩)] pl_17 rfl rfl (Src_Left b bs p (by first | omega | decide +kernel | (repeat (first | assumption | exact Nat.zero_le _ | refine natN_pos ?_ | refine srcN_pos ?_ | refine textN_pos ?_))) (by first | omega | decide +kernel)   (i := 0) rfl H19) ?_)
  rintro _ w20 ⟨rfl, H21⟩
  by_cases hc22 : (8 : Int) ≤ ((remB bs p).length : Int)
  · skip
    refine r_cons (s_geq true rfl rfl (dtrue hc22) rfl ?_)
    refine r_nil ?_
    refine g_true rfl ?_
    refine g_seq ?_
    refine g_region ?_
    refine r_cons (s_assign (.int .i64 12) rfl rfl ?_)
    refine r_nil ?_
    refine g_ret' [.int .i64 12] Try.func18 Try.results18 ⟨rfl, trivial⟩ ?_
    have H23 : St W w20 (SrcA b bs p :: (F.set i emp)) := H21
    exact ⟨vint (by have hL2 := remB_len bs p; first | exact (endE_long (by omega)).symm | exact (endE_bit (j := k) (by omega) (by rw [remB_getD (by omega)]; cases hh : bitAt bs (p + k) with | true => rfl | false => (have h1 : (((bitAt bs (p + k)).toNat : Nat) : Int) = 1 := ‹_›; rw [hh] at h1; cases h1))).symm | exact (endE_0 (by omega) (fun j hj => hz j (by omega))).symm), St.back_same hi H23⟩
  · skip
    refine r_cons (s_geq false rfl rfl (dfalse hc22) rfl ?_)
    refine r_nil ?_
    refine g_false rfl ?_
    refine g_skip ?_
    refine g_seq ?_
    refine g_seq ?_
    refine g_region ?_
    refine r_cons (s_move (.pointer (some ⟨b, 0, none⟩)) rfl rfl ?_)
    refine r_cons (s_nilCheck (.pointer (some ⟨b, 0, none⟩)) rfl ⟨_, rfl⟩ rfl ?_)
    refine r_cons (s_fieldAddr 69 2 2 2 3 rfl fi_69_2 rfl rfl ?_)
    have H24 := H21.move 0 rfl
    obtain ⟨vv25, H26⟩ := St.open_ex H24
    have H27 := St.open_star H26
    obtain ⟨pp28, cc29, gA30, oA31, kA32, eA33, zA34, rfl, hn35, hp36, hx37, hs38, hml, H39⟩ := Im.open_ H27 (i := 1) rfl
    have H40 : St W w20 (imi (0 < bs.length) gA30 (.cells kA32 eA33 zA34) :: blk b (.cells #[.bool true, .slice pp28 bs.length cc29, .int .i64 ((p : Nat) : Int)] 69 (0, 0)) :: Im 1 (.slice pp28 bs.length cc29) bs.length (bs.flatMap u8c) :: (F.set i emp)) := H39
    refine r_cons (s_load (.int .i64 ((p : Nat) : Int)) ag_3 rfl (H40.blk_at (i := 1) rfl) rfl rfl ?_)
    refine r_cons (s_assign (.int .i64 ((p : Nat) : Int)) rfl rfl ?_)
    refine r_nil ?_
    refine g_block ?_
    have H41 : St W w20 (blk b (.cells #[.bool true, .slice pp28 bs.length cc29, .int .i64 ((p : Nat) : Int)] 69 (0, 0)) :: Im 1 (.slice pp28 bs.length cc29) bs.length (bs.flatMap u8c) :: (F.set i emp)) := (((H40.move 2 rfl).move 2 rfl).drop 2 rfl)
    have H42 : St W w20 (SrcA b bs p :: (F.set i emp)) := St.shut_ex (.slice pp28 bs.length cc29) (St.shut_star (ls := [blk b (.cells #[.bool true, .slice pp28 bs.length cc29, .int .i64 ((p : Nat) : Int)] 69 (0, 0)), Im 1 (.slice pp28 bs.length cc29) bs.length (bs.flatMap u8c)]) H41)
    have H43 : St W w20 (SrcA b bs p :: (F.set i emp)) := H42
    have hL := remB_len bs p
    refine g_loop_inv (fun (x : Nat) => match x with | k => [(0, .pointer (some ⟨b, 0, none⟩)), (2, .int .i64 0), (3, .int .i64 ((p + k : Nat) : Int))]) (fun (x : Nat) w => match x with | k => (p + k ≤ 8 * bs.length) ∧ (∀ j, j < k → (remB bs p).getD j false = false) ∧ St W w (SrcA b bs p :: (F.set i emp))) (fun (x : Nat) => match x with | k => 8 * bs.length - (p + k)) (0) ?_ ?_ ?_
    · exact ⟨by first | rfl | exact vint (by omega), by first | rfl | exact vint (by omega), by first | rfl | exact vint (by omega), trivial⟩
    · exact ⟨(by omega), (fun j hj => by omega), H43⟩
    · rintro k ρ44 w45 ⟨hk, hz, H46⟩ nx47
      change Ends _ _ (upds ρ44 [(0, .pointer (some ⟨b, 0, none⟩)), (2, .int .i64 0), (3, .int .i64 ((p + k : Nat) : Int))]) w45
      refine g_seq ?_
      refine g_seq ?_
      refine g_region ?_
      refine r_cons (s_move (.int .i64 ((p + k : Nat) : Int)) rfl rfl ?_)
      refine r_cons (s_move (.pointer (some ⟨b, 0, none⟩)) rfl rfl ?_)
      refine r_cons (s_nilCheck (.pointer (some ⟨b, 0, none⟩)) rfl ⟨_, rfl⟩ rfl ?_)
      refine r_cons (s_fieldAddr 69 1 1 1 33 rfl fi_69_1 rfl rfl ?_)
      have H48 := H46.move 0 rfl
      obtain ⟨vv49, H50⟩ := St.open_ex H48
      have H51 := St.open_star H50
      obtain ⟨pp52, cc53, gA54, oA55, kA56, eA57, zA58, rfl, hn59, hp60, hx61, hs62, hml, H63⟩ := Im.open_ H51 (i := 1) rfl
      have H64 : St W w45 (imi (0 < bs.length) gA54 (.cells kA56 eA57 zA58) :: blk b (.cells #[.bool true, .slice pp52 bs.length cc53, .int .i64 ((p : Nat) : Int)] 69 (0, 0)) :: Im 1 (.slice pp52 bs.length cc53) bs.length (bs.flatMap u8c) :: (F.set i emp)) := H63
      refine r_cons (s_load (.slice pp52 bs.length cc53) ag_33 rfl (H64.blk_at (i := 1) rfl) rfl rfl ?_)
      refine r_cons (s_len bs.length rfl ⟨_, un_33⟩ rfl ?_)
      refine r_cons (s_mul (8 * (bs.length : Int)) rfl rfl (wi64 (by omega)) rfl ?_)
      by_cases hc65 : ((p + k : Nat) : Int) < 8 * (bs.length : Int)
      · skip
        refine r_cons (s_lss true rfl rfl (dtrue hc65) rfl ?_)
        refine r_nil ?_
        refine g_true rfl ?_
        refine g_skip ?_
        refine g_seq ?_
        refine g_block ?_
        refine g_seq ?_
        refine g_region ?_
        refine r_cons (s_move (.pointer (some ⟨b, 0, none⟩)) rfl rfl ?_)
        refine r_cons (s_move (.int .i64 ((p + k : Nat) : Int)) rfl rfl ?_)
        have H66 : St W w45 (blk b (.cells #[.bool true, .slice pp52 bs.length cc53, .int .i64 ((p : Nat) : Int)] 69 (0, 0)) :: Im 1 (.slice pp52 bs.length cc53) bs.length (bs.flatMap u8c) :: (F.set i emp)) := (((H64.move 2 rfl).move 2 rfl).drop 2 rfl)
        have H67 : St W w45 (SrcA b bs p :: (F.set i emp)) := St.shut_ex (.slice pp52 bs.length cc53) (St.shut_star (ls := [blk b (.cells #[.bool true, .slice pp52 bs.length cc53, .int .i64 ((p : Nat) : Int)] 69 (0, 0)), Im 1 (.slice pp52 bs.length cc53) bs.length (bs.flatMap u8c)]) H66)
        refine r_cons (s_call [.pointer (some ⟨b, 0, none⟩), .int .i64 ((p + k : Nat) : Int)] pl_45 rfl rfl (Src_bit b bs p (by first | omega | decide +kernel | (repeat (first | assumption | exact Nat.zero_le _ | refine natN_pos ?_ | refine srcN_pos ?_ | refine textN_pos ?_))) (by first | omega | decide +kernel) (p + k) (by omega) (i := 0) rfl H67) ?_)
        rintro _ w68 ⟨rfl, H69⟩
        by_cases hc70 : ((bitAt bs (p + k)).toNat : Int) = 1
        · skip
          refine r_cons (s_eql true rfl rfl (dtrue hc70) rfl ?_)
          refine r_nil ?_
          refine g_true rfl ?_
          refine g_seq ?_
          refine g_region ?_
          refine r_cons (s_assign (.int .i64 12) rfl rfl ?_)
          refine r_nil ?_
          refine g_ret' [.int .i64 12] Try.func18 Try.results18 ⟨rfl, trivial⟩ ?_
          have H71 : St W w68 (SrcA b bs p :: (F.set i emp)) := H69
          exact ⟨vint (by have hL2 := remB_len bs p; first | exact (endE_long (by omega)).symm | exact (endE_bit (j := k) (by omega) (by rw [remB_getD (by omega)]; cases hh : bitAt bs (p + k) with | true => rfl | false => (have h1 : (((bitAt bs (p + k)).toNat : Nat) : Int) = 1 := ‹_›; rw [hh] at h1; cases h1))).symm | exact (endE_0 (by omega) (fun j hj => hz j (by omega))).symm), St.back_same hi H71⟩
        · skip
          refine r_cons (s_eql false rfl rfl (dfalse hc70) rfl ?_)
          refine r_nil ?_
          refine g_false rfl ?_
          refine g_skip ?_
          refine g_inBlock ?_
          refine g_region ?_
          refine r_cons (s_move (.int .i64 ((p + k : Nat) : Int)) rfl rfl ?_)
          refine r_cons (s_add (((p + k : Nat) : Int) + 1) rfl rfl (wi64 (by omega)) rfl ?_)
          refine r_cons (s_assign (.int .i64 (((p + k : Nat) : Int) + 1)) rfl rfl ?_)
          refine r_nil ?_
          have H72 : St W w68 (SrcA b bs p :: (F.set i emp)) := H69
          have hbit : bitAt bs (p + k) = false := by cases hh : bitAt bs (p + k) with | false => rfl | true => exact absurd (show (((bitAt bs (p + k)).toNat : Nat) : Int) = 1 by rw [hh]; rfl) ‹_›
          exact nx47 (k + 1) _ _ ⟨(by omega), (fun j hj => (Nat.lt_or_ge j k).elim (hz j) (fun h => by rw [show j = k from by omega, remB_getD (by omega)]; exact hbit)), H72⟩ (by first | (dsimp only; omega) | omega) ⟨by first | rfl | exact vint (by omega), by first | rfl | exact vint (by omega), by first | rfl | exact vint (by omega), trivial⟩
      · skip
        refine r_cons (s_lss false rfl rfl (dfalse hc65) rfl ?_)
        refine r_nil ?_
        refine g_false rfl ?_
        refine g_exit (by rfl) ?_
        refine g_seq ?_
        refine g_region ?_
        refine r_cons (s_assign (.int .i64 0) rfl rfl ?_)
        refine r_nil ?_
        refine g_ret' [.int .i64 0] Try.func18 Try.results18 ⟨rfl, trivial⟩ ?_
        have H73 : St W w45 (blk b (.cells #[.bool true, .slice pp52 bs.length cc53, .int .i64 ((p : Nat) : Int)] 69 (0, 0)) :: Im 1 (.slice pp52 bs.length cc53) bs.length (bs.flatMap u8c) :: (F.set i emp)) := (((H64.move 2 rfl).move 2 rfl).drop 2 rfl)
        have H74 : St W w45 (SrcA b bs p :: (F.set i emp)) := St.shut_ex (.slice pp52 bs.length cc53) (St.shut_star (ls := [blk b (.cells #[.bool true, .slice pp52 bs.length cc53, .int .i64 ((p : Nat) : Int)] 69 (0, 0)), Im 1 (.slice pp52 bs.length cc53) bs.length (bs.flatMap u8c)]) H73)
        have H75 : St W w45 (SrcA b bs p :: (F.set i emp)) := H74
        exact ⟨vint (by have hL2 := remB_len bs p; first | exact (endE_long (by omega)).symm | exact (endE_bit (j := k) (by omega) (by rw [remB_getD (by omega)]; cases hh : bitAt bs (p + k) with | true => rfl | false => (have h1 : (((bitAt bs (p + k)).toNat : Nat) : Int) = 1 := ‹_›; rw [hh] at h1; cases h1))).symm | exact (endE_0 (by omega) (fun j hj => hz j (by omega))).symm), St.back_same hi H75⟩
set_option maxHeartbeats 4000000 in
set_option maxRecDepth 100000 in
theorem bytes_Equal {W w : World} {F : List Atom} (A B : Atom) (u v : Value) (m n : Nat) (xs ys : List UInt8) (hA : RdA A 1 u m (xs.flatMap u8c)) (hB : RdA B 1 v n (ys.flatMap u8c)) {j k : Nat} (hj : F[j]? = some A) (hk : F[k]? = some B) (H : St W w F) : Calls Try.prog 21 #[u, v] w (Ret fun v w' => v = .bool (decide (xs = ys)) ∧ St W w' F) := by
  have hml := (hA _ _ _ j H hj).2
  obtain ⟨pp1, cc2, rfl, hn3⟩ := Rd.shape (hA _ _ _ j H hj).1
  have hml := (hB _ _ _ k H hk).2
  obtain ⟨pp4, cc5, rfl, hn6⟩ := Rd.shape (hB _ _ _ k H hk).1
  refine calls_of_go (n := 10) Try.func21 rfl Try.ntmps21 rfl ?_
  refine g_seq ?_
  refine g_region ?_
  refine r_cons (s_assign (.bool false) rfl rfl ?_)
  refine r_nil ?_
  refine g_seq ?_
  refine g_region ?_
  refine r_cons (s_move (.slice pp1 m cc2) rfl rfl ?_)
  refine r_cons (s_bytes_str (xs := xs) rfl (by rw [bytesV_flat]; exact (hA _ _ _ (j + 0) H (by exact hj)).1) un_33 un_5 un_9 rfl ?_)
  refine r_cons (s_move (.slice pp4 n cc5) rfl rfl ?_)
  refine r_cons (s_bytes_str (xs := ys) rfl (by rw [bytesV_flat]; exact (hB _ _ _ (k + 0) H (by exact hk)).1) un_33 un_5 un_9 rfl ?_)
  refine r_cons (s_seql (decide ((⟨(xs).toArray⟩ : ByteArray) = ⟨(ys).toArray⟩)) rfl rfl rfl rfl ?_)
  refine r_cons (s_assign (.bool (decide ((⟨(xs).toArray⟩ : ByteArray) = ⟨(ys).toArray⟩))) rfl rfl ?_)
  refine r_nil ?_
  refine g_ret' [.bool (decide ((⟨(xs).toArray⟩ : ByteArray) = ⟨(ys).toArray⟩))] Try.func21 Try.results21 ⟨rfl, trivial⟩ ?_
  have H7 : St W w F := H
  exact ⟨congrArg Value.bool lit_bytes, H7⟩
set_option maxHeartbeats 4000000 in
set_option maxRecDepth 100000 in
theorem live01 {W w : World} {F : List Atom}  (H : St W w F) : Calls Try.prog 9 #[] w (Ret fun v w' => v = .bool true ∧ St W w' F) := by
  refine calls_of_go (n := 49) Try.func9 rfl Try.ntmps9 rfl ?_
  refine g_seq ?_
  refine g_region ?_
  refine r_cons (s_assign (.bool false) rfl rfl ?_)
  refine r_nil ?_
  refine g_seq ?_
  refine g_region ?_
  refine r_cons (s_call [] pl_11 rfl rfl (NewSink H) ?_)
  rintro _ w2 ⟨bk1, rfl, H3⟩
  refine r_cons (s_assign (.pointer (some ⟨bk1, 0, none⟩)) rfl rfl ?_)
  refine r_nil ?_
  refine g_seq ?_
  refine g_seq ?_
  refine g_region ?_
  refine r_cons (s_move (.pointer (some ⟨bk1, 0, none⟩)) rfl rfl ?_)
  refine r_cons (s_peql false un_27 rfl rfl rfl rfl ?_)
  refine r_cons (s_move (.bool false) rfl rfl ?_)
  refine r_cons (r_take rfl rfl ?_)
  refine s_move (.pointer (some ⟨bk1, 0, none⟩)) rfl rfl ?_
  refine r_cons (r_take rfl rfl ?_)
  refine s_call [.pointer (some ⟨bk1, 0, none⟩), .int .u64 4] pl_12 rfl rfl (Sink_Nat bk1 [] 4 (by omega) (by first | omega | (repeat (first | exact Nat.zero_le _ | assumption | refine putL_le ?_ | refine bitsL_le ?_))) (i := 0) rfl H3) ?_
  rintro _ w4 ⟨rfl, H5⟩
  refine r_cons (r_take rfl rfl ?_)
  refine s_neq false rfl rfl (ntrue (by decide +kernel)) rfl ?_
  refine r_cons (s_pick_f (.bool false) rfl rfl rfl ?_)
  refine r_cons (s_move (.bool false) rfl rfl ?_)
  refine r_cons (r_take rfl rfl ?_)
  refine s_move (.pointer (some ⟨bk1, 0, none⟩)) rfl rfl ?_
  refine r_cons (r_take rfl rfl ?_)
  refine s_call [.pointer (some ⟨bk1, 0, none⟩)] pl_13 rfl rfl (Sink_Len bk1 (putL [] (natB 4))   (i := 0) rfl H5) ?_
  rintro _ w6 ⟨rfl, H7⟩
  refine r_cons (r_take rfl rfl ?_)
  refine s_neq false rfl rfl (ntrue (by decide +kernel)) rfl ?_
  refine r_cons (s_pick_f (.bool false) rfl rfl rfl ?_)
  refine r_cons (s_move (.bool false) rfl rfl ?_)
  refine r_cons (r_take rfl rfl ?_)
  refine s_move (.pointer (some ⟨bk1, 0, none⟩)) rfl rfl ?_
  refine r_cons (r_take rfl rfl ?_)
  refine s_call [.pointer (some ⟨bk1, 0, none⟩)] pl_22 rfl rfl (Sink_Out bk1 (putL [] (natB 4)) (by first | omega | (repeat (first | exact Nat.zero_le _ | assumption | refine putL_le ?_ | refine bitsL_le ?_))) (i := 0) rfl H7) ?_
  rintro _ w10 ⟨pp8, cc9, rfl, H11⟩
  refine r_cons (r_take rfl rfl ?_)
  refine s_buildSlice H11 1 1 (cs := #[.int .u8 40]) #[.int .u8 0] el_33 ze_5 (by decide) (by decide) (by kernel_rfl) rfl ?_; intro bk12 w13 H14
  refine r_cons (r_take rfl rfl ?_)
  have H15 : St W w13 (Im 1 (.slice (some ⟨bk12, 0, none⟩) 1 1) 1 (([40] : List UInt8).flatMap u8c) :: Row 5 1 (.slice pp8 (((putL [] (natB 4)).length + 7) / 8) cc9) (((putL [] (natB 4)).length + 7) / 8) ((pk (putL [] (natB 4))).flatMap u8c) :: SinkA bk1 (putL [] (natB 4)) :: F) := Row.im (Row.of_blk (n := 1) (size := 1) H14 (i := 0) rfl (by unfold maxLen; omega) (by simp) (by simp [Value.oneCell'])) (i := 0) rfl
  refine s_call [.slice pp8 (((putL [] (natB 4)).length + 7) / 8) cc9, .slice (some ⟨bk12, 0, none⟩) 1 1] pl_21 rfl rfl (bytes_Equal _ _ _ _ _ _ (pk (putL [] (natB 4))) ([40] : List UInt8) RdA.row RdA.im (j := 1) rfl (k := 0) rfl H15) ?_
  rintro _ w16 ⟨rfl, H17⟩
  refine r_cons (r_take rfl rfl ?_)
  have h40 : decide (pk (putL [] (natB 4)) = [40]) = true := by decide +kernel
  refine s_not (decide ((pk (putL [] (natB 4))) = ([40] : List UInt8))) rfl false (by rw [h40]; rfl) rfl ?_
  refine r_cons (s_pick_f (.bool false) rfl rfl rfl ?_)
  refine r_nil ?_
  refine g_false rfl ?_
  refine g_skip ?_
  refine g_seq ?_
  refine g_region ?_
  refine r_cons (s_buildSlice H17 1 1 (cs := #[.int .u8 40]) #[.int .u8 0] el_33 ze_5 (by decide) (by decide) (by kernel_rfl) rfl ?_); intro bk18 w19 H20
  have H21 : St W w19 (Im 1 (.slice (some ⟨bk18, 0, none⟩) 1 1) 1 (([40] : List UInt8).flatMap u8c) :: Im 1 (.slice (some ⟨bk12, 0, none⟩) 1 1) 1 (([40] : List UInt8).flatMap u8c) :: Row 5 1 (.slice pp8 (((putL [] (natB 4)).length + 7) / 8) cc9) (((putL [] (natB 4)).length + 7) / 8) ((pk (putL [] (natB 4))).flatMap u8c) :: SinkA bk1 (putL [] (natB 4)) :: F) := Row.im (Row.of_blk (n := 1) (size := 1) H20 (i := 0) rfl (by unfold maxLen; omega) (by simp) (by simp [Value.oneCell'])) (i := 0) rfl
  refine r_cons (s_call [.slice (some ⟨bk18, 0, none⟩) 1 1] pl_14 rfl rfl (NewSource _ _ ([40] : List UInt8) (RdA.im) (by first | omega | decide) (j := 0) rfl H21) ?_)
  rintro _ w23 ⟨bk22, rfl, H24⟩
  refine r_cons (s_assign (.pointer (some ⟨bk22, 0, none⟩)) rfl rfl ?_)
  refine r_nil ?_
  refine g_seq ?_
  refine g_seq ?_
  refine g_region ?_
  refine r_cons (s_move (.pointer (some ⟨bk22, 0, none⟩)) rfl rfl ?_)
  refine r_cons (s_peql false un_35 rfl rfl rfl rfl ?_)
  refine r_nil ?_
  refine g_false rfl ?_
  refine g_skip ?_
  refine g_seq ?_
  refine g_region ?_
  refine r_cons (s_move (.pointer (some ⟨bk22, 0, none⟩)) rfl rfl ?_)
  refine r_cons (s_call [.pointer (some ⟨bk22, 0, none⟩)] pl_25 rfl rfl (Src_Nat bk22 ([40] : List UInt8) 0 (by first | omega | decide +kernel | (repeat (first | assumption | exact Nat.zero_le _ | refine natN_pos ?_ | refine srcN_pos ?_ | refine textN_pos ?_))) (by first | omega | decide +kernel)   (i := 0) rfl H24) ?_)
  rintro _ w25 ⟨rfl, H26⟩
  refine r_cons (s_move (.tuple #[.int .u64 (natU (remB ([40] : List UInt8) 0) : Int), .int .i64 (natE (remB ([40] : List UInt8) 0))]) rfl rfl ?_)
  refine r_cons (s_extract (.int .u64 (natU (remB ([40] : List UInt8) 0) : Int)) #[.int .u64 (natU (remB ([40] : List UInt8) 0) : Int), .int .i64 (natE (remB ([40] : List UInt8) 0))] rfl rfl rfl ?_)
  refine r_cons (s_extract (.int .i64 (natE (remB ([40] : List UInt8) 0))) #[.int .u64 (natU (remB ([40] : List UInt8) 0) : Int), .int .i64 (natE (remB ([40] : List UInt8) 0))] rfl rfl rfl ?_)
  refine r_cons (s_assign (.int .u64 (natU (remB ([40] : List UInt8) 0) : Int)) rfl rfl ?_)
  refine r_cons (s_assign (.int .i64 (natE (remB ([40] : List UInt8) 0))) rfl rfl ?_)
  refine r_nil ?_
  refine g_seq ?_
  refine g_region ?_
  refine r_cons (s_move (.int .u64 (natU (remB ([40] : List UInt8) 0) : Int)) rfl rfl ?_)
  refine r_cons (s_eql true rfl rfl (dtrue (by decide +kernel)) rfl ?_)
  refine r_cons (s_move (.bool true) rfl rfl ?_)
  refine r_cons (r_take rfl rfl ?_)
  refine s_move (.int .i64 (natE (remB ([40] : List UInt8) 0))) rfl rfl ?_
  refine r_cons (r_take rfl rfl ?_)
  refine s_eql true rfl rfl (dtrue (by decide +kernel)) rfl ?_
  refine r_cons (s_pick_t (.bool true) rfl rfl rfl ?_)
  refine r_cons (s_move (.bool true) rfl rfl ?_)
  refine r_cons (r_take rfl rfl ?_)
  refine s_move (.pointer (some ⟨bk22, 0, none⟩)) rfl rfl ?_
  refine r_cons (r_take rfl rfl ?_)
  refine s_call [.pointer (some ⟨bk22, 0, none⟩)] pl_18 rfl rfl (Src_End bk22 ([40] : List UInt8) (0 + natN (remB ([40] : List UInt8) 0)) (by first | omega | decide +kernel | (repeat (first | assumption | exact Nat.zero_le _ | refine natN_pos ?_ | refine srcN_pos ?_ | refine textN_pos ?_))) (by first | omega | decide +kernel)   (i := 0) rfl H26) ?_
  rintro _ w27 ⟨rfl, H28⟩
  refine r_cons (r_take rfl rfl ?_)
  refine s_eql true rfl rfl (dtrue (by decide +kernel)) rfl ?_
  refine r_cons (s_pick_t (.bool true) rfl rfl rfl ?_)
  refine r_cons (s_move (.bool true) rfl rfl ?_)
  refine r_cons (r_take rfl rfl ?_)
  refine s_call [.int .u64 1] pl_10 rfl rfl (Size (1) (by omega) H28) ?_
  rintro _ w29 ⟨rfl, H30⟩
  refine r_cons (r_take rfl rfl ?_)
  refine s_eql true rfl rfl (dtrue (by decide +kernel)) rfl ?_
  refine r_cons (s_pick_t (.bool true) rfl rfl rfl ?_)
  refine r_cons (s_assign (.bool true) rfl rfl ?_)
  refine r_nil ?_
  refine g_ret' [.bool true] Try.func9 Try.results9 ⟨rfl, trivial⟩ ?_
  have H31 : St W w29 F := (((((H30.drop 0 rfl).drop 0 rfl).drop 0 rfl).drop 0 rfl).drop 0 rfl)
  exact ⟨rfl, H31⟩
set_option maxHeartbeats 4000000 in
set_option maxRecDepth 100000 in
theorem Src_Text {W w : World} {F : List Atom} (b : Nat) (bs : List UInt8) (p : Nat) (hp : p ≤ 8 * bs.length) (hb : bs.length ≤ 140737488355328) {i : Nat} (hi : F[i]? = some (SrcA b bs p)) (H : St W w F) : Calls Try.prog 27 #[.pointer (some ⟨b, 0, none⟩)] w (Ret fun v w' => v = .tuple #[.string (textS (remB bs p)), .int .i64 (textE (remB bs p))] ∧ St W w' (F.set i (SrcA b bs (p + textN (remB bs p))))) := by
  have H0 := H.front hi
  refine calls_of_go (n := 61) Try.func27 rfl Try.ntmps27 rfl ?_
  refine g_seq ?_
  refine g_region ?_
  refine r_cons (s_assign (.string ByteArray.empty) rfl rfl ?_)
  refine r_cons (s_assign (.int .i64 0) rfl rfl ?_)
  refine r_nil ?_
  refine g_seq ?_
  refine g_seq ?_
  refine g_region ?_
  refine r_cons (s_move (.pointer (some ⟨b, 0, none⟩)) rfl rfl ?_)
  refine r_cons (s_peql false un_35 rfl rfl rfl rfl ?_)
  refine r_cons (s_move (.bool false) rfl rfl ?_)
  refine r_cons (r_take rfl rfl ?_)
  refine s_move (.pointer (some ⟨b, 0, none⟩)) rfl rfl ?_
  refine r_cons (r_take rfl rfl ?_)
  refine s_nilCheck (.pointer (some ⟨b, 0, none⟩)) rfl ⟨_, rfl⟩ rfl ?_
  refine r_cons (r_take rfl rfl ?_)
  refine s_fieldAddr 69 0 0 0 4 rfl fi_69_0 rfl rfl ?_
  refine r_cons (r_take rfl rfl ?_)
  have H1 := H0.move 0 rfl
  obtain ⟨vv2, H3⟩ := St.open_ex H1
  have H4 := St.open_star H3
  obtain ⟨pp5, cc6, gA7, oA8, kA9, eA10, zA11, rfl, hn12, hp13, hx14, hs15, hml, H16⟩ := Im.open_ H4 (i := 1) rfl
  have H17 : St W w (imi (0 < bs.length) gA7 (.cells kA9 eA10 zA11) :: blk b (.cells #[.bool true, .slice pp5 bs.length cc6, .int .i64 ((p : Nat) : Int)] 69 (0, 0)) :: Im 1 (.slice pp5 bs.length cc6) bs.length (bs.flatMap u8c) :: (F.set i emp)) := H16
  refine s_load (.bool true) ag_4 rfl (H17.blk_at (i := 1) rfl) rfl rfl ?_
  refine r_cons (r_take rfl rfl ?_)
  refine s_not true rfl false rfl rfl ?_
  refine r_cons (s_pick_f (.bool false) rfl rfl rfl ?_)
  refine r_nil ?_
  refine g_false rfl ?_
  refine g_skip ?_
  refine g_seq ?_
  refine g_region ?_
  refine r_cons (s_move (.pointer (some ⟨b, 0, none⟩)) rfl rfl ?_)
  refine r_cons (s_nilCheck (.pointer (some ⟨b, 0, none⟩)) rfl ⟨_, rfl⟩ rfl ?_)
  refine r_cons (s_fieldAddr 69 2 2 2 3 rfl fi_69_2 rfl rfl ?_)
  refine r_cons (s_load (.int .i64 ((p : Nat) : Int)) ag_3 rfl (H17.blk_at (i := 1) rfl) rfl rfl ?_)
  refine r_cons (s_assign (.int .i64 ((p : Nat) : Int)) rfl rfl ?_)
  refine r_nil ?_
  refine g_seq ?_
  refine g_region ?_
  refine r_cons (s_move (.pointer (some ⟨b, 0, none⟩)) rfl rfl ?_)
  have H18 : St W w (blk b (.cells #[.bool true, .slice pp5 bs.length cc6, .int .i64 ((p : Nat) : Int)] 69 (0, 0)) :: Im 1 (.slice pp5 bs.length cc6) bs.length (bs.flatMap u8c) :: (F.set i emp)) := (((H17.move 2 rfl).move 2 rfl).drop 2 rfl)
  have H19 : St W w (SrcA b bs p :: (F.set i emp)) := St.shut_ex (.slice pp5 bs.length cc6) (St.shut_star (ls := [blk b (.cells #[.bool true, .slice pp5 bs.length cc6, .int .i64 ((p : Nat) : Int)] 69 (0, 0)), Im 1 (.slice pp5 bs.length cc6) bs.length (bs.flatMap u8c)]) H18)
  refine r_cons (s_call [.pointer (some ⟨b, 0, none⟩)] pl_25 rfl rfl (Src_Nat b bs p (by first | omega | decide +kernel | (repeat (first | assumption | exact Nat.zero_le _ | refine natN_pos ?_ | refine srcN_pos ?_ | refine textN_pos ?_))) (by first | omega | decide +kernel)   (i := 0) rfl H19) ?_)
  rintro _ w20 ⟨rfl, H21⟩
  refine r_cons (s_move (.tuple #[.int .u64 (natU (remB bs p) : Int), .int .i64 (natE (remB bs p))]) rfl rfl ?_)
  refine r_cons (s_extract (.int .u64 (natU (remB bs p) : Int)) #[.int .u64 (natU (remB bs p) : Int), .int .i64 (natE (remB bs p))] rfl rfl rfl ?_)
  refine r_cons (s_extract (.int .i64 (natE (remB bs p))) #[.int .u64 (natU (remB bs p) : Int), .int .i64 (natE (remB bs p))] rfl rfl rfl ?_)
  refine r_cons (s_assign (.int .u64 (natU (remB bs p) : Int)) rfl rfl ?_)
  refine r_cons (s_assign (.int .i64 (natE (remB bs p))) rfl rfl ?_)
  refine r_nil ?_
  refine g_seq ?_
  refine g_seq ?_
  refine g_region ?_
  refine r_cons (s_move (.int .i64 (natE (remB bs p))) rfl rfl ?_)
  by_cases hc22 : natE (remB bs p) = 0
  · skip
    refine r_cons (s_neq false rfl rfl (ntrue hc22) rfl ?_)
    refine r_nil ?_
    refine g_false rfl ?_
    refine g_skip ?_
    refine g_seq ?_
    refine g_seq ?_
    refine g_region ?_
    refine r_cons (s_move (.int .u64 (natU (remB bs p) : Int)) rfl rfl ?_)
    refine r_cons (s_move (.pointer (some ⟨b, 0, none⟩)) rfl rfl ?_)
    have hL := remB_len bs p
    have hL2 := remB_len bs (p + natN (remB bs p))
    refine r_cons (s_call [.pointer (some ⟨b, 0, none⟩)] pl_17 rfl rfl (Src_Left b bs (p + natN (remB bs p)) (by first | omega | decide +kernel | (repeat (first | assumption | exact Nat.zero_le _ | refine natN_pos ?_ | refine srcN_pos ?_ | refine textN_pos ?_))) (by first | omega | decide +kernel)   (i := 0) rfl H21) ?_)
    rintro _ w23 ⟨rfl, H24⟩
    refine r_cons (s_quo ((((remB bs (p + natN (remB bs p))).length) / 8 : Nat) : Int) rfl rfl (by omega) (by rw [tdiv_pos (by omega)]; exact wi64 (by omega)) rfl ?_)
    refine r_cons (s_conv ((((remB bs (p + natN (remB bs p))).length) / 8 : Nat) : Int) rfl us_3 ik_22 (wu64 (by omega)) rfl ?_)
    by_cases hc25 : ((((remB bs (p + natN (remB bs p))).length) / 8 : Nat) : Int) < (natU (remB bs p) : Int)
    · skip
      refine r_cons (s_gtr true rfl rfl (dtrue hc25) rfl ?_)
      refine r_nil ?_
      refine g_true rfl ?_
      refine g_seq ?_
      refine g_region ?_
      refine r_cons (s_move (.pointer (some ⟨b, 0, none⟩)) rfl rfl ?_)
      refine r_cons (s_move (.int .i64 ((p : Nat) : Int)) rfl rfl ?_)
      refine r_cons (s_call [.pointer (some ⟨b, 0, none⟩), .int .i64 ((p : Nat) : Int), .int .i64 10] pl_49 rfl rfl (Src_back_no b bs (p + natN (remB bs p)) (p) 10 (by decide) (i := 0) rfl H24) ?_)
      rintro _ w26 ⟨rfl, H27⟩
      refine r_cons (s_assign (.string ByteArray.empty) rfl rfl ?_)
      refine r_cons (s_assign (.int .i64 10) rfl rfl ?_)
      refine r_nil ?_
      refine g_ret' [.string ByteArray.empty, .int .i64 10] Try.func27 Try.results27 ⟨rfl, rfl, trivial⟩ ?_
      have H28 : St W w26 (SrcA b bs p :: (F.set i emp)) := H27
      have hT : textE (remB bs p) = 10 := textE_10 (by assumption) (by omega)
      have hT0 : ¬ textE (remB bs p) = 0 := by rw [hT]; first | assumption | decide
      exact ⟨by rw [textS_0 hT0, hT]; rfl, by rw [textN_no hT0]; exact St.back hi H28⟩
    · skip
      refine r_cons (s_gtr false rfl rfl (dfalse hc25) rfl ?_)
      refine r_nil ?_
      refine g_false rfl ?_
      refine g_skip ?_
      refine g_seq ?_
      refine g_region ?_
      refine r_cons (s_move (.int .u64 (natU (remB bs p) : Int)) rfl rfl ?_)
      refine r_cons (s_make H24 (natU (remB bs p) : Int) 1 1 rfl rfl un_33 in_5 (by omega) (by omega) (by omega) (by exact made_bytes (natU (remB bs p))) rfl ?_); intro bk29 w30 H31
      have H32 : St W w30 (Row 5 1 (.slice (some ⟨bk29, 0, none⟩) (natU (remB bs p)) (natU (remB bs p))) (natU (remB bs p)) ((List.replicate (natU (remB bs p)) (0 : UInt8)).flatMap u8c) :: SrcA b bs (p + natN (remB bs p)) :: (F.set i emp)) := Row.of_list (xs := (List.replicate (natU (remB bs p)) (0 : UInt8)).flatMap u8c) (n := natU (remB bs p)) H31 (i := 0) rfl (by unfold maxLen; omega) (by simp [flat1, u8c_len, blc_len]) (by intro x hx; first | exact one_u8 _ x hx | exact one_bl _ x hx)
      have H33 : St W w30 (Row 5 1 (.slice (some ⟨bk29, 0, none⟩) (natU (remB bs p)) (natU (remB bs p))) (natU (remB bs p)) ((textP (remB bs p) 0).flatMap u8c) :: SrcA b bs (p + natN (remB bs p)) :: (F.set i emp)) := by rw [textP_0]; exact H32
      refine r_cons (s_assign (.slice (some ⟨bk29, 0, none⟩) (natU (remB bs p)) (natU (remB bs p))) rfl rfl ?_)
      refine r_nil ?_
      refine g_seq ?_
      refine g_seq ?_
      refine g_region ?_
      refine r_cons (s_move (.slice (some ⟨bk29, 0, none⟩) (natU (remB bs p)) (natU (remB bs p))) rfl rfl ?_)
      refine r_cons (s_len (natU (remB bs p)) rfl ⟨_, un_33⟩ rfl ?_)
      refine r_cons (s_move (.int .i64 0) rfl rfl ?_)
      refine r_nil ?_
      refine g_block ?_
      have H34 : St W w30 (Row 5 1 (.slice (some ⟨bk29, 0, none⟩) (natU (remB bs p)) (natU (remB bs p))) (natU (remB bs p)) ((textP (remB bs p) 0).flatMap u8c) :: SrcA b bs (p + natN (remB bs p) + 8 * 0) :: (F.set i emp)) := H33
      have H35 : St W w30 (Row 5 1 (.slice (some ⟨bk29, 0, none⟩) (natU (remB bs p)) (natU (remB bs p))) (natU (remB bs p)) ((textP (remB bs p) 0).flatMap u8c) :: SrcA b bs (p + natN (remB bs p) + 8 * 0) :: (F.set i emp)) := ((H34.move 1 rfl).move 1 rfl)
      refine g_loop_inv (fun (x : Nat × (Option Addr) × Nat) => match x with | (j, pq, cq) => [(0, .pointer (some ⟨b, 0, none⟩)), (2, .string ByteArray.empty), (3, .int .i64 0), (7, .slice pq (natU (remB bs p)) cq), (44, .int .i64 (natU (remB bs p) : Int)), (45, .int .i64 (j : Int))]) (fun (x : Nat × (Option Addr) × Nat) w => match x with | (j, pq, cq) => (j ≤ natU (remB bs p)) ∧ St W w (Row 5 1 (.slice pq (natU (remB bs p)) cq) (natU (remB bs p)) ((textP (remB bs p) j).flatMap u8c) :: SrcA b bs (p + natN (remB bs p) + 8 * j) :: (F.set i emp))) (fun (x : Nat × (Option Addr) × Nat) => match x with | (j, pq, cq) => natU (remB bs p) - j) (0, (some ⟨bk29, 0, none⟩), natU (remB bs p)) ?_ ?_ ?_
      · exact ⟨by first | rfl | exact vint (by omega), by first | rfl | exact vint (by omega), by first | rfl | exact vint (by omega), by first | rfl | exact vint (by omega), by first | rfl | exact vint (by omega), by first | rfl | exact vint (by omega), trivial⟩
      · exact ⟨(by omega), H35⟩
      · rintro ⟨j, pq, cq⟩ ρ36 w37 ⟨hj, H38⟩ nx39
        change Ends _ _ (upds ρ36 [(0, .pointer (some ⟨b, 0, none⟩)), (2, .string ByteArray.empty), (3, .int .i64 0), (7, .slice pq (natU (remB bs p)) cq), (44, .int .i64 (natU (remB bs p) : Int)), (45, .int .i64 (j : Int))]) w37
        refine g_seq ?_
        refine g_region ?_
        by_cases hc40 : (j : Int) < (natU (remB bs p) : Int)
        · skip
          refine r_cons (s_lss true rfl rfl (dtrue hc40) rfl ?_)
          refine r_nil ?_
          refine g_seq ?_
          refine g_true rfl ?_
          refine g_skip ?_
          refine g_seq ?_
          refine g_block ?_
          refine g_seq ?_
          refine g_region ?_
          refine r_cons (s_move (.int .i64 (j : Int)) rfl rfl ?_)
          refine r_cons (s_assign (.int .i64 (j : Int)) rfl rfl ?_)
          refine r_nil ?_
          refine g_seq ?_
          refine g_region ?_
          refine r_cons (s_move (.pointer (some ⟨b, 0, none⟩)) rfl rfl ?_)
          have hL3 := remB_len bs (p + natN (remB bs p) + 8 * j)
          have hE8 : srcE (remB bs (p + natN (remB bs p) + 8 * j)) 8 = 0 := srcE_0 (by omega) (by omega)
          have hN8 : srcN (remB bs (p + natN (remB bs p) + 8 * j)) 8 = 8 := srcN_0 hE8
          have hU8 : srcU (remB bs (p + natN (remB bs p) + 8 * j)) 8 < 256 := srcU_lt_pow (k := 8)
          have hB8 : byteT (remB bs p) j = UInt8.ofNat (srcU (remB bs (p + natN (remB bs p) + 8 * j)) 8) := by unfold byteT; rw [srcU_0 hE8, remB_drop, ← Nat.add_assoc]; rfl
          refine r_cons (s_call [.pointer (some ⟨b, 0, none⟩), .int .i64 8] pl_24 rfl rfl (Src_Bits b bs (p + natN (remB bs p) + 8 * j) (by first | omega | decide +kernel | (repeat (first | assumption | exact Nat.zero_le _ | refine natN_pos ?_ | refine srcN_pos ?_ | refine textN_pos ?_))) (by first | omega | decide +kernel) 8  (i := 1) rfl H38) ?_)
          rintro _ w41 ⟨rfl, H42⟩
          refine r_cons (s_move (.tuple #[.int .u64 (srcU (remB bs (p + natN (remB bs p) + 8 * j)) 8 : Int), .int .i64 (srcE (remB bs (p + natN (remB bs p) + 8 * j)) 8)]) rfl rfl ?_)
          refine r_cons (s_extract (.int .u64 (srcU (remB bs (p + natN (remB bs p) + 8 * j)) 8 : Int)) #[.int .u64 (srcU (remB bs (p + natN (remB bs p) + 8 * j)) 8 : Int), .int .i64 (srcE (remB bs (p + natN (remB bs p) + 8 * j)) 8)] rfl rfl rfl ?_)
          refine r_cons (s_extract (.int .i64 (srcE (remB bs (p + natN (remB bs p) + 8 * j)) 8)) #[.int .u64 (srcU (remB bs (p + natN (remB bs p) + 8 * j)) 8 : Int), .int .i64 (srcE (remB bs (p + natN (remB bs p) + 8 * j)) 8)] rfl rfl rfl ?_)
          refine r_cons (s_assign (.int .u64 (srcU (remB bs (p + natN (remB bs p) + 8 * j)) 8 : Int)) rfl rfl ?_)
          refine r_cons (s_assign (.int .i64 (srcE (remB bs (p + natN (remB bs p) + 8 * j)) 8)) rfl rfl ?_)
          refine r_nil ?_
          refine g_region ?_
          refine r_cons (s_move (.slice pq (natU (remB bs p)) cq) rfl rfl ?_)
          refine r_cons (s_move (.int .i64 (j : Int)) rfl rfl ?_)
          refine r_cons (s_move (.int .u64 (srcU (remB bs (p + natN (remB bs p) + 8 * j)) 8 : Int)) rfl rfl ?_)
          refine r_cons (s_conv (srcU (remB bs (p + natN (remB bs p) + 8 * j)) 8 : Int) rfl us_22 ik_5 (wu8 (by omega)) rfl ?_)
          obtain ⟨bk43, cur44, hp45, h46, h47, h48, h49, h50, H51⟩ := Row.open2 H42 (i := 0) rfl (by omega)
          refine r_cons (s_indexAddr bk43 (off := 0) (j : Int) 1 (0 + j * 1) (by exact congrArg (fun z_ => Value.slice z_ (natU (remB bs p)) cq) ((fun (_ : 0 < 1) => hp45) (by omega))) rfl el_33 (by omega) rfl rfl ?_)
          have hx54 := row_set1 (f := u8c) (L := textP (remB bs p) j) (cur := cur44) u8c_len (by rw [(textP_len (remB bs p) j)]; exact h49) (show (textP (remB bs p) j).length * 1 ≤ cur44.size by rw [(textP_len (remB bs p) j), h48]; exact Nat.mul_le_mul_right 1 h46) (j := j) (by have hh := (textP_len (remB bs p) j); omega) 0 (.int .u8 (srcU (remB bs (p + natN (remB bs p) + 8 * j)) 8 : Int)) (byteT (remB bs p) j) ((by rw [hB8]; exact u8_set hU8))
          refine r_cons (s_store H51 0 (.int .u8 (srcU (remB bs (p + natN (remB bs p) + 8 * j)) 8 : Int)) rfl rfl rfl sz_5 rfl (by have hh := (textP_len (remB bs p) j); have hk := (show (textP (remB bs p) j).length * 1 ≤ cur44.size by rw [(textP_len (remB bs p) j), h48]; exact Nat.mul_le_mul_right 1 h46); omega) rfl (cs' := (cur44.setIfInBounds (0 + j * 1) (.int .u8 (srcU (remB bs (p + natN (remB bs p) + 8 * j)) 8 : Int)))) rfl ?_); intro w52 H53
          refine r_nil ?_
          refine g_inBlock ?_
          refine g_region ?_
          refine r_cons (s_add ((j : Int) + 1) rfl rfl (wi64 (by omega)) rfl ?_)
          refine r_cons (s_move (.int .i64 ((j : Int) + 1)) rfl rfl ?_)
          refine r_nil ?_
          have H55 := Row.shut2 (p := pq) (n := natU (remB bs p)) (c := cq) (size := 1) (xs := (textP (remB bs p) (j + 1)).flatMap u8c) H53 (i := 0) rfl hp45 h46 h47 (by rw [Array.size_setIfInBounds]; exact h48) (by have hh : ((cur44.setIfInBounds (0 + j * 1) (.int .u8 (srcU (remB bs (p + natN (remB bs p) + 8 * j)) 8 : Int))).toList.drop 0).take (((textP (remB bs p) j).set j (byteT (remB bs p) j)).length * 1) = ((textP (remB bs p) j).set j (byteT (remB bs p) j)).flatMap u8c := hx54; have hk : ((textP (remB bs p) j).set j (byteT (remB bs p) j)).length = natU (remB bs p) := (by rw [List.length_set]; exact (textP_len (remB bs p) j)); rw [hk] at hh; rw [(textP_succ (by omega)).symm] at hh; exact hh) (one_u8 _)
          have H56 : St W w52 (Row 5 1 (.slice pq (natU (remB bs p)) cq) (natU (remB bs p)) ((textP (remB bs p) (j + 1)).flatMap u8c) :: SrcA b bs (p + natN (remB bs p) + 8 * (j + 1)) :: (F.set i emp)) := by rw [show p + natN (remB bs p) + 8 * (j + 1) = p + natN (remB bs p) + 8 * j + srcN (remB bs (p + natN (remB bs p) + 8 * j)) 8 from by rw [hN8]; omega]; exact H55
          have H57 : St W w52 (Row 5 1 (.slice pq (natU (remB bs p)) cq) (natU (remB bs p)) ((textP (remB bs p) (j + 1)).flatMap u8c) :: SrcA b bs (p + natN (remB bs p) + 8 * (j + 1)) :: (F.set i emp)) := ((H56.move 1 rfl).move 1 rfl)
          exact nx39 (j + 1, pq, cq) _ _ ⟨(by omega), H57⟩ (by first | (dsimp only; omega) | omega) ⟨by first | rfl | exact vint (by omega), by first | rfl | exact vint (by omega), by first | rfl | exact vint (by omega), by first | rfl | exact vint (by omega), by first | rfl | exact vint (by omega), by first | rfl | exact vint (by omega), trivial⟩
        · skip
          refine r_cons (s_lss false rfl rfl (dfalse hc40) rfl ?_)
          refine r_nil ?_
          refine g_seq ?_
          refine g_false rfl ?_
          refine g_exit (by rfl) ?_
          refine g_seq ?_
          refine g_region ?_
          refine r_cons (s_move (.slice pq (natU (remB bs p)) cq) rfl rfl ?_)
          refine r_cons (s_bytes_str (xs := (textP (remB bs p) j)) rfl (by rw [bytesV_flat]; exact (Row.rd H38 (i := 0) rfl)) un_33 un_5 un_9 rfl ?_)
          refine r_cons (s_assign (.string (⟨((textP (remB bs p) j)).toArray⟩)) rfl rfl ?_)
          refine r_cons (s_assign (.int .i64 0) rfl rfl ?_)
          refine r_nil ?_
          refine g_ret' [.string (⟨((textP (remB bs p) j)).toArray⟩), .int .i64 0] Try.func27 Try.results27 ⟨rfl, rfl, trivial⟩ ?_
          have H58 : St W w37 (SrcA b bs (p + natN (remB bs p) + 8 * j) :: (F.set i emp)) := ((H38.move 1 rfl).drop 1 rfl)
          have hT : textE (remB bs p) = 0 := textE_0 (by assumption) (by omega)
          obtain rfl : j = natU (remB bs p) := by omega
          exact ⟨by rw [hT, textP_all hT]; rfl, by rw [textN_0 hT, ← Nat.add_assoc]; exact St.back hi H58⟩
  · skip
    refine r_cons (s_neq true rfl rfl (nfalse hc22) rfl ?_)
    refine r_nil ?_
    refine g_true rfl ?_
    refine g_seq ?_
    refine g_region ?_
    refine r_cons (s_move (.int .i64 (natE (remB bs p))) rfl rfl ?_)
    refine r_cons (s_assign (.string ByteArray.empty) rfl rfl ?_)
    refine r_cons (s_assign (.int .i64 (natE (remB bs p))) rfl rfl ?_)
    refine r_nil ?_
    refine g_ret' [.string ByteArray.empty, .int .i64 (natE (remB bs p))] Try.func27 Try.results27 ⟨rfl, rfl, trivial⟩ ?_
    have H59 : St W w20 (SrcA b bs (p + natN (remB bs p)) :: (F.set i emp)) := H21
    have hT : textE (remB bs p) = natE (remB bs p) := textE_nat (by assumption)
    have hT0 : ¬ textE (remB bs p) = 0 := by rw [hT]; first | assumption | decide
    exact ⟨by rw [textS_0 hT0, hT]; rfl, by rw [textN_no hT0]; have hx := H59; rw [natN_no (by assumption)] at hx; exact St.back hi hx⟩
set_option maxHeartbeats 4000000 in
set_option maxRecDepth 100000 in
theorem put01 {W w : World} {F : List Atom} (b : Nat) (L : List Bool) (p : PartV) (hs : p.s.v.size ≤ 1099511627776) (hb : L.length ≤ 1048576) {i : Nat} (hi : F[i]? = some (SinkA b L)) (H : St W w F) : Calls Try.prog 20 #[.pointer (some ⟨b, 0, none⟩), .agg #[.int .i64 p.kind.v, .int .u64 (p.u.v : Int), .int .i64 p.n.v, .string p.s.v]] w (Ret fun v w' => ∃ q n c, v = .tuple #[.slice q n c, .bool (partMay p), .int .i64 (partE L p)] ∧ n = (partB p).length ∧ St W w' (Row 4 1 (.slice q n c) n ((partB p).flatMap blc) :: F.set i (SinkA b (partL L p)))) := by
  have H0 := H.front hi
  have hkl := p.u.lt
  have hnl := p.n.lo
  have hnh := p.n.hi
  have hsl := s64_lo p.u.lt
  have hsh := s64_hi p.u.lt
  refine calls_of_go (n := 74) Try.func20 rfl Try.ntmps20 rfl ?_
  refine g_seq ?_
  refine g_region ?_
  refine r_cons (s_box H0 40 (.agg #[.int .i64 p.kind.v, .int .u64 (p.u.v : Int), .int .i64 p.n.v, .string p.s.v]) rfl (cs := #[.int .i64 p.kind.v, .int .u64 (p.u.v : Int), .int .i64 p.n.v, .string p.s.v]) rfl rfl ?_); intro bk1 w2 H3
  refine r_cons (s_assign (.slice none 0 0) rfl rfl ?_)
  refine r_cons (s_assign (.bool false) rfl rfl ?_)
  refine r_cons (s_assign (.int .i64 0) rfl rfl ?_)
  refine r_nil ?_
  refine g_seq ?_
  refine g_seq ?_
  refine g_region ?_
  refine r_cons (s_fieldAddr 40 0 0 0 3 rfl fi_40_0 rfl rfl ?_)
  refine r_cons (s_load (.int .i64 p.kind.v) ag_3 rfl (H3.blk_at (i := 0) rfl) rfl rfl ?_)
  refine r_nil ?_
  refine g_block ?_
  refine g_seq ?_
  refine g_region ?_
  by_cases hc4 : p.kind.v = 0
  · skip
    refine r_cons (s_eql true rfl rfl (dtrue hc4) rfl ?_)
    refine r_cons (s_assign (.bool true) rfl rfl ?_)
    refine r_nil ?_
    refine g_true rfl ?_
    refine g_seq ?_
    refine g_mix (fun t_ w => St W w (blk bk1 (.cells #[.int .i64 p.kind.v, .int .u64 (p.u.v : Int), .int .i64 p.n.v, .string p.s.v] 40 (0, 0)) :: t_)) (SinkA b L :: (F.set i emp)) mixed 21 rfl H3.drew ?_
    refine f_first 0 (listed' := #[true, false, false, false, false, false, false, false, false, false, false, false, false, false, false, false, false, false, false, false, false]) rfl (by kernel_rfl) (by kernel_rfl) (by kernel_rfl) rfl ?_
    refine f_val rfl rfl rfl (by intro t_ w hw; exact x_fieldAddr 40 1 1 1 22 rfl fi_40_1 rfl w) ?_
    refine f_first 1 (listed' := #[true, true, false, false, false, false, false, false, false, false, false, false, false, false, false, false, false, false, false, false, false]) rfl (by kernel_rfl) (by kernel_rfl) (by kernel_rfl) rfl ?_
    refine f_val rfl rfl rfl (by intro t_ w hw; exact x_load (.int .u64 (p.u.v : Int)) ag_22 rfl (hw.blk_at (i := 0) rfl) rfl) ?_
    refine f_first 2 (listed' := #[true, true, true, false, false, false, false, false, false, false, false, false, false, false, false, false, false, false, false, false, false]) rfl (by kernel_rfl) (by kernel_rfl) (by kernel_rfl) rfl ?_
    refine f_val rfl rfl rfl (by intro t_ w hw; exact x_fieldAddr 40 2 2 2 3 rfl fi_40_2 rfl w) ?_
    refine f_first 3 (listed' := #[true, true, true, true, false, false, false, false, false, false, false, false, false, false, false, false, false, false, false, false, false]) rfl (by kernel_rfl) (by kernel_rfl) (by kernel_rfl) rfl ?_
    refine f_val rfl rfl rfl (by intro t_ w hw; exact x_load (.int .i64 p.n.v) ag_3 rfl (hw.blk_at (i := 0) rfl) rfl) ?_
    refine f_first 4 (listed' := #[true, true, true, true, true, false, false, false, false, false, false, false, false, false, false, false, false, false, false, false, false]) rfl (by kernel_rfl) (by kernel_rfl) (by kernel_rfl) rfl ?_
    refine f_val rfl rfl rfl (by intro t_ w hw; exact x_max2 (max p.n.v 0) rfl rfl (by split <;> omega) w) ?_
    refine f_first 5 (listed' := #[true, true, true, true, true, true, false, false, false, false, false, false, false, false, false, false, false, false, false, false, false]) rfl (by kernel_rfl) (by kernel_rfl) (by kernel_rfl) rfl ?_
    refine f_val rfl rfl rfl (by intro t_ w hw; exact x_min2 (((min (max p.n.v 0) 64).toNat : Nat) : Int) rfl rfl (by split <;> omega) w) ?_
    refine f_first 7 (listed' := #[true, true, true, true, true, true, false, true, false, false, false, false, false, false, false, false, false, false, false, false, false]) rfl (by kernel_rfl) (by kernel_rfl) (by kernel_rfl) rfl ?_
    refine f_val rfl rfl rfl (by intro t_ w hw; exact x_fieldAddr 40 1 1 1 22 rfl fi_40_1 rfl w) ?_
    refine f_first 8 (listed' := #[true, true, true, true, true, true, false, true, true, false, false, false, false, false, false, false, false, false, false, false, false]) rfl (by kernel_rfl) (by kernel_rfl) (by kernel_rfl) rfl ?_
    refine f_val rfl rfl rfl (by intro t_ w hw; exact x_load (.int .u64 (p.u.v : Int)) ag_22 rfl (hw.blk_at (i := 0) rfl) rfl) ?_
    refine f_first 9 (listed' := #[true, true, true, true, true, true, false, true, true, true, false, false, false, false, false, false, false, false, false, false, false]) rfl (by kernel_rfl) (by kernel_rfl) (by kernel_rfl) rfl ?_
    refine f_val rfl rfl rfl (by intro t_ w hw; exact x_fieldAddr 40 2 2 2 3 rfl fi_40_2 rfl w) ?_
    refine f_first 10 (listed' := #[true, true, true, true, true, true, false, true, true, true, true, false, false, false, false, false, false, false, false, false, false]) rfl (by kernel_rfl) (by kernel_rfl) (by kernel_rfl) rfl ?_
    refine f_val rfl rfl rfl (by intro t_ w hw; exact x_load (.int .i64 p.n.v) ag_3 rfl (hw.blk_at (i := 0) rfl) rfl) ?_
    refine f_first 12 (listed' := #[true, true, true, true, true, true, false, true, true, true, true, false, true, false, false, false, false, false, false, false, false]) rfl (by kernel_rfl) (by kernel_rfl) (by kernel_rfl) rfl ?_
    refine f_val rfl rfl rfl (by intro t_ w hw; exact x_move (.pointer (some ⟨b, 0, none⟩)) rfl w) ?_
    refine f_first 13 (listed' := #[true, true, true, true, true, true, false, true, true, true, true, false, true, true, false, false, false, false, false, false, false]) rfl (by kernel_rfl) (by kernel_rfl) (by kernel_rfl) rfl ?_
    refine f_val rfl rfl rfl (by intro t_ w hw; exact x_fieldAddr 40 1 1 1 22 rfl fi_40_1 rfl w) ?_
    refine f_first 14 (listed' := #[true, true, true, true, true, true, false, true, true, true, true, false, true, true, true, false, false, false, false, false, false]) rfl (by kernel_rfl) (by kernel_rfl) (by kernel_rfl) rfl ?_
    refine f_val rfl rfl rfl (by intro t_ w hw; exact x_load (.int .u64 (p.u.v : Int)) ag_22 rfl (hw.blk_at (i := 0) rfl) rfl) ?_
    refine f_first 15 (listed' := #[true, true, true, true, true, true, false, true, true, true, true, false, true, true, true, true, false, false, false, false, false]) rfl (by kernel_rfl) (by kernel_rfl) (by kernel_rfl) rfl ?_
    refine f_val rfl rfl rfl (by intro t_ w hw; exact x_fieldAddr 40 2 2 2 3 rfl fi_40_2 rfl w) ?_
    refine f_first 16 (listed' := #[true, true, true, true, true, true, false, true, true, true, true, false, true, true, true, true, true, false, false, false, false]) rfl (by kernel_rfl) (by kernel_rfl) (by kernel_rfl) rfl ?_
    refine f_val rfl rfl rfl (by intro t_ w hw; exact x_load (.int .i64 p.n.v) ag_3 rfl (hw.blk_at (i := 0) rfl) rfl) ?_
    refine f_all (rs := [6]) (by kernel_rfl) (by simp) ?_
    refine a_cons ⟨_, rfl, ?_⟩ (fun x hx => absurd hx (by simp))
    intro w5 H6
    try dsimp only at H6
    refine s_call [.int .u64 (p.u.v : Int), .int .i64 (((min (max p.n.v 0) 64).toNat : Nat) : Int)] pl_35 rfl rfl (ref01_Low p.u.v ((min (max p.n.v 0) 64).toNat) (by omega) (by omega) H6) ?_
    rintro _ w9 ⟨pp7, cc8, rfl, H10⟩
    have H11 : St W w9 (blk bk1 (.cells #[.int .i64 p.kind.v, .int .u64 (p.u.v : Int), .int .i64 p.n.v, .string p.s.v] 40 (0, 0)) :: Row 4 1 (.slice pp7 ((min (max p.n.v 0) 64).toNat) cc8) ((min (max p.n.v 0) 64).toNat) ((lowB p.u.v ((min (max p.n.v 0) 64).toNat)).flatMap blc) :: SinkA b L :: (F.set i emp)) := (((H10.move 2 rfl).move 1 rfl).move 2 rfl)
    refine ⟨Row 4 1 (.slice pp7 ((min (max p.n.v 0) 64).toNat) cc8) ((min (max p.n.v 0) 64).toNat) ((lowB p.u.v ((min (max p.n.v 0) 64).toNat)).flatMap blc) :: SinkA b L :: (F.set i emp), ?_, H11⟩
    change FReg _ _ _ _ _ #[true, true, true, true, true, true, true, true, true, true, true, false, true, true, true, true, true, false, false, false, false] _ _
    refine f_first 11 (listed' := #[true, true, true, true, true, true, true, true, true, true, true, true, true, true, true, true, true, false, false, false, false]) rfl (by kernel_rfl) (by kernel_rfl) (by kernel_rfl) rfl ?_
    refine f_enter (args := #[.int .u64 (p.u.v : Int), .int .i64 p.n.v]) (v := .bool (fitsB p.u.v p.n.v)) rfl rfl rfl (x_call pl_46 [.int .u64 (p.u.v : Int), .int .i64 p.n.v] rfl) (fun t_ w hw => ref01_Fits (p.u.v) p.n.v (by omega) hw) ?_
    refine f_all (rs := [17]) (by kernel_rfl) (by simp) ?_
    refine a_cons ⟨_, rfl, ?_⟩ (fun x hx => absurd hx (by simp))
    intro w12 H13
    try dsimp only at H13
    refine s_call [.pointer (some ⟨b, 0, none⟩), .int .u64 (p.u.v : Int), .int .i64 p.n.v] pl_29 rfl rfl (Sink_Bits b L p.u.v p.n.v (by omega) (by first | omega | (repeat (first | exact Nat.zero_le _ | assumption | refine putL_le ?_ | refine bitsL_le ?_))) (i := 2) rfl H13) ?_
    rintro _ w14 ⟨rfl, H15⟩
    refine ⟨Row 4 1 (.slice pp7 ((min (max p.n.v 0) 64).toNat) cc8) ((min (max p.n.v 0) 64).toNat) ((lowB p.u.v ((min (max p.n.v 0) 64).toNat)).flatMap blc) :: SinkA b (bitsL L p.u.v p.n.v) :: (F.set i emp), ?_, H15⟩
    change FReg _ _ _ _ _ #[true, true, true, true, true, true, true, true, true, true, true, true, true, true, true, true, true, true, false, false, false] _ _
    refine f_first 18 (listed' := #[true, true, true, true, true, true, true, true, true, true, true, true, true, true, true, true, true, true, true, false, false]) rfl (by kernel_rfl) (by kernel_rfl) (by kernel_rfl) rfl ?_
    refine f_val rfl rfl rfl (by intro t_ w hw; exact x_assign (.slice pp7 ((min (max p.n.v 0) 64).toNat) cc8) rfl w) ?_
    refine f_first 19 (listed' := #[true, true, true, true, true, true, true, true, true, true, true, true, true, true, true, true, true, true, true, true, false]) rfl (by kernel_rfl) (by kernel_rfl) (by kernel_rfl) rfl ?_
    refine f_val rfl rfl rfl (by intro t_ w hw; exact x_assign (.bool (fitsB p.u.v p.n.v)) rfl w) ?_
    refine f_first 20 (listed' := #[true, true, true, true, true, true, true, true, true, true, true, true, true, true, true, true, true, true, true, true, true]) rfl (by kernel_rfl) (by kernel_rfl) (by kernel_rfl) rfl ?_
    refine f_val rfl rfl rfl (by intro t_ w hw; exact x_assign (.int .i64 (bitsE L p.u.v p.n.v)) rfl w) ?_
    refine f_done (by kernel_rfl) ?_
    intro w16 H17
    refine g_ret' [.slice pp7 ((min (max p.n.v 0) 64).toNat) cc8, .bool (fitsB p.u.v p.n.v), .int .i64 (bitsE L p.u.v p.n.v)] Try.func20 Try.results20 ⟨rfl, rfl, rfl, trivial⟩ ?_
    have H18 : St W w16 (SinkA b (bitsL L p.u.v p.n.v) :: Row 4 1 (.slice pp7 ((min (max p.n.v 0) 64).toNat) cc8) ((min (max p.n.v 0) 64).toNat) ((lowB p.u.v ((min (max p.n.v 0) 64).toNat)).flatMap blc) :: (F.set i emp)) := (((H17.move 1 rfl).move 2 rfl).drop 2 rfl)
    obtain ⟨e1, e2, e3, e4⟩ := part_0 (by assumption)
    have H19 := St.back (i := i + 1) (l := Row 4 1 (.slice pp7 ((min (max p.n.v 0) 64).toNat) cc8) ((min (max p.n.v 0) 64).toNat) ((lowB p.u.v ((min (max p.n.v 0) 64).toNat)).flatMap blc) :: F) (by exact hi) H18
    refine ⟨_, _, _, by rw [e2, e3]; rfl, ?_, by rw [e1, e4]; exact H19⟩
    rw [e1]; first | rfl | (simp only [natB_len, lowB_len, textB_len]; done) | (simp only [natB_len, lowB_len, textB_len]; omega)
  · skip
    refine r_cons (s_eql false rfl rfl (dfalse hc4) rfl ?_)
    refine r_cons (s_assign (.bool false) rfl rfl ?_)
    refine r_nil ?_
    refine g_false rfl ?_
    refine g_seq ?_
    refine g_region ?_
    by_cases hc20 : p.kind.v = 1
    · skip
      refine r_cons (s_eql true rfl rfl (dtrue hc20) rfl ?_)
      refine r_cons (s_assign (.bool true) rfl rfl ?_)
      refine r_nil ?_
      refine g_true rfl ?_
      refine g_seq ?_
      refine g_mix (fun t_ w => St W w (blk bk1 (.cells #[.int .i64 p.kind.v, .int .u64 (p.u.v : Int), .int .i64 p.n.v, .string p.s.v] 40 (0, 0)) :: t_)) (SinkA b L :: (F.set i emp)) mixed 10 rfl H3.drew ?_
      refine f_first 0 (listed' := #[true, false, false, false, false, false, false, false, false, false]) rfl (by kernel_rfl) (by kernel_rfl) (by kernel_rfl) rfl ?_
      refine f_val rfl rfl rfl (by intro t_ w hw; exact x_fieldAddr 40 1 1 1 22 rfl fi_40_1 rfl w) ?_
      refine f_first 1 (listed' := #[true, true, false, false, false, false, false, false, false, false]) rfl (by kernel_rfl) (by kernel_rfl) (by kernel_rfl) rfl ?_
      refine f_val rfl rfl rfl (by intro t_ w hw; exact x_load (.int .u64 (p.u.v : Int)) ag_22 rfl (hw.blk_at (i := 0) rfl) rfl) ?_
      refine f_first 3 (listed' := #[true, true, false, true, false, false, false, false, false, false]) rfl (by kernel_rfl) (by kernel_rfl) (by kernel_rfl) rfl ?_
      refine f_val rfl rfl rfl (by intro t_ w hw; exact x_move (.pointer (some ⟨b, 0, none⟩)) rfl w) ?_
      refine f_first 4 (listed' := #[true, true, false, true, true, false, false, false, false, false]) rfl (by kernel_rfl) (by kernel_rfl) (by kernel_rfl) rfl ?_
      refine f_val rfl rfl rfl (by intro t_ w hw; exact x_fieldAddr 40 1 1 1 22 rfl fi_40_1 rfl w) ?_
      refine f_first 5 (listed' := #[true, true, false, true, true, true, false, false, false, false]) rfl (by kernel_rfl) (by kernel_rfl) (by kernel_rfl) rfl ?_
      refine f_val rfl rfl rfl (by intro t_ w hw; exact x_load (.int .u64 (p.u.v : Int)) ag_22 rfl (hw.blk_at (i := 0) rfl) rfl) ?_
      refine f_all (rs := [2]) (by kernel_rfl) (by simp) ?_
      refine a_cons ⟨_, rfl, ?_⟩ (fun x hx => absurd hx (by simp))
      intro w21 H22
      try dsimp only at H22
      refine s_call [.int .u64 (p.u.v : Int)] pl_8 rfl rfl (ref01_Nat p.u.v (by omega) H22) ?_
      rintro _ w25 ⟨pp23, cc24, rfl, H26⟩
      have H27 : St W w25 (blk bk1 (.cells #[.int .i64 p.kind.v, .int .u64 (p.u.v : Int), .int .i64 p.n.v, .string p.s.v] 40 (0, 0)) :: Row 4 1 (.slice pp23 (sizeU p.u.v) cc24) (sizeU p.u.v) ((natB p.u.v).flatMap blc) :: SinkA b L :: (F.set i emp)) := (((H26.move 2 rfl).move 1 rfl).move 2 rfl)
      refine ⟨Row 4 1 (.slice pp23 (sizeU p.u.v) cc24) (sizeU p.u.v) ((natB p.u.v).flatMap blc) :: SinkA b L :: (F.set i emp), ?_, H27⟩
      change FReg _ _ _ _ _ #[true, true, true, true, true, true, false, false, false, false] _ _
      refine f_all (rs := [6]) (by kernel_rfl) (by simp) ?_
      refine a_cons ⟨_, rfl, ?_⟩ (fun x hx => absurd hx (by simp))
      intro w28 H29
      try dsimp only at H29
      refine s_call [.pointer (some ⟨b, 0, none⟩), .int .u64 (p.u.v : Int)] pl_12 rfl rfl (Sink_Nat b L p.u.v (by omega) (by first | omega | (repeat (first | exact Nat.zero_le _ | assumption | refine putL_le ?_ | refine bitsL_le ?_))) (i := 2) rfl H29) ?_
      rintro _ w30 ⟨rfl, H31⟩
      refine ⟨Row 4 1 (.slice pp23 (sizeU p.u.v) cc24) (sizeU p.u.v) ((natB p.u.v).flatMap blc) :: SinkA b (putL L (natB p.u.v)) :: (F.set i emp), ?_, H31⟩
      change FReg _ _ _ _ _ #[true, true, true, true, true, true, true, false, false, false] _ _
      refine f_first 7 (listed' := #[true, true, true, true, true, true, true, true, false, false]) rfl (by kernel_rfl) (by kernel_rfl) (by kernel_rfl) rfl ?_
      refine f_val rfl rfl rfl (by intro t_ w hw; exact x_assign (.slice pp23 (sizeU p.u.v) cc24) rfl w) ?_
      refine f_first 8 (listed' := #[true, true, true, true, true, true, true, true, true, false]) rfl (by kernel_rfl) (by kernel_rfl) (by kernel_rfl) rfl ?_
      refine f_val rfl rfl rfl (by intro t_ w hw; exact x_assign (.bool true) rfl w) ?_
      refine f_first 9 (listed' := #[true, true, true, true, true, true, true, true, true, true]) rfl (by kernel_rfl) (by kernel_rfl) (by kernel_rfl) rfl ?_
      refine f_val rfl rfl rfl (by intro t_ w hw; exact x_assign (.int .i64 (putE L (sizeU p.u.v : Int))) rfl w) ?_
      refine f_done (by kernel_rfl) ?_
      intro w32 H33
      refine g_ret' [.slice pp23 (sizeU p.u.v) cc24, .bool true, .int .i64 (putE L (sizeU p.u.v : Int))] Try.func20 Try.results20 ⟨rfl, rfl, rfl, trivial⟩ ?_
      have H34 : St W w32 (SinkA b (putL L (natB p.u.v)) :: Row 4 1 (.slice pp23 (sizeU p.u.v) cc24) (sizeU p.u.v) ((natB p.u.v).flatMap blc) :: (F.set i emp)) := (((H33.move 1 rfl).move 2 rfl).drop 2 rfl)
      obtain ⟨e1, e2, e3, e4⟩ := part_x (by omega) (part_1 (by assumption))
      have H35 := St.back (i := i + 1) (l := Row 4 1 (.slice pp23 (sizeU p.u.v) cc24) (sizeU p.u.v) ((natB p.u.v).flatMap blc) :: F) (by exact hi) H34
      refine ⟨_, _, _, by rw [e2, e3]; rw [natB_len]; rfl, ?_, by rw [e1, e4]; exact H35⟩
      rw [e1]; first | rfl | (simp only [natB_len, lowB_len, textB_len]; done) | (simp only [natB_len, lowB_len, textB_len]; omega)
    · skip
      refine r_cons (s_eql false rfl rfl (dfalse hc20) rfl ?_)
      refine r_cons (s_assign (.bool false) rfl rfl ?_)
      refine r_nil ?_
      refine g_false rfl ?_
      refine g_seq ?_
      refine g_region ?_
      by_cases hc36 : p.kind.v = 2
      · skip
        refine r_cons (s_eql true rfl rfl (dtrue hc36) rfl ?_)
        refine r_cons (s_assign (.bool true) rfl rfl ?_)
        refine r_nil ?_
        refine g_true rfl ?_
        refine g_seq ?_
        refine g_mix (fun t_ w => St W w (blk bk1 (.cells #[.int .i64 p.kind.v, .int .u64 (p.u.v : Int), .int .i64 p.n.v, .string p.s.v] 40 (0, 0)) :: t_)) (SinkA b L :: (F.set i emp)) mixed 12 rfl H3.drew ?_
        refine f_first 0 (listed' := #[true, false, false, false, false, false, false, false, false, false, false, false]) rfl (by kernel_rfl) (by kernel_rfl) (by kernel_rfl) rfl ?_
        refine f_val rfl rfl rfl (by intro t_ w hw; exact x_fieldAddr 40 1 1 1 22 rfl fi_40_1 rfl w) ?_
        refine f_first 1 (listed' := #[true, true, false, false, false, false, false, false, false, false, false, false]) rfl (by kernel_rfl) (by kernel_rfl) (by kernel_rfl) rfl ?_
        refine f_val rfl rfl rfl (by intro t_ w hw; exact x_load (.int .u64 (p.u.v : Int)) ag_22 rfl (hw.blk_at (i := 0) rfl) rfl) ?_
        refine f_first 2 (listed' := #[true, true, true, false, false, false, false, false, false, false, false, false]) rfl (by kernel_rfl) (by kernel_rfl) (by kernel_rfl) rfl ?_
        refine f_val rfl rfl rfl (by intro t_ w hw; exact x_conv (s64 p.u.v) rfl us_22 ik_2 (rfl) w) ?_
        refine f_first 4 (listed' := #[true, true, true, false, true, false, false, false, false, false, false, false]) rfl (by kernel_rfl) (by kernel_rfl) (by kernel_rfl) rfl ?_
        refine f_val rfl rfl rfl (by intro t_ w hw; exact x_move (.pointer (some ⟨b, 0, none⟩)) rfl w) ?_
        refine f_first 5 (listed' := #[true, true, true, false, true, true, false, false, false, false, false, false]) rfl (by kernel_rfl) (by kernel_rfl) (by kernel_rfl) rfl ?_
        refine f_val rfl rfl rfl (by intro t_ w hw; exact x_fieldAddr 40 1 1 1 22 rfl fi_40_1 rfl w) ?_
        refine f_first 6 (listed' := #[true, true, true, false, true, true, true, false, false, false, false, false]) rfl (by kernel_rfl) (by kernel_rfl) (by kernel_rfl) rfl ?_
        refine f_val rfl rfl rfl (by intro t_ w hw; exact x_load (.int .u64 (p.u.v : Int)) ag_22 rfl (hw.blk_at (i := 0) rfl) rfl) ?_
        refine f_first 7 (listed' := #[true, true, true, false, true, true, true, true, false, false, false, false]) rfl (by kernel_rfl) (by kernel_rfl) (by kernel_rfl) rfl ?_
        refine f_val rfl rfl rfl (by intro t_ w hw; exact x_conv (s64 p.u.v) rfl us_22 ik_2 (rfl) w) ?_
        refine f_all (rs := [3]) (by kernel_rfl) (by simp) ?_
        refine a_cons ⟨_, rfl, ?_⟩ (fun x hx => absurd hx (by simp))
        intro w37 H38
        try dsimp only at H38
        refine s_call [.int .i64 (s64 p.u.v)] pl_47 rfl rfl (ref01_Num (s64 p.u.v) (by omega) (by omega) H38) ?_
        rintro _ w41 ⟨pp39, cc40, rfl, H42⟩
        have H43 : St W w41 (blk bk1 (.cells #[.int .i64 p.kind.v, .int .u64 (p.u.v : Int), .int .i64 p.n.v, .string p.s.v] 40 (0, 0)) :: Row 4 1 (.slice pp39 (sizeU (zigN (s64 p.u.v))) cc40) (sizeU (zigN (s64 p.u.v))) ((natB (zigN (s64 p.u.v))).flatMap blc) :: SinkA b L :: (F.set i emp)) := (((H42.move 2 rfl).move 1 rfl).move 2 rfl)
        refine ⟨Row 4 1 (.slice pp39 (sizeU (zigN (s64 p.u.v))) cc40) (sizeU (zigN (s64 p.u.v))) ((natB (zigN (s64 p.u.v))).flatMap blc) :: SinkA b L :: (F.set i emp), ?_, H43⟩
        change FReg _ _ _ _ _ #[true, true, true, true, true, true, true, true, false, false, false, false] _ _
        refine f_all (rs := [8]) (by kernel_rfl) (by simp) ?_
        refine a_cons ⟨_, rfl, ?_⟩ (fun x hx => absurd hx (by simp))
        intro w44 H45
        try dsimp only at H45
        refine s_call [.pointer (some ⟨b, 0, none⟩), .int .i64 (s64 p.u.v)] pl_30 rfl rfl (Sink_Num b L (s64 p.u.v) (by omega) (by omega) (by first | omega | (repeat (first | exact Nat.zero_le _ | assumption | refine putL_le ?_ | refine bitsL_le ?_))) (i := 2) rfl H45) ?_
        rintro _ w46 ⟨rfl, H47⟩
        refine ⟨Row 4 1 (.slice pp39 (sizeU (zigN (s64 p.u.v))) cc40) (sizeU (zigN (s64 p.u.v))) ((natB (zigN (s64 p.u.v))).flatMap blc) :: SinkA b (putL L (natB (zigN (s64 p.u.v)))) :: (F.set i emp), ?_, H47⟩
        change FReg _ _ _ _ _ #[true, true, true, true, true, true, true, true, true, false, false, false] _ _
        refine f_first 9 (listed' := #[true, true, true, true, true, true, true, true, true, true, false, false]) rfl (by kernel_rfl) (by kernel_rfl) (by kernel_rfl) rfl ?_
        refine f_val rfl rfl rfl (by intro t_ w hw; exact x_assign (.slice pp39 (sizeU (zigN (s64 p.u.v))) cc40) rfl w) ?_
        refine f_first 10 (listed' := #[true, true, true, true, true, true, true, true, true, true, true, false]) rfl (by kernel_rfl) (by kernel_rfl) (by kernel_rfl) rfl ?_
        refine f_val rfl rfl rfl (by intro t_ w hw; exact x_assign (.bool true) rfl w) ?_
        refine f_first 11 (listed' := #[true, true, true, true, true, true, true, true, true, true, true, true]) rfl (by kernel_rfl) (by kernel_rfl) (by kernel_rfl) rfl ?_
        refine f_val rfl rfl rfl (by intro t_ w hw; exact x_assign (.int .i64 (putE L (sizeU (zigN (s64 p.u.v)) : Int))) rfl w) ?_
        refine f_done (by kernel_rfl) ?_
        intro w48 H49
        refine g_ret' [.slice pp39 (sizeU (zigN (s64 p.u.v))) cc40, .bool true, .int .i64 (putE L (sizeU (zigN (s64 p.u.v)) : Int))] Try.func20 Try.results20 ⟨rfl, rfl, rfl, trivial⟩ ?_
        have H50 : St W w48 (SinkA b (putL L (natB (zigN (s64 p.u.v)))) :: Row 4 1 (.slice pp39 (sizeU (zigN (s64 p.u.v))) cc40) (sizeU (zigN (s64 p.u.v))) ((natB (zigN (s64 p.u.v))).flatMap blc) :: (F.set i emp)) := (((H49.move 1 rfl).move 2 rfl).drop 2 rfl)
        obtain ⟨e1, e2, e3, e4⟩ := part_x (by omega) (part_2 (by assumption))
        have H51 := St.back (i := i + 1) (l := Row 4 1 (.slice pp39 (sizeU (zigN (s64 p.u.v))) cc40) (sizeU (zigN (s64 p.u.v))) ((natB (zigN (s64 p.u.v))).flatMap blc) :: F) (by exact hi) H50
        refine ⟨_, _, _, by rw [e2, e3]; rw [natB_len]; rfl, ?_, by rw [e1, e4]; exact H51⟩
        rw [e1]; first | rfl | (simp only [natB_len, lowB_len, textB_len]; done) | (simp only [natB_len, lowB_len, textB_len]; omega)
      · skip
        refine r_cons (s_eql false rfl rfl (dfalse hc36) rfl ?_)
        refine r_cons (s_assign (.bool false) rfl rfl ?_)
        refine r_nil ?_
        refine g_false rfl ?_
        refine g_seq ?_
        refine g_region ?_
        by_cases hc52 : p.kind.v = 3
        · skip
          refine r_cons (s_eql true rfl rfl (dtrue hc52) rfl ?_)
          refine r_cons (s_assign (.bool true) rfl rfl ?_)
          refine r_nil ?_
          refine g_true rfl ?_
          refine g_seq ?_
          refine g_mix (fun t_ w => St W w (blk bk1 (.cells #[.int .i64 p.kind.v, .int .u64 (p.u.v : Int), .int .i64 p.n.v, .string p.s.v] 40 (0, 0)) :: t_)) (SinkA b L :: (F.set i emp)) mixed 10 rfl H3.drew ?_
          refine f_first 0 (listed' := #[true, false, false, false, false, false, false, false, false, false]) rfl (by kernel_rfl) (by kernel_rfl) (by kernel_rfl) rfl ?_
          refine f_val rfl rfl rfl (by intro t_ w hw; exact x_fieldAddr 40 3 3 3 9 rfl fi_40_3 rfl w) ?_
          refine f_first 1 (listed' := #[true, true, false, false, false, false, false, false, false, false]) rfl (by kernel_rfl) (by kernel_rfl) (by kernel_rfl) rfl ?_
          refine f_val rfl rfl rfl (by intro t_ w hw; exact x_load (.string p.s.v) ag_9 rfl (hw.blk_at (i := 0) rfl) rfl) ?_
          refine f_first 3 (listed' := #[true, true, false, true, false, false, false, false, false, false]) rfl (by kernel_rfl) (by kernel_rfl) (by kernel_rfl) rfl ?_
          refine f_val rfl rfl rfl (by intro t_ w hw; exact x_move (.pointer (some ⟨b, 0, none⟩)) rfl w) ?_
          refine f_first 4 (listed' := #[true, true, false, true, true, false, false, false, false, false]) rfl (by kernel_rfl) (by kernel_rfl) (by kernel_rfl) rfl ?_
          refine f_val rfl rfl rfl (by intro t_ w hw; exact x_fieldAddr 40 3 3 3 9 rfl fi_40_3 rfl w) ?_
          refine f_first 5 (listed' := #[true, true, false, true, true, true, false, false, false, false]) rfl (by kernel_rfl) (by kernel_rfl) (by kernel_rfl) rfl ?_
          refine f_val rfl rfl rfl (by intro t_ w hw; exact x_load (.string p.s.v) ag_9 rfl (hw.blk_at (i := 0) rfl) rfl) ?_
          refine f_all (rs := [2]) (by kernel_rfl) (by simp) ?_
          refine a_cons ⟨_, rfl, ?_⟩ (fun x hx => absurd hx (by simp))
          intro w53 H54
          try dsimp only at H54
          refine s_call [.string p.s.v] pl_48 rfl rfl (ref01_Text p.s.v (by omega) H54) ?_
          rintro _ w57 ⟨pp55, cc56, rfl, H58⟩
          have H59 : St W w57 (blk bk1 (.cells #[.int .i64 p.kind.v, .int .u64 (p.u.v : Int), .int .i64 p.n.v, .string p.s.v] 40 (0, 0)) :: Row 4 1 (.slice pp55 (sizeU p.s.v.size + 8 * p.s.v.size) cc56) (sizeU p.s.v.size + 8 * p.s.v.size) ((textB p.s.v).flatMap blc) :: SinkA b L :: (F.set i emp)) := (((H58.move 2 rfl).move 1 rfl).move 2 rfl)
          refine ⟨Row 4 1 (.slice pp55 (sizeU p.s.v.size + 8 * p.s.v.size) cc56) (sizeU p.s.v.size + 8 * p.s.v.size) ((textB p.s.v).flatMap blc) :: SinkA b L :: (F.set i emp), ?_, H59⟩
          change FReg _ _ _ _ _ #[true, true, true, true, true, true, false, false, false, false] _ _
          refine f_all (rs := [6]) (by kernel_rfl) (by simp) ?_
          refine a_cons ⟨_, rfl, ?_⟩ (fun x hx => absurd hx (by simp))
          intro w60 H61
          try dsimp only at H61
          refine s_call [.pointer (some ⟨b, 0, none⟩), .string p.s.v] pl_31 rfl rfl (Sink_Text b L p.s.v p.s.ok (by first | omega | (repeat (first | exact Nat.zero_le _ | assumption | refine putL_le ?_ | refine bitsL_le ?_))) (i := 2) rfl H61) ?_
          rintro _ w62 ⟨rfl, H63⟩
          refine ⟨Row 4 1 (.slice pp55 (sizeU p.s.v.size + 8 * p.s.v.size) cc56) (sizeU p.s.v.size + 8 * p.s.v.size) ((textB p.s.v).flatMap blc) :: SinkA b (putL L (textB p.s.v)) :: (F.set i emp), ?_, H63⟩
          change FReg _ _ _ _ _ #[true, true, true, true, true, true, true, false, false, false] _ _
          refine f_first 7 (listed' := #[true, true, true, true, true, true, true, true, false, false]) rfl (by kernel_rfl) (by kernel_rfl) (by kernel_rfl) rfl ?_
          refine f_val rfl rfl rfl (by intro t_ w hw; exact x_assign (.slice pp55 (sizeU p.s.v.size + 8 * p.s.v.size) cc56) rfl w) ?_
          refine f_first 8 (listed' := #[true, true, true, true, true, true, true, true, true, false]) rfl (by kernel_rfl) (by kernel_rfl) (by kernel_rfl) rfl ?_
          refine f_val rfl rfl rfl (by intro t_ w hw; exact x_assign (.bool true) rfl w) ?_
          refine f_first 9 (listed' := #[true, true, true, true, true, true, true, true, true, true]) rfl (by kernel_rfl) (by kernel_rfl) (by kernel_rfl) rfl ?_
          refine f_val rfl rfl rfl (by intro t_ w hw; exact x_assign (.int .i64 (putE L ((textB p.s.v).length : Int))) rfl w) ?_
          refine f_done (by kernel_rfl) ?_
          intro w64 H65
          refine g_ret' [.slice pp55 (sizeU p.s.v.size + 8 * p.s.v.size) cc56, .bool true, .int .i64 (putE L ((textB p.s.v).length : Int))] Try.func20 Try.results20 ⟨rfl, rfl, rfl, trivial⟩ ?_
          have H66 : St W w64 (SinkA b (putL L (textB p.s.v)) :: Row 4 1 (.slice pp55 (sizeU p.s.v.size + 8 * p.s.v.size) cc56) (sizeU p.s.v.size + 8 * p.s.v.size) ((textB p.s.v).flatMap blc) :: (F.set i emp)) := (((H65.move 1 rfl).move 2 rfl).drop 2 rfl)
          obtain ⟨e1, e2, e3, e4⟩ := part_x (by omega) (part_3 (by assumption))
          have H67 := St.back (i := i + 1) (l := Row 4 1 (.slice pp55 (sizeU p.s.v.size + 8 * p.s.v.size) cc56) (sizeU p.s.v.size + 8 * p.s.v.size) ((textB p.s.v).flatMap blc) :: F) (by exact hi) H66
          refine ⟨_, _, _, by rw [e2, e3]; rfl, ?_, by rw [e1, e4]; exact H67⟩
          rw [e1]; first | rfl | (simp only [natB_len, lowB_len, textB_len]; done) | (simp only [natB_len, lowB_len, textB_len]; omega)
        · skip
          refine r_cons (s_eql false rfl rfl (dfalse hc52) rfl ?_)
          refine r_cons (s_assign (.bool false) rfl rfl ?_)
          refine r_nil ?_
          refine g_false rfl ?_
          refine g_skip ?_
          refine g_inBlock ?_
          refine g_seq ?_
          refine g_mix (fun t_ w => St W w (blk bk1 (.cells #[.int .i64 p.kind.v, .int .u64 (p.u.v : Int), .int .i64 p.n.v, .string p.s.v] 40 (0, 0)) :: t_)) (SinkA b L :: (F.set i emp)) mixed 19 rfl H3.drew ?_
          refine f_first 0 (listed' := #[true, false, false, false, false, false, false, false, false, false, false, false, false, false, false, false, false, false, false]) rfl (by kernel_rfl) (by kernel_rfl) (by kernel_rfl) rfl ?_
          refine f_val rfl rfl rfl (by intro t_ w hw; exact x_fieldAddr 40 2 2 2 3 rfl fi_40_2 rfl w) ?_
          refine f_first 1 (listed' := #[true, true, false, false, false, false, false, false, false, false, false, false, false, false, false, false, false, false, false]) rfl (by kernel_rfl) (by kernel_rfl) (by kernel_rfl) rfl ?_
          refine f_val rfl rfl rfl (by intro t_ w hw; exact x_load (.int .i64 p.n.v) ag_3 rfl (hw.blk_at (i := 0) rfl) rfl) ?_
          refine f_first 2 (listed' := #[true, true, true, false, false, false, false, false, false, false, false, false, false, false, false, false, false, false, false]) rfl (by kernel_rfl) (by kernel_rfl) (by kernel_rfl) rfl ?_
          refine f_val rfl rfl rfl (by intro t_ w hw; exact x_gtr (decide ((0 : Int) < p.n.v)) rfl rfl rfl w) ?_
          refine f_first 3 (listed' := #[true, true, true, true, false, false, false, false, false, false, false, false, false, false, false, false, false, false, false]) rfl (by kernel_rfl) (by kernel_rfl) (by kernel_rfl) rfl ?_
          refine f_val rfl rfl rfl (by intro t_ w hw; exact x_fieldAddr 40 1 1 1 22 rfl fi_40_1 rfl w) ?_
          refine f_first 4 (listed' := #[true, true, true, true, true, false, false, false, false, false, false, false, false, false, false, false, false, false, false]) rfl (by kernel_rfl) (by kernel_rfl) (by kernel_rfl) rfl ?_
          refine f_val rfl rfl rfl (by intro t_ w hw; exact x_load (.int .u64 (p.u.v : Int)) ag_22 rfl (hw.blk_at (i := 0) rfl) rfl) ?_
          refine f_first 5 (listed' := #[true, true, true, true, true, true, false, false, false, false, false, false, false, false, false, false, false, false, false]) rfl (by kernel_rfl) (by kernel_rfl) (by kernel_rfl) rfl ?_
          refine f_val rfl rfl rfl (by intro t_ w hw; exact x_gtr (decide ((0 : Int) < (p.u.v : Int))) rfl rfl rfl w) ?_
          refine f_first 7 (listed' := #[true, true, true, true, true, true, false, true, false, false, false, false, false, false, false, false, false, false, false]) rfl (by kernel_rfl) (by kernel_rfl) (by kernel_rfl) rfl ?_
          refine f_val rfl rfl rfl (by intro t_ w hw; exact x_move (.pointer (some ⟨b, 0, none⟩)) rfl w) ?_
          refine f_first 8 (listed' := #[true, true, true, true, true, true, false, true, true, false, false, false, false, false, false, false, false, false, false]) rfl (by kernel_rfl) (by kernel_rfl) (by kernel_rfl) rfl ?_
          refine f_val rfl rfl rfl (by intro t_ w hw; exact x_fieldAddr 40 2 2 2 3 rfl fi_40_2 rfl w) ?_
          refine f_first 9 (listed' := #[true, true, true, true, true, true, false, true, true, true, false, false, false, false, false, false, false, false, false]) rfl (by kernel_rfl) (by kernel_rfl) (by kernel_rfl) rfl ?_
          refine f_val rfl rfl rfl (by intro t_ w hw; exact x_load (.int .i64 p.n.v) ag_3 rfl (hw.blk_at (i := 0) rfl) rfl) ?_
          refine f_first 10 (listed' := #[true, true, true, true, true, true, false, true, true, true, true, false, false, false, false, false, false, false, false]) rfl (by kernel_rfl) (by kernel_rfl) (by kernel_rfl) rfl ?_
          refine f_val rfl rfl rfl (by intro t_ w hw; exact x_gtr (decide ((0 : Int) < p.n.v)) rfl rfl rfl w) ?_
          refine f_first 11 (listed' := #[true, true, true, true, true, true, false, true, true, true, true, true, false, false, false, false, false, false, false]) rfl (by kernel_rfl) (by kernel_rfl) (by kernel_rfl) rfl ?_
          refine f_val rfl rfl rfl (by intro t_ w hw; exact x_fieldAddr 40 1 1 1 22 rfl fi_40_1 rfl w) ?_
          refine f_first 12 (listed' := #[true, true, true, true, true, true, false, true, true, true, true, true, true, false, false, false, false, false, false]) rfl (by kernel_rfl) (by kernel_rfl) (by kernel_rfl) rfl ?_
          refine f_val rfl rfl rfl (by intro t_ w hw; exact x_load (.int .u64 (p.u.v : Int)) ag_22 rfl (hw.blk_at (i := 0) rfl) rfl) ?_
          refine f_first 13 (listed' := #[true, true, true, true, true, true, false, true, true, true, true, true, true, true, false, false, false, false, false]) rfl (by kernel_rfl) (by kernel_rfl) (by kernel_rfl) rfl ?_
          refine f_val rfl rfl rfl (by intro t_ w hw; exact x_gtr (decide ((0 : Int) < (p.u.v : Int))) rfl rfl rfl w) ?_
          refine f_all (rs := [6, 14]) (by kernel_rfl) (by simp) ?_
          refine a_cons ⟨_, rfl, ?_⟩ (a_cons ⟨_, rfl, ?_⟩ (fun x hx => absurd hx (by simp)))
          · skip
            intro w68 H69
            try dsimp only at H69
            refine s_buildSlice H69 1 2 (cs := #[.bool (decide ((0 : Int) < p.n.v)), .bool (decide ((0 : Int) < (p.u.v : Int)))]) #[.bool false] el_23 ze_4 (by decide) (by decide) (by kernel_rfl) rfl ?_; intro bk70 w71 H72
            have H73 : St W w71 (blk bk1 (.cells #[.int .i64 p.kind.v, .int .u64 (p.u.v : Int), .int .i64 p.n.v, .string p.s.v] 40 (0, 0)) :: blk bk70 (.cells #[.bool (decide ((0 : Int) < p.n.v)), .bool (decide ((0 : Int) < (p.u.v : Int)))] 4 (0, 0)) :: SinkA b L :: (F.set i emp)) := (((H72.move 2 rfl).move 1 rfl).move 2 rfl)
            refine ⟨blk bk70 (.cells #[.bool (decide ((0 : Int) < p.n.v)), .bool (decide ((0 : Int) < (p.u.v : Int)))] 4 (0, 0)) :: SinkA b L :: (F.set i emp), ?_, H73⟩
            change FReg _ _ _ _ _ #[true, true, true, true, true, true, true, true, true, true, true, true, true, true, false, false, false, false, false] _ _
            refine f_all (rs := [14]) (by kernel_rfl) (by simp) ?_
            refine a_cons ⟨_, rfl, ?_⟩ (fun x hx => absurd hx (by simp))
            intro w74 H75
            try dsimp only at H75
            refine s_buildSlice H75 1 2 (cs := #[.bool (decide ((0 : Int) < p.n.v)), .bool (decide ((0 : Int) < (p.u.v : Int)))]) #[.bool false] el_23 ze_4 (by decide) (by decide) (by kernel_rfl) rfl ?_; intro bk76 w77 H78
            have H79 : St W w77 (blk bk1 (.cells #[.int .i64 p.kind.v, .int .u64 (p.u.v : Int), .int .i64 p.n.v, .string p.s.v] 40 (0, 0)) :: blk bk76 (.cells #[.bool (decide ((0 : Int) < p.n.v)), .bool (decide ((0 : Int) < (p.u.v : Int)))] 4 (0, 0)) :: blk bk70 (.cells #[.bool (decide ((0 : Int) < p.n.v)), .bool (decide ((0 : Int) < (p.u.v : Int)))] 4 (0, 0)) :: SinkA b L :: (F.set i emp)) := ((((H78.move 3 rfl).move 3 rfl).move 2 rfl).move 3 rfl)
            refine ⟨blk bk76 (.cells #[.bool (decide ((0 : Int) < p.n.v)), .bool (decide ((0 : Int) < (p.u.v : Int)))] 4 (0, 0)) :: blk bk70 (.cells #[.bool (decide ((0 : Int) < p.n.v)), .bool (decide ((0 : Int) < (p.u.v : Int)))] 4 (0, 0)) :: SinkA b L :: (F.set i emp), ?_, H79⟩
            change FReg _ _ _ _ _ #[true, true, true, true, true, true, true, true, true, true, true, true, true, true, true, false, false, false, false] _ _
            refine f_all (rs := [15]) (by kernel_rfl) (by simp) ?_
            refine a_cons ⟨_, rfl, ?_⟩ (fun x hx => absurd hx (by simp))
            intro w80 H81
            try dsimp only at H81
            have H83 : St W w80 (blk bk1 (.cells #[.int .i64 p.kind.v, .int .u64 (p.u.v : Int), .int .i64 p.n.v, .string p.s.v] 40 (0, 0)) :: Im 1 (.slice (some ⟨bk76, 0, none⟩) 2 2) 2 ([decide ((0 : Int) < p.n.v), decide ((0 : Int) < (p.u.v : Int))].flatMap blc) :: blk bk70 (.cells #[.bool (decide ((0 : Int) < p.n.v)), .bool (decide ((0 : Int) < (p.u.v : Int)))] 4 (0, 0)) :: SinkA b L :: (F.set i emp)) := Row.im (Row.of_blk (n := 2) (size := 1) H81 (i := 1) rfl (by unfold maxLen; omega) (by simp) (by simp [Value.oneCell'])) (i := 1) rfl
            refine s_call [.pointer (some ⟨b, 0, none⟩), .slice (some ⟨bk76, 0, none⟩) 2 2] pl_32 rfl rfl (Sink_Flags b L [decide ((0 : Int) < p.n.v), decide ((0 : Int) < (p.u.v : Int))] (.slice (some ⟨bk76, 0, none⟩) 2 2) (by first | omega | (repeat (first | exact Nat.zero_le _ | assumption | refine putL_le ?_ | refine bitsL_le ?_))) (j := 1) rfl (i := 3) rfl H83) ?_
            rintro _ w84 ⟨rfl, H85⟩
            refine ⟨Im 1 (.slice (some ⟨bk76, 0, none⟩) 2 2) 2 ([decide ((0 : Int) < p.n.v), decide ((0 : Int) < (p.u.v : Int))].flatMap blc) :: blk bk70 (.cells #[.bool (decide ((0 : Int) < p.n.v)), .bool (decide ((0 : Int) < (p.u.v : Int)))] 4 (0, 0)) :: SinkA b (putL L [decide ((0 : Int) < p.n.v), decide ((0 : Int) < (p.u.v : Int))]) :: (F.set i emp), ?_, H85⟩
            change FReg _ _ _ _ _ #[true, true, true, true, true, true, true, true, true, true, true, true, true, true, true, true, false, false, false] _ _
            refine f_first 16 (listed' := #[true, true, true, true, true, true, true, true, true, true, true, true, true, true, true, true, true, false, false]) rfl (by kernel_rfl) (by kernel_rfl) (by kernel_rfl) rfl ?_
            refine f_val rfl rfl rfl (by intro t_ w hw; exact x_assign (.slice (some ⟨bk70, 0, none⟩) 2 2) rfl w) ?_
            refine f_first 17 (listed' := #[true, true, true, true, true, true, true, true, true, true, true, true, true, true, true, true, true, true, false]) rfl (by kernel_rfl) (by kernel_rfl) (by kernel_rfl) rfl ?_
            refine f_val rfl rfl rfl (by intro t_ w hw; exact x_assign (.bool true) rfl w) ?_
            refine f_first 18 (listed' := #[true, true, true, true, true, true, true, true, true, true, true, true, true, true, true, true, true, true, true]) rfl (by kernel_rfl) (by kernel_rfl) (by kernel_rfl) rfl ?_
            refine f_val rfl rfl rfl (by intro t_ w hw; exact x_assign (.int .i64 (putE L ([decide ((0 : Int) < p.n.v), decide ((0 : Int) < (p.u.v : Int))].length : Int))) rfl w) ?_
            refine f_done (by kernel_rfl) ?_
            intro w86 H87
            refine g_ret' [.slice (some ⟨bk70, 0, none⟩) 2 2, .bool true, .int .i64 (putE L ([decide ((0 : Int) < p.n.v), decide ((0 : Int) < (p.u.v : Int))].length : Int))] Try.func20 Try.results20 ⟨rfl, rfl, rfl, trivial⟩ ?_
            have H88 : St W w86 (blk bk1 (.cells #[.int .i64 p.kind.v, .int .u64 (p.u.v : Int), .int .i64 p.n.v, .string p.s.v] 40 (0, 0)) :: Im 1 (.slice (some ⟨bk76, 0, none⟩) 2 2) 2 ([decide ((0 : Int) < p.n.v), decide ((0 : Int) < (p.u.v : Int))].flatMap blc) :: Row 4 1 (.slice (some ⟨bk70, 0, none⟩) 2 2) 2 [.bool (decide ((0 : Int) < p.n.v)), .bool (decide ((0 : Int) < (p.u.v : Int)))] :: SinkA b (putL L [decide ((0 : Int) < p.n.v), decide ((0 : Int) < (p.u.v : Int))]) :: (F.set i emp)) := Row.of_blk (n := 2) (size := 1) H87 (i := 2) rfl (by unfold maxLen; omega) (by simp) (by simp [Value.oneCell'])
            have H89 : St W w86 (SinkA b (putL L [decide ((0 : Int) < p.n.v), decide ((0 : Int) < (p.u.v : Int))]) :: Row 4 1 (.slice (some ⟨bk70, 0, none⟩) 2 2) 2 [.bool (decide ((0 : Int) < p.n.v)), .bool (decide ((0 : Int) < (p.u.v : Int)))] :: (F.set i emp)) := ((((H88.move 2 rfl).move 3 rfl).drop 2 rfl).drop 2 rfl)
            obtain ⟨e1, e2, e3, e4⟩ := part_x (by omega) (part_4 (by assumption) (by assumption) (by assumption) (by assumption))
            have H90 := St.back (i := i + 1) (l := Row 4 1 (.slice (some ⟨bk70, 0, none⟩) 2 2) 2 [.bool (decide ((0 : Int) < p.n.v)), .bool (decide ((0 : Int) < (p.u.v : Int)))] :: F) (by exact hi) H89
            refine ⟨_, _, _, by rw [e2, e3]; rfl, ?_, by rw [e1, e4]; exact H90⟩
            rw [e1]; first | rfl | (simp only [natB_len, lowB_len, textB_len]; done) | (simp only [natB_len, lowB_len, textB_len]; omega)
          · skip
            intro w91 H92
            try dsimp only at H92
            refine s_buildSlice H92 1 2 (cs := #[.bool (decide ((0 : Int) < p.n.v)), .bool (decide ((0 : Int) < (p.u.v : Int)))]) #[.bool false] el_23 ze_4 (by decide) (by decide) (by kernel_rfl) rfl ?_; intro bk93 w94 H95
            have H96 : St W w94 (blk bk1 (.cells #[.int .i64 p.kind.v, .int .u64 (p.u.v : Int), .int .i64 p.n.v, .string p.s.v] 40 (0, 0)) :: blk bk93 (.cells #[.bool (decide ((0 : Int) < p.n.v)), .bool (decide ((0 : Int) < (p.u.v : Int)))] 4 (0, 0)) :: SinkA b L :: (F.set i emp)) := (((H95.move 2 rfl).move 1 rfl).move 2 rfl)
            refine ⟨blk bk93 (.cells #[.bool (decide ((0 : Int) < p.n.v)), .bool (decide ((0 : Int) < (p.u.v : Int)))] 4 (0, 0)) :: SinkA b L :: (F.set i emp), ?_, H96⟩
            change FReg _ _ _ _ _ #[true, true, true, true, true, true, false, true, true, true, true, true, true, true, true, false, false, false, false] _ _
            refine f_all (rs := [6, 15]) (by kernel_rfl) (by simp) ?_
            refine a_cons ⟨_, rfl, ?_⟩ (a_cons ⟨_, rfl, ?_⟩ (fun x hx => absurd hx (by simp)))
            · skip
              intro w97 H98
              try dsimp only at H98
              refine s_buildSlice H98 1 2 (cs := #[.bool (decide ((0 : Int) < p.n.v)), .bool (decide ((0 : Int) < (p.u.v : Int)))]) #[.bool false] el_23 ze_4 (by decide) (by decide) (by kernel_rfl) rfl ?_; intro bk99 w100 H101
              have H102 : St W w100 (blk bk1 (.cells #[.int .i64 p.kind.v, .int .u64 (p.u.v : Int), .int .i64 p.n.v, .string p.s.v] 40 (0, 0)) :: blk bk99 (.cells #[.bool (decide ((0 : Int) < p.n.v)), .bool (decide ((0 : Int) < (p.u.v : Int)))] 4 (0, 0)) :: blk bk93 (.cells #[.bool (decide ((0 : Int) < p.n.v)), .bool (decide ((0 : Int) < (p.u.v : Int)))] 4 (0, 0)) :: SinkA b L :: (F.set i emp)) := ((((H101.move 3 rfl).move 3 rfl).move 2 rfl).move 3 rfl)
              refine ⟨blk bk99 (.cells #[.bool (decide ((0 : Int) < p.n.v)), .bool (decide ((0 : Int) < (p.u.v : Int)))] 4 (0, 0)) :: blk bk93 (.cells #[.bool (decide ((0 : Int) < p.n.v)), .bool (decide ((0 : Int) < (p.u.v : Int)))] 4 (0, 0)) :: SinkA b L :: (F.set i emp), ?_, H102⟩
              change FReg _ _ _ _ _ #[true, true, true, true, true, true, true, true, true, true, true, true, true, true, true, false, false, false, false] _ _
              refine f_all (rs := [15]) (by kernel_rfl) (by simp) ?_
              refine a_cons ⟨_, rfl, ?_⟩ (fun x hx => absurd hx (by simp))
              intro w103 H104
              try dsimp only at H104
              have H106 : St W w103 (blk bk1 (.cells #[.int .i64 p.kind.v, .int .u64 (p.u.v : Int), .int .i64 p.n.v, .string p.s.v] 40 (0, 0)) :: blk bk99 (.cells #[.bool (decide ((0 : Int) < p.n.v)), .bool (decide ((0 : Int) < (p.u.v : Int)))] 4 (0, 0)) :: Im 1 (.slice (some ⟨bk93, 0, none⟩) 2 2) 2 ([decide ((0 : Int) < p.n.v), decide ((0 : Int) < (p.u.v : Int))].flatMap blc) :: SinkA b L :: (F.set i emp)) := Row.im (Row.of_blk (n := 2) (size := 1) H104 (i := 2) rfl (by unfold maxLen; omega) (by simp) (by simp [Value.oneCell'])) (i := 2) rfl
              refine s_call [.pointer (some ⟨b, 0, none⟩), .slice (some ⟨bk93, 0, none⟩) 2 2] pl_32 rfl rfl (Sink_Flags b L [decide ((0 : Int) < p.n.v), decide ((0 : Int) < (p.u.v : Int))] (.slice (some ⟨bk93, 0, none⟩) 2 2) (by first | omega | (repeat (first | exact Nat.zero_le _ | assumption | refine putL_le ?_ | refine bitsL_le ?_))) (j := 2) rfl (i := 3) rfl H106) ?_
              rintro _ w107 ⟨rfl, H108⟩
              refine ⟨blk bk99 (.cells #[.bool (decide ((0 : Int) < p.n.v)), .bool (decide ((0 : Int) < (p.u.v : Int)))] 4 (0, 0)) :: Im 1 (.slice (some ⟨bk93, 0, none⟩) 2 2) 2 ([decide ((0 : Int) < p.n.v), decide ((0 : Int) < (p.u.v : Int))].flatMap blc) :: SinkA b (putL L [decide ((0 : Int) < p.n.v), decide ((0 : Int) < (p.u.v : Int))]) :: (F.set i emp), ?_, H108⟩
              change FReg _ _ _ _ _ #[true, true, true, true, true, true, true, true, true, true, true, true, true, true, true, true, false, false, false] _ _
              refine f_first 16 (listed' := #[true, true, true, true, true, true, true, true, true, true, true, true, true, true, true, true, true, false, false]) rfl (by kernel_rfl) (by kernel_rfl) (by kernel_rfl) rfl ?_
              refine f_val rfl rfl rfl (by intro t_ w hw; exact x_assign (.slice (some ⟨bk99, 0, none⟩) 2 2) rfl w) ?_
              refine f_first 17 (listed' := #[true, true, true, true, true, true, true, true, true, true, true, true, true, true, true, true, true, true, false]) rfl (by kernel_rfl) (by kernel_rfl) (by kernel_rfl) rfl ?_
              refine f_val rfl rfl rfl (by intro t_ w hw; exact x_assign (.bool true) rfl w) ?_
              refine f_first 18 (listed' := #[true, true, true, true, true, true, true, true, true, true, true, true, true, true, true, true, true, true, true]) rfl (by kernel_rfl) (by kernel_rfl) (by kernel_rfl) rfl ?_
              refine f_val rfl rfl rfl (by intro t_ w hw; exact x_assign (.int .i64 (putE L ([decide ((0 : Int) < p.n.v), decide ((0 : Int) < (p.u.v : Int))].length : Int))) rfl w) ?_
              refine f_done (by kernel_rfl) ?_
              intro w109 H110
              refine g_ret' [.slice (some ⟨bk99, 0, none⟩) 2 2, .bool true, .int .i64 (putE L ([decide ((0 : Int) < p.n.v), decide ((0 : Int) < (p.u.v : Int))].length : Int))] Try.func20 Try.results20 ⟨rfl, rfl, rfl, trivial⟩ ?_
              have H111 : St W w109 (blk bk1 (.cells #[.int .i64 p.kind.v, .int .u64 (p.u.v : Int), .int .i64 p.n.v, .string p.s.v] 40 (0, 0)) :: Row 4 1 (.slice (some ⟨bk99, 0, none⟩) 2 2) 2 [.bool (decide ((0 : Int) < p.n.v)), .bool (decide ((0 : Int) < (p.u.v : Int)))] :: Im 1 (.slice (some ⟨bk93, 0, none⟩) 2 2) 2 ([decide ((0 : Int) < p.n.v), decide ((0 : Int) < (p.u.v : Int))].flatMap blc) :: SinkA b (putL L [decide ((0 : Int) < p.n.v), decide ((0 : Int) < (p.u.v : Int))]) :: (F.set i emp)) := Row.of_blk (n := 2) (size := 1) H110 (i := 1) rfl (by unfold maxLen; omega) (by simp) (by simp [Value.oneCell'])
              have H112 : St W w109 (SinkA b (putL L [decide ((0 : Int) < p.n.v), decide ((0 : Int) < (p.u.v : Int))]) :: Row 4 1 (.slice (some ⟨bk99, 0, none⟩) 2 2) 2 [.bool (decide ((0 : Int) < p.n.v)), .bool (decide ((0 : Int) < (p.u.v : Int)))] :: (F.set i emp)) := ((((H111.move 1 rfl).move 3 rfl).drop 2 rfl).drop 2 rfl)
              obtain ⟨e1, e2, e3, e4⟩ := part_x (by omega) (part_4 (by assumption) (by assumption) (by assumption) (by assumption))
              have H113 := St.back (i := i + 1) (l := Row 4 1 (.slice (some ⟨bk99, 0, none⟩) 2 2) 2 [.bool (decide ((0 : Int) < p.n.v)), .bool (decide ((0 : Int) < (p.u.v : Int)))] :: F) (by exact hi) H112
              refine ⟨_, _, _, by rw [e2, e3]; rfl, ?_, by rw [e1, e4]; exact H113⟩
              rw [e1]; first | rfl | (simp only [natB_len, lowB_len, textB_len]; done) | (simp only [natB_len, lowB_len, textB_len]; omega)
            · skip
              intro w114 H115
              try dsimp only at H115
              have H117 : St W w114 (blk bk1 (.cells #[.int .i64 p.kind.v, .int .u64 (p.u.v : Int), .int .i64 p.n.v, .string p.s.v] 40 (0, 0)) :: Im 1 (.slice (some ⟨bk93, 0, none⟩) 2 2) 2 ([decide ((0 : Int) < p.n.v), decide ((0 : Int) < (p.u.v : Int))].flatMap blc) :: SinkA b L :: (F.set i emp)) := Row.im (Row.of_blk (n := 2) (size := 1) H115 (i := 1) rfl (by unfold maxLen; omega) (by simp) (by simp [Value.oneCell'])) (i := 1) rfl
              refine s_call [.pointer (some ⟨b, 0, none⟩), .slice (some ⟨bk93, 0, none⟩) 2 2] pl_32 rfl rfl (Sink_Flags b L [decide ((0 : Int) < p.n.v), decide ((0 : Int) < (p.u.v : Int))] (.slice (some ⟨bk93, 0, none⟩) 2 2) (by first | omega | (repeat (first | exact Nat.zero_le _ | assumption | refine putL_le ?_ | refine bitsL_le ?_))) (j := 1) rfl (i := 2) rfl H117) ?_
              rintro _ w118 ⟨rfl, H119⟩
              refine ⟨Im 1 (.slice (some ⟨bk93, 0, none⟩) 2 2) 2 ([decide ((0 : Int) < p.n.v), decide ((0 : Int) < (p.u.v : Int))].flatMap blc) :: SinkA b (putL L [decide ((0 : Int) < p.n.v), decide ((0 : Int) < (p.u.v : Int))]) :: (F.set i emp), ?_, H119⟩
              change FReg _ _ _ _ _ #[true, true, true, true, true, true, false, true, true, true, true, true, true, true, true, true, false, false, false] _ _
              refine f_all (rs := [6]) (by kernel_rfl) (by simp) ?_
              refine a_cons ⟨_, rfl, ?_⟩ (fun x hx => absurd hx (by simp))
              intro w120 H121
              try dsimp only at H121
              refine s_buildSlice H121 1 2 (cs := #[.bool (decide ((0 : Int) < p.n.v)), .bool (decide ((0 : Int) < (p.u.v : Int)))]) #[.bool false] el_23 ze_4 (by decide) (by decide) (by kernel_rfl) rfl ?_; intro bk122 w123 H124
              have H125 : St W w123 (blk bk1 (.cells #[.int .i64 p.kind.v, .int .u64 (p.u.v : Int), .int .i64 p.n.v, .string p.s.v] 40 (0, 0)) :: blk bk122 (.cells #[.bool (decide ((0 : Int) < p.n.v)), .bool (decide ((0 : Int) < (p.u.v : Int)))] 4 (0, 0)) :: Im 1 (.slice (some ⟨bk93, 0, none⟩) 2 2) 2 ([decide ((0 : Int) < p.n.v), decide ((0 : Int) < (p.u.v : Int))].flatMap blc) :: SinkA b (putL L [decide ((0 : Int) < p.n.v), decide ((0 : Int) < (p.u.v : Int))]) :: (F.set i emp)) := ((((H124.move 3 rfl).move 3 rfl).move 2 rfl).move 3 rfl)
              refine ⟨blk bk122 (.cells #[.bool (decide ((0 : Int) < p.n.v)), .bool (decide ((0 : Int) < (p.u.v : Int)))] 4 (0, 0)) :: Im 1 (.slice (some ⟨bk93, 0, none⟩) 2 2) 2 ([decide ((0 : Int) < p.n.v), decide ((0 : Int) < (p.u.v : Int))].flatMap blc) :: SinkA b (putL L [decide ((0 : Int) < p.n.v), decide ((0 : Int) < (p.u.v : Int))]) :: (F.set i emp), ?_, H125⟩
              change FReg _ _ _ _ _ #[true, true, true, true, true, true, true, true, true, true, true, true, true, true, true, true, false, false, false] _ _
              refine f_first 16 (listed' := #[true, true, true, true, true, true, true, true, true, true, true, true, true, true, true, true, true, false, false]) rfl (by kernel_rfl) (by kernel_rfl) (by kernel_rfl) rfl ?_
              refine f_val rfl rfl rfl (by intro t_ w hw; exact x_assign (.slice (some ⟨bk122, 0, none⟩) 2 2) rfl w) ?_
              refine f_first 17 (listed' := #[true, true, true, true, true, true, true, true, true, true, true, true, true, true, true, true, true, true, false]) rfl (by kernel_rfl) (by kernel_rfl) (by kernel_rfl) rfl ?_
              refine f_val rfl rfl rfl (by intro t_ w hw; exact x_assign (.bool true) rfl w) ?_
              refine f_first 18 (listed' := #[true, true, true, true, true, true, true, true, true, true, true, true, true, true, true, true, true, true, true]) rfl (by kernel_rfl) (by kernel_rfl) (by kernel_rfl) rfl ?_
              refine f_val rfl rfl rfl (by intro t_ w hw; exact x_assign (.int .i64 (putE L ([decide ((0 : Int) < p.n.v), decide ((0 : Int) < (p.u.v : Int))].length : Int))) rfl w) ?_
              refine f_done (by kernel_rfl) ?_
              intro w126 H127
              refine g_ret' [.slice (some ⟨bk122, 0, none⟩) 2 2, .bool true, .int .i64 (putE L ([decide ((0 : Int) < p.n.v), decide ((0 : Int) < (p.u.v : Int))].length : Int))] Try.func20 Try.results20 ⟨rfl, rfl, rfl, trivial⟩ ?_
              have H128 : St W w126 (blk bk1 (.cells #[.int .i64 p.kind.v, .int .u64 (p.u.v : Int), .int .i64 p.n.v, .string p.s.v] 40 (0, 0)) :: Row 4 1 (.slice (some ⟨bk122, 0, none⟩) 2 2) 2 [.bool (decide ((0 : Int) < p.n.v)), .bool (decide ((0 : Int) < (p.u.v : Int)))] :: Im 1 (.slice (some ⟨bk93, 0, none⟩) 2 2) 2 ([decide ((0 : Int) < p.n.v), decide ((0 : Int) < (p.u.v : Int))].flatMap blc) :: SinkA b (putL L [decide ((0 : Int) < p.n.v), decide ((0 : Int) < (p.u.v : Int))]) :: (F.set i emp)) := Row.of_blk (n := 2) (size := 1) H127 (i := 1) rfl (by unfold maxLen; omega) (by simp) (by simp [Value.oneCell'])
              have H129 : St W w126 (SinkA b (putL L [decide ((0 : Int) < p.n.v), decide ((0 : Int) < (p.u.v : Int))]) :: Row 4 1 (.slice (some ⟨bk122, 0, none⟩) 2 2) 2 [.bool (decide ((0 : Int) < p.n.v)), .bool (decide ((0 : Int) < (p.u.v : Int)))] :: (F.set i emp)) := ((((H128.move 1 rfl).move 3 rfl).drop 2 rfl).drop 2 rfl)
              obtain ⟨e1, e2, e3, e4⟩ := part_x (by omega) (part_4 (by assumption) (by assumption) (by assumption) (by assumption))
              have H130 := St.back (i := i + 1) (l := Row 4 1 (.slice (some ⟨bk122, 0, none⟩) 2 2) 2 [.bool (decide ((0 : Int) < p.n.v)), .bool (decide ((0 : Int) < (p.u.v : Int)))] :: F) (by exact hi) H129
              refine ⟨_, _, _, by rw [e2, e3]; rfl, ?_, by rw [e1, e4]; exact H130⟩
              rw [e1]; first | rfl | (simp only [natB_len, lowB_len, textB_len]; done) | (simp only [natB_len, lowB_len, textB_len]; omega)
set_option maxHeartbeats 4000000 in
set_option maxRecDepth 100000 in
theorem BitsBack_ {W w : World} {F : List Atom} (l : List PartV) (lv : Value) (hm : l.length ≤ 1099511627776) (hl : ∀ k, k < l.length → (l.getD k default).s.v.size ≤ 1099511627776) {j : Nat} (hj : F[j]? = some (Im 4 lv l.length (l.flatMap partCell))) (H : St W w F) : Calls Try.prog 6 #[lv] w (Ret fun v w' => v = .bool true ∧ St W w' F) := by
  obtain ⟨pA1, cA2, gA3, oA4, kA5, eA6, zA7, rfl, hn8, hp9, hx10, hs11, hml, H12⟩ := Im.open_ H hj
  refine calls_of_go (n := 165) Try.func6 rfl Try.ntmps6 rfl ?_
  refine g_seq ?_
  refine g_region ?_
  refine r_cons (s_assign (.bool false) rfl rfl ?_)
  refine r_nil ?_
  refine g_seq ?_
  refine g_region ?_
  refine r_cons (s_call [] pl_11 rfl rfl (NewSink H12) ?_)
  rintro _ w14 ⟨bk13, rfl, H15⟩
  refine r_cons (s_assign (.pointer (some ⟨bk13, 0, none⟩)) rfl rfl ?_)
  refine r_nil ?_
  refine g_seq ?_
  refine g_seq ?_
  refine g_region ?_
  refine r_cons (s_move (.pointer (some ⟨bk13, 0, none⟩)) rfl rfl ?_)
  refine r_cons (s_peql false un_27 rfl rfl rfl rfl ?_)
  refine r_cons (s_move (.bool false) rfl rfl ?_)
  refine r_cons (r_take rfl rfl ?_)
  refine s_call [] pl_9 rfl rfl (live01 H15) ?_
  rintro _ w16 ⟨rfl, H17⟩
  refine r_cons (r_take rfl rfl ?_)
  refine s_not true rfl false rfl rfl ?_
  refine r_cons (s_pick_f (.bool false) rfl rfl rfl ?_)
  refine r_nil ?_
  refine g_false rfl ?_
  refine g_skip ?_
  refine g_seq ?_
  refine g_region ?_
  refine r_cons (s_assign (.slice none 0 0) rfl rfl ?_)
  refine r_nil ?_
  refine g_seq ?_
  refine g_seq ?_
  refine g_region ?_
  refine r_cons (s_move (.slice pA1 l.length cA2) rfl rfl ?_)
  refine r_cons (s_len l.length rfl ⟨_, un_34⟩ rfl ?_)
  refine r_cons (s_move (.int .i64 0) rfl rfl ?_)
  refine r_nil ?_
  refine g_block ?_
  have H18 := Row.nil_intro H17 40 4
  have H19 : St W w16 (Row 40 4 (.slice none 0 0) 0 [] :: SinkA bk13 [] :: imi (0 < l.length) gA3 (.cells kA5 eA6 zA7) :: F) := (((H18.move 2 rfl).move 2 rfl).move 2 rfl)
  refine g_loop_inv (fun (x : Nat × (List PartV) × (Option Addr) × Nat) => match x with | (i, th, pq, cq) => [(2, .bool false), (3, .pointer (some ⟨bk13, 0, none⟩)), (4, .slice pq th.length cq), (33, .slice pA1 l.length cA2), (34, .int .i64 (l.length : Int)), (35, .int .i64 (i : Int))]) (fun (x : Nat × (List PartV) × (Option Addr) × Nat) w => match x with | (i, th, pq, cq) => (i ≤ l.length) ∧ (th.length ≤ i) ∧ (∀ x ∈ th, partMay x = true ∧ x.s.v.size ≤ 1099511627776) ∧ ((th.flatMap partB).length ≤ 1048576) ∧ St W w (Row 40 4 (.slice pq th.length cq) th.length (th.flatMap partCell) :: SinkA bk13 (th.flatMap partB) :: imi (0 < l.length) gA3 (.cells kA5 eA6 zA7) :: F)) (fun (x : Nat × (List PartV) × (Option Addr) × Nat) => match x with | (i, th, pq, cq) => l.length - i) (0, [], none, 0) ?_ ?_ ?_
  · exact ⟨by first | rfl | exact vint (by omega), by first | rfl | exact vint (by omega), by first | rfl | exact vint (by omega), by first | rfl | exact vint (by omega), by first | rfl | exact vint (by omega), by first | rfl | exact vint (by omega), trivial⟩
  · exact ⟨(by omega), (by simp), (fun x hx => (nomatch hx)), (by simp), H19⟩
  · rintro ⟨i, th, pq, cq⟩ ρ20 w21 ⟨hi, hnt, hth, hL, H22⟩ nx23
    change Ends _ _ (upds ρ20 [(2, .bool false), (3, .pointer (some ⟨bk13, 0, none⟩)), (4, .slice pq th.length cq), (33, .slice pA1 l.length cA2), (34, .int .i64 (l.length : Int)), (35, .int .i64 (i : Int))]) w21
    refine g_seq ?_
    refine g_region ?_
    by_cases hc24 : (i : Int) < (l.length : Int)
    · skip
      refine r_cons (s_lss true rfl rfl (dtrue hc24) rfl ?_)
      refine r_nil ?_
      refine g_seq ?_
      refine g_true rfl ?_
      refine g_skip ?_
      refine g_seq ?_
      refine g_block ?_
      refine g_seq ?_
      refine g_region ?_
      refine r_cons (s_indexAddr gA3 (off := oA4) (i : Int) 4 (oA4 + i * 4) (by exact congrArg (fun z_ => Value.slice z_ l.length cA2) (hp9 (by omega))) rfl el_34 (by omega) rfl rfl ?_)
      refine r_cons (s_loadAgg [.int .i64 ((l.getD i default).kind.v), .int .u64 ((l.getD i default).u.v : Int), .int .i64 ((l.getD i default).n.v), .string ((l.getD i default).s.v)] 4 ag_40 rfl (H22.imi_at (i := 2) rfl (by omega)) (by have := elem_size (i := i) (s := 4) (hs11 (by omega)) (by omega); omega) (elem_take partCell_len (hx10 (by omega)) (by omega) default) rfl ?_)
      refine r_cons (s_alloc H22 40 ze_40 rfl ?_); intro bk25 w26 H27
      refine r_cons (s_storeAgg H27 0 #[.int .i64 ((l.getD i default).kind.v), .int .u64 ((l.getD i default).u.v : Int), .int .i64 ((l.getD i default).n.v), .string ((l.getD i default).s.v)] 4 rfl rfl rfl sz_40 rfl (by simp [Value.oneCell']) (Nat.le_of_ble_eq_true rfl) (fun o h1 h2 => by first | (simp; done) | (simp; omega)) (cs' := #[.int .i64 ((l.getD i default).kind.v), .int .u64 ((l.getD i default).u.v : Int), .int .i64 ((l.getD i default).n.v), .string ((l.getD i default).s.v)]) rfl ?_); intro w28 H29
      refine r_nil ?_
      refine g_seq ?_
      refine g_region ?_
      refine r_cons (s_move (.pointer (some ⟨bk13, 0, none⟩)) rfl rfl ?_)
      refine r_cons (s_loadAgg [.int .i64 ((l.getD i default).kind.v), .int .u64 ((l.getD i default).u.v : Int), .int .i64 ((l.getD i default).n.v), .string ((l.getD i default).s.v)] 4 ag_40 rfl (H29.blk_at (i := 0) rfl) (Nat.le_of_ble_eq_true rfl) rfl rfl ?_)
      refine r_cons (s_call [.pointer (some ⟨bk13, 0, none⟩), .agg #[.int .i64 ((l.getD i default).kind.v), .int .u64 ((l.getD i default).u.v : Int), .int .i64 ((l.getD i default).n.v), .string ((l.getD i default).s.v)]] pl_20 rfl rfl (put01 bk13 (th.flatMap partB) (l.getD i default) (hl _ (by omega)) (by first | omega | (repeat (first | exact Nat.zero_le _ | assumption | refine partL_le ?_ | refine putL_le ?_ | refine bitsL_le ?_))) (i := 2) rfl H29) ?_)
      rintro _ w34 ⟨pp30, NN31, cc32, rfl, hn33, H35⟩
      refine r_cons (s_move (.tuple #[.slice pp30 NN31 cc32, .bool (partMay (l.getD i default)), .int .i64 (partE (th.flatMap partB) (l.getD i default))]) rfl rfl ?_)
      refine r_cons (s_extract (.slice pp30 NN31 cc32) #[.slice pp30 NN31 cc32, .bool (partMay (l.getD i default)), .int .i64 (partE (th.flatMap partB) (l.getD i default))] rfl rfl rfl ?_)
      refine r_cons (s_extract (.bool (partMay (l.getD i default))) #[.slice pp30 NN31 cc32, .bool (partMay (l.getD i default)), .int .i64 (partE (th.flatMap partB) (l.getD i default))] rfl rfl rfl ?_)
      refine r_cons (s_extract (.int .i64 (partE (th.flatMap partB) (l.getD i default))) #[.slice pp30 NN31 cc32, .bool (partMay (l.getD i default)), .int .i64 (partE (th.flatMap partB) (l.getD i default))] rfl rfl rfl ?_)
      refine r_cons (s_assign (.slice pp30 NN31 cc32) rfl rfl ?_)
      refine r_cons (s_assign (.bool (partMay (l.getD i default))) rfl rfl ?_)
      refine r_cons (s_assign (.int .i64 (partE (th.flatMap partB) (l.getD i default))) rfl rfl ?_)
      refine r_nil ?_
      refine g_seq ?_
      refine g_region ?_
      refine r_cons (s_move (.int .i64 (partE (th.flatMap partB) (l.getD i default))) rfl rfl ?_)
      by_cases hc36 : partE (th.flatMap partB) (l.getD i default) = 0
      · skip
        refine r_cons (s_eql true rfl rfl (dtrue hc36) rfl ?_)
        refine r_nil ?_
        refine g_true rfl ?_
        refine g_region ?_
        refine r_cons (s_move (.slice pq th.length cq) rfl rfl ?_)
        refine r_cons (s_loadAgg [.int .i64 ((l.getD i default).kind.v), .int .u64 ((l.getD i default).u.v : Int), .int .i64 ((l.getD i default).n.v), .string ((l.getD i default).s.v)] 4 ag_40 rfl (H35.blk_at (i := 1) rfl) (Nat.le_of_ble_eq_true rfl) rfl rfl ?_)
        refine r_cons (s_buildSlice H35 4 1 (cs := #[.int .i64 ((l.getD i default).kind.v), .int .u64 ((l.getD i default).u.v : Int), .int .i64 ((l.getD i default).n.v), .string ((l.getD i default).s.v)]) #[.int .i64 0, .int .u64 0, .int .i64 0, .string ByteArray.empty] el_34 ze_40 (by decide) (by decide) (by kernel_rfl) rfl ?_); intro bk37 w38 H39
        refine r_cons (s_append H39 3 rfl rfl rfl (rd_blk (H39.blk_at (i := 0) rfl) rfl (Nat.le_of_ble_eq_true rfl) (by simp [Value.oneCell'])) ap_34 (by decide) (by unfold maxLen; omega) (by omega) (n' := th.length + 1) (xs' := (th ++ [(l.getD i default)]).flatMap partCell) (by omega) (by rw [List.flatMap_append]; rfl) rfl ?_); intro vv40 w41 H42 hn43
        obtain ⟨pp44, cc45, rfl⟩ := Row.slice H42 (i := 3) rfl
        refine r_cons (s_assign (.slice pp44 (th.length + 1) cc45) rfl rfl ?_)
        refine r_nil ?_
        refine g_inBlock ?_
        refine g_region ?_
        refine r_cons (s_add ((i : Int) + 1) rfl rfl (wi64 (by omega)) rfl ?_)
        refine r_cons (s_move (.int .i64 ((i : Int) + 1)) rfl rfl ?_)
        refine r_nil ?_
        have H46 : St W w41 (Row 40 4 (.slice pp44 (th.length + 1) cc45) (th.length + 1) ((th ++ [(l.getD i default)]).flatMap partCell) :: SinkA bk13 (partL (th.flatMap partB) (l.getD i default)) :: imi (0 < l.length) gA3 (.cells kA5 eA6 zA7) :: F) := ((((((H42.move 5 rfl).move 5 rfl).move 5 rfl).drop 3 rfl).drop 3 rfl).drop 3 rfl)
        obtain ⟨hp1, hp2⟩ := partE_0 (L := th.flatMap partB) (p := (l.getD i default)) (by assumption)
        have hnl : (th ++ [(l.getD i default)]).length = th.length + 1 := by simp
        have hfl : (th ++ [(l.getD i default)]).flatMap partB = partL (th.flatMap partB) (l.getD i default) := by rw [flat_parts, hp2]
        have H47 : St W w41 (Row 40 4 (.slice pp44 ((th ++ [(l.getD i default)]).length) cc45) ((th ++ [(l.getD i default)]).length) ((th ++ [(l.getD i default)]).flatMap partCell) :: SinkA bk13 ((th ++ [(l.getD i default)]).flatMap partB) :: imi (0 < l.length) gA3 (.cells kA5 eA6 zA7) :: F) := by rw [hnl, hfl]; exact H46
        exact nx23 (i + 1, (th ++ [(l.getD i default)]), pp44, cc45) _ _ ⟨(by omega), (by rw [hnl]; omega), (fun x hx => by rcases List.mem_append.1 hx with h | h; exact hth x h; rw [List.mem_singleton.1 h]; exact ⟨hp1, hl _ (by omega)⟩), (by rw [hfl]; exact partL_le hL), H47⟩ (by first | (dsimp only; omega) | omega) ⟨by first | rfl | exact vint (by omega), by first | rfl | exact vint (by omega), congrArg (fun z_ => Value.slice pp44 z_ cc45) hnl.symm, by first | rfl | exact vint (by omega), by first | rfl | exact vint (by omega), by first | rfl | exact vint (by omega), trivial⟩
      · skip
        refine r_cons (s_eql false rfl rfl (dfalse hc36) rfl ?_)
        refine r_nil ?_
        refine g_false rfl ?_
        refine g_skip ?_
        refine g_inBlock ?_
        refine g_region ?_
        refine r_cons (s_add ((i : Int) + 1) rfl rfl (wi64 (by omega)) rfl ?_)
        refine r_cons (s_move (.int .i64 ((i : Int) + 1)) rfl rfl ?_)
        refine r_nil ?_
        have H48 : St W w34 (Row 40 4 (.slice pq th.length cq) th.length (th.flatMap partCell) :: SinkA bk13 (partL (th.flatMap partB) (l.getD i default)) :: imi (0 < l.length) gA3 (.cells kA5 eA6 zA7) :: F) := (((((H35.move 4 rfl).move 4 rfl).move 4 rfl).drop 3 rfl).drop 3 rfl)
        have hpn := partE_no (L := th.flatMap partB) (p := (l.getD i default)) (by assumption)
        have H49 : St W w34 (Row 40 4 (.slice pq th.length cq) th.length (th.flatMap partCell) :: SinkA bk13 (th.flatMap partB) :: imi (0 < l.length) gA3 (.cells kA5 eA6 zA7) :: F) := by rw [hpn] at H48; exact H48
        exact nx23 (i + 1, th, pq, cq) _ _ ⟨(by omega), (by omega), hth, hL, H49⟩ (by first | (dsimp only; omega) | omega) ⟨by first | rfl | exact vint (by omega), by first | rfl | exact vint (by omega), by first | rfl | exact vint (by omega), by first | rfl | exact vint (by omega), by first | rfl | exact vint (by omega), by first | rfl | exact vint (by omega), trivial⟩
    · skip
      refine r_cons (s_lss false rfl rfl (dfalse hc24) rfl ?_)
      refine r_nil ?_
      refine g_seq ?_
      refine g_false rfl ?_
      refine g_exit (by rfl) ?_
      refine g_seq ?_
      refine g_region ?_
      refine r_cons (s_move (.pointer (some ⟨bk13, 0, none⟩)) rfl rfl ?_)
      refine r_cons (s_call [.pointer (some ⟨bk13, 0, none⟩)] pl_22 rfl rfl (Sink_Out bk13 (th.flatMap partB) (by first | omega | (repeat (first | exact Nat.zero_le _ | assumption | refine putL_le ?_ | refine bitsL_le ?_))) (i := 1) rfl H22) ?_)
      rintro _ w52 ⟨pp50, cc51, rfl, H53⟩
      refine r_cons (s_call [.slice pp50 (((th.flatMap partB).length + 7) / 8) cc51] pl_14 rfl rfl (NewSource _ _ (pk (th.flatMap partB)) (by rw [pk_len]; exact RdA.row) (by rw [pk_len]; first | omega | decide) (j := 0) rfl H53) ?_)
      rintro _ w55 ⟨bk54, rfl, H56⟩
      refine r_cons (s_assign (.pointer (some ⟨bk54, 0, none⟩)) rfl rfl ?_)
      refine r_nil ?_
      refine g_seq ?_
      refine g_seq ?_
      refine g_region ?_
      refine r_cons (s_move (.pointer (some ⟨bk54, 0, none⟩)) rfl rfl ?_)
      refine r_cons (s_peql false un_35 rfl rfl rfl rfl ?_)
      refine r_nil ?_
      refine g_false rfl ?_
      refine g_skip ?_
      refine g_seq ?_
      refine g_seq ?_
      refine g_region ?_
      refine r_cons (s_move (.slice pq th.length cq) rfl rfl ?_)
      refine r_cons (s_len th.length rfl ⟨_, un_34⟩ rfl ?_)
      refine r_cons (s_move (.int .i64 0) rfl rfl ?_)
      refine r_nil ?_
      refine g_block ?_
      have H57 : St W w55 (SrcA bk54 (pk (th.flatMap partB)) 0 :: Row 5 1 (.slice pp50 (((th.flatMap partB).length + 7) / 8) cc51) (((th.flatMap partB).length + 7) / 8) ((pk (th.flatMap partB)).flatMap u8c) :: Im 4 (.slice pq th.length cq) th.length (th.flatMap partCell) :: SinkA bk13 (th.flatMap partB) :: imi (0 < l.length) gA3 (.cells kA5 eA6 zA7) :: F) := Row.im H56 (i := 2) rfl
      obtain ⟨pA58, cA59, gA60, oA61, kA62, eA63, zA64, he70, hn65, hp66, hx67, hs68, hml, H69⟩ := Im.open_ H57 (i := 2) rfl
      obtain ⟨rfl, rfl⟩ : pq = pA58 ∧ cq = cA59 := by injection he70 with a_ b_ c_; exact ⟨a_, c_⟩
      have H71 : St W w55 (SrcA bk54 (pk (th.flatMap partB)) 0 :: imi (0 < th.length) gA60 (.cells kA62 eA63 zA64) :: F) := (((((H69.move 1 rfl).drop 2 rfl).drop 2 rfl).drop 2 rfl).drop 2 rfl)
      refine g_loop_inv (fun (x : Nat × Nat) => match x with | (i2, q) => [(2, .bool false), (10, .pointer (some ⟨bk54, 0, none⟩)), (58, .slice pq th.length cq), (59, .int .i64 (th.length : Int)), (60, .int .i64 (i2 : Int))]) (fun (x : Nat × Nat) w => match x with | (i2, q) => (i2 ≤ th.length) ∧ (q ≤ 8 * (pk (th.flatMap partB)).length) ∧ (remB (pk (th.flatMap partB)) q = (th.drop i2).flatMap partB ++ padB (th.flatMap partB)) ∧ St W w (SrcA bk54 (pk (th.flatMap partB)) q :: imi (0 < th.length) gA60 (.cells kA62 eA63 zA64) :: F)) (fun (x : Nat × Nat) => match x with | (i2, q) => th.length - i2) (0, 0) ?_ ?_ ?_
      · exact ⟨by first | rfl | exact vint (by omega), by first | rfl | exact vint (by omega), by first | rfl | exact vint (by omega), by first | rfl | exact vint (by omega), by first | rfl | exact vint (by omega), trivial⟩
      · exact ⟨(by omega), (Nat.zero_le _), (bits_pk _), H71⟩
      · rintro ⟨i2, q⟩ ρ72 w73 ⟨hi2, hq, hR0, H74⟩ nx75
        change Ends _ _ (upds ρ72 [(2, .bool false), (10, .pointer (some ⟨bk54, 0, none⟩)), (58, .slice pq th.length cq), (59, .int .i64 (th.length : Int)), (60, .int .i64 (i2 : Int))]) w73
        have hbl : (pk (th.flatMap partB)).length ≤ 131072 := by rw [pk_len]; omega
        refine g_seq ?_
        refine g_region ?_
        by_cases hc76 : (i2 : Int) < (th.length : Int)
        · skip
          refine r_cons (s_lss true rfl rfl (dtrue hc76) rfl ?_)
          refine r_nil ?_
          refine g_seq ?_
          refine g_true rfl ?_
          refine g_skip ?_
          refine g_seq ?_
          refine g_block ?_
          refine g_seq ?_
          refine g_region ?_
          refine r_cons (s_indexAddr gA60 (off := oA61) (i2 : Int) 4 (oA61 + i2 * 4) (by exact congrArg (fun z_ => Value.slice z_ th.length cq) (hp66 (by omega))) rfl el_34 (by omega) rfl rfl ?_)
          refine r_cons (s_loadAgg [.int .i64 ((th.getD i2 default).kind.v), .int .u64 ((th.getD i2 default).u.v : Int), .int .i64 ((th.getD i2 default).n.v), .string ((th.getD i2 default).s.v)] 4 ag_40 rfl (H74.imi_at (i := 1) rfl (by omega)) (by have := elem_size (i := i2) (s := 4) (hs68 (by omega)) (by omega); omega) (elem_take partCell_len (hx67 (by omega)) (by omega) default) rfl ?_)
          refine r_cons (s_alloc H74 40 ze_40 rfl ?_); intro bk77 w78 H79
          refine r_cons (s_storeAgg H79 0 #[.int .i64 ((th.getD i2 default).kind.v), .int .u64 ((th.getD i2 default).u.v : Int), .int .i64 ((th.getD i2 default).n.v), .string ((th.getD i2 default).s.v)] 4 rfl rfl rfl sz_40 rfl (by simp [Value.oneCell']) (Nat.le_of_ble_eq_true rfl) (fun o h1 h2 => by first | (simp; done) | (simp; omega)) (cs' := #[.int .i64 ((th.getD i2 default).kind.v), .int .u64 ((th.getD i2 default).u.v : Int), .int .i64 ((th.getD i2 default).n.v), .string ((th.getD i2 default).s.v)]) rfl ?_); intro w80 H81
          refine r_nil ?_
          refine g_seq ?_
          refine g_region ?_
          refine r_cons (s_assign (.bool false) rfl rfl ?_)
          refine r_nil ?_
          refine g_seq ?_
          refine g_seq ?_
          refine g_region ?_
          refine r_cons (s_fieldAddr 40 0 0 0 3 rfl fi_40_0 rfl rfl ?_)
          refine r_cons (s_load (.int .i64 ((th.getD i2 default).kind.v)) ag_3 rfl (H81.blk_at (i := 0) rfl) rfl rfl ?_)
          refine r_nil ?_
          refine g_block ?_
          refine g_seq ?_
          refine g_region ?_
          by_cases hc82 : (th.getD i2 default).kind.v = 0
          · skip
            refine r_cons (s_eql true rfl rfl (dtrue hc82) rfl ?_)
            refine r_cons (s_assign (.bool true) rfl rfl ?_)
            refine r_nil ?_
            refine g_true rfl ?_
            refine g_seq ?_
            refine g_region ?_
            have hP := hth _ (getD_mem' (th := th) (i := i2) (by omega))
            have hR1 : remB (pk (th.flatMap partB)) q = partB (th.getD i2 default) ++ ((th.drop (i2 + 1)).flatMap partB ++ padB (th.flatMap partB)) := hR0.trans (flat_drop_at (by omega) _)
            obtain ⟨hf, hB⟩ := part_may_0 (p := (th.getD i2 default)) (by assumption) hP.1
            have hR : remB (pk (th.flatMap partB)) q = lowB (th.getD i2 default).u.v (th.getD i2 default).n.v.toNat ++ ((th.drop (i2 + 1)).flatMap partB ++ padB (th.flatMap partB)) := by rw [hR1, hB]
            obtain ⟨r1, r2, r3⟩ := low_read hf ((th.drop (i2 + 1)).flatMap partB ++ padB (th.flatMap partB))
            rw [← hR] at r1 r2 r3
            refine r_cons (s_move (.pointer (some ⟨bk54, 0, none⟩)) rfl rfl ?_)
            refine r_cons (s_fieldAddr 40 2 2 2 3 rfl fi_40_2 rfl rfl ?_)
            refine r_cons (s_load (.int .i64 ((th.getD i2 default).n.v)) ag_3 rfl (H81.blk_at (i := 0) rfl) rfl rfl ?_)
            refine r_cons (s_call [.pointer (some ⟨bk54, 0, none⟩), .int .i64 ((th.getD i2 default).n.v)] pl_24 rfl rfl (Src_Bits bk54 (pk (th.flatMap partB)) q (by first | omega | decide +kernel | (repeat (first | assumption | exact Nat.zero_le _ | refine natN_pos ?_ | refine srcN_pos ?_ | refine textN_pos ?_))) (by first | omega | decide +kernel) ((th.getD i2 default).n.v)  (i := 1) rfl H81) ?_)
            rintro _ w83 ⟨rfl, H84⟩
            refine r_cons (s_move (.tuple #[.int .u64 (srcU (remB (pk (th.flatMap partB)) q) ((th.getD i2 default).n.v) : Int), .int .i64 (srcE (remB (pk (th.flatMap partB)) q) ((th.getD i2 default).n.v))]) rfl rfl ?_)
            refine r_cons (s_extract (.int .u64 (srcU (remB (pk (th.flatMap partB)) q) ((th.getD i2 default).n.v) : Int)) #[.int .u64 (srcU (remB (pk (th.flatMap partB)) q) ((th.getD i2 default).n.v) : Int), .int .i64 (srcE (remB (pk (th.flatMap partB)) q) ((th.getD i2 default).n.v))] rfl rfl rfl ?_)
            refine r_cons (s_extract (.int .i64 (srcE (remB (pk (th.flatMap partB)) q) ((th.getD i2 default).n.v))) #[.int .u64 (srcU (remB (pk (th.flatMap partB)) q) ((th.getD i2 default).n.v) : Int), .int .i64 (srcE (remB (pk (th.flatMap partB)) q) ((th.getD i2 default).n.v))] rfl rfl rfl ?_)
            refine r_cons (s_assign (.int .u64 (srcU (remB (pk (th.flatMap partB)) q) ((th.getD i2 default).n.v) : Int)) rfl rfl ?_)
            refine r_cons (s_assign (.int .i64 (srcE (remB (pk (th.flatMap partB)) q) ((th.getD i2 default).n.v))) rfl rfl ?_)
            refine r_nil ?_
            refine g_region ?_
            refine r_cons (s_move (.int .u64 (srcU (remB (pk (th.flatMap partB)) q) ((th.getD i2 default).n.v) : Int)) rfl rfl ?_)
            refine r_cons (s_fieldAddr 40 1 1 1 22 rfl fi_40_1 rfl rfl ?_)
            refine r_cons (s_load (.int .u64 ((th.getD i2 default).u.v : Int)) ag_22 rfl (H84.blk_at (i := 0) rfl) rfl rfl ?_)
            refine r_cons (s_eql true rfl rfl (dtrue (by rw [r2])) rfl ?_)
            refine r_cons (s_move (.bool true) rfl rfl ?_)
            refine r_cons (r_take rfl rfl ?_)
            refine s_move (.int .i64 (srcE (remB (pk (th.flatMap partB)) q) ((th.getD i2 default).n.v))) rfl rfl ?_
            refine r_cons (r_take rfl rfl ?_)
            refine s_eql true rfl rfl (dtrue r1) rfl ?_
            refine r_cons (s_pick_t (.bool true) rfl rfl rfl ?_)
            refine r_cons (s_assign (.bool true) rfl rfl ?_)
            refine r_nil ?_
            refine g_inBlock ?_
            refine g_seq ?_
            refine g_region ?_
            refine r_cons (s_move (.bool true) rfl rfl ?_)
            refine r_cons (s_not true rfl false rfl rfl ?_)
            refine r_nil ?_
            refine g_false rfl ?_
            refine g_skip ?_
            refine g_inBlock ?_
            refine g_region ?_
            refine r_cons (s_add ((i2 : Int) + 1) rfl rfl (wi64 (by omega)) rfl ?_)
            refine r_cons (s_move (.int .i64 ((i2 : Int) + 1)) rfl rfl ?_)
            refine r_nil ?_
            have H85 : St W w83 (SrcA bk54 (pk (th.flatMap partB)) (q + srcN (remB (pk (th.flatMap partB)) q) ((th.getD i2 default).n.v)) :: imi (0 < th.length) gA60 (.cells kA62 eA63 zA64) :: F) := (((H84.move 2 rfl).move 2 rfl).drop 2 rfl)
            exact nx75 (i2 + 1, q + srcN (remB (pk (th.flatMap partB)) q) ((th.getD i2 default).n.v)) _ _ ⟨(by omega), (by repeat (first | assumption | omega | refine natN_pos ?_ | refine srcN_pos ?_ | refine textN_pos ?_)), (by rw [← remB_drop, hR]; exact drop_part (by first | exact r3 | exact r3.trans (lowB_len _ _).symm | (rw [← hR]; exact r3) | (rw [← hR]; exact r3.trans (lowB_len _ _).symm))), H85⟩ (by first | (dsimp only; omega) | omega) ⟨by first | rfl | exact vint (by omega), by first | rfl | exact vint (by omega), by first | rfl | exact vint (by omega), by first | rfl | exact vint (by omega), by first | rfl | exact vint (by omega), trivial⟩
          · skip
            refine r_cons (s_eql false rfl rfl (dfalse hc82) rfl ?_)
            refine r_cons (s_assign (.bool false) rfl rfl ?_)
            refine r_nil ?_
            refine g_false rfl ?_
            refine g_seq ?_
            refine g_region ?_
            by_cases hc86 : (th.getD i2 default).kind.v = 1
            · skip
              refine r_cons (s_eql true rfl rfl (dtrue hc86) rfl ?_)
              refine r_cons (s_assign (.bool true) rfl rfl ?_)
              refine r_nil ?_
              refine g_true rfl ?_
              refine g_seq ?_
              refine g_region ?_
              have hP := hth _ (getD_mem' (th := th) (i := i2) (by omega))
              have hR1 : remB (pk (th.flatMap partB)) q = partB (th.getD i2 default) ++ ((th.drop (i2 + 1)).flatMap partB ++ padB (th.flatMap partB)) := hR0.trans (flat_drop_at (by omega) _)
              have hR : remB (pk (th.flatMap partB)) q = natB (th.getD i2 default).u.v ++ ((th.drop (i2 + 1)).flatMap partB ++ padB (th.flatMap partB)) := by rw [hR1, part_1 (by assumption)]
              obtain ⟨r1, r2, r3⟩ := natB_read (th.getD i2 default).u.lt ((th.drop (i2 + 1)).flatMap partB ++ padB (th.flatMap partB))
              rw [← hR] at r1 r2 r3
              refine r_cons (s_move (.pointer (some ⟨bk54, 0, none⟩)) rfl rfl ?_)
              refine r_cons (s_call [.pointer (some ⟨bk54, 0, none⟩)] pl_25 rfl rfl (Src_Nat bk54 (pk (th.flatMap partB)) q (by first | omega | decide +kernel | (repeat (first | assumption | exact Nat.zero_le _ | refine natN_pos ?_ | refine srcN_pos ?_ | refine textN_pos ?_))) (by first | omega | decide +kernel)   (i := 1) rfl H81) ?_)
              rintro _ w87 ⟨rfl, H88⟩
              refine r_cons (s_move (.tuple #[.int .u64 (natU (remB (pk (th.flatMap partB)) q) : Int), .int .i64 (natE (remB (pk (th.flatMap partB)) q))]) rfl rfl ?_)
              refine r_cons (s_extract (.int .u64 (natU (remB (pk (th.flatMap partB)) q) : Int)) #[.int .u64 (natU (remB (pk (th.flatMap partB)) q) : Int), .int .i64 (natE (remB (pk (th.flatMap partB)) q))] rfl rfl rfl ?_)
              refine r_cons (s_extract (.int .i64 (natE (remB (pk (th.flatMap partB)) q))) #[.int .u64 (natU (remB (pk (th.flatMap partB)) q) : Int), .int .i64 (natE (remB (pk (th.flatMap partB)) q))] rfl rfl rfl ?_)
              refine r_cons (s_assign (.int .u64 (natU (remB (pk (th.flatMap partB)) q) : Int)) rfl rfl ?_)
              refine r_cons (s_assign (.int .i64 (natE (remB (pk (th.flatMap partB)) q))) rfl rfl ?_)
              refine r_nil ?_
              refine g_region ?_
              refine r_cons (s_move (.int .u64 (natU (remB (pk (th.flatMap partB)) q) : Int)) rfl rfl ?_)
              refine r_cons (s_fieldAddr 40 1 1 1 22 rfl fi_40_1 rfl rfl ?_)
              refine r_cons (s_load (.int .u64 ((th.getD i2 default).u.v : Int)) ag_22 rfl (H88.blk_at (i := 0) rfl) rfl rfl ?_)
              refine r_cons (s_eql true rfl rfl (dtrue (by rw [r2])) rfl ?_)
              refine r_cons (s_move (.bool true) rfl rfl ?_)
              refine r_cons (r_take rfl rfl ?_)
              refine s_move (.int .i64 (natE (remB (pk (th.flatMap partB)) q))) rfl rfl ?_
              refine r_cons (r_take rfl rfl ?_)
              refine s_eql true rfl rfl (dtrue r1) rfl ?_
              refine r_cons (s_pick_t (.bool true) rfl rfl rfl ?_)
              refine r_cons (s_assign (.bool true) rfl rfl ?_)
              refine r_nil ?_
              refine g_inBlock ?_
              refine g_seq ?_
              refine g_region ?_
              refine r_cons (s_move (.bool true) rfl rfl ?_)
              refine r_cons (s_not true rfl false rfl rfl ?_)
              refine r_nil ?_
              refine g_false rfl ?_
              refine g_skip ?_
              refine g_inBlock ?_
              refine g_region ?_
              refine r_cons (s_add ((i2 : Int) + 1) rfl rfl (wi64 (by omega)) rfl ?_)
              refine r_cons (s_move (.int .i64 ((i2 : Int) + 1)) rfl rfl ?_)
              refine r_nil ?_
              have H89 : St W w87 (SrcA bk54 (pk (th.flatMap partB)) (q + natN (remB (pk (th.flatMap partB)) q)) :: imi (0 < th.length) gA60 (.cells kA62 eA63 zA64) :: F) := (((H88.move 2 rfl).move 2 rfl).drop 2 rfl)
              exact nx75 (i2 + 1, q + natN (remB (pk (th.flatMap partB)) q)) _ _ ⟨(by omega), (by repeat (first | assumption | omega | refine natN_pos ?_ | refine srcN_pos ?_ | refine textN_pos ?_)), (by rw [← remB_drop, hR]; exact drop_part (by first | exact r3 | exact r3.trans (lowB_len _ _).symm | (rw [← hR]; exact r3) | (rw [← hR]; exact r3.trans (lowB_len _ _).symm))), H89⟩ (by first | (dsimp only; omega) | omega) ⟨by first | rfl | exact vint (by omega), by first | rfl | exact vint (by omega), by first | rfl | exact vint (by omega), by first | rfl | exact vint (by omega), by first | rfl | exact vint (by omega), trivial⟩
            · skip
              refine r_cons (s_eql false rfl rfl (dfalse hc86) rfl ?_)
              refine r_cons (s_assign (.bool false) rfl rfl ?_)
              refine r_nil ?_
              refine g_false rfl ?_
              refine g_seq ?_
              refine g_region ?_
              by_cases hc90 : (th.getD i2 default).kind.v = 2
              · skip
                refine r_cons (s_eql true rfl rfl (dtrue hc90) rfl ?_)
                refine r_cons (s_assign (.bool true) rfl rfl ?_)
                refine r_nil ?_
                refine g_true rfl ?_
                refine g_seq ?_
                refine g_region ?_
                have hP := hth _ (getD_mem' (th := th) (i := i2) (by omega))
                have hR1 : remB (pk (th.flatMap partB)) q = partB (th.getD i2 default) ++ ((th.drop (i2 + 1)).flatMap partB ++ padB (th.flatMap partB)) := hR0.trans (flat_drop_at (by omega) _)
                have hR : remB (pk (th.flatMap partB)) q = natB (zigN (s64 (th.getD i2 default).u.v)) ++ ((th.drop (i2 + 1)).flatMap partB ++ padB (th.flatMap partB)) := by rw [hR1, part_2 (by assumption)]
                obtain ⟨r1, r2, r3⟩ := num_read (s64_lo (th.getD i2 default).u.lt) (s64_hi (th.getD i2 default).u.lt) ((th.drop (i2 + 1)).flatMap partB ++ padB (th.flatMap partB))
                rw [← hR] at r1 r2 r3
                refine r_cons (s_move (.pointer (some ⟨bk54, 0, none⟩)) rfl rfl ?_)
                refine r_cons (s_call [.pointer (some ⟨bk54, 0, none⟩)] pl_26 rfl rfl (Src_Num bk54 (pk (th.flatMap partB)) q (by first | omega | decide +kernel | (repeat (first | assumption | exact Nat.zero_le _ | refine natN_pos ?_ | refine srcN_pos ?_ | refine textN_pos ?_))) (by first | omega | decide +kernel)   (i := 1) rfl H81) ?_)
                rintro _ w91 ⟨rfl, H92⟩
                refine r_cons (s_move (.tuple #[.int .i64 (zagN (natU (remB (pk (th.flatMap partB)) q))), .int .i64 (natE (remB (pk (th.flatMap partB)) q))]) rfl rfl ?_)
                refine r_cons (s_extract (.int .i64 (zagN (natU (remB (pk (th.flatMap partB)) q)))) #[.int .i64 (zagN (natU (remB (pk (th.flatMap partB)) q))), .int .i64 (natE (remB (pk (th.flatMap partB)) q))] rfl rfl rfl ?_)
                refine r_cons (s_extract (.int .i64 (natE (remB (pk (th.flatMap partB)) q))) #[.int .i64 (zagN (natU (remB (pk (th.flatMap partB)) q))), .int .i64 (natE (remB (pk (th.flatMap partB)) q))] rfl rfl rfl ?_)
                refine r_cons (s_assign (.int .i64 (zagN (natU (remB (pk (th.flatMap partB)) q)))) rfl rfl ?_)
                refine r_cons (s_assign (.int .i64 (natE (remB (pk (th.flatMap partB)) q))) rfl rfl ?_)
                refine r_nil ?_
                refine g_region ?_
                refine r_cons (s_move (.int .i64 (zagN (natU (remB (pk (th.flatMap partB)) q)))) rfl rfl ?_)
                refine r_cons (s_fieldAddr 40 1 1 1 22 rfl fi_40_1 rfl rfl ?_)
                refine r_cons (s_load (.int .u64 ((th.getD i2 default).u.v : Int)) ag_22 rfl (H92.blk_at (i := 0) rfl) rfl rfl ?_)
                refine r_cons (s_conv (s64 (th.getD i2 default).u.v) rfl us_22 ik_2 (rfl) rfl ?_)
                refine r_cons (s_eql true rfl rfl (dtrue (by rw [r2])) rfl ?_)
                refine r_cons (s_move (.bool true) rfl rfl ?_)
                refine r_cons (r_take rfl rfl ?_)
                refine s_move (.int .i64 (natE (remB (pk (th.flatMap partB)) q))) rfl rfl ?_
                refine r_cons (r_take rfl rfl ?_)
                refine s_eql true rfl rfl (dtrue r1) rfl ?_
                refine r_cons (s_pick_t (.bool true) rfl rfl rfl ?_)
                refine r_cons (s_assign (.bool true) rfl rfl ?_)
                refine r_nil ?_
                refine g_inBlock ?_
                refine g_seq ?_
                refine g_region ?_
                refine r_cons (s_move (.bool true) rfl rfl ?_)
                refine r_cons (s_not true rfl false rfl rfl ?_)
                refine r_nil ?_
                refine g_false rfl ?_
                refine g_skip ?_
                refine g_inBlock ?_
                refine g_region ?_
                refine r_cons (s_add ((i2 : Int) + 1) rfl rfl (wi64 (by omega)) rfl ?_)
                refine r_cons (s_move (.int .i64 ((i2 : Int) + 1)) rfl rfl ?_)
                refine r_nil ?_
                have H93 : St W w91 (SrcA bk54 (pk (th.flatMap partB)) (q + natN (remB (pk (th.flatMap partB)) q)) :: imi (0 < th.length) gA60 (.cells kA62 eA63 zA64) :: F) := (((H92.move 2 rfl).move 2 rfl).drop 2 rfl)
                exact nx75 (i2 + 1, q + natN (remB (pk (th.flatMap partB)) q)) _ _ ⟨(by omega), (by repeat (first | assumption | omega | refine natN_pos ?_ | refine srcN_pos ?_ | refine textN_pos ?_)), (by rw [← remB_drop, hR]; exact drop_part (by first | exact r3 | exact r3.trans (lowB_len _ _).symm | (rw [← hR]; exact r3) | (rw [← hR]; exact r3.trans (lowB_len _ _).symm))), H93⟩ (by first | (dsimp only; omega) | omega) ⟨by first | rfl | exact vint (by omega), by first | rfl | exact vint (by omega), by first | rfl | exact vint (by omega), by first | rfl | exact vint (by omega), by first | rfl | exact vint (by omega), trivial⟩
              · skip
                refine r_cons (s_eql false rfl rfl (dfalse hc90) rfl ?_)
                refine r_cons (s_assign (.bool false) rfl rfl ?_)
                refine r_nil ?_
                refine g_false rfl ?_
                refine g_seq ?_
                refine g_region ?_
                by_cases hc94 : (th.getD i2 default).kind.v = 3
                · skip
                  refine r_cons (s_eql true rfl rfl (dtrue hc94) rfl ?_)
                  refine r_cons (s_assign (.bool true) rfl rfl ?_)
                  refine r_nil ?_
                  refine g_true rfl ?_
                  refine g_seq ?_
                  refine g_region ?_
                  have hP := hth _ (getD_mem' (th := th) (i := i2) (by omega))
                  have hR1 : remB (pk (th.flatMap partB)) q = partB (th.getD i2 default) ++ ((th.drop (i2 + 1)).flatMap partB ++ padB (th.flatMap partB)) := hR0.trans (flat_drop_at (by omega) _)
                  have hR : remB (pk (th.flatMap partB)) q = textB (th.getD i2 default).s.v ++ ((th.drop (i2 + 1)).flatMap partB ++ padB (th.flatMap partB)) := by rw [hR1, part_3 (by assumption)]
                  obtain ⟨r1, r2, r3⟩ := text_read hP.2 ((th.drop (i2 + 1)).flatMap partB ++ padB (th.flatMap partB))
                  rw [← hR] at r1 r2 r3
                  refine r_cons (s_move (.pointer (some ⟨bk54, 0, none⟩)) rfl rfl ?_)
                  refine r_cons (s_call [.pointer (some ⟨bk54, 0, none⟩)] pl_27 rfl rfl (Src_Text bk54 (pk (th.flatMap partB)) q (by first | omega | decide +kernel | (repeat (first | assumption | exact Nat.zero_le _ | refine natN_pos ?_ | refine srcN_pos ?_ | refine textN_pos ?_))) (by first | omega | decide +kernel) (i := 1) rfl H81) ?_)
                  rintro _ w95 ⟨rfl, H96⟩
                  refine r_cons (s_move (.tuple #[.string (textS (remB (pk (th.flatMap partB)) q)), .int .i64 (textE (remB (pk (th.flatMap partB)) q))]) rfl rfl ?_)
                  refine r_cons (s_extract (.string (textS (remB (pk (th.flatMap partB)) q))) #[.string (textS (remB (pk (th.flatMap partB)) q)), .int .i64 (textE (remB (pk (th.flatMap partB)) q))] rfl rfl rfl ?_)
                  refine r_cons (s_extract (.int .i64 (textE (remB (pk (th.flatMap partB)) q))) #[.string (textS (remB (pk (th.flatMap partB)) q)), .int .i64 (textE (remB (pk (th.flatMap partB)) q))] rfl rfl rfl ?_)
                  refine r_cons (s_assign (.string (textS (remB (pk (th.flatMap partB)) q))) rfl rfl ?_)
                  refine r_cons (s_assign (.int .i64 (textE (remB (pk (th.flatMap partB)) q))) rfl rfl ?_)
                  refine r_nil ?_
                  refine g_region ?_
                  refine r_cons (s_move (.string (textS (remB (pk (th.flatMap partB)) q))) rfl rfl ?_)
                  refine r_cons (s_fieldAddr 40 3 3 3 9 rfl fi_40_3 rfl rfl ?_)
                  refine r_cons (s_load (.string ((th.getD i2 default).s.v)) ag_9 rfl (H96.blk_at (i := 0) rfl) rfl rfl ?_)
                  refine r_cons (s_seql true rfl rfl (dtrue r2) rfl ?_)
                  refine r_cons (s_move (.bool true) rfl rfl ?_)
                  refine r_cons (r_take rfl rfl ?_)
                  refine s_move (.int .i64 (textE (remB (pk (th.flatMap partB)) q))) rfl rfl ?_
                  refine r_cons (r_take rfl rfl ?_)
                  refine s_eql true rfl rfl (dtrue r1) rfl ?_
                  refine r_cons (s_pick_t (.bool true) rfl rfl rfl ?_)
                  refine r_cons (s_assign (.bool true) rfl rfl ?_)
                  refine r_nil ?_
                  refine g_inBlock ?_
                  refine g_seq ?_
                  refine g_region ?_
                  refine r_cons (s_move (.bool true) rfl rfl ?_)
                  refine r_cons (s_not true rfl false rfl rfl ?_)
                  refine r_nil ?_
                  refine g_false rfl ?_
                  refine g_skip ?_
                  refine g_inBlock ?_
                  refine g_region ?_
                  refine r_cons (s_add ((i2 : Int) + 1) rfl rfl (wi64 (by omega)) rfl ?_)
                  refine r_cons (s_move (.int .i64 ((i2 : Int) + 1)) rfl rfl ?_)
                  refine r_nil ?_
                  have H97 : St W w95 (SrcA bk54 (pk (th.flatMap partB)) (q + textN (remB (pk (th.flatMap partB)) q)) :: imi (0 < th.length) gA60 (.cells kA62 eA63 zA64) :: F) := (((H96.move 2 rfl).move 2 rfl).drop 2 rfl)
                  exact nx75 (i2 + 1, q + textN (remB (pk (th.flatMap partB)) q)) _ _ ⟨(by omega), (by repeat (first | assumption | omega | refine natN_pos ?_ | refine srcN_pos ?_ | refine textN_pos ?_)), (by rw [← remB_drop, hR]; exact drop_part (by first | exact r3 | exact r3.trans (lowB_len _ _).symm | (rw [← hR]; exact r3) | (rw [← hR]; exact r3.trans (lowB_len _ _).symm))), H97⟩ (by first | (dsimp only; omega) | omega) ⟨by first | rfl | exact vint (by omega), by first | rfl | exact vint (by omega), by first | rfl | exact vint (by omega), by first | rfl | exact vint (by omega), by first | rfl | exact vint (by omega), trivial⟩
                · skip
                  refine r_cons (s_eql false rfl rfl (dfalse hc94) rfl ?_)
                  refine r_cons (s_assign (.bool false) rfl rfl ?_)
                  refine r_nil ?_
                  refine g_false rfl ?_
                  refine g_seq ?_
                  refine g_region ?_
                  have hP := hth _ (getD_mem' (th := th) (i := i2) (by omega))
                  have hR1 : remB (pk (th.flatMap partB)) q = partB (th.getD i2 default) ++ ((th.drop (i2 + 1)).flatMap partB ++ padB (th.flatMap partB)) := hR0.trans (flat_drop_at (by omega) _)
                  have hR : remB (pk (th.flatMap partB)) q = decide (0 < (th.getD i2 default).n.v) :: (decide ((0 : Int) < ((th.getD i2 default).u.v : Int)) :: ((th.drop (i2 + 1)).flatMap partB ++ padB (th.flatMap partB))) := by rw [hR1, part_4 (by assumption) (by assumption) (by assumption) (by assumption)]; rfl
                  obtain ⟨r1, r2, r3⟩ := flag_read (decide (0 < (th.getD i2 default).n.v)) (decide ((0 : Int) < ((th.getD i2 default).u.v : Int)) :: ((th.drop (i2 + 1)).flatMap partB ++ padB (th.flatMap partB)))
                  rw [← hR] at r1 r2 r3
                  have hQ : remB (pk (th.flatMap partB)) (q + srcN (remB (pk (th.flatMap partB)) q) 1) = decide ((0 : Int) < ((th.getD i2 default).u.v : Int)) :: ((th.drop (i2 + 1)).flatMap partB ++ padB (th.flatMap partB)) := by rw [← remB_drop, r3, hR]; rfl
                  have hR2 := hQ
                  obtain ⟨r4, r5, r6⟩ := flag_read (decide ((0 : Int) < ((th.getD i2 default).u.v : Int))) ((th.drop (i2 + 1)).flatMap partB ++ padB (th.flatMap partB))
                  rw [← hQ] at r4 r5 r6
                  refine r_cons (s_move (.pointer (some ⟨bk54, 0, none⟩)) rfl rfl ?_)
                  refine r_cons (s_call [.pointer (some ⟨bk54, 0, none⟩)] pl_28 rfl rfl (Src_Flag bk54 (pk (th.flatMap partB)) q (by first | omega | decide +kernel | (repeat (first | assumption | exact Nat.zero_le _ | refine natN_pos ?_ | refine srcN_pos ?_ | refine textN_pos ?_))) (by first | omega | decide +kernel)   (i := 1) rfl H81) ?_)
                  rintro _ w98 ⟨rfl, H99⟩
                  refine r_cons (s_move (.tuple #[.bool (decide ((srcU (remB (pk (th.flatMap partB)) q) 1 : Int) = 1)), .int .i64 (srcE (remB (pk (th.flatMap partB)) q) 1)]) rfl rfl ?_)
                  refine r_cons (s_extract (.bool (decide ((srcU (remB (pk (th.flatMap partB)) q) 1 : Int) = 1))) #[.bool (decide ((srcU (remB (pk (th.flatMap partB)) q) 1 : Int) = 1)), .int .i64 (srcE (remB (pk (th.flatMap partB)) q) 1)] rfl rfl rfl ?_)
                  refine r_cons (s_extract (.int .i64 (srcE (remB (pk (th.flatMap partB)) q) 1)) #[.bool (decide ((srcU (remB (pk (th.flatMap partB)) q) 1 : Int) = 1)), .int .i64 (srcE (remB (pk (th.flatMap partB)) q) 1)] rfl rfl rfl ?_)
                  refine r_cons (s_assign (.bool (decide ((srcU (remB (pk (th.flatMap partB)) q) 1 : Int) = 1))) rfl rfl ?_)
                  refine r_cons (s_assign (.int .i64 (srcE (remB (pk (th.flatMap partB)) q) 1)) rfl rfl ?_)
                  refine r_nil ?_
                  refine g_seq ?_
                  refine g_region ?_
                  refine r_cons (s_move (.pointer (some ⟨bk54, 0, none⟩)) rfl rfl ?_)
                  refine r_cons (s_call [.pointer (some ⟨bk54, 0, none⟩)] pl_28 rfl rfl (Src_Flag bk54 (pk (th.flatMap partB)) (q + srcN (remB (pk (th.flatMap partB)) q) 1) (by first | omega | decide +kernel | (repeat (first | assumption | exact Nat.zero_le _ | refine natN_pos ?_ | refine srcN_pos ?_ | refine textN_pos ?_))) (by first | omega | decide +kernel)   (i := 1) rfl H99) ?_)
                  rintro _ w100 ⟨rfl, H101⟩
                  refine r_cons (s_move (.tuple #[.bool (decide ((srcU (remB (pk (th.flatMap partB)) (q + srcN (remB (pk (th.flatMap partB)) q) 1)) 1 : Int) = 1)), .int .i64 (srcE (remB (pk (th.flatMap partB)) (q + srcN (remB (pk (th.flatMap partB)) q) 1)) 1)]) rfl rfl ?_)
                  refine r_cons (s_extract (.bool (decide ((srcU (remB (pk (th.flatMap partB)) (q + srcN (remB (pk (th.flatMap partB)) q) 1)) 1 : Int) = 1))) #[.bool (decide ((srcU (remB (pk (th.flatMap partB)) (q + srcN (remB (pk (th.flatMap partB)) q) 1)) 1 : Int) = 1)), .int .i64 (srcE (remB (pk (th.flatMap partB)) (q + srcN (remB (pk (th.flatMap partB)) q) 1)) 1)] rfl rfl rfl ?_)
                  refine r_cons (s_extract (.int .i64 (srcE (remB (pk (th.flatMap partB)) (q + srcN (remB (pk (th.flatMap partB)) q) 1)) 1)) #[.bool (decide ((srcU (remB (pk (th.flatMap partB)) (q + srcN (remB (pk (th.flatMap partB)) q) 1)) 1 : Int) = 1)), .int .i64 (srcE (remB (pk (th.flatMap partB)) (q + srcN (remB (pk (th.flatMap partB)) q) 1)) 1)] rfl rfl rfl ?_)
                  refine r_cons (s_assign (.bool (decide ((srcU (remB (pk (th.flatMap partB)) (q + srcN (remB (pk (th.flatMap partB)) q) 1)) 1 : Int) = 1))) rfl rfl ?_)
                  refine r_cons (s_assign (.int .i64 (srcE (remB (pk (th.flatMap partB)) (q + srcN (remB (pk (th.flatMap partB)) q) 1)) 1)) rfl rfl ?_)
                  refine r_nil ?_
                  refine g_region ?_
                  refine r_cons (s_move (.bool (decide ((srcU (remB (pk (th.flatMap partB)) q) 1 : Int) = 1))) rfl rfl ?_)
                  refine r_cons (s_fieldAddr 40 2 2 2 3 rfl fi_40_2 rfl rfl ?_)
                  refine r_cons (s_load (.int .i64 ((th.getD i2 default).n.v)) ag_3 rfl (H101.blk_at (i := 0) rfl) rfl rfl ?_)
                  refine r_cons (s_gtr (decide ((0 : Int) < (th.getD i2 default).n.v)) rfl rfl rfl rfl ?_)
                  refine r_cons (s_beql true un_4 rfl rfl (dtrue r2) rfl ?_)
                  refine r_cons (s_move (.bool true) rfl rfl ?_)
                  refine r_cons (r_take rfl rfl ?_)
                  refine s_move (.bool (decide ((srcU (remB (pk (th.flatMap partB)) (q + srcN (remB (pk (th.flatMap partB)) q) 1)) 1 : Int) = 1))) rfl rfl ?_
                  refine r_cons (r_take rfl rfl ?_)
                  refine s_fieldAddr 40 1 1 1 22 rfl fi_40_1 rfl rfl ?_
                  refine r_cons (r_take rfl rfl ?_)
                  refine s_load (.int .u64 ((th.getD i2 default).u.v : Int)) ag_22 rfl (H101.blk_at (i := 0) rfl) rfl rfl ?_
                  refine r_cons (r_take rfl rfl ?_)
                  refine s_gtr (decide ((0 : Int) < ((th.getD i2 default).u.v : Int))) rfl rfl rfl rfl ?_
                  refine r_cons (r_take rfl rfl ?_)
                  refine s_beql true un_4 rfl rfl (dtrue r5) rfl ?_
                  refine r_cons (s_pick_t (.bool true) rfl rfl rfl ?_)
                  refine r_cons (s_move (.bool true) rfl rfl ?_)
                  refine r_cons (r_take rfl rfl ?_)
                  refine s_move (.int .i64 (srcE (remB (pk (th.flatMap partB)) q) 1)) rfl rfl ?_
                  refine r_cons (r_take rfl rfl ?_)
                  refine s_eql true rfl rfl (dtrue r1) rfl ?_
                  refine r_cons (s_pick_t (.bool true) rfl rfl rfl ?_)
                  refine r_cons (s_move (.bool true) rfl rfl ?_)
                  refine r_cons (r_take rfl rfl ?_)
                  refine s_move (.int .i64 (srcE (remB (pk (th.flatMap partB)) (q + srcN (remB (pk (th.flatMap partB)) q) 1)) 1)) rfl rfl ?_
                  refine r_cons (r_take rfl rfl ?_)
                  refine s_eql true rfl rfl (dtrue r4) rfl ?_
                  refine r_cons (s_pick_t (.bool true) rfl rfl rfl ?_)
                  refine r_cons (s_assign (.bool true) rfl rfl ?_)
                  refine r_nil ?_
                  refine g_inBlock ?_
                  refine g_seq ?_
                  refine g_region ?_
                  refine r_cons (s_move (.bool true) rfl rfl ?_)
                  refine r_cons (s_not true rfl false rfl rfl ?_)
                  refine r_nil ?_
                  refine g_false rfl ?_
                  refine g_skip ?_
                  refine g_inBlock ?_
                  refine g_region ?_
                  refine r_cons (s_add ((i2 : Int) + 1) rfl rfl (wi64 (by omega)) rfl ?_)
                  refine r_cons (s_move (.int .i64 ((i2 : Int) + 1)) rfl rfl ?_)
                  refine r_nil ?_
                  have H102 : St W w100 (SrcA bk54 (pk (th.flatMap partB)) (q + srcN (remB (pk (th.flatMap partB)) q) 1 + srcN (remB (pk (th.flatMap partB)) (q + srcN (remB (pk (th.flatMap partB)) q) 1)) 1) :: imi (0 < th.length) gA60 (.cells kA62 eA63 zA64) :: F) := (((H101.move 2 rfl).move 2 rfl).drop 2 rfl)
                  exact nx75 (i2 + 1, q + srcN (remB (pk (th.flatMap partB)) q) 1 + srcN (remB (pk (th.flatMap partB)) (q + srcN (remB (pk (th.flatMap partB)) q) 1)) 1) _ _ ⟨(by omega), (by repeat (first | assumption | omega | refine natN_pos ?_ | refine srcN_pos ?_ | refine textN_pos ?_)), (by rw [← remB_drop, hR2]; exact drop_part (A := [decide ((0 : Int) < ((th.getD i2 default).u.v : Int))]) (by rw [← hQ, r6]; rfl)), H102⟩ (by first | (dsimp only; omega) | omega) ⟨by first | rfl | exact vint (by omega), by first | rfl | exact vint (by omega), by first | rfl | exact vint (by omega), by first | rfl | exact vint (by omega), by first | rfl | exact vint (by omega), trivial⟩
        · skip
          refine r_cons (s_lss false rfl rfl (dfalse hc76) rfl ?_)
          refine r_nil ?_
          refine g_seq ?_
          refine g_false rfl ?_
          refine g_exit (by rfl) ?_
          refine g_seq ?_
          refine g_region ?_
          refine r_cons (s_move (.pointer (some ⟨bk54, 0, none⟩)) rfl rfl ?_)
          refine r_cons (s_call [.pointer (some ⟨bk54, 0, none⟩)] pl_18 rfl rfl (Src_End bk54 (pk (th.flatMap partB)) q (by first | omega | decide +kernel | (repeat (first | assumption | exact Nat.zero_le _ | refine natN_pos ?_ | refine srcN_pos ?_ | refine textN_pos ?_))) (by first | omega | decide +kernel)   (i := 0) rfl H74) ?_)
          rintro _ w103 ⟨rfl, H104⟩
          refine r_cons (s_eql true rfl rfl (dtrue (by rw [hR0, List.drop_of_length_le (by omega)]; exact pad_end _)) rfl ?_)
          refine r_cons (s_assign (.bool true) rfl rfl ?_)
          refine r_nil ?_
          refine g_ret' [.bool true] Try.func6 Try.results6 ⟨rfl, trivial⟩ ?_
          have H105 : St W w103 F := ((H104.drop 0 rfl).drop 0 rfl)
          exact ⟨rfl, H105⟩
end Sl
