/- Walks of the program's functions. Printed by a program of this claim's author. No condition. -/
import Derived.Test.YtcomkhcpifcgmaaSlQ
import Derived.Test.YtcomkhcpifcgmaaSlH
import Derived.Test.YtcomkhcpifcgmaaSlP
import Derived.Test.YtcomkhcpifcgmaaSlAE
import Derived.Test.YtcomkhcpifcgmaaProg
import Derived.Test.YtcomkhcpifcgmaaWalkFrameSpoilt1
namespace Sl
open _root_.Go _root_.Go.RowKit _root_.Go.Proofs
set_option linter.all false
set_option maxHeartbeats 4000000 in
set_option maxRecDepth 100000 in
theorem frame_Decode {W w : World} {F : List Atom} (bs : List UInt8) (bv : Value) (hb : bs.length ≤ 140737488355328) {j : Nat} (hj : F[j]? = some (Im 1 bv bs.length (bs.flatMap u8c))) (H : St W w F) : Calls Try.prog 10 #[bv] w (Ret fun v w' => ∃ q n c, v = .tuple #[.agg #[.int .i64 ((decV bs).frm.v), .int .i64 ((decV bs).to_.v), .int .i64 ((decV bs).kind.v), .int .i64 ((decV bs).seq.v), .int .i64 ((decV bs).ack.v), .slice q n c], .int .i64 (decE bs)] ∧ n = (decV bs).body.length ∧ St W w' (Row 5 1 (.slice q n c) n ((decV bs).body.flatMap u8c) :: F)) := by
  obtain ⟨pA1, cA2, gA3, oA4, kA5, eA6, zA7, rfl, hn8, hp9, hx10, hs11, hml, H12⟩ := Im.open_ H hj
  have H13 := H12.dup (i := j + 1) (by exact hj) (Im_pers _ _ _ _)
  refine calls_of_go (n := 113) Try.func10 rfl Try.ntmps10 rfl ?_
  refine g_seq ?_
  refine g_region ?_
  refine r_cons (s_alloc H13 24 ze_24 rfl ?_); intro bk14 w15 H16
  refine r_cons (s_assign (.int .i64 0) rfl rfl ?_)
  refine r_nil ?_
  refine g_seq ?_
  refine g_seq ?_
  refine g_region ?_
  refine r_cons (s_move (.slice pA1 bs.length cA2) rfl rfl ?_)
  refine r_cons (s_len bs.length rfl ⟨_, un_22⟩ rfl ?_)
  by_cases hc17 : (bs.length : Int) < 6
  · skip
    refine r_cons (s_lss true rfl rfl (dtrue hc17) rfl ?_)
    refine r_nil ?_
    refine g_true rfl ?_
    refine g_seq ?_
    refine g_region ?_
    refine r_cons (s_build (cs := #[.int .i64 0, .int .i64 0, .int .i64 0, .int .i64 0, .int .i64 0, .slice none 0 0]) (by kernel_rfl) rfl ?_)
    refine r_cons (s_storeAgg H16 0 #[.int .i64 0, .int .i64 0, .int .i64 0, .int .i64 0, .int .i64 0, .slice none 0 0] 6 rfl rfl rfl sz_24 rfl (by simp [Value.oneCell']) (Nat.le_of_ble_eq_true rfl) (fun o h1 h2 => by first | (simp; done) | (simp; omega)) (cs' := #[.int .i64 0, .int .i64 0, .int .i64 0, .int .i64 0, .int .i64 0, .slice none 0 0]) rfl ?_); intro w18 H19
    refine r_cons (s_assign (.int .i64 10) rfl rfl ?_)
    refine r_nil ?_
    refine g_ret' [.agg #[.int .i64 0, .int .i64 0, .int .i64 0, .int .i64 0, .int .i64 0, .slice none 0 0], .int .i64 10] Try.func10 Try.results10 ⟨(res_cellN rfl ag_24 (H19.blk_at (i := 0) rfl) (Nat.le_of_ble_eq_true rfl) rfl), rfl, trivial⟩ ?_
    have hD : decE bs = 10 := decE_10 (by omega)
    have H20 : St W w18 F := (((H19.drop 0 rfl).drop 0 rfl).drop 0 rfl)
    have hV := decV_no (bs := bs) (by rw [hD]; decide)
    have H21 := Row.nil_intro H20 5 1
    exact ⟨none, 0, 0, by rw [hD, hV]; rfl, by rw [hV]; rfl, by rw [hV]; exact H21⟩
  · skip
    refine r_cons (s_lss false rfl rfl (dfalse hc17) rfl ?_)
    refine r_nil ?_
    refine g_false rfl ?_
    refine g_skip ?_
    refine g_seq ?_
    refine g_quiet (fun w' => St W w' (blk bk14 (.cells #[.int .i64 0, .int .i64 0, .int .i64 0, .int .i64 0, .int .i64 0, .slice none 0 0] 24 (0, 0)) :: Im 1 (.slice pA1 bs.length cA2) bs.length (bs.flatMap u8c) :: imi (0 < bs.length) gA3 (.cells kA5 eA6 zA7) :: F)) mixed (by kernel_rfl) H16.drew ?_
    refine q_cons (q_val rfl rfl rfl (by intro w hw; exact x_move (.slice pA1 bs.length cA2) rfl w) ?_)
    refine q_cons (q_val rfl rfl rfl (by intro w hw; exact x_move (.slice pA1 bs.length cA2) rfl w) ?_)
    refine q_cons (q_val rfl rfl rfl (by intro w hw; exact x_len bs.length rfl ⟨_, un_22⟩ w) ?_)
    refine q_cons (q_val rfl rfl rfl (by intro w hw; exact x_sub ((bs.length - 4 : Nat) : Int) rfl rfl ((wi64 (by omega)).trans (by omega)) w) ?_)
    have hc22 := Im.cap H16 (i := 1) rfl
    refine q_cons (q_val rfl rfl rfl (by intro w hw; exact x_slice_h pA1 ((bs.length - 4 : Nat) : Int) 1 (.slice pA1 (bs.length - 4) cA2) rfl rfl el_22 (by omega) (by first | rfl | (congr 1; omega)) w) ?_)
    refine q_cons (q_val rfl rfl rfl (by intro w hw; exact x_move (.slice pA1 bs.length cA2) rfl w) ?_)
    refine q_cons (q_val rfl rfl rfl (by intro w hw; exact x_move (.slice pA1 bs.length cA2) rfl w) ?_)
    refine q_cons (q_val rfl rfl rfl (by intro w hw; exact x_len bs.length rfl ⟨_, un_22⟩ w) ?_)
    refine q_cons (q_val rfl rfl rfl (by intro w hw; exact x_sub ((bs.length - 4 : Nat) : Int) rfl rfl ((wi64 (by omega)).trans (by omega)) w) ?_)
    have hc23 := Im.cap H16 (i := 1) rfl
    refine q_cons (q_val rfl rfl rfl (by intro w hw; exact x_slice_l pA1 ((bs.length - 4 : Nat) : Int) 1 (.slice (cutAt pA1 (bs.length - 4) cA2 1) (bs.length - (bs.length - 4)) (cA2 - (bs.length - 4))) rfl rfl el_22 (by omega) (by first | rfl | (congr 1; omega)) w) ?_)
    refine q_cons (q_val rfl rfl rfl (by intro w hw; exact x_assign (.slice pA1 (bs.length - 4) cA2) rfl w) ?_)
    refine q_cons (q_val rfl rfl rfl (by intro w hw; exact x_assign (.slice (cutAt pA1 (bs.length - 4) cA2 1) (bs.length - (bs.length - 4)) (cA2 - (bs.length - 4))) rfl w) ?_)
    refine q_nil ?_
    intro w24 H25
    have H26 : St W w24 (Im 1 (.slice pA1 (bs.length - 4) cA2) (bs.length - 4) ((bs.take (bs.length - 4)).flatMap u8c) :: blk bk14 (.cells #[.int .i64 0, .int .i64 0, .int .i64 0, .int .i64 0, .int .i64 0, .slice none 0 0] 24 (0, 0)) :: Im 1 (.slice pA1 bs.length cA2) bs.length (bs.flatMap u8c) :: imi (0 < bs.length) gA3 (.cells kA5 eA6 zA7) :: F) := Im.cut_h u8c_len (bs.length - 4) H25 (i := 1) rfl (by omega)
    have H27 : St W w24 (Im 1 (.slice (cutAt pA1 (bs.length - 4) cA2 1) (bs.length - (bs.length - 4)) (cA2 - (bs.length - 4))) (bs.length - (bs.length - 4)) ((bs.drop (bs.length - 4)).flatMap u8c) :: Im 1 (.slice pA1 (bs.length - 4) cA2) (bs.length - 4) ((bs.take (bs.length - 4)).flatMap u8c) :: blk bk14 (.cells #[.int .i64 0, .int .i64 0, .int .i64 0, .int .i64 0, .int .i64 0, .slice none 0 0] 24 (0, 0)) :: Im 1 (.slice pA1 bs.length cA2) bs.length (bs.flatMap u8c) :: imi (0 < bs.length) gA3 (.cells kA5 eA6 zA7) :: F) := Im.cut_l u8c_len (bs.length - 4) H26 (i := 2) rfl (by omega)
    refine g_seq ?_
    refine g_region ?_
    have H28 : St W w24 (Im 1 (.slice (cutAt pA1 (bs.length - 4) cA2 1) (bs.length - (bs.length - 4)) (cA2 - (bs.length - 4))) (bs.length - (bs.length - 4)) ((bs.drop (bs.length - 4)).flatMap u8c) :: Im 1 (.slice pA1 (bs.length - 4) cA2) ((headOf bs).length) ((headOf bs).flatMap u8c) :: blk bk14 (.cells #[.int .i64 0, .int .i64 0, .int .i64 0, .int .i64 0, .int .i64 0, .slice none 0 0] 24 (0, 0)) :: Im 1 (.slice pA1 bs.length cA2) bs.length (bs.flatMap u8c) :: imi (0 < bs.length) gA3 (.cells kA5 eA6 zA7) :: F) := by rw [headOf_len]; exact H27
    have H29 : St W w24 (Im 1 (.slice (cutAt pA1 (bs.length - 4) cA2 1) (bs.length - (bs.length - 4)) (cA2 - (bs.length - 4))) ((tailOf bs).length) ((tailOf bs).flatMap u8c) :: Im 1 (.slice pA1 (bs.length - 4) cA2) ((headOf bs).length) ((headOf bs).flatMap u8c) :: blk bk14 (.cells #[.int .i64 0, .int .i64 0, .int .i64 0, .int .i64 0, .int .i64 0, .slice none 0 0] 24 (0, 0)) :: Im 1 (.slice pA1 bs.length cA2) bs.length (bs.flatMap u8c) :: imi (0 < bs.length) gA3 (.cells kA5 eA6 zA7) :: F) := by rw [tailOf_len]; exact H28
    have hhl := headOf_len bs
    have hsl := sumN_lt (headOf bs)
    refine r_cons (s_move (.slice pA1 (bs.length - 4) cA2) rfl rfl ?_)
    refine r_cons (s_buildSlice H29 1 1 (cs := #[.slice pA1 (bs.length - 4) cA2]) #[.slice none 0 0] el_64 ze_22 (by decide) (by decide) (by kernel_rfl) rfl ?_); intro bk30 w31 H32
    refine r_cons (s_call [.slice (some ⟨bk30, 0, none⟩) 1 1] pl_20 rfl rfl (Sum1_im bk30 (headOf bs) _ (j := 2) rfl (i := 0) rfl H32) ?_)
    rintro _ w33 ⟨rfl, H34⟩
    refine r_cons (s_assign (.int .u32 ((sumN (headOf bs) : Nat) : Int)) rfl rfl ?_)
    refine r_nil ?_
    refine g_seq ?_
    refine g_seq ?_
    refine g_region ?_
    refine r_cons (s_move (.slice (cutAt pA1 (bs.length - 4) cA2 1) (bs.length - (bs.length - 4)) (cA2 - (bs.length - 4))) rfl rfl ?_)
    refine r_cons (s_move (.int .u32 ((sumN (headOf bs) : Nat) : Int)) rfl rfl ?_)
    refine r_cons (s_shr (((sumN (headOf bs)) / 2 ^ 24 : Nat) : Int) rfl rfl (by omega) (shr_nat (k := 24) rfl (by decide)) rfl ?_)
    refine r_cons (s_conv (((sumN (headOf bs)) / 2 ^ 24 : Nat) : Int) rfl us_37 ik_5 (wu8 (by omega)) rfl ?_)
    refine r_cons (s_move (.int .u32 ((sumN (headOf bs) : Nat) : Int)) rfl rfl ?_)
    refine r_cons (s_shr (((sumN (headOf bs)) / 2 ^ 16 : Nat) : Int) rfl rfl (by omega) (shr_nat (k := 16) rfl (by decide)) rfl ?_)
    refine r_cons (s_conv (((sumN (headOf bs)) / 2 ^ 16 % 256 : Nat) : Int) rfl us_37 ik_5 (wrap8 _) rfl ?_)
    refine r_cons (s_move (.int .u32 ((sumN (headOf bs) : Nat) : Int)) rfl rfl ?_)
    refine r_cons (s_shr (((sumN (headOf bs)) / 2 ^ 8 : Nat) : Int) rfl rfl (by omega) (shr_nat (k := 8) rfl (by decide)) rfl ?_)
    refine r_cons (s_conv (((sumN (headOf bs)) / 2 ^ 8 % 256 : Nat) : Int) rfl us_37 ik_5 (wrap8 _) rfl ?_)
    refine r_cons (s_move (.int .u32 ((sumN (headOf bs) : Nat) : Int)) rfl rfl ?_)
    refine r_cons (s_conv ((sumN (headOf bs) % 256 : Nat) : Int) rfl us_37 ik_5 (wrap8 _) rfl ?_)
    refine r_cons (s_buildSlice H34 1 4 (cs := #[.int .u8 (((sumN (headOf bs)) / 2 ^ 24 : Nat) : Int), .int .u8 (((sumN (headOf bs)) / 2 ^ 16 % 256 : Nat) : Int), .int .u8 (((sumN (headOf bs)) / 2 ^ 8 % 256 : Nat) : Int), .int .u8 ((sumN (headOf bs) % 256 : Nat) : Int)]) #[.int .u8 0] el_22 ze_5 (by decide) (by decide) (by kernel_rfl) rfl ?_); intro bk35 w36 H37
    have H38 : St W w36 (Im 1 (.slice (some ⟨bk35, 0, none⟩) 4 4) 4 ((sumB (sumN (headOf bs))).flatMap u8c) :: blk bk30 (.cells #[.slice pA1 (bs.length - 4) cA2] 22 (0, 0)) :: Im 1 (.slice (cutAt pA1 (bs.length - 4) cA2 1) (bs.length - (bs.length - 4)) (cA2 - (bs.length - 4))) ((tailOf bs).length) ((tailOf bs).flatMap u8c) :: Im 1 (.slice pA1 (bs.length - 4) cA2) ((headOf bs).length) ((headOf bs).flatMap u8c) :: blk bk14 (.cells #[.int .i64 0, .int .i64 0, .int .i64 0, .int .i64 0, .int .i64 0, .slice none 0 0] 24 (0, 0)) :: Im 1 (.slice pA1 bs.length cA2) bs.length (bs.flatMap u8c) :: imi (0 < bs.length) gA3 (.cells kA5 eA6 zA7) :: F) := by rw [sumB_cells (sumN_lt _)]; exact Row.im (Row.of_blk (n := 4) (size := 1) H37 (i := 0) rfl (by unfold maxLen; omega) (by simp) (by simp [Value.oneCell'])) (i := 0) rfl
    refine r_cons (s_call [.slice (cutAt pA1 (bs.length - 4) cA2 1) (bs.length - (bs.length - 4)) (cA2 - (bs.length - 4)), .slice (some ⟨bk35, 0, none⟩) 4 4] pl_18 rfl rfl (bytes_Equal _ _ _ _ _ _ (tailOf bs) (sumB (sumN (headOf bs))) RdA.im RdA.im (j := 2) rfl (k := 0) rfl H38) ?_)
    rintro _ w39 ⟨rfl, H40⟩
    refine r_cons (s_not (decide ((tailOf bs) = (sumB (sumN (headOf bs))))) rfl (!(decide ((tailOf bs) = (sumB (sumN (headOf bs)))))) rfl rfl ?_)
    refine r_nil ?_
    by_cases hb41 : (!(decide ((tailOf bs) = (sumB (sumN (headOf bs)))))) = true
    · skip
      refine g_true (congrArg Value.bool hb41) ?_
      refine g_seq ?_
      refine g_region ?_
      have htl : ¬ tailOf bs = sumB (sumN (headOf bs)) := by simpa using hb41
      refine r_cons (s_build (cs := #[.int .i64 0, .int .i64 0, .int .i64 0, .int .i64 0, .int .i64 0, .slice none 0 0]) (by kernel_rfl) rfl ?_)
      refine r_cons (s_storeAgg H40 4 #[.int .i64 0, .int .i64 0, .int .i64 0, .int .i64 0, .int .i64 0, .slice none 0 0] 6 rfl rfl rfl sz_24 rfl (by simp [Value.oneCell']) (Nat.le_of_ble_eq_true rfl) (fun o h1 h2 => by first | (simp; done) | (simp; omega)) (cs' := #[.int .i64 0, .int .i64 0, .int .i64 0, .int .i64 0, .int .i64 0, .slice none 0 0]) rfl ?_); intro w42 H43
      refine r_cons (s_assign (.int .i64 20) rfl rfl ?_)
      refine r_nil ?_
      refine g_ret' [.agg #[.int .i64 0, .int .i64 0, .int .i64 0, .int .i64 0, .int .i64 0, .slice none 0 0], .int .i64 20] Try.func10 Try.results10 ⟨(res_cellN rfl ag_24 (H43.blk_at (i := 4) rfl) (Nat.le_of_ble_eq_true rfl) rfl), rfl, trivial⟩ ?_
      have hD : decE bs = 20 := decE_20 (by omega) htl
      have H44 : St W w42 F := (((((((H43.drop 0 rfl).drop 0 rfl).drop 0 rfl).drop 0 rfl).drop 0 rfl).drop 0 rfl).drop 0 rfl)
      have hV := decV_no (bs := bs) (by rw [hD]; decide)
      have H45 := Row.nil_intro H44 5 1
      exact ⟨none, 0, 0, by rw [hD, hV]; rfl, by rw [hV]; rfl, by rw [hV]; exact H45⟩
    · have hb41 := eq_false_of_ne_true hb41
      refine g_false (congrArg Value.bool hb41) ?_
      refine g_skip ?_
      refine g_seq ?_
      refine g_region ?_
      have htl : tailOf bs = sumB (sumN (headOf bs)) := by simpa using hb41
      refine r_cons (s_move (.slice pA1 (bs.length - 4) cA2) rfl rfl ?_)
      refine r_cons (s_call [.slice pA1 (bs.length - 4) cA2] pl_26 rfl rfl (NewSource _ _ (headOf bs) (RdA.im) (by first | omega | decide) (j := 3) rfl H40) ?_)
      rintro _ w47 ⟨bk46, rfl, H48⟩
      refine r_cons (s_build (cs := #[.pointer (some ⟨bk46, 0, none⟩), .int .i64 0]) (by kernel_rfl) rfl ?_)
      refine r_cons (s_box H48 50 (.agg #[.pointer (some ⟨bk46, 0, none⟩), .int .i64 0]) rfl (cs := #[.pointer (some ⟨bk46, 0, none⟩), .int .i64 0]) rfl rfl ?_); intro bk49 w50 H51
      refine r_cons (s_assign (.pointer (some ⟨bk49, 0, none⟩)) rfl rfl ?_)
      refine r_nil ?_
      refine g_seq ?_
      refine g_region ?_
      refine r_cons (s_move (.pointer (some ⟨bk49, 0, none⟩)) rfl rfl ?_)
      have H52 : St W w50 (blk bk49 (.cells #[.pointer (some ⟨bk46, 0, none⟩), .int .i64 0] 50 (0, 0)) :: SrcA bk46 (headOf bs) 0 :: Im 1 (.slice (some ⟨bk35, 0, none⟩) 4 4) 4 ((sumB (sumN (headOf bs))).flatMap u8c) :: blk bk30 (.cells #[.slice pA1 (bs.length - 4) cA2] 22 (0, 0)) :: Im 1 (.slice (cutAt pA1 (bs.length - 4) cA2 1) (bs.length - (bs.length - 4)) (cA2 - (bs.length - 4))) ((tailOf bs).length) ((tailOf bs).flatMap u8c) :: Im 1 (.slice pA1 (bs.length - 4) cA2) ((headOf bs).length) ((headOf bs).flatMap u8c) :: blk bk14 (.cells #[.int .i64 0, .int .i64 0, .int .i64 0, .int .i64 0, .int .i64 0, .slice none 0 0] 24 (0, 0)) :: Im 1 (.slice pA1 bs.length cA2) bs.length (bs.flatMap u8c) :: imi (0 < bs.length) gA3 (.cells kA5 eA6 zA7) :: F) := (((((((((H51.move 8 rfl).move 8 rfl).move 8 rfl).move 8 rfl).move 8 rfl).move 8 rfl).move 8 rfl).move 8 rfl).move 8 rfl)
      refine r_cons (s_call [.pointer (some ⟨bk49, 0, none⟩), .int .i64 2] pl_27 rfl rfl (rd_bits_ok bk49 bk46 (headOf bs) 0 (by first | omega | decide +kernel | (repeat (first | assumption | exact Nat.zero_le _ | refine natN_pos ?_ | refine srcN_pos ?_ | refine textN_pos ?_))) (by omega) 2 (by decide) H52) ?_)
      rintro _ w58 (⟨he53, rfl, q55, hR56, hp57, H54⟩ | ⟨he53, rfl, H54⟩)
      · skip
        refine r_cons (s_build (cs := #[.int .i64 0, .int .i64 0, .int .i64 (srcU (remB (headOf bs) 0) 2 : Int), .int .i64 0, .int .i64 0, .slice none 0 0]) (by kernel_rfl) rfl ?_)
        refine r_cons (s_alloc H54 24 ze_24 rfl ?_); intro bk59 w60 H61
        refine r_cons (s_storeAgg H61 0 #[.int .i64 0, .int .i64 0, .int .i64 (srcU (remB (headOf bs) 0) 2 : Int), .int .i64 0, .int .i64 0, .slice none 0 0] 6 rfl rfl rfl sz_24 rfl (by simp [Value.oneCell']) (Nat.le_of_ble_eq_true rfl) (fun o h1 h2 => by first | (simp; done) | (simp; omega)) (cs' := #[.int .i64 0, .int .i64 0, .int .i64 (srcU (remB (headOf bs) 0) 2 : Int), .int .i64 0, .int .i64 0, .slice none 0 0]) rfl ?_); intro w62 H63
        refine r_nil ?_
        refine g_seq ?_
        refine g_region ?_
        refine r_cons (s_move (.pointer (some ⟨bk49, 0, none⟩)) rfl rfl ?_)
        refine r_cons (s_fieldAddr 24 2 2 2 3 rfl fi_24_2 rfl rfl ?_)
        refine r_cons (s_load (.int .i64 (srcU (remB (headOf bs) 0) 2 : Int)) ag_3 rfl (H63.blk_at (i := 0) rfl) rfl rfl ?_)
        by_cases hc64 : (srcU (remB (headOf bs) 0) 2 : Int) = 1
        · skip
          refine r_cons (s_neq false rfl rfl (ntrue hc64) rfl ?_)
          refine r_cons (s_move (.bool false) rfl rfl ?_)
          refine r_cons (r_pass rfl rfl rfl rfl rfl ?_)
          refine r_cons (r_pass rfl rfl rfl rfl rfl ?_)
          refine r_cons (r_pass rfl rfl rfl rfl rfl ?_)
          refine r_cons (s_pick_f (.bool false) rfl rfl rfl ?_)
          refine r_cons (s_call [.pointer (some ⟨bk49, 0, none⟩), .bool false] pl_28 rfl rfl (rd_fails_f bk49 bk46 (i := 1) rfl H63) ?_)
          rintro _ w65 ⟨rfl, H66⟩
          refine r_nil ?_
          refine g_seq ?_
          refine g_region ?_
          refine r_cons (s_move (.pointer (some ⟨bk49, 0, none⟩)) rfl rfl ?_)
          have H67 : St W w65 (blk bk49 (.cells #[.pointer (some ⟨bk46, 0, none⟩), .int .i64 0] 50 (0, 0)) :: SrcA bk46 (headOf bs) q55 :: blk bk59 (.cells #[.int .i64 0, .int .i64 0, .int .i64 (srcU (remB (headOf bs) 0) 2 : Int), .int .i64 0, .int .i64 0, .slice none 0 0] 24 (0, 0)) :: Im 1 (.slice (some ⟨bk35, 0, none⟩) 4 4) 4 ((sumB (sumN (headOf bs))).flatMap u8c) :: blk bk30 (.cells #[.slice pA1 (bs.length - 4) cA2] 22 (0, 0)) :: Im 1 (.slice (cutAt pA1 (bs.length - 4) cA2 1) (bs.length - (bs.length - 4)) (cA2 - (bs.length - 4))) ((tailOf bs).length) ((tailOf bs).flatMap u8c) :: Im 1 (.slice pA1 (bs.length - 4) cA2) ((headOf bs).length) ((headOf bs).flatMap u8c) :: blk bk14 (.cells #[.int .i64 0, .int .i64 0, .int .i64 0, .int .i64 0, .int .i64 0, .slice none 0 0] 24 (0, 0)) :: Im 1 (.slice pA1 bs.length cA2) bs.length (bs.flatMap u8c) :: imi (0 < bs.length) gA3 (.cells kA5 eA6 zA7) :: F) := ((((((((((H66.move 9 rfl).move 9 rfl).move 9 rfl).move 9 rfl).move 9 rfl).move 9 rfl).move 9 rfl).move 7 rfl).move 9 rfl).move 9 rfl)
          refine r_cons (s_call [.pointer (some ⟨bk49, 0, none⟩), .int .i64 4] pl_27 rfl rfl (rd_bits_ok bk49 bk46 (headOf bs) q55 (by first | omega | decide +kernel | (repeat (first | assumption | exact Nat.zero_le _ | refine natN_pos ?_ | refine srcN_pos ?_ | refine textN_pos ?_))) (by omega) 4 (by decide) H67) ?_)
          rintro _ w73 (⟨he68, rfl, q70, hR71, hp72, H69⟩ | ⟨he68, rfl, H69⟩)
          · skip
            refine r_cons (s_fieldAddr 24 0 0 0 3 rfl fi_24_0 rfl rfl ?_)
            refine r_cons (s_store H69 2 (.int .i64 (srcU (remB (headOf bs) q55) 4 : Int)) rfl rfl rfl sz_3 rfl (Nat.le_of_ble_eq_true rfl) rfl (cs' := #[.int .i64 (srcU (remB (headOf bs) q55) 4 : Int), .int .i64 0, .int .i64 (srcU (remB (headOf bs) 0) 2 : Int), .int .i64 0, .int .i64 0, .slice none 0 0]) rfl ?_); intro w74 H75
            refine r_nil ?_
            refine g_seq ?_
            refine g_region ?_
            refine r_cons (s_move (.pointer (some ⟨bk49, 0, none⟩)) rfl rfl ?_)
            have H76 : St W w74 (blk bk49 (.cells #[.pointer (some ⟨bk46, 0, none⟩), .int .i64 0] 50 (0, 0)) :: SrcA bk46 (headOf bs) q70 :: blk bk59 (.cells #[.int .i64 (srcU (remB (headOf bs) q55) 4 : Int), .int .i64 0, .int .i64 (srcU (remB (headOf bs) 0) 2 : Int), .int .i64 0, .int .i64 0, .slice none 0 0] 24 (0, 0)) :: Im 1 (.slice (some ⟨bk35, 0, none⟩) 4 4) 4 ((sumB (sumN (headOf bs))).flatMap u8c) :: blk bk30 (.cells #[.slice pA1 (bs.length - 4) cA2] 22 (0, 0)) :: Im 1 (.slice (cutAt pA1 (bs.length - 4) cA2 1) (bs.length - (bs.length - 4)) (cA2 - (bs.length - 4))) ((tailOf bs).length) ((tailOf bs).flatMap u8c) :: Im 1 (.slice pA1 (bs.length - 4) cA2) ((headOf bs).length) ((headOf bs).flatMap u8c) :: blk bk14 (.cells #[.int .i64 0, .int .i64 0, .int .i64 0, .int .i64 0, .int .i64 0, .slice none 0 0] 24 (0, 0)) :: Im 1 (.slice pA1 bs.length cA2) bs.length (bs.flatMap u8c) :: imi (0 < bs.length) gA3 (.cells kA5 eA6 zA7) :: F) := ((((((((((H75.move 9 rfl).move 9 rfl).move 9 rfl).move 9 rfl).move 9 rfl).move 9 rfl).move 9 rfl).move 9 rfl).move 9 rfl).move 9 rfl)
            refine r_cons (s_call [.pointer (some ⟨bk49, 0, none⟩), .int .i64 4] pl_27 rfl rfl (rd_bits_ok bk49 bk46 (headOf bs) q70 (by first | omega | decide +kernel | (repeat (first | assumption | exact Nat.zero_le _ | refine natN_pos ?_ | refine srcN_pos ?_ | refine textN_pos ?_))) (by omega) 4 (by decide) H76) ?_)
            rintro _ w82 (⟨he77, rfl, q79, hR80, hp81, H78⟩ | ⟨he77, rfl, H78⟩)
            · skip
              refine r_cons (s_fieldAddr 24 1 1 1 3 rfl fi_24_1 rfl rfl ?_)
              refine r_cons (s_store H78 2 (.int .i64 (srcU (remB (headOf bs) q70) 4 : Int)) rfl rfl rfl sz_3 rfl (Nat.le_of_ble_eq_true rfl) rfl (cs' := #[.int .i64 (srcU (remB (headOf bs) q55) 4 : Int), .int .i64 (srcU (remB (headOf bs) q70) 4 : Int), .int .i64 (srcU (remB (headOf bs) 0) 2 : Int), .int .i64 0, .int .i64 0, .slice none 0 0]) rfl ?_); intro w83 H84
              refine r_nil ?_
              refine g_seq ?_
              refine g_region ?_
              refine r_cons (s_move (.pointer (some ⟨bk49, 0, none⟩)) rfl rfl ?_)
              have H85 : St W w83 (blk bk49 (.cells #[.pointer (some ⟨bk46, 0, none⟩), .int .i64 0] 50 (0, 0)) :: SrcA bk46 (headOf bs) q79 :: blk bk59 (.cells #[.int .i64 (srcU (remB (headOf bs) q55) 4 : Int), .int .i64 (srcU (remB (headOf bs) q70) 4 : Int), .int .i64 (srcU (remB (headOf bs) 0) 2 : Int), .int .i64 0, .int .i64 0, .slice none 0 0] 24 (0, 0)) :: Im 1 (.slice (some ⟨bk35, 0, none⟩) 4 4) 4 ((sumB (sumN (headOf bs))).flatMap u8c) :: blk bk30 (.cells #[.slice pA1 (bs.length - 4) cA2] 22 (0, 0)) :: Im 1 (.slice (cutAt pA1 (bs.length - 4) cA2 1) (bs.length - (bs.length - 4)) (cA2 - (bs.length - 4))) ((tailOf bs).length) ((tailOf bs).flatMap u8c) :: Im 1 (.slice pA1 (bs.length - 4) cA2) ((headOf bs).length) ((headOf bs).flatMap u8c) :: blk bk14 (.cells #[.int .i64 0, .int .i64 0, .int .i64 0, .int .i64 0, .int .i64 0, .slice none 0 0] 24 (0, 0)) :: Im 1 (.slice pA1 bs.length cA2) bs.length (bs.flatMap u8c) :: imi (0 < bs.length) gA3 (.cells kA5 eA6 zA7) :: F) := ((((((((((H84.move 9 rfl).move 9 rfl).move 9 rfl).move 9 rfl).move 9 rfl).move 9 rfl).move 9 rfl).move 9 rfl).move 9 rfl).move 9 rfl)
              refine r_cons (s_call [.pointer (some ⟨bk49, 0, none⟩)] pl_30 rfl rfl (rd_nat_ok bk49 bk46 (headOf bs) q79 (by first | omega | decide +kernel | (repeat (first | assumption | exact Nat.zero_le _ | refine natN_pos ?_ | refine srcN_pos ?_ | refine textN_pos ?_))) (by omega)  H85) ?_)
              rintro _ w91 (⟨he86, rfl, q88, hR89, hp90, H87⟩ | ⟨he86, rfl, H87⟩)
              · skip
                refine r_cons (s_call [.int .u64 (natU (remB (headOf bs) q79) : Int)] pl_29 rfl rfl (frame_clip (natU (remB (headOf bs) q79)) (natU_lt _) H87) ?_)
                rintro _ w92 ⟨rfl, H93⟩
                refine r_cons (s_fieldAddr 24 4 4 4 2 rfl fi_24_4 rfl rfl ?_)
                refine r_cons (s_store H93 2 (.int .i64 (tmN (natU (remB (headOf bs) q79)))) rfl rfl rfl sz_2 rfl (Nat.le_of_ble_eq_true rfl) rfl (cs' := #[.int .i64 (srcU (remB (headOf bs) q55) 4 : Int), .int .i64 (srcU (remB (headOf bs) q70) 4 : Int), .int .i64 (srcU (remB (headOf bs) 0) 2 : Int), .int .i64 0, .int .i64 (tmN (natU (remB (headOf bs) q79))), .slice none 0 0]) rfl ?_); intro w94 H95
                refine r_nil ?_
                refine g_seq ?_
                refine g_seq ?_
                refine g_region ?_
                refine r_cons (s_fieldAddr 24 2 2 2 3 rfl fi_24_2 rfl rfl ?_)
                refine r_cons (s_load (.int .i64 (srcU (remB (headOf bs) 0) 2 : Int)) ag_3 rfl (H95.blk_at (i := 2) rfl) rfl rfl ?_)
                refine r_cons (s_eql true rfl rfl (dtrue (by omega)) rfl ?_)
                refine r_nil ?_
                refine g_true rfl ?_
                refine g_seq ?_
                refine g_region ?_
                refine r_cons (s_move (.pointer (some ⟨bk49, 0, none⟩)) rfl rfl ?_)
                have H96 : St W w94 (blk bk49 (.cells #[.pointer (some ⟨bk46, 0, none⟩), .int .i64 0] 50 (0, 0)) :: SrcA bk46 (headOf bs) q88 :: blk bk59 (.cells #[.int .i64 (srcU (remB (headOf bs) q55) 4 : Int), .int .i64 (srcU (remB (headOf bs) q70) 4 : Int), .int .i64 (srcU (remB (headOf bs) 0) 2 : Int), .int .i64 0, .int .i64 (tmN (natU (remB (headOf bs) q79))), .slice none 0 0] 24 (0, 0)) :: Im 1 (.slice (some ⟨bk35, 0, none⟩) 4 4) 4 ((sumB (sumN (headOf bs))).flatMap u8c) :: blk bk30 (.cells #[.slice pA1 (bs.length - 4) cA2] 22 (0, 0)) :: Im 1 (.slice (cutAt pA1 (bs.length - 4) cA2 1) (bs.length - (bs.length - 4)) (cA2 - (bs.length - 4))) ((tailOf bs).length) ((tailOf bs).flatMap u8c) :: Im 1 (.slice pA1 (bs.length - 4) cA2) ((headOf bs).length) ((headOf bs).flatMap u8c) :: blk bk14 (.cells #[.int .i64 0, .int .i64 0, .int .i64 0, .int .i64 0, .int .i64 0, .slice none 0 0] 24 (0, 0)) :: Im 1 (.slice pA1 bs.length cA2) bs.length (bs.flatMap u8c) :: imi (0 < bs.length) gA3 (.cells kA5 eA6 zA7) :: F) := ((((((((((H95.move 9 rfl).move 9 rfl).move 9 rfl).move 9 rfl).move 9 rfl).move 9 rfl).move 9 rfl).move 9 rfl).move 9 rfl).move 9 rfl)
                refine r_cons (s_call [.pointer (some ⟨bk49, 0, none⟩)] pl_30 rfl rfl (rd_nat_ok bk49 bk46 (headOf bs) q88 (by first | omega | decide +kernel | (repeat (first | assumption | exact Nat.zero_le _ | refine natN_pos ?_ | refine srcN_pos ?_ | refine textN_pos ?_))) (by omega)  H96) ?_)
                rintro _ w102 (⟨he97, rfl, q99, hR100, hp101, H98⟩ | ⟨he97, rfl, H98⟩)
                · skip
                  refine r_cons (s_call [.int .u64 (natU (remB (headOf bs) q88) : Int)] pl_29 rfl rfl (frame_clip (natU (remB (headOf bs) q88)) (natU_lt _) H98) ?_)
                  rintro _ w103 ⟨rfl, H104⟩
                  refine r_cons (s_fieldAddr 24 3 3 3 2 rfl fi_24_3 rfl rfl ?_)
                  refine r_cons (s_store H104 2 (.int .i64 (tmN (natU (remB (headOf bs) q88)))) rfl rfl rfl sz_2 rfl (Nat.le_of_ble_eq_true rfl) rfl (cs' := #[.int .i64 (srcU (remB (headOf bs) q55) 4 : Int), .int .i64 (srcU (remB (headOf bs) q70) 4 : Int), .int .i64 (srcU (remB (headOf bs) 0) 2 : Int), .int .i64 (tmN (natU (remB (headOf bs) q88))), .int .i64 (tmN (natU (remB (headOf bs) q79))), .slice none 0 0]) rfl ?_); intro w105 H106
                  refine r_nil ?_
                  refine g_region ?_
                  refine r_cons (s_move (.pointer (some ⟨bk49, 0, none⟩)) rfl rfl ?_)
                  have H107 : St W w105 (blk bk49 (.cells #[.pointer (some ⟨bk46, 0, none⟩), .int .i64 0] 50 (0, 0)) :: SrcA bk46 (headOf bs) q99 :: blk bk59 (.cells #[.int .i64 (srcU (remB (headOf bs) q55) 4 : Int), .int .i64 (srcU (remB (headOf bs) q70) 4 : Int), .int .i64 (srcU (remB (headOf bs) 0) 2 : Int), .int .i64 (tmN (natU (remB (headOf bs) q88))), .int .i64 (tmN (natU (remB (headOf bs) q79))), .slice none 0 0] 24 (0, 0)) :: Im 1 (.slice (some ⟨bk35, 0, none⟩) 4 4) 4 ((sumB (sumN (headOf bs))).flatMap u8c) :: blk bk30 (.cells #[.slice pA1 (bs.length - 4) cA2] 22 (0, 0)) :: Im 1 (.slice (cutAt pA1 (bs.length - 4) cA2 1) (bs.length - (bs.length - 4)) (cA2 - (bs.length - 4))) ((tailOf bs).length) ((tailOf bs).flatMap u8c) :: Im 1 (.slice pA1 (bs.length - 4) cA2) ((headOf bs).length) ((headOf bs).flatMap u8c) :: blk bk14 (.cells #[.int .i64 0, .int .i64 0, .int .i64 0, .int .i64 0, .int .i64 0, .slice none 0 0] 24 (0, 0)) :: Im 1 (.slice pA1 bs.length cA2) bs.length (bs.flatMap u8c) :: imi (0 < bs.length) gA3 (.cells kA5 eA6 zA7) :: F) := ((((((((((H106.move 9 rfl).move 9 rfl).move 9 rfl).move 9 rfl).move 9 rfl).move 9 rfl).move 9 rfl).move 9 rfl).move 9 rfl).move 9 rfl)
                  refine r_cons (s_call [.pointer (some ⟨bk49, 0, none⟩)] pl_31 rfl rfl (rd_body_ok bk49 bk46 (headOf bs) q99 (by first | omega | decide +kernel | (repeat (first | assumption | exact Nat.zero_le _ | refine natN_pos ?_ | refine srcN_pos ?_ | refine textN_pos ?_))) (by omega) H107) ?_)
                  rintro _ w116 (⟨he108, pp113, cc114, q110, rfl, hR111, hp112, H109⟩ | ⟨he108, pp113, NN115, cc114, rfl, q110, H109⟩)
                  · skip
                    refine r_cons (s_fieldAddr 24 5 5 5 22 rfl fi_24_5 rfl rfl ?_)
                    refine r_cons (s_store H109 3 (.slice pp113 (natU (remB (headOf bs) q99)) cc114) rfl rfl rfl sz_22 rfl (Nat.le_of_ble_eq_true rfl) rfl (cs' := #[.int .i64 (srcU (remB (headOf bs) q55) 4 : Int), .int .i64 (srcU (remB (headOf bs) q70) 4 : Int), .int .i64 (srcU (remB (headOf bs) 0) 2 : Int), .int .i64 (tmN (natU (remB (headOf bs) q88))), .int .i64 (tmN (natU (remB (headOf bs) q79))), .slice pp113 (natU (remB (headOf bs) q99)) cc114]) rfl ?_); intro w117 H118
                    refine r_nil ?_
                    refine g_seq ?_
                    refine g_seq ?_
                    refine g_region ?_
                    refine r_cons (s_move (.pointer (some ⟨bk49, 0, none⟩)) rfl rfl ?_)
                    refine r_cons (s_nilCheck (.pointer (some ⟨bk49, 0, none⟩)) rfl ⟨_, rfl⟩ rfl ?_)
                    refine r_cons (s_fieldAddr 50 1 1 1 25 rfl fi_50_1 rfl rfl ?_)
                    refine r_cons (s_load (.int .i64 0) ag_25 rfl (H118.blk_at (i := 1) rfl) rfl rfl ?_)
                    refine r_cons (s_eql true rfl rfl (dtrue (by decide)) rfl ?_)
                    refine r_nil ?_
                    refine g_true rfl ?_
                    refine g_region ?_
                    refine r_cons (s_move (.pointer (some ⟨bk49, 0, none⟩)) rfl rfl ?_)
                    refine r_cons (s_move (.pointer (some ⟨bk49, 0, none⟩)) rfl rfl ?_)
                    refine r_cons (s_nilCheck (.pointer (some ⟨bk49, 0, none⟩)) rfl ⟨_, rfl⟩ rfl ?_)
                    refine r_cons (s_fieldAddr 50 0 0 0 47 rfl fi_50_0 rfl rfl ?_)
                    refine r_cons (s_load (.pointer (some ⟨bk46, 0, none⟩)) ag_47 rfl (H118.blk_at (i := 1) rfl) rfl rfl ?_)
                    refine r_cons (s_call [.pointer (some ⟨bk46, 0, none⟩)] pl_32 rfl rfl (Src_End bk46 (headOf bs) q110 (by first | omega | decide +kernel | (repeat (first | assumption | exact Nat.zero_le _ | refine natN_pos ?_ | refine srcN_pos ?_ | refine textN_pos ?_))) (by first | omega | decide +kernel)   (i := 2) rfl H118) ?_)
                    rintro _ w119 ⟨rfl, H120⟩
                    refine r_cons (s_nilCheck (.pointer (some ⟨bk49, 0, none⟩)) rfl ⟨_, rfl⟩ rfl ?_)
                    refine r_cons (s_fieldAddr 50 1 1 1 25 rfl fi_50_1 rfl rfl ?_)
                    refine r_cons (s_store H120 1 (.int .i64 (endE (remB (headOf bs) q110))) rfl rfl rfl sz_25 rfl (Nat.le_of_ble_eq_true rfl) rfl (cs' := #[.pointer (some ⟨bk46, 0, none⟩), .int .i64 (endE (remB (headOf bs) q110))]) rfl ?_); intro w121 H122
                    refine r_nil ?_
                    refine g_seq ?_
                    refine g_seq ?_
                    refine g_region ?_
                    refine r_cons (s_move (.pointer (some ⟨bk49, 0, none⟩)) rfl rfl ?_)
                    refine r_cons (s_nilCheck (.pointer (some ⟨bk49, 0, none⟩)) rfl ⟨_, rfl⟩ rfl ?_)
                    refine r_cons (s_fieldAddr 50 1 1 1 25 rfl fi_50_1 rfl rfl ?_)
                    refine r_cons (s_load (.int .i64 (endE (remB (headOf bs) q110))) ag_25 rfl (H122.blk_at (i := 1) rfl) rfl rfl ?_)
                    by_cases hc123 : endE (remB (headOf bs) q110) = 0
                    · skip
                      refine r_cons (s_eql true rfl rfl (dtrue hc123) rfl ?_)
                      refine r_nil ?_
                      refine g_true rfl ?_
                      refine g_region ?_
                      refine r_cons (s_move (.pointer (some ⟨bk49, 0, none⟩)) rfl rfl ?_)
                      have f1 : fr1 (remB (headOf bs) 0) = remB (headOf bs) q55 := hR56.symm
                      have f2 : fr2 (remB (headOf bs) 0) = remB (headOf bs) q70 := by unfold fr2; rw [f1]; exact hR71.symm
                      have f3 : fr3 (remB (headOf bs) 0) = remB (headOf bs) q79 := by unfold fr3; rw [f2]; exact hR80.symm
                      have f4 : fr4 (remB (headOf bs) 0) = remB (headOf bs) q88 := by unfold fr4; rw [f3]; exact hR89.symm
                      have f5 : fr5 (remB (headOf bs) 0) = remB (headOf bs) q99 := by unfold fr5; rw [f4]; exact hR100.symm
                      have fend : frEnd (remB (headOf bs) 0) = remB (headOf bs) q110 := by unfold frEnd; rw [if_pos (show srcU (remB (headOf bs) 0) 2 = 1 by omega), f5]; exact hR111.symm
                      have q1 : (frV (remB (headOf bs) 0)).frm.v = (srcU (remB (headOf bs) q55) 4 : Int) := by rw [frV_frm, f1]
                      have q2 : (frV (remB (headOf bs) 0)).to_.v = (srcU (remB (headOf bs) q70) 4 : Int) := by rw [frV_to, f2]
                      have q3 : (frV (remB (headOf bs) 0)).kind.v = (srcU (remB (headOf bs) 0) 2 : Int) := frV_kind
                      have q4 : (frV (remB (headOf bs) 0)).ack.v = tmN (natU (remB (headOf bs) q79)) := by rw [frV_ack, f3]
                      have q5 : (frV (remB (headOf bs) 0)).seq.v = tmN (natU (remB (headOf bs) q88)) := by rw [frV_seq1 (show srcU (remB (headOf bs) 0) 2 = 1 by omega), f4]
                      have q6 : (frV (remB (headOf bs) 0)).body = textBytes (remB (headOf bs) q99) := by rw [frV_body1 (show srcU (remB (headOf bs) 0) 2 = 1 by omega), f5]
                      have q7 : (textBytes (remB (headOf bs) q99)).length = natU (remB (headOf bs) q99) := body_len he108
                      have H124 : St W w121 (Row 5 1 (.slice pp113 ((frV (remB (headOf bs) 0)).body.length) cc114) ((frV (remB (headOf bs) 0)).body.length) ((frV (remB (headOf bs) 0)).body.flatMap u8c) :: blk bk49 (.cells #[.pointer (some ⟨bk46, 0, none⟩), .int .i64 (endE (remB (headOf bs) q110))] 50 (0, 0)) :: SrcA bk46 (headOf bs) q110 :: blk bk59 (.cells #[.int .i64 ((frV (remB (headOf bs) 0)).frm.v), .int .i64 ((frV (remB (headOf bs) 0)).to_.v), .int .i64 ((frV (remB (headOf bs) 0)).kind.v), .int .i64 ((frV (remB (headOf bs) 0)).seq.v), .int .i64 ((frV (remB (headOf bs) 0)).ack.v), .slice pp113 ((frV (remB (headOf bs) 0)).body.length) cc114] 24 (0, 0)) :: Im 1 (.slice (some ⟨bk35, 0, none⟩) 4 4) 4 ((sumB (sumN (headOf bs))).flatMap u8c) :: blk bk30 (.cells #[.slice pA1 (bs.length - 4) cA2] 22 (0, 0)) :: Im 1 (.slice (cutAt pA1 (bs.length - 4) cA2 1) (bs.length - (bs.length - 4)) (cA2 - (bs.length - 4))) ((tailOf bs).length) ((tailOf bs).flatMap u8c) :: Im 1 (.slice pA1 (bs.length - 4) cA2) ((headOf bs).length) ((headOf bs).flatMap u8c) :: blk bk14 (.cells #[.int .i64 0, .int .i64 0, .int .i64 0, .int .i64 0, .int .i64 0, .slice none 0 0] 24 (0, 0)) :: Im 1 (.slice pA1 bs.length cA2) bs.length (bs.flatMap u8c) :: imi (0 < bs.length) gA3 (.cells kA5 eA6 zA7) :: F) := by rw [q1, q2, q3, q4, q5, q6, q7]; exact H122
                      refine r_cons (s_loadAgg [.int .i64 ((frV (remB (headOf bs) 0)).frm.v), .int .i64 ((frV (remB (headOf bs) 0)).to_.v), .int .i64 ((frV (remB (headOf bs) 0)).kind.v), .int .i64 ((frV (remB (headOf bs) 0)).seq.v), .int .i64 ((frV (remB (headOf bs) 0)).ack.v), .slice pp113 ((frV (remB (headOf bs) 0)).body.length) cc114] 6 ag_24 rfl (H124.blk_at (i := 3) rfl) (Nat.le_of_ble_eq_true rfl) rfl rfl ?_)
                      refine r_cons (s_call [.agg #[.int .i64 ((frV (remB (headOf bs) 0)).frm.v), .int .i64 ((frV (remB (headOf bs) 0)).to_.v), .int .i64 ((frV (remB (headOf bs) 0)).kind.v), .int .i64 ((frV (remB (headOf bs) 0)).seq.v), .int .i64 ((frV (remB (headOf bs) 0)).ack.v), .slice pp113 ((frV (remB (headOf bs) 0)).body.length) cc114]] pl_15 rfl rfl (frame_Check (frV (remB (headOf bs) 0)) _ RdA.row (j := 0) rfl H124) ?_)
                      rintro _ w125 ⟨rfl, H126⟩
                      refine r_cons (s_nilCheck (.pointer (some ⟨bk49, 0, none⟩)) rfl ⟨_, rfl⟩ rfl ?_)
                      refine r_cons (s_fieldAddr 50 1 1 1 25 rfl fi_50_1 rfl rfl ?_)
                      refine r_cons (s_store H126 1 (.int .i64 (dgE (frV (remB (headOf bs) 0)))) rfl rfl rfl sz_25 rfl (Nat.le_of_ble_eq_true rfl) rfl (cs' := #[.pointer (some ⟨bk46, 0, none⟩), .int .i64 (dgE (frV (remB (headOf bs) 0)))]) rfl ?_); intro w127 H128
                      refine r_nil ?_
                      refine g_seq ?_
                      refine g_seq ?_
                      refine g_region ?_
                      refine r_cons (s_move (.pointer (some ⟨bk49, 0, none⟩)) rfl rfl ?_)
                      refine r_cons (s_nilCheck (.pointer (some ⟨bk49, 0, none⟩)) rfl ⟨_, rfl⟩ rfl ?_)
                      refine r_cons (s_fieldAddr 50 1 1 1 25 rfl fi_50_1 rfl rfl ?_)
                      refine r_cons (s_load (.int .i64 (dgE (frV (remB (headOf bs) 0)))) ag_25 rfl (H128.blk_at (i := 1) rfl) rfl rfl ?_)
                      by_cases hc129 : dgE (frV (remB (headOf bs) 0)) = 0
                      · skip
                        refine r_cons (s_neq false rfl rfl (ntrue hc129) rfl ?_)
                        refine r_nil ?_
                        refine g_false rfl ?_
                        refine g_skip ?_
                        refine g_seq ?_
                        refine g_region ?_
                        refine r_cons (s_loadAgg [.int .i64 ((frV (remB (headOf bs) 0)).frm.v), .int .i64 ((frV (remB (headOf bs) 0)).to_.v), .int .i64 ((frV (remB (headOf bs) 0)).kind.v), .int .i64 ((frV (remB (headOf bs) 0)).seq.v), .int .i64 ((frV (remB (headOf bs) 0)).ack.v), .slice pp113 ((frV (remB (headOf bs) 0)).body.length) cc114] 6 ag_24 rfl (H128.blk_at (i := 3) rfl) (Nat.le_of_ble_eq_true rfl) rfl rfl ?_)
                        refine r_cons (s_storeAgg H128 8 #[.int .i64 ((frV (remB (headOf bs) 0)).frm.v), .int .i64 ((frV (remB (headOf bs) 0)).to_.v), .int .i64 ((frV (remB (headOf bs) 0)).kind.v), .int .i64 ((frV (remB (headOf bs) 0)).seq.v), .int .i64 ((frV (remB (headOf bs) 0)).ack.v), .slice pp113 ((frV (remB (headOf bs) 0)).body.length) cc114] 6 rfl rfl rfl sz_24 rfl (by simp [Value.oneCell']) (Nat.le_of_ble_eq_true rfl) (fun o h1 h2 => by first | (simp; done) | (simp; omega)) (cs' := #[.int .i64 ((frV (remB (headOf bs) 0)).frm.v), .int .i64 ((frV (remB (headOf bs) 0)).to_.v), .int .i64 ((frV (remB (headOf bs) 0)).kind.v), .int .i64 ((frV (remB (headOf bs) 0)).seq.v), .int .i64 ((frV (remB (headOf bs) 0)).ack.v), .slice pp113 ((frV (remB (headOf bs) 0)).body.length) cc114]) rfl ?_); intro w130 H131
                        refine r_cons (s_assign (.int .i64 0) rfl rfl ?_)
                        refine r_nil ?_
                        refine g_ret' [.agg #[.int .i64 ((frV (remB (headOf bs) 0)).frm.v), .int .i64 ((frV (remB (headOf bs) 0)).to_.v), .int .i64 ((frV (remB (headOf bs) 0)).kind.v), .int .i64 ((frV (remB (headOf bs) 0)).seq.v), .int .i64 ((frV (remB (headOf bs) 0)).ack.v), .slice pp113 ((frV (remB (headOf bs) 0)).body.length) cc114], .int .i64 0] Try.func10 Try.results10 ⟨(res_cellN rfl ag_24 (H131.blk_at (i := 8) rfl) (Nat.le_of_ble_eq_true rfl) rfl), rfl, trivial⟩ ?_
                        have hr0 : rdE (remB (headOf bs) 0) = 0 := (rdE_g he53 (show srcU (remB (headOf bs) 0) 2 = 1 by omega) (by rw [f1]; exact he68) (by rw [f2]; exact he77) (by rw [f3]; exact he86) (by rw [f4]; exact he97)).trans (by rw [f5]; exact he108)
                        have hD0 : decE bs = dgE (frV (remB (headOf bs) 0)) := (decE_fr0 (by omega) htl).trans (frE_dg hr0 (by rw [fend]; exact hc123))
                        have hD : decE bs = 0 := by rw [hD0]; exact hc129
                        have H132 : St W w130 (Row 5 1 (.slice pp113 ((frV (remB (headOf bs) 0)).body.length) cc114) ((frV (remB (headOf bs) 0)).body.length) ((frV (remB (headOf bs) 0)).body.flatMap u8c) :: F) := ((((((((((H131.drop 1 rfl).drop 1 rfl).drop 1 rfl).drop 1 rfl).drop 1 rfl).drop 1 rfl).drop 1 rfl).drop 1 rfl).drop 1 rfl).drop 1 rfl)
                        have hV : decV bs = frV (remB (headOf bs) 0) := decV_yes0 hD
                        exact ⟨_, _, _, by rw [hD, hV]; rfl, by rw [hV], by rw [hV]; exact H132⟩
                      · skip
                        refine r_cons (s_neq true rfl rfl (nfalse hc129) rfl ?_)
                        refine r_nil ?_
                        refine g_true rfl ?_
                        refine g_seq ?_
                        have H133 : St W w127 (Row 5 1 (.slice pp113 ((frV (remB (headOf bs) 0)).body.length) cc114) ((frV (remB (headOf bs) 0)).body.length) ((frV (remB (headOf bs) 0)).body.flatMap u8c) :: blk bk49 (.cells #[.pointer (some ⟨bk46, 0, none⟩), .int .i64 (dgE (frV (remB (headOf bs) 0)))] 50 (0, 0)) :: SrcA bk46 (headOf bs) q110 :: blk bk59 (.cells #[.int .i64 ((frV (remB (headOf bs) 0)).frm.v), .int .i64 ((frV (remB (headOf bs) 0)).to_.v), .int .i64 ((frV (remB (headOf bs) 0)).kind.v), .int .i64 ((frV (remB (headOf bs) 0)).seq.v), .int .i64 ((frV (remB (headOf bs) 0)).ack.v), .slice pp113 ((frV (remB (headOf bs) 0)).body.length) cc114] 24 (0, 0)) :: Im 1 (.slice (some ⟨bk35, 0, none⟩) 4 4) 4 ((sumB (sumN (headOf bs))).flatMap u8c) :: blk bk30 (.cells #[.slice pA1 (bs.length - 4) cA2] 22 (0, 0)) :: Im 1 (.slice (cutAt pA1 (bs.length - 4) cA2 1) (bs.length - (bs.length - 4)) (cA2 - (bs.length - 4))) ((tailOf bs).length) ((tailOf bs).flatMap u8c) :: Im 1 (.slice pA1 (bs.length - 4) cA2) ((headOf bs).length) ((headOf bs).flatMap u8c) :: Im 1 (.slice pA1 bs.length cA2) bs.length (bs.flatMap u8c) :: imi (0 < bs.length) gA3 (.cells kA5 eA6 zA7) :: blk bk14 (.cells #[.int .i64 0, .int .i64 0, .int .i64 0, .int .i64 0, .int .i64 0, .slice none 0 0] 24 (0, 0)) :: F) := (((((((((((H128.move 8 rfl).move 10 rfl).move 10 rfl).move 10 rfl).move 10 rfl).move 10 rfl).move 10 rfl).move 10 rfl).move 10 rfl).move 10 rfl).move 10 rfl)
                        refine g_mix (fun t_ w => St W w (Row 5 1 (.slice pp113 ((frV (remB (headOf bs) 0)).body.length) cc114) ((frV (remB (headOf bs) 0)).body.length) ((frV (remB (headOf bs) 0)).body.flatMap u8c) :: blk bk49 (.cells #[.pointer (some ⟨bk46, 0, none⟩), .int .i64 (dgE (frV (remB (headOf bs) 0)))] 50 (0, 0)) :: SrcA bk46 (headOf bs) q110 :: blk bk59 (.cells #[.int .i64 ((frV (remB (headOf bs) 0)).frm.v), .int .i64 ((frV (remB (headOf bs) 0)).to_.v), .int .i64 ((frV (remB (headOf bs) 0)).kind.v), .int .i64 ((frV (remB (headOf bs) 0)).seq.v), .int .i64 ((frV (remB (headOf bs) 0)).ack.v), .slice pp113 ((frV (remB (headOf bs) 0)).body.length) cc114] 24 (0, 0)) :: Im 1 (.slice (some ⟨bk35, 0, none⟩) 4 4) 4 ((sumB (sumN (headOf bs))).flatMap u8c) :: blk bk30 (.cells #[.slice pA1 (bs.length - 4) cA2] 22 (0, 0)) :: Im 1 (.slice (cutAt pA1 (bs.length - 4) cA2 1) (bs.length - (bs.length - 4)) (cA2 - (bs.length - 4))) ((tailOf bs).length) ((tailOf bs).flatMap u8c) :: Im 1 (.slice pA1 (bs.length - 4) cA2) ((headOf bs).length) ((headOf bs).flatMap u8c) :: Im 1 (.slice pA1 bs.length cA2) bs.length (bs.flatMap u8c) :: imi (0 < bs.length) gA3 (.cells kA5 eA6 zA7) :: t_)) (blk bk14 (.cells #[.int .i64 0, .int .i64 0, .int .i64 0, .int .i64 0, .int .i64 0, .slice none 0 0] 24 (0, 0)) :: F) mixed 7 rfl H133.drew ?_
                        refine f_first 0 (listed' := #[true, false, false, false, false, false, false]) rfl (by kernel_rfl) (by kernel_rfl) (by kernel_rfl) rfl ?_
                        refine f_val rfl rfl rfl (by intro t_ w hw; exact x_build (cs := #[.int .i64 0, .int .i64 0, .int .i64 0, .int .i64 0, .int .i64 0, .slice none 0 0]) (by kernel_rfl) w) ?_
                        refine f_first 1 (listed' := #[true, true, false, false, false, false, false]) rfl (by kernel_rfl) (by kernel_rfl) (by kernel_rfl) rfl ?_
                        refine f_val rfl rfl rfl (by intro t_ w hw; exact x_move (.pointer (some ⟨bk49, 0, none⟩)) rfl w) ?_
                        refine f_first 2 (listed' := #[true, true, true, false, false, false, false]) rfl (by kernel_rfl) (by kernel_rfl) (by kernel_rfl) rfl ?_
                        refine f_val rfl rfl rfl (by intro t_ w hw; exact x_nilCheck (.pointer (some ⟨bk49, 0, none⟩)) rfl ⟨_, rfl⟩ w) ?_
                        refine f_first 3 (listed' := #[true, true, true, true, false, false, false]) rfl (by kernel_rfl) (by kernel_rfl) (by kernel_rfl) rfl ?_
                        refine f_val rfl rfl rfl (by intro t_ w hw; exact x_fieldAddr 50 1 1 1 25 rfl fi_50_1 rfl w) ?_
                        refine f_first 4 (listed' := #[true, true, true, true, true, false, false]) rfl (by kernel_rfl) (by kernel_rfl) (by kernel_rfl) rfl ?_
                        refine f_val rfl rfl rfl (by intro t_ w hw; exact x_load (.int .i64 (dgE (frV (remB (headOf bs) 0)))) ag_25 rfl (hw.blk_at (i := 1) rfl) rfl) ?_
                        refine f_all (rs := [5]) (by kernel_rfl) (by simp) ?_
                        refine a_cons ⟨_, rfl, ?_⟩ (fun x hx => absurd hx (by simp))
                        intro w134 H135
                        try dsimp only at H135
                        refine s_storeAgg H135 10 #[.int .i64 0, .int .i64 0, .int .i64 0, .int .i64 0, .int .i64 0, .slice none 0 0] 6 rfl rfl rfl sz_24 rfl (by simp [Value.oneCell']) (Nat.le_of_ble_eq_true rfl) (fun o h1 h2 => by first | (simp; done) | (simp; omega)) (cs' := #[.int .i64 0, .int .i64 0, .int .i64 0, .int .i64 0, .int .i64 0, .slice none 0 0]) rfl ?_; intro w136 H137
                        refine ⟨blk bk14 (.cells #[.int .i64 0, .int .i64 0, .int .i64 0, .int .i64 0, .int .i64 0, .slice none 0 0] 24 (0, 0)) :: F, ?_, H137⟩
                        change FReg _ _ _ _ _ #[true, true, true, true, true, true, false] _ _
                        refine f_first 6 (listed' := #[true, true, true, true, true, true, true]) rfl (by kernel_rfl) (by kernel_rfl) (by kernel_rfl) rfl ?_
                        refine f_val rfl rfl rfl (by intro t_ w hw; exact x_assign (.int .i64 (dgE (frV (remB (headOf bs) 0)))) rfl w) ?_
                        refine f_done (by kernel_rfl) ?_
                        intro w138 H139
                        refine g_ret' [.agg #[.int .i64 0, .int .i64 0, .int .i64 0, .int .i64 0, .int .i64 0, .slice none 0 0], .int .i64 (dgE (frV (remB (headOf bs) 0)))] Try.func10 Try.results10 ⟨(res_cellN rfl ag_24 (H139.blk_at (i := 10) rfl) (Nat.le_of_ble_eq_true rfl) rfl), rfl, trivial⟩ ?_
                        have hr0 : rdE (remB (headOf bs) 0) = 0 := (rdE_g he53 (show srcU (remB (headOf bs) 0) 2 = 1 by omega) (by rw [f1]; exact he68) (by rw [f2]; exact he77) (by rw [f3]; exact he86) (by rw [f4]; exact he97)).trans (by rw [f5]; exact he108)
                        have hD0 : decE bs = dgE (frV (remB (headOf bs) 0)) := (decE_fr0 (by omega) htl).trans (frE_dg hr0 (by rw [fend]; exact hc123))
                        have hD : decE bs = dgE (frV (remB (headOf bs) 0)) := hD0
                        have H140 : St W w138 F := (((((((((((H139.drop 0 rfl).drop 0 rfl).drop 0 rfl).drop 0 rfl).drop 0 rfl).drop 0 rfl).drop 0 rfl).drop 0 rfl).drop 0 rfl).drop 0 rfl).drop 0 rfl)
                        have hV := decV_no (bs := bs) (by rw [hD]; exact hc129)
                        have H141 := Row.nil_intro H140 5 1
                        exact ⟨none, 0, 0, by rw [hD, hV]; rfl, by rw [hV]; rfl, by rw [hV]; exact H141⟩
                    · skip
                      refine r_cons (s_eql false rfl rfl (dfalse hc123) rfl ?_)
                      refine r_nil ?_
                      refine g_false rfl ?_
                      refine g_skip ?_
                      refine g_seq ?_
                      refine g_seq ?_
                      refine g_region ?_
                      refine r_cons (s_move (.pointer (some ⟨bk49, 0, none⟩)) rfl rfl ?_)
                      refine r_cons (s_nilCheck (.pointer (some ⟨bk49, 0, none⟩)) rfl ⟨_, rfl⟩ rfl ?_)
                      refine r_cons (s_fieldAddr 50 1 1 1 25 rfl fi_50_1 rfl rfl ?_)
                      refine r_cons (s_load (.int .i64 (endE (remB (headOf bs) q110))) ag_25 rfl (H122.blk_at (i := 1) rfl) rfl rfl ?_)
                      refine r_cons (s_neq true rfl rfl (nfalse (by omega)) rfl ?_)
                      refine r_nil ?_
                      refine g_true rfl ?_
                      refine g_seq ?_
                      have H142 : St W w121 (Row 5 1 (.slice pp113 (natU (remB (headOf bs) q99)) cc114) (natU (remB (headOf bs) q99)) ((textBytes (remB (headOf bs) q99)).flatMap u8c) :: blk bk49 (.cells #[.pointer (some ⟨bk46, 0, none⟩), .int .i64 (endE (remB (headOf bs) q110))] 50 (0, 0)) :: SrcA bk46 (headOf bs) q110 :: blk bk59 (.cells #[.int .i64 (srcU (remB (headOf bs) q55) 4 : Int), .int .i64 (srcU (remB (headOf bs) q70) 4 : Int), .int .i64 (srcU (remB (headOf bs) 0) 2 : Int), .int .i64 (tmN (natU (remB (headOf bs) q88))), .int .i64 (tmN (natU (remB (headOf bs) q79))), .slice pp113 (natU (remB (headOf bs) q99)) cc114] 24 (0, 0)) :: Im 1 (.slice (some ⟨bk35, 0, none⟩) 4 4) 4 ((sumB (sumN (headOf bs))).flatMap u8c) :: blk bk30 (.cells #[.slice pA1 (bs.length - 4) cA2] 22 (0, 0)) :: Im 1 (.slice (cutAt pA1 (bs.length - 4) cA2 1) (bs.length - (bs.length - 4)) (cA2 - (bs.length - 4))) ((tailOf bs).length) ((tailOf bs).flatMap u8c) :: Im 1 (.slice pA1 (bs.length - 4) cA2) ((headOf bs).length) ((headOf bs).flatMap u8c) :: Im 1 (.slice pA1 bs.length cA2) bs.length (bs.flatMap u8c) :: imi (0 < bs.length) gA3 (.cells kA5 eA6 zA7) :: blk bk14 (.cells #[.int .i64 0, .int .i64 0, .int .i64 0, .int .i64 0, .int .i64 0, .slice none 0 0] 24 (0, 0)) :: F) := (((((((((((H122.move 8 rfl).move 10 rfl).move 10 rfl).move 10 rfl).move 10 rfl).move 10 rfl).move 10 rfl).move 10 rfl).move 10 rfl).move 10 rfl).move 10 rfl)
                      refine g_mix (fun t_ w => St W w (Row 5 1 (.slice pp113 (natU (remB (headOf bs) q99)) cc114) (natU (remB (headOf bs) q99)) ((textBytes (remB (headOf bs) q99)).flatMap u8c) :: blk bk49 (.cells #[.pointer (some ⟨bk46, 0, none⟩), .int .i64 (endE (remB (headOf bs) q110))] 50 (0, 0)) :: SrcA bk46 (headOf bs) q110 :: blk bk59 (.cells #[.int .i64 (srcU (remB (headOf bs) q55) 4 : Int), .int .i64 (srcU (remB (headOf bs) q70) 4 : Int), .int .i64 (srcU (remB (headOf bs) 0) 2 : Int), .int .i64 (tmN (natU (remB (headOf bs) q88))), .int .i64 (tmN (natU (remB (headOf bs) q79))), .slice pp113 (natU (remB (headOf bs) q99)) cc114] 24 (0, 0)) :: Im 1 (.slice (some ⟨bk35, 0, none⟩) 4 4) 4 ((sumB (sumN (headOf bs))).flatMap u8c) :: blk bk30 (.cells #[.slice pA1 (bs.length - 4) cA2] 22 (0, 0)) :: Im 1 (.slice (cutAt pA1 (bs.length - 4) cA2 1) (bs.length - (bs.length - 4)) (cA2 - (bs.length - 4))) ((tailOf bs).length) ((tailOf bs).flatMap u8c) :: Im 1 (.slice pA1 (bs.length - 4) cA2) ((headOf bs).length) ((headOf bs).flatMap u8c) :: Im 1 (.slice pA1 bs.length cA2) bs.length (bs.flatMap u8c) :: imi (0 < bs.length) gA3 (.cells kA5 eA6 zA7) :: t_)) (blk bk14 (.cells #[.int .i64 0, .int .i64 0, .int .i64 0, .int .i64 0, .int .i64 0, .slice none 0 0] 24 (0, 0)) :: F) mixed 7 rfl H142.drew ?_
                      refine f_first 0 (listed' := #[true, false, false, false, false, false, false]) rfl (by kernel_rfl) (by kernel_rfl) (by kernel_rfl) rfl ?_
                      refine f_val rfl rfl rfl (by intro t_ w hw; exact x_build (cs := #[.int .i64 0, .int .i64 0, .int .i64 0, .int .i64 0, .int .i64 0, .slice none 0 0]) (by kernel_rfl) w) ?_
                      refine f_first 1 (listed' := #[true, true, false, false, false, false, false]) rfl (by kernel_rfl) (by kernel_rfl) (by kernel_rfl) rfl ?_
                      refine f_val rfl rfl rfl (by intro t_ w hw; exact x_move (.pointer (some ⟨bk49, 0, none⟩)) rfl w) ?_
                      refine f_first 2 (listed' := #[true, true, true, false, false, false, false]) rfl (by kernel_rfl) (by kernel_rfl) (by kernel_rfl) rfl ?_
                      refine f_val rfl rfl rfl (by intro t_ w hw; exact x_nilCheck (.pointer (some ⟨bk49, 0, none⟩)) rfl ⟨_, rfl⟩ w) ?_
                      refine f_first 3 (listed' := #[true, true, true, true, false, false, false]) rfl (by kernel_rfl) (by kernel_rfl) (by kernel_rfl) rfl ?_
                      refine f_val rfl rfl rfl (by intro t_ w hw; exact x_fieldAddr 50 1 1 1 25 rfl fi_50_1 rfl w) ?_
                      refine f_first 4 (listed' := #[true, true, true, true, true, false, false]) rfl (by kernel_rfl) (by kernel_rfl) (by kernel_rfl) rfl ?_
                      refine f_val rfl rfl rfl (by intro t_ w hw; exact x_load (.int .i64 (endE (remB (headOf bs) q110))) ag_25 rfl (hw.blk_at (i := 1) rfl) rfl) ?_
                      refine f_all (rs := [5]) (by kernel_rfl) (by simp) ?_
                      refine a_cons ⟨_, rfl, ?_⟩ (fun x hx => absurd hx (by simp))
                      intro w143 H144
                      try dsimp only at H144
                      refine s_storeAgg H144 10 #[.int .i64 0, .int .i64 0, .int .i64 0, .int .i64 0, .int .i64 0, .slice none 0 0] 6 rfl rfl rfl sz_24 rfl (by simp [Value.oneCell']) (Nat.le_of_ble_eq_true rfl) (fun o h1 h2 => by first | (simp; done) | (simp; omega)) (cs' := #[.int .i64 0, .int .i64 0, .int .i64 0, .int .i64 0, .int .i64 0, .slice none 0 0]) rfl ?_; intro w145 H146
                      refine ⟨blk bk14 (.cells #[.int .i64 0, .int .i64 0, .int .i64 0, .int .i64 0, .int .i64 0, .slice none 0 0] 24 (0, 0)) :: F, ?_, H146⟩
                      change FReg _ _ _ _ _ #[true, true, true, true, true, true, false] _ _
                      refine f_first 6 (listed' := #[true, true, true, true, true, true, true]) rfl (by kernel_rfl) (by kernel_rfl) (by kernel_rfl) rfl ?_
                      refine f_val rfl rfl rfl (by intro t_ w hw; exact x_assign (.int .i64 (endE (remB (headOf bs) q110))) rfl w) ?_
                      refine f_done (by kernel_rfl) ?_
                      intro w147 H148
                      refine g_ret' [.agg #[.int .i64 0, .int .i64 0, .int .i64 0, .int .i64 0, .int .i64 0, .slice none 0 0], .int .i64 (endE (remB (headOf bs) q110))] Try.func10 Try.results10 ⟨(res_cellN rfl ag_24 (H148.blk_at (i := 10) rfl) (Nat.le_of_ble_eq_true rfl) rfl), rfl, trivial⟩ ?_
                      have f1 : fr1 (remB (headOf bs) 0) = remB (headOf bs) q55 := hR56.symm
                      have f2 : fr2 (remB (headOf bs) 0) = remB (headOf bs) q70 := by unfold fr2; rw [f1]; exact hR71.symm
                      have f3 : fr3 (remB (headOf bs) 0) = remB (headOf bs) q79 := by unfold fr3; rw [f2]; exact hR80.symm
                      have f4 : fr4 (remB (headOf bs) 0) = remB (headOf bs) q88 := by unfold fr4; rw [f3]; exact hR89.symm
                      have f5 : fr5 (remB (headOf bs) 0) = remB (headOf bs) q99 := by unfold fr5; rw [f4]; exact hR100.symm
                      have fend : frEnd (remB (headOf bs) 0) = remB (headOf bs) q110 := by unfold frEnd; rw [if_pos (show srcU (remB (headOf bs) 0) 2 = 1 by omega), f5]; exact hR111.symm
                      have hr0 : rdE (remB (headOf bs) 0) = 0 := (rdE_g he53 (show srcU (remB (headOf bs) 0) 2 = 1 by omega) (by rw [f1]; exact he68) (by rw [f2]; exact he77) (by rw [f3]; exact he86) (by rw [f4]; exact he97)).trans (by rw [f5]; exact he108)
                      have hD : decE bs = endE (remB (headOf bs) q110) := (decE_fr0 (by omega) htl).trans ((frE_end hr0 (by rw [fend]; exact hc123)).trans (by rw [fend]))
                      have H149 : St W w147 F := (((((((((((H148.drop 0 rfl).drop 0 rfl).drop 0 rfl).drop 0 rfl).drop 0 rfl).drop 0 rfl).drop 0 rfl).drop 0 rfl).drop 0 rfl).drop 0 rfl).drop 0 rfl)
                      have hV := decV_no (bs := bs) (by rw [hD]; exact hc123)
                      have H150 := Row.nil_intro H149 5 1
                      exact ⟨none, 0, 0, by rw [hD, hV]; rfl, by rw [hV]; rfl, by rw [hV]; exact H150⟩
                  · skip
                    refine r_cons (s_fieldAddr 24 5 5 5 22 rfl fi_24_5 rfl rfl ?_)
                    refine r_cons (s_store H109 2 (.slice pp113 NN115 cc114) rfl rfl rfl sz_22 rfl (Nat.le_of_ble_eq_true rfl) rfl (cs' := #[.int .i64 (srcU (remB (headOf bs) q55) 4 : Int), .int .i64 (srcU (remB (headOf bs) q70) 4 : Int), .int .i64 (srcU (remB (headOf bs) 0) 2 : Int), .int .i64 (tmN (natU (remB (headOf bs) q88))), .int .i64 (tmN (natU (remB (headOf bs) q79))), .slice pp113 NN115 cc114]) rfl ?_); intro w151 H152
                    refine r_nil ?_
                    refine g_seq ?_
                    refine g_seq ?_
                    refine g_region ?_
                    refine r_cons (s_move (.pointer (some ⟨bk49, 0, none⟩)) rfl rfl ?_)
                    refine r_cons (s_nilCheck (.pointer (some ⟨bk49, 0, none⟩)) rfl ⟨_, rfl⟩ rfl ?_)
                    refine r_cons (s_fieldAddr 50 1 1 1 25 rfl fi_50_1 rfl rfl ?_)
                    refine r_cons (s_load (.int .i64 (bodyE (remB (headOf bs) q99))) ag_25 rfl (H152.blk_at (i := 0) rfl) rfl rfl ?_)
                    refine r_cons (s_eql false rfl rfl (dfalse (by omega)) rfl ?_)
                    refine r_nil ?_
                    refine g_false rfl ?_
                    refine g_skip ?_
                    refine g_seq ?_
                    refine g_seq ?_
                    refine g_region ?_
                    refine r_cons (s_move (.pointer (some ⟨bk49, 0, none⟩)) rfl rfl ?_)
                    refine r_cons (s_nilCheck (.pointer (some ⟨bk49, 0, none⟩)) rfl ⟨_, rfl⟩ rfl ?_)
                    refine r_cons (s_fieldAddr 50 1 1 1 25 rfl fi_50_1 rfl rfl ?_)
                    refine r_cons (s_load (.int .i64 (bodyE (remB (headOf bs) q99))) ag_25 rfl (H152.blk_at (i := 0) rfl) rfl rfl ?_)
                    refine r_cons (s_eql false rfl rfl (dfalse (by omega)) rfl ?_)
                    refine r_nil ?_
                    refine g_false rfl ?_
                    refine g_skip ?_
                    refine g_seq ?_
                    refine g_seq ?_
                    refine g_region ?_
                    refine r_cons (s_move (.pointer (some ⟨bk49, 0, none⟩)) rfl rfl ?_)
                    refine r_cons (s_nilCheck (.pointer (some ⟨bk49, 0, none⟩)) rfl ⟨_, rfl⟩ rfl ?_)
                    refine r_cons (s_fieldAddr 50 1 1 1 25 rfl fi_50_1 rfl rfl ?_)
                    refine r_cons (s_load (.int .i64 (bodyE (remB (headOf bs) q99))) ag_25 rfl (H152.blk_at (i := 0) rfl) rfl rfl ?_)
                    refine r_cons (s_neq true rfl rfl (nfalse (by omega)) rfl ?_)
                    refine r_nil ?_
                    refine g_true rfl ?_
                    refine g_seq ?_
                    have H153 : St W w151 (blk bk49 (.cells #[.pointer (some ⟨bk46, 0, none⟩), .int .i64 (bodyE (remB (headOf bs) q99))] 50 (0, 0)) :: SrcA bk46 (headOf bs) q110 :: blk bk59 (.cells #[.int .i64 (srcU (remB (headOf bs) q55) 4 : Int), .int .i64 (srcU (remB (headOf bs) q70) 4 : Int), .int .i64 (srcU (remB (headOf bs) 0) 2 : Int), .int .i64 (tmN (natU (remB (headOf bs) q88))), .int .i64 (tmN (natU (remB (headOf bs) q79))), .slice pp113 NN115 cc114] 24 (0, 0)) :: Im 1 (.slice (some ⟨bk35, 0, none⟩) 4 4) 4 ((sumB (sumN (headOf bs))).flatMap u8c) :: blk bk30 (.cells #[.slice pA1 (bs.length - 4) cA2] 22 (0, 0)) :: Im 1 (.slice (cutAt pA1 (bs.length - 4) cA2 1) (bs.length - (bs.length - 4)) (cA2 - (bs.length - 4))) ((tailOf bs).length) ((tailOf bs).flatMap u8c) :: Im 1 (.slice pA1 (bs.length - 4) cA2) ((headOf bs).length) ((headOf bs).flatMap u8c) :: Im 1 (.slice pA1 bs.length cA2) bs.length (bs.flatMap u8c) :: imi (0 < bs.length) gA3 (.cells kA5 eA6 zA7) :: blk bk14 (.cells #[.int .i64 0, .int .i64 0, .int .i64 0, .int .i64 0, .int .i64 0, .slice none 0 0] 24 (0, 0)) :: F) := ((((((((((H152.move 7 rfl).move 9 rfl).move 9 rfl).move 9 rfl).move 9 rfl).move 9 rfl).move 9 rfl).move 9 rfl).move 9 rfl).move 9 rfl)
                    refine g_mix (fun t_ w => St W w (blk bk49 (.cells #[.pointer (some ⟨bk46, 0, none⟩), .int .i64 (bodyE (remB (headOf bs) q99))] 50 (0, 0)) :: SrcA bk46 (headOf bs) q110 :: blk bk59 (.cells #[.int .i64 (srcU (remB (headOf bs) q55) 4 : Int), .int .i64 (srcU (remB (headOf bs) q70) 4 : Int), .int .i64 (srcU (remB (headOf bs) 0) 2 : Int), .int .i64 (tmN (natU (remB (headOf bs) q88))), .int .i64 (tmN (natU (remB (headOf bs) q79))), .slice pp113 NN115 cc114] 24 (0, 0)) :: Im 1 (.slice (some ⟨bk35, 0, none⟩) 4 4) 4 ((sumB (sumN (headOf bs))).flatMap u8c) :: blk bk30 (.cells #[.slice pA1 (bs.length - 4) cA2] 22 (0, 0)) :: Im 1 (.slice (cutAt pA1 (bs.length - 4) cA2 1) (bs.length - (bs.length - 4)) (cA2 - (bs.length - 4))) ((tailOf bs).length) ((tailOf bs).flatMap u8c) :: Im 1 (.slice pA1 (bs.length - 4) cA2) ((headOf bs).length) ((headOf bs).flatMap u8c) :: Im 1 (.slice pA1 bs.length cA2) bs.length (bs.flatMap u8c) :: imi (0 < bs.length) gA3 (.cells kA5 eA6 zA7) :: t_)) (blk bk14 (.cells #[.int .i64 0, .int .i64 0, .int .i64 0, .int .i64 0, .int .i64 0, .slice none 0 0] 24 (0, 0)) :: F) mixed 7 rfl H153.drew ?_
                    refine f_first 0 (listed' := #[true, false, false, false, false, false, false]) rfl (by kernel_rfl) (by kernel_rfl) (by kernel_rfl) rfl ?_
                    refine f_val rfl rfl rfl (by intro t_ w hw; exact x_build (cs := #[.int .i64 0, .int .i64 0, .int .i64 0, .int .i64 0, .int .i64 0, .slice none 0 0]) (by kernel_rfl) w) ?_
                    refine f_first 1 (listed' := #[true, true, false, false, false, false, false]) rfl (by kernel_rfl) (by kernel_rfl) (by kernel_rfl) rfl ?_
                    refine f_val rfl rfl rfl (by intro t_ w hw; exact x_move (.pointer (some ⟨bk49, 0, none⟩)) rfl w) ?_
                    refine f_first 2 (listed' := #[true, true, true, false, false, false, false]) rfl (by kernel_rfl) (by kernel_rfl) (by kernel_rfl) rfl ?_
                    refine f_val rfl rfl rfl (by intro t_ w hw; exact x_nilCheck (.pointer (some ⟨bk49, 0, none⟩)) rfl ⟨_, rfl⟩ w) ?_
                    refine f_first 3 (listed' := #[true, true, true, true, false, false, false]) rfl (by kernel_rfl) (by kernel_rfl) (by kernel_rfl) rfl ?_
                    refine f_val rfl rfl rfl (by intro t_ w hw; exact x_fieldAddr 50 1 1 1 25 rfl fi_50_1 rfl w) ?_
                    refine f_first 4 (listed' := #[true, true, true, true, true, false, false]) rfl (by kernel_rfl) (by kernel_rfl) (by kernel_rfl) rfl ?_
                    refine f_val rfl rfl rfl (by intro t_ w hw; exact x_load (.int .i64 (bodyE (remB (headOf bs) q99))) ag_25 rfl (hw.blk_at (i := 0) rfl) rfl) ?_
                    refine f_all (rs := [5]) (by kernel_rfl) (by simp) ?_
                    refine a_cons ⟨_, rfl, ?_⟩ (fun x hx => absurd hx (by simp))
                    intro w154 H155
                    try dsimp only at H155
                    refine s_storeAgg H155 9 #[.int .i64 0, .int .i64 0, .int .i64 0, .int .i64 0, .int .i64 0, .slice none 0 0] 6 rfl rfl rfl sz_24 rfl (by simp [Value.oneCell']) (Nat.le_of_ble_eq_true rfl) (fun o h1 h2 => by first | (simp; done) | (simp; omega)) (cs' := #[.int .i64 0, .int .i64 0, .int .i64 0, .int .i64 0, .int .i64 0, .slice none 0 0]) rfl ?_; intro w156 H157
                    refine ⟨blk bk14 (.cells #[.int .i64 0, .int .i64 0, .int .i64 0, .int .i64 0, .int .i64 0, .slice none 0 0] 24 (0, 0)) :: F, ?_, H157⟩
                    change FReg _ _ _ _ _ #[true, true, true, true, true, true, false] _ _
                    refine f_first 6 (listed' := #[true, true, true, true, true, true, true]) rfl (by kernel_rfl) (by kernel_rfl) (by kernel_rfl) rfl ?_
                    refine f_val rfl rfl rfl (by intro t_ w hw; exact x_assign (.int .i64 (bodyE (remB (headOf bs) q99))) rfl w) ?_
                    refine f_done (by kernel_rfl) ?_
                    intro w158 H159
                    refine g_ret' [.agg #[.int .i64 0, .int .i64 0, .int .i64 0, .int .i64 0, .int .i64 0, .slice none 0 0], .int .i64 (bodyE (remB (headOf bs) q99))] Try.func10 Try.results10 ⟨(res_cellN rfl ag_24 (H159.blk_at (i := 9) rfl) (Nat.le_of_ble_eq_true rfl) rfl), rfl, trivial⟩ ?_
                    have f1 : fr1 (remB (headOf bs) 0) = remB (headOf bs) q55 := hR56.symm
                    have f2 : fr2 (remB (headOf bs) 0) = remB (headOf bs) q70 := by unfold fr2; rw [f1]; exact hR71.symm
                    have f3 : fr3 (remB (headOf bs) 0) = remB (headOf bs) q79 := by unfold fr3; rw [f2]; exact hR80.symm
                    have f4 : fr4 (remB (headOf bs) 0) = remB (headOf bs) q88 := by unfold fr4; rw [f3]; exact hR89.symm
                    have f5 : fr5 (remB (headOf bs) 0) = remB (headOf bs) q99 := by unfold fr5; rw [f4]; exact hR100.symm
                    have hr0 := rdE_g he53 (show srcU (remB (headOf bs) 0) 2 = 1 by omega) (by rw [f1]; exact he68) (by rw [f2]; exact he77) (by rw [f3]; exact he86) (by rw [f4]; exact he97)
                    have hD : decE bs = bodyE (remB (headOf bs) q99) := (decE_fr0 (by omega) htl).trans ((frE_rd (by rw [hr0, f5]; exact he108)).trans (hr0.trans (by rw [f5])))
                    have H160 : St W w158 F := ((((((((((H159.drop 0 rfl).drop 0 rfl).drop 0 rfl).drop 0 rfl).drop 0 rfl).drop 0 rfl).drop 0 rfl).drop 0 rfl).drop 0 rfl).drop 0 rfl)
                    have hV := decV_no (bs := bs) (by rw [hD]; exact he108)
                    have H161 := Row.nil_intro H160 5 1
                    exact ⟨none, 0, 0, by rw [hD, hV]; rfl, by rw [hV]; rfl, by rw [hV]; exact H161⟩
                · skip
                  refine r_cons (s_call [.int .u64 0] pl_29 rfl rfl (frame_clip (0) (by decide) H98) ?_)
                  rintro _ w162 ⟨rfl, H163⟩
                  refine r_cons (s_fieldAddr 24 3 3 3 2 rfl fi_24_3 rfl rfl ?_)
                  refine r_cons (s_store H163 2 (.int .i64 0) rfl rfl rfl sz_2 rfl (Nat.le_of_ble_eq_true rfl) rfl (cs' := #[.int .i64 (srcU (remB (headOf bs) q55) 4 : Int), .int .i64 (srcU (remB (headOf bs) q70) 4 : Int), .int .i64 (srcU (remB (headOf bs) 0) 2 : Int), .int .i64 0, .int .i64 (tmN (natU (remB (headOf bs) q79))), .slice none 0 0]) rfl ?_); intro w164 H165
                  refine r_nil ?_
                  refine g_region ?_
                  refine r_cons (s_move (.pointer (some ⟨bk49, 0, none⟩)) rfl rfl ?_)
                  refine r_cons (s_call [.pointer (some ⟨bk49, 0, none⟩)] pl_31 rfl rfl (rd_body_no bk49 bk46 (natE (remB (headOf bs) q88)) (by first | assumption | decide) (i := 0) rfl H165) ?_)
                  rintro _ w166 ⟨rfl, H167⟩
                  refine r_cons (s_fieldAddr 24 5 5 5 22 rfl fi_24_5 rfl rfl ?_)
                  refine r_cons (s_store H167 2 (.slice none 0 0) rfl rfl rfl sz_22 rfl (Nat.le_of_ble_eq_true rfl) rfl (cs' := #[.int .i64 (srcU (remB (headOf bs) q55) 4 : Int), .int .i64 (srcU (remB (headOf bs) q70) 4 : Int), .int .i64 (srcU (remB (headOf bs) 0) 2 : Int), .int .i64 0, .int .i64 (tmN (natU (remB (headOf bs) q79))), .slice none 0 0]) rfl ?_); intro w168 H169
                  refine r_nil ?_
                  refine g_seq ?_
                  refine g_seq ?_
                  refine g_region ?_
                  refine r_cons (s_move (.pointer (some ⟨bk49, 0, none⟩)) rfl rfl ?_)
                  refine r_cons (s_nilCheck (.pointer (some ⟨bk49, 0, none⟩)) rfl ⟨_, rfl⟩ rfl ?_)
                  refine r_cons (s_fieldAddr 50 1 1 1 25 rfl fi_50_1 rfl rfl ?_)
                  refine r_cons (s_load (.int .i64 (natE (remB (headOf bs) q88))) ag_25 rfl (H169.blk_at (i := 0) rfl) rfl rfl ?_)
                  refine r_cons (s_eql false rfl rfl (dfalse (by omega)) rfl ?_)
                  refine r_nil ?_
                  refine g_false rfl ?_
                  refine g_skip ?_
                  refine g_seq ?_
                  refine g_seq ?_
                  refine g_region ?_
                  refine r_cons (s_move (.pointer (some ⟨bk49, 0, none⟩)) rfl rfl ?_)
                  refine r_cons (s_nilCheck (.pointer (some ⟨bk49, 0, none⟩)) rfl ⟨_, rfl⟩ rfl ?_)
                  refine r_cons (s_fieldAddr 50 1 1 1 25 rfl fi_50_1 rfl rfl ?_)
                  refine r_cons (s_load (.int .i64 (natE (remB (headOf bs) q88))) ag_25 rfl (H169.blk_at (i := 0) rfl) rfl rfl ?_)
                  refine r_cons (s_eql false rfl rfl (dfalse (by omega)) rfl ?_)
                  refine r_nil ?_
                  refine g_false rfl ?_
                  refine g_skip ?_
                  refine g_seq ?_
                  refine g_seq ?_
                  refine g_region ?_
                  refine r_cons (s_move (.pointer (some ⟨bk49, 0, none⟩)) rfl rfl ?_)
                  refine r_cons (s_nilCheck (.pointer (some ⟨bk49, 0, none⟩)) rfl ⟨_, rfl⟩ rfl ?_)
                  refine r_cons (s_fieldAddr 50 1 1 1 25 rfl fi_50_1 rfl rfl ?_)
                  refine r_cons (s_load (.int .i64 (natE (remB (headOf bs) q88))) ag_25 rfl (H169.blk_at (i := 0) rfl) rfl rfl ?_)
                  refine r_cons (s_neq true rfl rfl (nfalse (by omega)) rfl ?_)
                  refine r_nil ?_
                  refine g_true rfl ?_
                  refine g_seq ?_
                  have H170 : St W w168 (blk bk49 (.cells #[.pointer (some ⟨bk46, 0, none⟩), .int .i64 (natE (remB (headOf bs) q88))] 50 (0, 0)) :: SrcA bk46 (headOf bs) q88 :: blk bk59 (.cells #[.int .i64 (srcU (remB (headOf bs) q55) 4 : Int), .int .i64 (srcU (remB (headOf bs) q70) 4 : Int), .int .i64 (srcU (remB (headOf bs) 0) 2 : Int), .int .i64 0, .int .i64 (tmN (natU (remB (headOf bs) q79))), .slice none 0 0] 24 (0, 0)) :: Im 1 (.slice (some ⟨bk35, 0, none⟩) 4 4) 4 ((sumB (sumN (headOf bs))).flatMap u8c) :: blk bk30 (.cells #[.slice pA1 (bs.length - 4) cA2] 22 (0, 0)) :: Im 1 (.slice (cutAt pA1 (bs.length - 4) cA2 1) (bs.length - (bs.length - 4)) (cA2 - (bs.length - 4))) ((tailOf bs).length) ((tailOf bs).flatMap u8c) :: Im 1 (.slice pA1 (bs.length - 4) cA2) ((headOf bs).length) ((headOf bs).flatMap u8c) :: Im 1 (.slice pA1 bs.length cA2) bs.length (bs.flatMap u8c) :: imi (0 < bs.length) gA3 (.cells kA5 eA6 zA7) :: blk bk14 (.cells #[.int .i64 0, .int .i64 0, .int .i64 0, .int .i64 0, .int .i64 0, .slice none 0 0] 24 (0, 0)) :: F) := ((((((((((H169.move 7 rfl).move 9 rfl).move 9 rfl).move 9 rfl).move 9 rfl).move 9 rfl).move 9 rfl).move 9 rfl).move 9 rfl).move 9 rfl)
                  refine g_mix (fun t_ w => St W w (blk bk49 (.cells #[.pointer (some ⟨bk46, 0, none⟩), .int .i64 (natE (remB (headOf bs) q88))] 50 (0, 0)) :: SrcA bk46 (headOf bs) q88 :: blk bk59 (.cells #[.int .i64 (srcU (remB (headOf bs) q55) 4 : Int), .int .i64 (srcU (remB (headOf bs) q70) 4 : Int), .int .i64 (srcU (remB (headOf bs) 0) 2 : Int), .int .i64 0, .int .i64 (tmN (natU (remB (headOf bs) q79))), .slice none 0 0] 24 (0, 0)) :: Im 1 (.slice (some ⟨bk35, 0, none⟩) 4 4) 4 ((sumB (sumN (headOf bs))).flatMap u8c) :: blk bk30 (.cells #[.slice pA1 (bs.length - 4) cA2] 22 (0, 0)) :: Im 1 (.slice (cutAt pA1 (bs.length - 4) cA2 1) (bs.length - (bs.length - 4)) (cA2 - (bs.length - 4))) ((tailOf bs).length) ((tailOf bs).flatMap u8c) :: Im 1 (.slice pA1 (bs.length - 4) cA2) ((headOf bs).length) ((headOf bs).flatMap u8c) :: Im 1 (.slice pA1 bs.length cA2) bs.length (bs.flatMap u8c) :: imi (0 < bs.length) gA3 (.cells kA5 eA6 zA7) :: t_)) (blk bk14 (.cells #[.int .i64 0, .int .i64 0, .int .i64 0, .int .i64 0, .int .i64 0, .slice none 0 0] 24 (0, 0)) :: F) mixed 7 rfl H170.drew ?_
                  refine f_first 0 (listed' := #[true, false, false, false, false, false, false]) rfl (by kernel_rfl) (by kernel_rfl) (by kernel_rfl) rfl ?_
                  refine f_val rfl rfl rfl (by intro t_ w hw; exact x_build (cs := #[.int .i64 0, .int .i64 0, .int .i64 0, .int .i64 0, .int .i64 0, .slice none 0 0]) (by kernel_rfl) w) ?_
                  refine f_first 1 (listed' := #[true, true, false, false, false, false, false]) rfl (by kernel_rfl) (by kernel_rfl) (by kernel_rfl) rfl ?_
                  refine f_val rfl rfl rfl (by intro t_ w hw; exact x_move (.pointer (some ⟨bk49, 0, none⟩)) rfl w) ?_
                  refine f_first 2 (listed' := #[true, true, true, false, false, false, false]) rfl (by kernel_rfl) (by kernel_rfl) (by kernel_rfl) rfl ?_
                  refine f_val rfl rfl rfl (by intro t_ w hw; exact x_nilCheck (.pointer (some ⟨bk49, 0, none⟩)) rfl ⟨_, rfl⟩ w) ?_
                  refine f_first 3 (listed' := #[true, true, true, true, false, false, false]) rfl (by kernel_rfl) (by kernel_rfl) (by kernel_rfl) rfl ?_
                  refine f_val rfl rfl rfl (by intro t_ w hw; exact x_fieldAddr 50 1 1 1 25 rfl fi_50_1 rfl w) ?_
                  refine f_first 4 (listed' := #[true, true, true, true, true, false, false]) rfl (by kernel_rfl) (by kernel_rfl) (by kernel_rfl) rfl ?_
                  refine f_val rfl rfl rfl (by intro t_ w hw; exact x_load (.int .i64 (natE (remB (headOf bs) q88))) ag_25 rfl (hw.blk_at (i := 0) rfl) rfl) ?_
                  refine f_all (rs := [5]) (by kernel_rfl) (by simp) ?_
                  refine a_cons ⟨_, rfl, ?_⟩ (fun x hx => absurd hx (by simp))
                  intro w171 H172
                  try dsimp only at H172
                  refine s_storeAgg H172 9 #[.int .i64 0, .int .i64 0, .int .i64 0, .int .i64 0, .int .i64 0, .slice none 0 0] 6 rfl rfl rfl sz_24 rfl (by simp [Value.oneCell']) (Nat.le_of_ble_eq_true rfl) (fun o h1 h2 => by first | (simp; done) | (simp; omega)) (cs' := #[.int .i64 0, .int .i64 0, .int .i64 0, .int .i64 0, .int .i64 0, .slice none 0 0]) rfl ?_; intro w173 H174
                  refine ⟨blk bk14 (.cells #[.int .i64 0, .int .i64 0, .int .i64 0, .int .i64 0, .int .i64 0, .slice none 0 0] 24 (0, 0)) :: F, ?_, H174⟩
                  change FReg _ _ _ _ _ #[true, true, true, true, true, true, false] _ _
                  refine f_first 6 (listed' := #[true, true, true, true, true, true, true]) rfl (by kernel_rfl) (by kernel_rfl) (by kernel_rfl) rfl ?_
                  refine f_val rfl rfl rfl (by intro t_ w hw; exact x_assign (.int .i64 (natE (remB (headOf bs) q88))) rfl w) ?_
                  refine f_done (by kernel_rfl) ?_
                  intro w175 H176
                  refine g_ret' [.agg #[.int .i64 0, .int .i64 0, .int .i64 0, .int .i64 0, .int .i64 0, .slice none 0 0], .int .i64 (natE (remB (headOf bs) q88))] Try.func10 Try.results10 ⟨(res_cellN rfl ag_24 (H176.blk_at (i := 9) rfl) (Nat.le_of_ble_eq_true rfl) rfl), rfl, trivial⟩ ?_
                  have f1 : fr1 (remB (headOf bs) 0) = remB (headOf bs) q55 := hR56.symm
                  have f2 : fr2 (remB (headOf bs) 0) = remB (headOf bs) q70 := by unfold fr2; rw [f1]; exact hR71.symm
                  have f3 : fr3 (remB (headOf bs) 0) = remB (headOf bs) q79 := by unfold fr3; rw [f2]; exact hR80.symm
                  have f4 : fr4 (remB (headOf bs) 0) = remB (headOf bs) q88 := by unfold fr4; rw [f3]; exact hR89.symm
                  have hr0 := rdE_f he53 (show srcU (remB (headOf bs) 0) 2 = 1 by omega) (by rw [f1]; exact he68) (by rw [f2]; exact he77) (by rw [f3]; exact he86) (by rw [f4]; exact he97)
                  have hD : decE bs = natE (remB (headOf bs) q88) := (decE_fr0 (by omega) htl).trans ((frE_rd (by rw [hr0, f4]; exact he97)).trans (hr0.trans (by rw [f4])))
                  have H177 : St W w175 F := ((((((((((H176.drop 0 rfl).drop 0 rfl).drop 0 rfl).drop 0 rfl).drop 0 rfl).drop 0 rfl).drop 0 rfl).drop 0 rfl).drop 0 rfl).drop 0 rfl)
                  have hV := decV_no (bs := bs) (by rw [hD]; exact he97)
                  have H178 := Row.nil_intro H177 5 1
                  exact ⟨none, 0, 0, by rw [hD, hV]; rfl, by rw [hV]; rfl, by rw [hV]; exact H178⟩
              · skip
                refine r_cons (s_call [.int .u64 0] pl_29 rfl rfl (frame_clip (0) (by decide) H87) ?_)
                rintro _ w179 ⟨rfl, H180⟩
                refine r_cons (s_fieldAddr 24 4 4 4 2 rfl fi_24_4 rfl rfl ?_)
                refine r_cons (s_store H180 2 (.int .i64 0) rfl rfl rfl sz_2 rfl (Nat.le_of_ble_eq_true rfl) rfl (cs' := #[.int .i64 (srcU (remB (headOf bs) q55) 4 : Int), .int .i64 (srcU (remB (headOf bs) q70) 4 : Int), .int .i64 (srcU (remB (headOf bs) 0) 2 : Int), .int .i64 0, .int .i64 0, .slice none 0 0]) rfl ?_); intro w181 H182
                refine r_nil ?_
                refine g_seq ?_
                refine g_seq ?_
                refine g_region ?_
                refine r_cons (s_fieldAddr 24 2 2 2 3 rfl fi_24_2 rfl rfl ?_)
                refine r_cons (s_load (.int .i64 (srcU (remB (headOf bs) 0) 2 : Int)) ag_3 rfl (H182.blk_at (i := 2) rfl) rfl rfl ?_)
                refine r_cons (s_eql true rfl rfl (dtrue (by omega)) rfl ?_)
                refine r_nil ?_
                refine g_true rfl ?_
                refine g_seq ?_
                refine g_region ?_
                refine r_cons (s_move (.pointer (some ⟨bk49, 0, none⟩)) rfl rfl ?_)
                refine r_cons (s_call [.pointer (some ⟨bk49, 0, none⟩)] pl_30 rfl rfl (rd_nat_no bk49 bk46 (natE (remB (headOf bs) q79)) (by first | assumption | decide)  (i := 0) rfl H182) ?_)
                rintro _ w183 ⟨rfl, H184⟩
                refine r_cons (s_call [.int .u64 0] pl_29 rfl rfl (frame_clip (0) (by decide) H184) ?_)
                rintro _ w185 ⟨rfl, H186⟩
                refine r_cons (s_fieldAddr 24 3 3 3 2 rfl fi_24_3 rfl rfl ?_)
                refine r_cons (s_store H186 2 (.int .i64 0) rfl rfl rfl sz_2 rfl (Nat.le_of_ble_eq_true rfl) rfl (cs' := #[.int .i64 (srcU (remB (headOf bs) q55) 4 : Int), .int .i64 (srcU (remB (headOf bs) q70) 4 : Int), .int .i64 (srcU (remB (headOf bs) 0) 2 : Int), .int .i64 0, .int .i64 0, .slice none 0 0]) rfl ?_); intro w187 H188
                refine r_nil ?_
                refine g_region ?_
                refine r_cons (s_move (.pointer (some ⟨bk49, 0, none⟩)) rfl rfl ?_)
                refine r_cons (s_call [.pointer (some ⟨bk49, 0, none⟩)] pl_31 rfl rfl (rd_body_no bk49 bk46 (natE (remB (headOf bs) q79)) (by first | assumption | decide) (i := 0) rfl H188) ?_)
                rintro _ w189 ⟨rfl, H190⟩
                refine r_cons (s_fieldAddr 24 5 5 5 22 rfl fi_24_5 rfl rfl ?_)
                refine r_cons (s_store H190 2 (.slice none 0 0) rfl rfl rfl sz_22 rfl (Nat.le_of_ble_eq_true rfl) rfl (cs' := #[.int .i64 (srcU (remB (headOf bs) q55) 4 : Int), .int .i64 (srcU (remB (headOf bs) q70) 4 : Int), .int .i64 (srcU (remB (headOf bs) 0) 2 : Int), .int .i64 0, .int .i64 0, .slice none 0 0]) rfl ?_); intro w191 H192
                refine r_nil ?_
                refine g_seq ?_
                refine g_seq ?_
                refine g_region ?_
                refine r_cons (s_move (.pointer (some ⟨bk49, 0, none⟩)) rfl rfl ?_)
                refine r_cons (s_nilCheck (.pointer (some ⟨bk49, 0, none⟩)) rfl ⟨_, rfl⟩ rfl ?_)
                refine r_cons (s_fieldAddr 50 1 1 1 25 rfl fi_50_1 rfl rfl ?_)
                refine r_cons (s_load (.int .i64 (natE (remB (headOf bs) q79))) ag_25 rfl (H192.blk_at (i := 0) rfl) rfl rfl ?_)
                refine r_cons (s_eql false rfl rfl (dfalse (by omega)) rfl ?_)
                refine r_nil ?_
                refine g_false rfl ?_
                refine g_skip ?_
                refine g_seq ?_
                refine g_seq ?_
                refine g_region ?_
                refine r_cons (s_move (.pointer (some ⟨bk49, 0, none⟩)) rfl rfl ?_)
                refine r_cons (s_nilCheck (.pointer (some ⟨bk49, 0, none⟩)) rfl ⟨_, rfl⟩ rfl ?_)
                refine r_cons (s_fieldAddr 50 1 1 1 25 rfl fi_50_1 rfl rfl ?_)
                refine r_cons (s_load (.int .i64 (natE (remB (headOf bs) q79))) ag_25 rfl (H192.blk_at (i := 0) rfl) rfl rfl ?_)
                refine r_cons (s_eql false rfl rfl (dfalse (by omega)) rfl ?_)
                refine r_nil ?_
                refine g_false rfl ?_
                refine g_skip ?_
                refine g_seq ?_
                refine g_seq ?_
                refine g_region ?_
                refine r_cons (s_move (.pointer (some ⟨bk49, 0, none⟩)) rfl rfl ?_)
                refine r_cons (s_nilCheck (.pointer (some ⟨bk49, 0, none⟩)) rfl ⟨_, rfl⟩ rfl ?_)
                refine r_cons (s_fieldAddr 50 1 1 1 25 rfl fi_50_1 rfl rfl ?_)
                refine r_cons (s_load (.int .i64 (natE (remB (headOf bs) q79))) ag_25 rfl (H192.blk_at (i := 0) rfl) rfl rfl ?_)
                refine r_cons (s_neq true rfl rfl (nfalse (by omega)) rfl ?_)
                refine r_nil ?_
                refine g_true rfl ?_
                refine g_seq ?_
                have H193 : St W w191 (blk bk49 (.cells #[.pointer (some ⟨bk46, 0, none⟩), .int .i64 (natE (remB (headOf bs) q79))] 50 (0, 0)) :: SrcA bk46 (headOf bs) q79 :: blk bk59 (.cells #[.int .i64 (srcU (remB (headOf bs) q55) 4 : Int), .int .i64 (srcU (remB (headOf bs) q70) 4 : Int), .int .i64 (srcU (remB (headOf bs) 0) 2 : Int), .int .i64 0, .int .i64 0, .slice none 0 0] 24 (0, 0)) :: Im 1 (.slice (some ⟨bk35, 0, none⟩) 4 4) 4 ((sumB (sumN (headOf bs))).flatMap u8c) :: blk bk30 (.cells #[.slice pA1 (bs.length - 4) cA2] 22 (0, 0)) :: Im 1 (.slice (cutAt pA1 (bs.length - 4) cA2 1) (bs.length - (bs.length - 4)) (cA2 - (bs.length - 4))) ((tailOf bs).length) ((tailOf bs).flatMap u8c) :: Im 1 (.slice pA1 (bs.length - 4) cA2) ((headOf bs).length) ((headOf bs).flatMap u8c) :: Im 1 (.slice pA1 bs.length cA2) bs.length (bs.flatMap u8c) :: imi (0 < bs.length) gA3 (.cells kA5 eA6 zA7) :: blk bk14 (.cells #[.int .i64 0, .int .i64 0, .int .i64 0, .int .i64 0, .int .i64 0, .slice none 0 0] 24 (0, 0)) :: F) := ((((((((((H192.move 7 rfl).move 9 rfl).move 9 rfl).move 9 rfl).move 9 rfl).move 9 rfl).move 9 rfl).move 9 rfl).move 9 rfl).move 9 rfl)
                refine g_mix (fun t_ w => St W w (blk bk49 (.cells #[.pointer (some ⟨bk46, 0, none⟩), .int .i64 (natE (remB (headOf bs) q79))] 50 (0, 0)) :: SrcA bk46 (headOf bs) q79 :: blk bk59 (.cells #[.int .i64 (srcU (remB (headOf bs) q55) 4 : Int), .int .i64 (srcU (remB (headOf bs) q70) 4 : Int), .int .i64 (srcU (remB (headOf bs) 0) 2 : Int), .int .i64 0, .int .i64 0, .slice none 0 0] 24 (0, 0)) :: Im 1 (.slice (some ⟨bk35, 0, none⟩) 4 4) 4 ((sumB (sumN (headOf bs))).flatMap u8c) :: blk bk30 (.cells #[.slice pA1 (bs.length - 4) cA2] 22 (0, 0)) :: Im 1 (.slice (cutAt pA1 (bs.length - 4) cA2 1) (bs.length - (bs.length - 4)) (cA2 - (bs.length - 4))) ((tailOf bs).length) ((tailOf bs).flatMap u8c) :: Im 1 (.slice pA1 (bs.length - 4) cA2) ((headOf bs).length) ((headOf bs).flatMap u8c) :: Im 1 (.slice pA1 bs.length cA2) bs.length (bs.flatMap u8c) :: imi (0 < bs.length) gA3 (.cells kA5 eA6 zA7) :: t_)) (blk bk14 (.cells #[.int .i64 0, .int .i64 0, .int .i64 0, .int .i64 0, .int .i64 0, .slice none 0 0] 24 (0, 0)) :: F) mixed 7 rfl H193.drew ?_
                refine f_first 0 (listed' := #[true, false, false, false, false, false, false]) rfl (by kernel_rfl) (by kernel_rfl) (by kernel_rfl) rfl ?_
                refine f_val rfl rfl rfl (by intro t_ w hw; exact x_build (cs := #[.int .i64 0, .int .i64 0, .int .i64 0, .int .i64 0, .int .i64 0, .slice none 0 0]) (by kernel_rfl) w) ?_
                refine f_first 1 (listed' := #[true, true, false, false, false, false, false]) rfl (by kernel_rfl) (by kernel_rfl) (by kernel_rfl) rfl ?_
                refine f_val rfl rfl rfl (by intro t_ w hw; exact x_move (.pointer (some ⟨bk49, 0, none⟩)) rfl w) ?_
                refine f_first 2 (listed' := #[true, true, true, false, false, false, false]) rfl (by kernel_rfl) (by kernel_rfl) (by kernel_rfl) rfl ?_
                refine f_val rfl rfl rfl (by intro t_ w hw; exact x_nilCheck (.pointer (some ⟨bk49, 0, none⟩)) rfl ⟨_, rfl⟩ w) ?_
                refine f_first 3 (listed' := #[true, true, true, true, false, false, false]) rfl (by kernel_rfl) (by kernel_rfl) (by kernel_rfl) rfl ?_
                refine f_val rfl rfl rfl (by intro t_ w hw; exact x_fieldAddr 50 1 1 1 25 rfl fi_50_1 rfl w) ?_
                refine f_first 4 (listed' := #[true, true, true, true, true, false, false]) rfl (by kernel_rfl) (by kernel_rfl) (by kernel_rfl) rfl ?_
                refine f_val rfl rfl rfl (by intro t_ w hw; exact x_load (.int .i64 (natE (remB (headOf bs) q79))) ag_25 rfl (hw.blk_at (i := 0) rfl) rfl) ?_
                refine f_all (rs := [5]) (by kernel_rfl) (by simp) ?_
                refine a_cons ⟨_, rfl, ?_⟩ (fun x hx => absurd hx (by simp))
                intro w194 H195
                try dsimp only at H195
                refine s_storeAgg H195 9 #[.int .i64 0, .int .i64 0, .int .i64 0, .int .i64 0, .int .i64 0, .slice none 0 0] 6 rfl rfl rfl sz_24 rfl (by simp [Value.oneCell']) (Nat.le_of_ble_eq_true rfl) (fun o h1 h2 => by first | (simp; done) | (simp; omega)) (cs' := #[.int .i64 0, .int .i64 0, .int .i64 0, .int .i64 0, .int .i64 0, .slice none 0 0]) rfl ?_; intro w196 H197
                refine ⟨blk bk14 (.cells #[.int .i64 0, .int .i64 0, .int .i64 0, .int .i64 0, .int .i64 0, .slice none 0 0] 24 (0, 0)) :: F, ?_, H197⟩
                change FReg _ _ _ _ _ #[true, true, true, true, true, true, false] _ _
                refine f_first 6 (listed' := #[true, true, true, true, true, true, true]) rfl (by kernel_rfl) (by kernel_rfl) (by kernel_rfl) rfl ?_
                refine f_val rfl rfl rfl (by intro t_ w hw; exact x_assign (.int .i64 (natE (remB (headOf bs) q79))) rfl w) ?_
                refine f_done (by kernel_rfl) ?_
                intro w198 H199
                refine g_ret' [.agg #[.int .i64 0, .int .i64 0, .int .i64 0, .int .i64 0, .int .i64 0, .slice none 0 0], .int .i64 (natE (remB (headOf bs) q79))] Try.func10 Try.results10 ⟨(res_cellN rfl ag_24 (H199.blk_at (i := 9) rfl) (Nat.le_of_ble_eq_true rfl) rfl), rfl, trivial⟩ ?_
                have f1 : fr1 (remB (headOf bs) 0) = remB (headOf bs) q55 := hR56.symm
                have f2 : fr2 (remB (headOf bs) 0) = remB (headOf bs) q70 := by unfold fr2; rw [f1]; exact hR71.symm
                have f3 : fr3 (remB (headOf bs) 0) = remB (headOf bs) q79 := by unfold fr3; rw [f2]; exact hR80.symm
                have hr0 := rdE_e he53 (show srcU (remB (headOf bs) 0) 2 = 1 ∨ srcU (remB (headOf bs) 0) 2 = 2 by omega) (by rw [f1]; exact he68) (by rw [f2]; exact he77) (by rw [f3]; exact he86)
                have hD : decE bs = natE (remB (headOf bs) q79) := (decE_fr0 (by omega) htl).trans ((frE_rd (by rw [hr0, f3]; exact he86)).trans (hr0.trans (by rw [f3])))
                have H200 : St W w198 F := ((((((((((H199.drop 0 rfl).drop 0 rfl).drop 0 rfl).drop 0 rfl).drop 0 rfl).drop 0 rfl).drop 0 rfl).drop 0 rfl).drop 0 rfl).drop 0 rfl)
                have hV := decV_no (bs := bs) (by rw [hD]; exact he86)
                have H201 := Row.nil_intro H200 5 1
                exact ⟨none, 0, 0, by rw [hD, hV]; rfl, by rw [hV]; rfl, by rw [hV]; exact H201⟩
            · skip
              refine r_cons (s_fieldAddr 24 1 1 1 3 rfl fi_24_1 rfl rfl ?_)
              refine r_cons (s_store H78 2 (.int .i64 0) rfl rfl rfl sz_3 rfl (Nat.le_of_ble_eq_true rfl) rfl (cs' := #[.int .i64 (srcU (remB (headOf bs) q55) 4 : Int), .int .i64 0, .int .i64 (srcU (remB (headOf bs) 0) 2 : Int), .int .i64 0, .int .i64 0, .slice none 0 0]) rfl ?_); intro w202 H203
              refine r_nil ?_
              refine g_seq ?_
              refine g_region ?_
              refine r_cons (s_move (.pointer (some ⟨bk49, 0, none⟩)) rfl rfl ?_)
              refine r_cons (s_call [.pointer (some ⟨bk49, 0, none⟩)] pl_30 rfl rfl (rd_nat_no bk49 bk46 (srcE (remB (headOf bs) q70) 4) (by first | assumption | decide)  (i := 0) rfl H203) ?_)
              rintro _ w204 ⟨rfl, H205⟩
              refine r_cons (s_call [.int .u64 0] pl_29 rfl rfl (frame_clip (0) (by decide) H205) ?_)
              rintro _ w206 ⟨rfl, H207⟩
              refine r_cons (s_fieldAddr 24 4 4 4 2 rfl fi_24_4 rfl rfl ?_)
              refine r_cons (s_store H207 2 (.int .i64 0) rfl rfl rfl sz_2 rfl (Nat.le_of_ble_eq_true rfl) rfl (cs' := #[.int .i64 (srcU (remB (headOf bs) q55) 4 : Int), .int .i64 0, .int .i64 (srcU (remB (headOf bs) 0) 2 : Int), .int .i64 0, .int .i64 0, .slice none 0 0]) rfl ?_); intro w208 H209
              refine r_nil ?_
              refine g_seq ?_
              refine g_seq ?_
              refine g_region ?_
              refine r_cons (s_fieldAddr 24 2 2 2 3 rfl fi_24_2 rfl rfl ?_)
              refine r_cons (s_load (.int .i64 (srcU (remB (headOf bs) 0) 2 : Int)) ag_3 rfl (H209.blk_at (i := 2) rfl) rfl rfl ?_)
              refine r_cons (s_eql true rfl rfl (dtrue (by omega)) rfl ?_)
              refine r_nil ?_
              refine g_true rfl ?_
              refine g_seq ?_
              refine g_region ?_
              refine r_cons (s_move (.pointer (some ⟨bk49, 0, none⟩)) rfl rfl ?_)
              refine r_cons (s_call [.pointer (some ⟨bk49, 0, none⟩)] pl_30 rfl rfl (rd_nat_no bk49 bk46 (srcE (remB (headOf bs) q70) 4) (by first | assumption | decide)  (i := 0) rfl H209) ?_)
              rintro _ w210 ⟨rfl, H211⟩
              refine r_cons (s_call [.int .u64 0] pl_29 rfl rfl (frame_clip (0) (by decide) H211) ?_)
              rintro _ w212 ⟨rfl, H213⟩
              refine r_cons (s_fieldAddr 24 3 3 3 2 rfl fi_24_3 rfl rfl ?_)
              refine r_cons (s_store H213 2 (.int .i64 0) rfl rfl rfl sz_2 rfl (Nat.le_of_ble_eq_true rfl) rfl (cs' := #[.int .i64 (srcU (remB (headOf bs) q55) 4 : Int), .int .i64 0, .int .i64 (srcU (remB (headOf bs) 0) 2 : Int), .int .i64 0, .int .i64 0, .slice none 0 0]) rfl ?_); intro w214 H215
              refine r_nil ?_
              refine g_region ?_
              refine r_cons (s_move (.pointer (some ⟨bk49, 0, none⟩)) rfl rfl ?_)
              refine r_cons (s_call [.pointer (some ⟨bk49, 0, none⟩)] pl_31 rfl rfl (rd_body_no bk49 bk46 (srcE (remB (headOf bs) q70) 4) (by first | assumption | decide) (i := 0) rfl H215) ?_)
              rintro _ w216 ⟨rfl, H217⟩
              refine r_cons (s_fieldAddr 24 5 5 5 22 rfl fi_24_5 rfl rfl ?_)
              refine r_cons (s_store H217 2 (.slice none 0 0) rfl rfl rfl sz_22 rfl (Nat.le_of_ble_eq_true rfl) rfl (cs' := #[.int .i64 (srcU (remB (headOf bs) q55) 4 : Int), .int .i64 0, .int .i64 (srcU (remB (headOf bs) 0) 2 : Int), .int .i64 0, .int .i64 0, .slice none 0 0]) rfl ?_); intro w218 H219
              refine r_nil ?_
              refine g_seq ?_
              refine g_seq ?_
              refine g_region ?_
              refine r_cons (s_move (.pointer (some ⟨bk49, 0, none⟩)) rfl rfl ?_)
              refine r_cons (s_nilCheck (.pointer (some ⟨bk49, 0, none⟩)) rfl ⟨_, rfl⟩ rfl ?_)
              refine r_cons (s_fieldAddr 50 1 1 1 25 rfl fi_50_1 rfl rfl ?_)
              refine r_cons (s_load (.int .i64 (srcE (remB (headOf bs) q70) 4)) ag_25 rfl (H219.blk_at (i := 0) rfl) rfl rfl ?_)
              refine r_cons (s_eql false rfl rfl (dfalse (by omega)) rfl ?_)
              refine r_nil ?_
              refine g_false rfl ?_
              refine g_skip ?_
              refine g_seq ?_
              refine g_seq ?_
              refine g_region ?_
              refine r_cons (s_move (.pointer (some ⟨bk49, 0, none⟩)) rfl rfl ?_)
              refine r_cons (s_nilCheck (.pointer (some ⟨bk49, 0, none⟩)) rfl ⟨_, rfl⟩ rfl ?_)
              refine r_cons (s_fieldAddr 50 1 1 1 25 rfl fi_50_1 rfl rfl ?_)
              refine r_cons (s_load (.int .i64 (srcE (remB (headOf bs) q70) 4)) ag_25 rfl (H219.blk_at (i := 0) rfl) rfl rfl ?_)
              refine r_cons (s_eql false rfl rfl (dfalse (by omega)) rfl ?_)
              refine r_nil ?_
              refine g_false rfl ?_
              refine g_skip ?_
              refine g_seq ?_
              refine g_seq ?_
              refine g_region ?_
              refine r_cons (s_move (.pointer (some ⟨bk49, 0, none⟩)) rfl rfl ?_)
              refine r_cons (s_nilCheck (.pointer (some ⟨bk49, 0, none⟩)) rfl ⟨_, rfl⟩ rfl ?_)
              refine r_cons (s_fieldAddr 50 1 1 1 25 rfl fi_50_1 rfl rfl ?_)
              refine r_cons (s_load (.int .i64 (srcE (remB (headOf bs) q70) 4)) ag_25 rfl (H219.blk_at (i := 0) rfl) rfl rfl ?_)
              refine r_cons (s_neq true rfl rfl (nfalse (by omega)) rfl ?_)
              refine r_nil ?_
              refine g_true rfl ?_
              refine g_seq ?_
              have H220 : St W w218 (blk bk49 (.cells #[.pointer (some ⟨bk46, 0, none⟩), .int .i64 (srcE (remB (headOf bs) q70) 4)] 50 (0, 0)) :: SrcA bk46 (headOf bs) q70 :: blk bk59 (.cells #[.int .i64 (srcU (remB (headOf bs) q55) 4 : Int), .int .i64 0, .int .i64 (srcU (remB (headOf bs) 0) 2 : Int), .int .i64 0, .int .i64 0, .slice none 0 0] 24 (0, 0)) :: Im 1 (.slice (some ⟨bk35, 0, none⟩) 4 4) 4 ((sumB (sumN (headOf bs))).flatMap u8c) :: blk bk30 (.cells #[.slice pA1 (bs.length - 4) cA2] 22 (0, 0)) :: Im 1 (.slice (cutAt pA1 (bs.length - 4) cA2 1) (bs.length - (bs.length - 4)) (cA2 - (bs.length - 4))) ((tailOf bs).length) ((tailOf bs).flatMap u8c) :: Im 1 (.slice pA1 (bs.length - 4) cA2) ((headOf bs).length) ((headOf bs).flatMap u8c) :: Im 1 (.slice pA1 bs.length cA2) bs.length (bs.flatMap u8c) :: imi (0 < bs.length) gA3 (.cells kA5 eA6 zA7) :: blk bk14 (.cells #[.int .i64 0, .int .i64 0, .int .i64 0, .int .i64 0, .int .i64 0, .slice none 0 0] 24 (0, 0)) :: F) := ((((((((((H219.move 7 rfl).move 9 rfl).move 9 rfl).move 9 rfl).move 9 rfl).move 9 rfl).move 9 rfl).move 9 rfl).move 9 rfl).move 9 rfl)
              refine g_mix (fun t_ w => St W w (blk bk49 (.cells #[.pointer (some ⟨bk46, 0, none⟩), .int .i64 (srcE (remB (headOf bs) q70) 4)] 50 (0, 0)) :: SrcA bk46 (headOf bs) q70 :: blk bk59 (.cells #[.int .i64 (srcU (remB (headOf bs) q55) 4 : Int), .int .i64 0, .int .i64 (srcU (remB (headOf bs) 0) 2 : Int), .int .i64 0, .int .i64 0, .slice none 0 0] 24 (0, 0)) :: Im 1 (.slice (some ⟨bk35, 0, none⟩) 4 4) 4 ((sumB (sumN (headOf bs))).flatMap u8c) :: blk bk30 (.cells #[.slice pA1 (bs.length - 4) cA2] 22 (0, 0)) :: Im 1 (.slice (cutAt pA1 (bs.length - 4) cA2 1) (bs.length - (bs.length - 4)) (cA2 - (bs.length - 4))) ((tailOf bs).length) ((tailOf bs).flatMap u8c) :: Im 1 (.slice pA1 (bs.length - 4) cA2) ((headOf bs).length) ((headOf bs).flatMap u8c) :: Im 1 (.slice pA1 bs.length cA2) bs.length (bs.flatMap u8c) :: imi (0 < bs.length) gA3 (.cells kA5 eA6 zA7) :: t_)) (blk bk14 (.cells #[.int .i64 0, .int .i64 0, .int .i64 0, .int .i64 0, .int .i64 0, .slice none 0 0] 24 (0, 0)) :: F) mixed 7 rfl H220.drew ?_
              refine f_first 0 (listed' := #[true, false, false, false, false, false, false]) rfl (by kernel_rfl) (by kernel_rfl) (by kernel_rfl) rfl ?_
              refine f_val rfl rfl rfl (by intro t_ w hw; exact x_build (cs := #[.int .i64 0, .int .i64 0, .int .i64 0, .int .i64 0, .int .i64 0, .slice none 0 0]) (by kernel_rfl) w) ?_
              refine f_first 1 (listed' := #[true, true, false, false, false, false, false]) rfl (by kernel_rfl) (by kernel_rfl) (by kernel_rfl) rfl ?_
              refine f_val rfl rfl rfl (by intro t_ w hw; exact x_move (.pointer (some ⟨bk49, 0, none⟩)) rfl w) ?_
              refine f_first 2 (listed' := #[true, true, true, false, false, false, false]) rfl (by kernel_rfl) (by kernel_rfl) (by kernel_rfl) rfl ?_
              refine f_val rfl rfl rfl (by intro t_ w hw; exact x_nilCheck (.pointer (some ⟨bk49, 0, none⟩)) rfl ⟨_, rfl⟩ w) ?_
              refine f_first 3 (listed' := #[true, true, true, true, false, false, false]) rfl (by kernel_rfl) (by kernel_rfl) (by kernel_rfl) rfl ?_
              refine f_val rfl rfl rfl (by intro t_ w hw; exact x_fieldAddr 50 1 1 1 25 rfl fi_50_1 rfl w) ?_
              refine f_first 4 (listed' := #[true, true, true, true, true, false, false]) rfl (by kernel_rfl) (by kernel_rfl) (by kernel_rfl) rfl ?_
              refine f_val rfl rfl rfl (by intro t_ w hw; exact x_load (.int .i64 (srcE (remB (headOf bs) q70) 4)) ag_25 rfl (hw.blk_at (i := 0) rfl) rfl) ?_
              refine f_all (rs := [5]) (by kernel_rfl) (by simp) ?_
              refine a_cons ⟨_, rfl, ?_⟩ (fun x hx => absurd hx (by simp))
              intro w221 H222
              try dsimp only at H222
              refine s_storeAgg H222 9 #[.int .i64 0, .int .i64 0, .int .i64 0, .int .i64 0, .int .i64 0, .slice none 0 0] 6 rfl rfl rfl sz_24 rfl (by simp [Value.oneCell']) (Nat.le_of_ble_eq_true rfl) (fun o h1 h2 => by first | (simp; done) | (simp; omega)) (cs' := #[.int .i64 0, .int .i64 0, .int .i64 0, .int .i64 0, .int .i64 0, .slice none 0 0]) rfl ?_; intro w223 H224
              refine ⟨blk bk14 (.cells #[.int .i64 0, .int .i64 0, .int .i64 0, .int .i64 0, .int .i64 0, .slice none 0 0] 24 (0, 0)) :: F, ?_, H224⟩
              change FReg _ _ _ _ _ #[true, true, true, true, true, true, false] _ _
              refine f_first 6 (listed' := #[true, true, true, true, true, true, true]) rfl (by kernel_rfl) (by kernel_rfl) (by kernel_rfl) rfl ?_
              refine f_val rfl rfl rfl (by intro t_ w hw; exact x_assign (.int .i64 (srcE (remB (headOf bs) q70) 4)) rfl w) ?_
              refine f_done (by kernel_rfl) ?_
              intro w225 H226
              refine g_ret' [.agg #[.int .i64 0, .int .i64 0, .int .i64 0, .int .i64 0, .int .i64 0, .slice none 0 0], .int .i64 (srcE (remB (headOf bs) q70) 4)] Try.func10 Try.results10 ⟨(res_cellN rfl ag_24 (H226.blk_at (i := 9) rfl) (Nat.le_of_ble_eq_true rfl) rfl), rfl, trivial⟩ ?_
              have f1 : fr1 (remB (headOf bs) 0) = remB (headOf bs) q55 := hR56.symm
              have f2 : fr2 (remB (headOf bs) 0) = remB (headOf bs) q70 := by unfold fr2; rw [f1]; exact hR71.symm
              have hr0 := rdE_d he53 (show srcU (remB (headOf bs) 0) 2 = 1 ∨ srcU (remB (headOf bs) 0) 2 = 2 by omega) (by rw [f1]; exact he68) (by rw [f2]; exact he77)
              have hD : decE bs = srcE (remB (headOf bs) q70) 4 := (decE_fr0 (by omega) htl).trans ((frE_rd (by rw [hr0, f2]; exact he77)).trans (hr0.trans (by rw [f2])))
              have H227 : St W w225 F := ((((((((((H226.drop 0 rfl).drop 0 rfl).drop 0 rfl).drop 0 rfl).drop 0 rfl).drop 0 rfl).drop 0 rfl).drop 0 rfl).drop 0 rfl).drop 0 rfl)
              have hV := decV_no (bs := bs) (by rw [hD]; exact he77)
              have H228 := Row.nil_intro H227 5 1
              exact ⟨none, 0, 0, by rw [hD, hV]; rfl, by rw [hV]; rfl, by rw [hV]; exact H228⟩
          · skip
            refine r_cons (s_fieldAddr 24 0 0 0 3 rfl fi_24_0 rfl rfl ?_)
            refine r_cons (s_store H69 2 (.int .i64 0) rfl rfl rfl sz_3 rfl (Nat.le_of_ble_eq_true rfl) rfl (cs' := #[.int .i64 0, .int .i64 0, .int .i64 (srcU (remB (headOf bs) 0) 2 : Int), .int .i64 0, .int .i64 0, .slice none 0 0]) rfl ?_); intro w229 H230
            refine r_nil ?_
            refine g_seq ?_
            refine g_region ?_
            refine r_cons (s_move (.pointer (some ⟨bk49, 0, none⟩)) rfl rfl ?_)
            refine r_cons (s_call [.pointer (some ⟨bk49, 0, none⟩), .int .i64 4] pl_27 rfl rfl (rd_bits_no bk49 bk46 (srcE (remB (headOf bs) q55) 4) (by first | assumption | decide) 4 (by decide) (i := 0) rfl H230) ?_)
            rintro _ w231 ⟨rfl, H232⟩
            refine r_cons (s_fieldAddr 24 1 1 1 3 rfl fi_24_1 rfl rfl ?_)
            refine r_cons (s_store H232 2 (.int .i64 0) rfl rfl rfl sz_3 rfl (Nat.le_of_ble_eq_true rfl) rfl (cs' := #[.int .i64 0, .int .i64 0, .int .i64 (srcU (remB (headOf bs) 0) 2 : Int), .int .i64 0, .int .i64 0, .slice none 0 0]) rfl ?_); intro w233 H234
            refine r_nil ?_
            refine g_seq ?_
            refine g_region ?_
            refine r_cons (s_move (.pointer (some ⟨bk49, 0, none⟩)) rfl rfl ?_)
            refine r_cons (s_call [.pointer (some ⟨bk49, 0, none⟩)] pl_30 rfl rfl (rd_nat_no bk49 bk46 (srcE (remB (headOf bs) q55) 4) (by first | assumption | decide)  (i := 0) rfl H234) ?_)
            rintro _ w235 ⟨rfl, H236⟩
            refine r_cons (s_call [.int .u64 0] pl_29 rfl rfl (frame_clip (0) (by decide) H236) ?_)
            rintro _ w237 ⟨rfl, H238⟩
            refine r_cons (s_fieldAddr 24 4 4 4 2 rfl fi_24_4 rfl rfl ?_)
            refine r_cons (s_store H238 2 (.int .i64 0) rfl rfl rfl sz_2 rfl (Nat.le_of_ble_eq_true rfl) rfl (cs' := #[.int .i64 0, .int .i64 0, .int .i64 (srcU (remB (headOf bs) 0) 2 : Int), .int .i64 0, .int .i64 0, .slice none 0 0]) rfl ?_); intro w239 H240
            refine r_nil ?_
            refine g_seq ?_
            refine g_seq ?_
            refine g_region ?_
            refine r_cons (s_fieldAddr 24 2 2 2 3 rfl fi_24_2 rfl rfl ?_)
            refine r_cons (s_load (.int .i64 (srcU (remB (headOf bs) 0) 2 : Int)) ag_3 rfl (H240.blk_at (i := 2) rfl) rfl rfl ?_)
            refine r_cons (s_eql true rfl rfl (dtrue (by omega)) rfl ?_)
            refine r_nil ?_
            refine g_true rfl ?_
            refine g_seq ?_
            refine g_region ?_
            refine r_cons (s_move (.pointer (some ⟨bk49, 0, none⟩)) rfl rfl ?_)
            refine r_cons (s_call [.pointer (some ⟨bk49, 0, none⟩)] pl_30 rfl rfl (rd_nat_no bk49 bk46 (srcE (remB (headOf bs) q55) 4) (by first | assumption | decide)  (i := 0) rfl H240) ?_)
            rintro _ w241 ⟨rfl, H242⟩
            refine r_cons (s_call [.int .u64 0] pl_29 rfl rfl (frame_clip (0) (by decide) H242) ?_)
            rintro _ w243 ⟨rfl, H244⟩
            refine r_cons (s_fieldAddr 24 3 3 3 2 rfl fi_24_3 rfl rfl ?_)
            refine r_cons (s_store H244 2 (.int .i64 0) rfl rfl rfl sz_2 rfl (Nat.le_of_ble_eq_true rfl) rfl (cs' := #[.int .i64 0, .int .i64 0, .int .i64 (srcU (remB (headOf bs) 0) 2 : Int), .int .i64 0, .int .i64 0, .slice none 0 0]) rfl ?_); intro w245 H246
            refine r_nil ?_
            refine g_region ?_
            refine r_cons (s_move (.pointer (some ⟨bk49, 0, none⟩)) rfl rfl ?_)
            refine r_cons (s_call [.pointer (some ⟨bk49, 0, none⟩)] pl_31 rfl rfl (rd_body_no bk49 bk46 (srcE (remB (headOf bs) q55) 4) (by first | assumption | decide) (i := 0) rfl H246) ?_)
            rintro _ w247 ⟨rfl, H248⟩
            refine r_cons (s_fieldAddr 24 5 5 5 22 rfl fi_24_5 rfl rfl ?_)
            refine r_cons (s_store H248 2 (.slice none 0 0) rfl rfl rfl sz_22 rfl (Nat.le_of_ble_eq_true rfl) rfl (cs' := #[.int .i64 0, .int .i64 0, .int .i64 (srcU (remB (headOf bs) 0) 2 : Int), .int .i64 0, .int .i64 0, .slice none 0 0]) rfl ?_); intro w249 H250
            refine r_nil ?_
            refine g_seq ?_
            refine g_seq ?_
            refine g_region ?_
            refine r_cons (s_move (.pointer (some ⟨bk49, 0, none⟩)) rfl rfl ?_)
            refine r_cons (s_nilCheck (.pointer (some ⟨bk49, 0, none⟩)) rfl ⟨_, rfl⟩ rfl ?_)
            refine r_cons (s_fieldAddr 50 1 1 1 25 rfl fi_50_1 rfl rfl ?_)
            refine r_cons (s_load (.int .i64 (srcE (remB (headOf bs) q55) 4)) ag_25 rfl (H250.blk_at (i := 0) rfl) rfl rfl ?_)
            refine r_cons (s_eql false rfl rfl (dfalse (by omega)) rfl ?_)
            refine r_nil ?_
            refine g_false rfl ?_
            refine g_skip ?_
            refine g_seq ?_
            refine g_seq ?_
            refine g_region ?_
            refine r_cons (s_move (.pointer (some ⟨bk49, 0, none⟩)) rfl rfl ?_)
            refine r_cons (s_nilCheck (.pointer (some ⟨bk49, 0, none⟩)) rfl ⟨_, rfl⟩ rfl ?_)
            refine r_cons (s_fieldAddr 50 1 1 1 25 rfl fi_50_1 rfl rfl ?_)
            refine r_cons (s_load (.int .i64 (srcE (remB (headOf bs) q55) 4)) ag_25 rfl (H250.blk_at (i := 0) rfl) rfl rfl ?_)
            refine r_cons (s_eql false rfl rfl (dfalse (by omega)) rfl ?_)
            refine r_nil ?_
            refine g_false rfl ?_
            refine g_skip ?_
            refine g_seq ?_
            refine g_seq ?_
            refine g_region ?_
            refine r_cons (s_move (.pointer (some ⟨bk49, 0, none⟩)) rfl rfl ?_)
            refine r_cons (s_nilCheck (.pointer (some ⟨bk49, 0, none⟩)) rfl ⟨_, rfl⟩ rfl ?_)
            refine r_cons (s_fieldAddr 50 1 1 1 25 rfl fi_50_1 rfl rfl ?_)
            refine r_cons (s_load (.int .i64 (srcE (remB (headOf bs) q55) 4)) ag_25 rfl (H250.blk_at (i := 0) rfl) rfl rfl ?_)
            refine r_cons (s_neq true rfl rfl (nfalse (by omega)) rfl ?_)
            refine r_nil ?_
            refine g_true rfl ?_
            refine g_seq ?_
            have H251 : St W w249 (blk bk49 (.cells #[.pointer (some ⟨bk46, 0, none⟩), .int .i64 (srcE (remB (headOf bs) q55) 4)] 50 (0, 0)) :: SrcA bk46 (headOf bs) q55 :: blk bk59 (.cells #[.int .i64 0, .int .i64 0, .int .i64 (srcU (remB (headOf bs) 0) 2 : Int), .int .i64 0, .int .i64 0, .slice none 0 0] 24 (0, 0)) :: Im 1 (.slice (some ⟨bk35, 0, none⟩) 4 4) 4 ((sumB (sumN (headOf bs))).flatMap u8c) :: blk bk30 (.cells #[.slice pA1 (bs.length - 4) cA2] 22 (0, 0)) :: Im 1 (.slice (cutAt pA1 (bs.length - 4) cA2 1) (bs.length - (bs.length - 4)) (cA2 - (bs.length - 4))) ((tailOf bs).length) ((tailOf bs).flatMap u8c) :: Im 1 (.slice pA1 (bs.length - 4) cA2) ((headOf bs).length) ((headOf bs).flatMap u8c) :: Im 1 (.slice pA1 bs.length cA2) bs.length (bs.flatMap u8c) :: imi (0 < bs.length) gA3 (.cells kA5 eA6 zA7) :: blk bk14 (.cells #[.int .i64 0, .int .i64 0, .int .i64 0, .int .i64 0, .int .i64 0, .slice none 0 0] 24 (0, 0)) :: F) := ((((((((((H250.move 7 rfl).move 9 rfl).move 9 rfl).move 9 rfl).move 9 rfl).move 9 rfl).move 9 rfl).move 9 rfl).move 9 rfl).move 9 rfl)
            refine g_mix (fun t_ w => St W w (blk bk49 (.cells #[.pointer (some ⟨bk46, 0, none⟩), .int .i64 (srcE (remB (headOf bs) q55) 4)] 50 (0, 0)) :: SrcA bk46 (headOf bs) q55 :: blk bk59 (.cells #[.int .i64 0, .int .i64 0, .int .i64 (srcU (remB (headOf bs) 0) 2 : Int), .int .i64 0, .int .i64 0, .slice none 0 0] 24 (0, 0)) :: Im 1 (.slice (some ⟨bk35, 0, none⟩) 4 4) 4 ((sumB (sumN (headOf bs))).flatMap u8c) :: blk bk30 (.cells #[.slice pA1 (bs.length - 4) cA2] 22 (0, 0)) :: Im 1 (.slice (cutAt pA1 (bs.length - 4) cA2 1) (bs.length - (bs.length - 4)) (cA2 - (bs.length - 4))) ((tailOf bs).length) ((tailOf bs).flatMap u8c) :: Im 1 (.slice pA1 (bs.length - 4) cA2) ((headOf bs).length) ((headOf bs).flatMap u8c) :: Im 1 (.slice pA1 bs.length cA2) bs.length (bs.flatMap u8c) :: imi (0 < bs.length) gA3 (.cells kA5 eA6 zA7) :: t_)) (blk bk14 (.cells #[.int .i64 0, .int .i64 0, .int .i64 0, .int .i64 0, .int .i64 0, .slice none 0 0] 24 (0, 0)) :: F) mixed 7 rfl H251.drew ?_
            refine f_first 0 (listed' := #[true, false, false, false, false, false, false]) rfl (by kernel_rfl) (by kernel_rfl) (by kernel_rfl) rfl ?_
            refine f_val rfl rfl rfl (by intro t_ w hw; exact x_build (cs := #[.int .i64 0, .int .i64 0, .int .i64 0, .int .i64 0, .int .i64 0, .slice none 0 0]) (by kernel_rfl) w) ?_
            refine f_first 1 (listed' := #[true, true, false, false, false, false, false]) rfl (by kernel_rfl) (by kernel_rfl) (by kernel_rfl) rfl ?_
            refine f_val rfl rfl rfl (by intro t_ w hw; exact x_move (.pointer (some ⟨bk49, 0, none⟩)) rfl w) ?_
            refine f_first 2 (listed' := #[true, true, true, false, false, false, false]) rfl (by kernel_rfl) (by kernel_rfl) (by kernel_rfl) rfl ?_
            refine f_val rfl rfl rfl (by intro t_ w hw; exact x_nilCheck (.pointer (some ⟨bk49, 0, none⟩)) rfl ⟨_, rfl⟩ w) ?_
            refine f_first 3 (listed' := #[true, true, true, true, false, false, false]) rfl (by kernel_rfl) (by kernel_rfl) (by kernel_rfl) rfl ?_
            refine f_val rfl rfl rfl (by intro t_ w hw; exact x_fieldAddr 50 1 1 1 25 rfl fi_50_1 rfl w) ?_
            refine f_first 4 (listed' := #[true, true, true, true, true, false, false]) rfl (by kernel_rfl) (by kernel_rfl) (by kernel_rfl) rfl ?_
            refine f_val rfl rfl rfl (by intro t_ w hw; exact x_load (.int .i64 (srcE (remB (headOf bs) q55) 4)) ag_25 rfl (hw.blk_at (i := 0) rfl) rfl) ?_
            refine f_all (rs := [5]) (by kernel_rfl) (by simp) ?_
            refine a_cons ⟨_, rfl, ?_⟩ (fun x hx => absurd hx (by simp))
            intro w252 H253
            try dsimp only at H253
            refine s_storeAgg H253 9 #[.int .i64 0, .int .i64 0, .int .i64 0, .int .i64 0, .int .i64 0, .slice none 0 0] 6 rfl rfl rfl sz_24 rfl (by simp [Value.oneCell']) (Nat.le_of_ble_eq_true rfl) (fun o h1 h2 => by first | (simp; done) | (simp; omega)) (cs' := #[.int .i64 0, .int .i64 0, .int .i64 0, .int .i64 0, .int .i64 0, .slice none 0 0]) rfl ?_; intro w254 H255
            refine ⟨blk bk14 (.cells #[.int .i64 0, .int .i64 0, .int .i64 0, .int .i64 0, .int .i64 0, .slice none 0 0] 24 (0, 0)) :: F, ?_, H255⟩
            change FReg _ _ _ _ _ #[true, true, true, true, true, true, false] _ _
            refine f_first 6 (listed' := #[true, true, true, true, true, true, true]) rfl (by kernel_rfl) (by kernel_rfl) (by kernel_rfl) rfl ?_
            refine f_val rfl rfl rfl (by intro t_ w hw; exact x_assign (.int .i64 (srcE (remB (headOf bs) q55) 4)) rfl w) ?_
            refine f_done (by kernel_rfl) ?_
            intro w256 H257
            refine g_ret' [.agg #[.int .i64 0, .int .i64 0, .int .i64 0, .int .i64 0, .int .i64 0, .slice none 0 0], .int .i64 (srcE (remB (headOf bs) q55) 4)] Try.func10 Try.results10 ⟨(res_cellN rfl ag_24 (H257.blk_at (i := 9) rfl) (Nat.le_of_ble_eq_true rfl) rfl), rfl, trivial⟩ ?_
            have f1 : fr1 (remB (headOf bs) 0) = remB (headOf bs) q55 := hR56.symm
            have hr0 := rdE_c he53 (show srcU (remB (headOf bs) 0) 2 = 1 ∨ srcU (remB (headOf bs) 0) 2 = 2 by omega) (by rw [f1]; exact he68)
            have hD : decE bs = srcE (remB (headOf bs) q55) 4 := (decE_fr0 (by omega) htl).trans ((frE_rd (by rw [hr0, f1]; exact he68)).trans (hr0.trans (by rw [f1])))
            have H258 : St W w256 F := ((((((((((H257.drop 0 rfl).drop 0 rfl).drop 0 rfl).drop 0 rfl).drop 0 rfl).drop 0 rfl).drop 0 rfl).drop 0 rfl).drop 0 rfl).drop 0 rfl)
            have hV := decV_no (bs := bs) (by rw [hD]; exact he68)
            have H259 := Row.nil_intro H258 5 1
            exact ⟨none, 0, 0, by rw [hD, hV]; rfl, by rw [hV]; rfl, by rw [hV]; exact H259⟩
        · skip
          refine r_cons (s_neq true rfl rfl (nfalse hc64) rfl ?_)
          refine r_cons (s_move (.bool true) rfl rfl ?_)
          refine r_cons (r_take rfl rfl ?_)
          refine s_fieldAddr 24 2 2 2 3 rfl fi_24_2 rfl rfl ?_
          refine r_cons (r_take rfl rfl ?_)
          refine s_load (.int .i64 (srcU (remB (headOf bs) 0) 2 : Int)) ag_3 rfl (H63.blk_at (i := 0) rfl) rfl rfl ?_
          refine r_cons (r_take rfl rfl ?_)
          by_cases hc260 : (srcU (remB (headOf bs) 0) 2 : Int) = 2
          · skip
            refine s_neq false rfl rfl (ntrue hc260) rfl ?_
            refine r_cons (s_pick_t (.bool false) rfl rfl rfl ?_)
            refine r_cons (s_call [.pointer (some ⟨bk49, 0, none⟩), .bool false] pl_28 rfl rfl (rd_fails_f bk49 bk46 (i := 1) rfl H63) ?_)
            rintro _ w261 ⟨rfl, H262⟩
            refine r_nil ?_
            refine g_seq ?_
            refine g_region ?_
            refine r_cons (s_move (.pointer (some ⟨bk49, 0, none⟩)) rfl rfl ?_)
            have H263 : St W w261 (blk bk49 (.cells #[.pointer (some ⟨bk46, 0, none⟩), .int .i64 0] 50 (0, 0)) :: SrcA bk46 (headOf bs) q55 :: blk bk59 (.cells #[.int .i64 0, .int .i64 0, .int .i64 (srcU (remB (headOf bs) 0) 2 : Int), .int .i64 0, .int .i64 0, .slice none 0 0] 24 (0, 0)) :: Im 1 (.slice (some ⟨bk35, 0, none⟩) 4 4) 4 ((sumB (sumN (headOf bs))).flatMap u8c) :: blk bk30 (.cells #[.slice pA1 (bs.length - 4) cA2] 22 (0, 0)) :: Im 1 (.slice (cutAt pA1 (bs.length - 4) cA2 1) (bs.length - (bs.length - 4)) (cA2 - (bs.length - 4))) ((tailOf bs).length) ((tailOf bs).flatMap u8c) :: Im 1 (.slice pA1 (bs.length - 4) cA2) ((headOf bs).length) ((headOf bs).flatMap u8c) :: blk bk14 (.cells #[.int .i64 0, .int .i64 0, .int .i64 0, .int .i64 0, .int .i64 0, .slice none 0 0] 24 (0, 0)) :: Im 1 (.slice pA1 bs.length cA2) bs.length (bs.flatMap u8c) :: imi (0 < bs.length) gA3 (.cells kA5 eA6 zA7) :: F) := ((((((((((H262.move 9 rfl).move 9 rfl).move 9 rfl).move 9 rfl).move 9 rfl).move 9 rfl).move 9 rfl).move 7 rfl).move 9 rfl).move 9 rfl)
            refine r_cons (s_call [.pointer (some ⟨bk49, 0, none⟩), .int .i64 4] pl_27 rfl rfl (rd_bits_ok bk49 bk46 (headOf bs) q55 (by first | omega | decide +kernel | (repeat (first | assumption | exact Nat.zero_le _ | refine natN_pos ?_ | refine srcN_pos ?_ | refine textN_pos ?_))) (by omega) 4 (by decide) H263) ?_)
            rintro _ w269 (⟨he264, rfl, q266, hR267, hp268, H265⟩ | ⟨he264, rfl, H265⟩)
            · skip
              refine r_cons (s_fieldAddr 24 0 0 0 3 rfl fi_24_0 rfl rfl ?_)
              refine r_cons (s_store H265 2 (.int .i64 (srcU (remB (headOf bs) q55) 4 : Int)) rfl rfl rfl sz_3 rfl (Nat.le_of_ble_eq_true rfl) rfl (cs' := #[.int .i64 (srcU (remB (headOf bs) q55) 4 : Int), .int .i64 0, .int .i64 (srcU (remB (headOf bs) 0) 2 : Int), .int .i64 0, .int .i64 0, .slice none 0 0]) rfl ?_); intro w270 H271
              refine r_nil ?_
              refine g_seq ?_
              refine g_region ?_
              refine r_cons (s_move (.pointer (some ⟨bk49, 0, none⟩)) rfl rfl ?_)
              have H272 : St W w270 (blk bk49 (.cells #[.pointer (some ⟨bk46, 0, none⟩), .int .i64 0] 50 (0, 0)) :: SrcA bk46 (headOf bs) q266 :: blk bk59 (.cells #[.int .i64 (srcU (remB (headOf bs) q55) 4 : Int), .int .i64 0, .int .i64 (srcU (remB (headOf bs) 0) 2 : Int), .int .i64 0, .int .i64 0, .slice none 0 0] 24 (0, 0)) :: Im 1 (.slice (some ⟨bk35, 0, none⟩) 4 4) 4 ((sumB (sumN (headOf bs))).flatMap u8c) :: blk bk30 (.cells #[.slice pA1 (bs.length - 4) cA2] 22 (0, 0)) :: Im 1 (.slice (cutAt pA1 (bs.length - 4) cA2 1) (bs.length - (bs.length - 4)) (cA2 - (bs.length - 4))) ((tailOf bs).length) ((tailOf bs).flatMap u8c) :: Im 1 (.slice pA1 (bs.length - 4) cA2) ((headOf bs).length) ((headOf bs).flatMap u8c) :: blk bk14 (.cells #[.int .i64 0, .int .i64 0, .int .i64 0, .int .i64 0, .int .i64 0, .slice none 0 0] 24 (0, 0)) :: Im 1 (.slice pA1 bs.length cA2) bs.length (bs.flatMap u8c) :: imi (0 < bs.length) gA3 (.cells kA5 eA6 zA7) :: F) := ((((((((((H271.move 9 rfl).move 9 rfl).move 9 rfl).move 9 rfl).move 9 rfl).move 9 rfl).move 9 rfl).move 9 rfl).move 9 rfl).move 9 rfl)
              refine r_cons (s_call [.pointer (some ⟨bk49, 0, none⟩), .int .i64 4] pl_27 rfl rfl (rd_bits_ok bk49 bk46 (headOf bs) q266 (by first | omega | decide +kernel | (repeat (first | assumption | exact Nat.zero_le _ | refine natN_pos ?_ | refine srcN_pos ?_ | refine textN_pos ?_))) (by omega) 4 (by decide) H272) ?_)
              rintro _ w278 (⟨he273, rfl, q275, hR276, hp277, H274⟩ | ⟨he273, rfl, H274⟩)
              · skip
                refine r_cons (s_fieldAddr 24 1 1 1 3 rfl fi_24_1 rfl rfl ?_)
                refine r_cons (s_store H274 2 (.int .i64 (srcU (remB (headOf bs) q266) 4 : Int)) rfl rfl rfl sz_3 rfl (Nat.le_of_ble_eq_true rfl) rfl (cs' := #[.int .i64 (srcU (remB (headOf bs) q55) 4 : Int), .int .i64 (srcU (remB (headOf bs) q266) 4 : Int), .int .i64 (srcU (remB (headOf bs) 0) 2 : Int), .int .i64 0, .int .i64 0, .slice none 0 0]) rfl ?_); intro w279 H280
                refine r_nil ?_
                refine g_seq ?_
                refine g_region ?_
                refine r_cons (s_move (.pointer (some ⟨bk49, 0, none⟩)) rfl rfl ?_)
                have H281 : St W w279 (blk bk49 (.cells #[.pointer (some ⟨bk46, 0, none⟩), .int .i64 0] 50 (0, 0)) :: SrcA bk46 (headOf bs) q275 :: blk bk59 (.cells #[.int .i64 (srcU (remB (headOf bs) q55) 4 : Int), .int .i64 (srcU (remB (headOf bs) q266) 4 : Int), .int .i64 (srcU (remB (headOf bs) 0) 2 : Int), .int .i64 0, .int .i64 0, .slice none 0 0] 24 (0, 0)) :: Im 1 (.slice (some ⟨bk35, 0, none⟩) 4 4) 4 ((sumB (sumN (headOf bs))).flatMap u8c) :: blk bk30 (.cells #[.slice pA1 (bs.length - 4) cA2] 22 (0, 0)) :: Im 1 (.slice (cutAt pA1 (bs.length - 4) cA2 1) (bs.length - (bs.length - 4)) (cA2 - (bs.length - 4))) ((tailOf bs).length) ((tailOf bs).flatMap u8c) :: Im 1 (.slice pA1 (bs.length - 4) cA2) ((headOf bs).length) ((headOf bs).flatMap u8c) :: blk bk14 (.cells #[.int .i64 0, .int .i64 0, .int .i64 0, .int .i64 0, .int .i64 0, .slice none 0 0] 24 (0, 0)) :: Im 1 (.slice pA1 bs.length cA2) bs.length (bs.flatMap u8c) :: imi (0 < bs.length) gA3 (.cells kA5 eA6 zA7) :: F) := ((((((((((H280.move 9 rfl).move 9 rfl).move 9 rfl).move 9 rfl).move 9 rfl).move 9 rfl).move 9 rfl).move 9 rfl).move 9 rfl).move 9 rfl)
                refine r_cons (s_call [.pointer (some ⟨bk49, 0, none⟩)] pl_30 rfl rfl (rd_nat_ok bk49 bk46 (headOf bs) q275 (by first | omega | decide +kernel | (repeat (first | assumption | exact Nat.zero_le _ | refine natN_pos ?_ | refine srcN_pos ?_ | refine textN_pos ?_))) (by omega)  H281) ?_)
                rintro _ w287 (⟨he282, rfl, q284, hR285, hp286, H283⟩ | ⟨he282, rfl, H283⟩)
                · skip
                  refine r_cons (s_call [.int .u64 (natU (remB (headOf bs) q275) : Int)] pl_29 rfl rfl (frame_clip (natU (remB (headOf bs) q275)) (natU_lt _) H283) ?_)
                  rintro _ w288 ⟨rfl, H289⟩
                  refine r_cons (s_fieldAddr 24 4 4 4 2 rfl fi_24_4 rfl rfl ?_)
                  refine r_cons (s_store H289 2 (.int .i64 (tmN (natU (remB (headOf bs) q275)))) rfl rfl rfl sz_2 rfl (Nat.le_of_ble_eq_true rfl) rfl (cs' := #[.int .i64 (srcU (remB (headOf bs) q55) 4 : Int), .int .i64 (srcU (remB (headOf bs) q266) 4 : Int), .int .i64 (srcU (remB (headOf bs) 0) 2 : Int), .int .i64 0, .int .i64 (tmN (natU (remB (headOf bs) q275))), .slice none 0 0]) rfl ?_); intro w290 H291
                  refine r_nil ?_
                  refine g_seq ?_
                  refine g_seq ?_
                  refine g_region ?_
                  refine r_cons (s_fieldAddr 24 2 2 2 3 rfl fi_24_2 rfl rfl ?_)
                  refine r_cons (s_load (.int .i64 (srcU (remB (headOf bs) 0) 2 : Int)) ag_3 rfl (H291.blk_at (i := 2) rfl) rfl rfl ?_)
                  refine r_cons (s_eql false rfl rfl (dfalse (by omega)) rfl ?_)
                  refine r_nil ?_
                  refine g_false rfl ?_
                  refine g_skip ?_
                  refine g_seq ?_
                  refine g_seq ?_
                  refine g_region ?_
                  refine r_cons (s_move (.pointer (some ⟨bk49, 0, none⟩)) rfl rfl ?_)
                  refine r_cons (s_nilCheck (.pointer (some ⟨bk49, 0, none⟩)) rfl ⟨_, rfl⟩ rfl ?_)
                  refine r_cons (s_fieldAddr 50 1 1 1 25 rfl fi_50_1 rfl rfl ?_)
                  refine r_cons (s_load (.int .i64 0) ag_25 rfl (H291.blk_at (i := 0) rfl) rfl rfl ?_)
                  refine r_cons (s_eql true rfl rfl (dtrue (by decide)) rfl ?_)
                  refine r_nil ?_
                  refine g_true rfl ?_
                  refine g_region ?_
                  refine r_cons (s_move (.pointer (some ⟨bk49, 0, none⟩)) rfl rfl ?_)
                  refine r_cons (s_move (.pointer (some ⟨bk49, 0, none⟩)) rfl rfl ?_)
                  refine r_cons (s_nilCheck (.pointer (some ⟨bk49, 0, none⟩)) rfl ⟨_, rfl⟩ rfl ?_)
                  refine r_cons (s_fieldAddr 50 0 0 0 47 rfl fi_50_0 rfl rfl ?_)
                  refine r_cons (s_load (.pointer (some ⟨bk46, 0, none⟩)) ag_47 rfl (H291.blk_at (i := 0) rfl) rfl rfl ?_)
                  refine r_cons (s_call [.pointer (some ⟨bk46, 0, none⟩)] pl_32 rfl rfl (Src_End bk46 (headOf bs) q284 (by first | omega | decide +kernel | (repeat (first | assumption | exact Nat.zero_le _ | refine natN_pos ?_ | refine srcN_pos ?_ | refine textN_pos ?_))) (by first | omega | decide +kernel)   (i := 1) rfl H291) ?_)
                  rintro _ w292 ⟨rfl, H293⟩
                  refine r_cons (s_nilCheck (.pointer (some ⟨bk49, 0, none⟩)) rfl ⟨_, rfl⟩ rfl ?_)
                  refine r_cons (s_fieldAddr 50 1 1 1 25 rfl fi_50_1 rfl rfl ?_)
                  refine r_cons (s_store H293 0 (.int .i64 (endE (remB (headOf bs) q284))) rfl rfl rfl sz_25 rfl (Nat.le_of_ble_eq_true rfl) rfl (cs' := #[.pointer (some ⟨bk46, 0, none⟩), .int .i64 (endE (remB (headOf bs) q284))]) rfl ?_); intro w294 H295
                  refine r_nil ?_
                  refine g_seq ?_
                  refine g_seq ?_
                  refine g_region ?_
                  refine r_cons (s_move (.pointer (some ⟨bk49, 0, none⟩)) rfl rfl ?_)
                  refine r_cons (s_nilCheck (.pointer (some ⟨bk49, 0, none⟩)) rfl ⟨_, rfl⟩ rfl ?_)
                  refine r_cons (s_fieldAddr 50 1 1 1 25 rfl fi_50_1 rfl rfl ?_)
                  refine r_cons (s_load (.int .i64 (endE (remB (headOf bs) q284))) ag_25 rfl (H295.blk_at (i := 0) rfl) rfl rfl ?_)
                  by_cases hc296 : endE (remB (headOf bs) q284) = 0
                  · skip
                    refine r_cons (s_eql true rfl rfl (dtrue hc296) rfl ?_)
                    refine r_nil ?_
                    refine g_true rfl ?_
                    refine g_region ?_
                    refine r_cons (s_move (.pointer (some ⟨bk49, 0, none⟩)) rfl rfl ?_)
                    have f1 : fr1 (remB (headOf bs) 0) = remB (headOf bs) q55 := hR56.symm
                    have f2 : fr2 (remB (headOf bs) 0) = remB (headOf bs) q266 := by unfold fr2; rw [f1]; exact hR267.symm
                    have f3 : fr3 (remB (headOf bs) 0) = remB (headOf bs) q275 := by unfold fr3; rw [f2]; exact hR276.symm
                    have f4 : fr4 (remB (headOf bs) 0) = remB (headOf bs) q284 := by unfold fr4; rw [f3]; exact hR285.symm
                    have fend : frEnd (remB (headOf bs) 0) = remB (headOf bs) q284 := by unfold frEnd; rw [if_neg (show ¬ srcU (remB (headOf bs) 0) 2 = 1 by omega)]; exact f4
                    have q1 : (frV (remB (headOf bs) 0)).frm.v = (srcU (remB (headOf bs) q55) 4 : Int) := by rw [frV_frm, f1]
                    have q2 : (frV (remB (headOf bs) 0)).to_.v = (srcU (remB (headOf bs) q266) 4 : Int) := by rw [frV_to, f2]
                    have q3 : (frV (remB (headOf bs) 0)).kind.v = (srcU (remB (headOf bs) 0) 2 : Int) := frV_kind
                    have q4 : (frV (remB (headOf bs) 0)).ack.v = tmN (natU (remB (headOf bs) q275)) := by rw [frV_ack, f3]
                    have H297 := Row.nil_intro H295 5 1
                    have q5 : (frV (remB (headOf bs) 0)).seq.v = 0 := frV_seq2 (show ¬ srcU (remB (headOf bs) 0) 2 = 1 by omega)
                    have q6 : (frV (remB (headOf bs) 0)).body = [] := frV_body2 (show ¬ srcU (remB (headOf bs) 0) 2 = 1 by omega)
                    have H298 : St W w294 (Row 5 1 (.slice none ((frV (remB (headOf bs) 0)).body.length) 0) ((frV (remB (headOf bs) 0)).body.length) ((frV (remB (headOf bs) 0)).body.flatMap u8c) :: blk bk49 (.cells #[.pointer (some ⟨bk46, 0, none⟩), .int .i64 (endE (remB (headOf bs) q284))] 50 (0, 0)) :: SrcA bk46 (headOf bs) q284 :: blk bk59 (.cells #[.int .i64 ((frV (remB (headOf bs) 0)).frm.v), .int .i64 ((frV (remB (headOf bs) 0)).to_.v), .int .i64 ((frV (remB (headOf bs) 0)).kind.v), .int .i64 ((frV (remB (headOf bs) 0)).seq.v), .int .i64 ((frV (remB (headOf bs) 0)).ack.v), .slice none ((frV (remB (headOf bs) 0)).body.length) 0] 24 (0, 0)) :: Im 1 (.slice (some ⟨bk35, 0, none⟩) 4 4) 4 ((sumB (sumN (headOf bs))).flatMap u8c) :: blk bk30 (.cells #[.slice pA1 (bs.length - 4) cA2] 22 (0, 0)) :: Im 1 (.slice (cutAt pA1 (bs.length - 4) cA2 1) (bs.length - (bs.length - 4)) (cA2 - (bs.length - 4))) ((tailOf bs).length) ((tailOf bs).flatMap u8c) :: Im 1 (.slice pA1 (bs.length - 4) cA2) ((headOf bs).length) ((headOf bs).flatMap u8c) :: blk bk14 (.cells #[.int .i64 0, .int .i64 0, .int .i64 0, .int .i64 0, .int .i64 0, .slice none 0 0] 24 (0, 0)) :: Im 1 (.slice pA1 bs.length cA2) bs.length (bs.flatMap u8c) :: imi (0 < bs.length) gA3 (.cells kA5 eA6 zA7) :: F) := by rw [q1, q2, q3, q4, q5, q6]; exact H297
                    refine r_cons (s_loadAgg [.int .i64 ((frV (remB (headOf bs) 0)).frm.v), .int .i64 ((frV (remB (headOf bs) 0)).to_.v), .int .i64 ((frV (remB (headOf bs) 0)).kind.v), .int .i64 ((frV (remB (headOf bs) 0)).seq.v), .int .i64 ((frV (remB (headOf bs) 0)).ack.v), .slice none ((frV (remB (headOf bs) 0)).body.length) 0] 6 ag_24 rfl (H298.blk_at (i := 3) rfl) (Nat.le_of_ble_eq_true rfl) rfl rfl ?_)
                    refine r_cons (s_call [.agg #[.int .i64 ((frV (remB (headOf bs) 0)).frm.v), .int .i64 ((frV (remB (headOf bs) 0)).to_.v), .int .i64 ((frV (remB (headOf bs) 0)).kind.v), .int .i64 ((frV (remB (headOf bs) 0)).seq.v), .int .i64 ((frV (remB (headOf bs) 0)).ack.v), .slice none ((frV (remB (headOf bs) 0)).body.length) 0]] pl_15 rfl rfl (frame_Check (frV (remB (headOf bs) 0)) _ RdA.row (j := 0) rfl H298) ?_)
                    rintro _ w299 ⟨rfl, H300⟩
                    refine r_cons (s_nilCheck (.pointer (some ⟨bk49, 0, none⟩)) rfl ⟨_, rfl⟩ rfl ?_)
                    refine r_cons (s_fieldAddr 50 1 1 1 25 rfl fi_50_1 rfl rfl ?_)
                    refine r_cons (s_store H300 1 (.int .i64 (dgE (frV (remB (headOf bs) 0)))) rfl rfl rfl sz_25 rfl (Nat.le_of_ble_eq_true rfl) rfl (cs' := #[.pointer (some ⟨bk46, 0, none⟩), .int .i64 (dgE (frV (remB (headOf bs) 0)))]) rfl ?_); intro w301 H302
                    refine r_nil ?_
                    refine g_seq ?_
                    refine g_seq ?_
                    refine g_region ?_
                    refine r_cons (s_move (.pointer (some ⟨bk49, 0, none⟩)) rfl rfl ?_)
                    refine r_cons (s_nilCheck (.pointer (some ⟨bk49, 0, none⟩)) rfl ⟨_, rfl⟩ rfl ?_)
                    refine r_cons (s_fieldAddr 50 1 1 1 25 rfl fi_50_1 rfl rfl ?_)
                    refine r_cons (s_load (.int .i64 (dgE (frV (remB (headOf bs) 0)))) ag_25 rfl (H302.blk_at (i := 1) rfl) rfl rfl ?_)
                    by_cases hc303 : dgE (frV (remB (headOf bs) 0)) = 0
                    · skip
                      refine r_cons (s_neq false rfl rfl (ntrue hc303) rfl ?_)
                      refine r_nil ?_
                      refine g_false rfl ?_
                      refine g_skip ?_
                      refine g_seq ?_
                      refine g_region ?_
                      refine r_cons (s_loadAgg [.int .i64 ((frV (remB (headOf bs) 0)).frm.v), .int .i64 ((frV (remB (headOf bs) 0)).to_.v), .int .i64 ((frV (remB (headOf bs) 0)).kind.v), .int .i64 ((frV (remB (headOf bs) 0)).seq.v), .int .i64 ((frV (remB (headOf bs) 0)).ack.v), .slice none ((frV (remB (headOf bs) 0)).body.length) 0] 6 ag_24 rfl (H302.blk_at (i := 3) rfl) (Nat.le_of_ble_eq_true rfl) rfl rfl ?_)
                      refine r_cons (s_storeAgg H302 8 #[.int .i64 ((frV (remB (headOf bs) 0)).frm.v), .int .i64 ((frV (remB (headOf bs) 0)).to_.v), .int .i64 ((frV (remB (headOf bs) 0)).kind.v), .int .i64 ((frV (remB (headOf bs) 0)).seq.v), .int .i64 ((frV (remB (headOf bs) 0)).ack.v), .slice none ((frV (remB (headOf bs) 0)).body.length) 0] 6 rfl rfl rfl sz_24 rfl (by simp [Value.oneCell']) (Nat.le_of_ble_eq_true rfl) (fun o h1 h2 => by first | (simp; done) | (simp; omega)) (cs' := #[.int .i64 ((frV (remB (headOf bs) 0)).frm.v), .int .i64 ((frV (remB (headOf bs) 0)).to_.v), .int .i64 ((frV (remB (headOf bs) 0)).kind.v), .int .i64 ((frV (remB (headOf bs) 0)).seq.v), .int .i64 ((frV (remB (headOf bs) 0)).ack.v), .slice none ((frV (remB (headOf bs) 0)).body.length) 0]) rfl ?_); intro w304 H305
                      refine r_cons (s_assign (.int .i64 0) rfl rfl ?_)
                      refine r_nil ?_
                      refine g_ret' [.agg #[.int .i64 ((frV (remB (headOf bs) 0)).frm.v), .int .i64 ((frV (remB (headOf bs) 0)).to_.v), .int .i64 ((frV (remB (headOf bs) 0)).kind.v), .int .i64 ((frV (remB (headOf bs) 0)).seq.v), .int .i64 ((frV (remB (headOf bs) 0)).ack.v), .slice none ((frV (remB (headOf bs) 0)).body.length) 0], .int .i64 0] Try.func10 Try.results10 ⟨(res_cellN rfl ag_24 (H305.blk_at (i := 8) rfl) (Nat.le_of_ble_eq_true rfl) rfl), rfl, trivial⟩ ?_
                      have hr0 : rdE (remB (headOf bs) 0) = 0 := rdE_ack he53 (show srcU (remB (headOf bs) 0) 2 = 2 by omega) (by rw [f1]; exact he264) (by rw [f2]; exact he273) (by rw [f3]; exact he282)
                      have hD0 : decE bs = dgE (frV (remB (headOf bs) 0)) := (decE_fr0 (by omega) htl).trans (frE_dg hr0 (by rw [fend]; exact hc296))
                      have hD : decE bs = 0 := by rw [hD0]; exact hc303
                      have H306 : St W w304 (Row 5 1 (.slice none ((frV (remB (headOf bs) 0)).body.length) 0) ((frV (remB (headOf bs) 0)).body.length) ((frV (remB (headOf bs) 0)).body.flatMap u8c) :: F) := ((((((((((H305.drop 1 rfl).drop 1 rfl).drop 1 rfl).drop 1 rfl).drop 1 rfl).drop 1 rfl).drop 1 rfl).drop 1 rfl).drop 1 rfl).drop 1 rfl)
                      have hV : decV bs = frV (remB (headOf bs) 0) := decV_yes0 hD
                      exact ⟨_, _, _, by rw [hD, hV]; rfl, by rw [hV], by rw [hV]; exact H306⟩
                    · skip
                      refine r_cons (s_neq true rfl rfl (nfalse hc303) rfl ?_)
                      refine r_nil ?_
                      refine g_true rfl ?_
                      refine g_seq ?_
                      have H307 : St W w301 (Row 5 1 (.slice none ((frV (remB (headOf bs) 0)).body.length) 0) ((frV (remB (headOf bs) 0)).body.length) ((frV (remB (headOf bs) 0)).body.flatMap u8c) :: blk bk49 (.cells #[.pointer (some ⟨bk46, 0, none⟩), .int .i64 (dgE (frV (remB (headOf bs) 0)))] 50 (0, 0)) :: SrcA bk46 (headOf bs) q284 :: blk bk59 (.cells #[.int .i64 ((frV (remB (headOf bs) 0)).frm.v), .int .i64 ((frV (remB (headOf bs) 0)).to_.v), .int .i64 ((frV (remB (headOf bs) 0)).kind.v), .int .i64 ((frV (remB (headOf bs) 0)).seq.v), .int .i64 ((frV (remB (headOf bs) 0)).ack.v), .slice none ((frV (remB (headOf bs) 0)).body.length) 0] 24 (0, 0)) :: Im 1 (.slice (some ⟨bk35, 0, none⟩) 4 4) 4 ((sumB (sumN (headOf bs))).flatMap u8c) :: blk bk30 (.cells #[.slice pA1 (bs.length - 4) cA2] 22 (0, 0)) :: Im 1 (.slice (cutAt pA1 (bs.length - 4) cA2 1) (bs.length - (bs.length - 4)) (cA2 - (bs.length - 4))) ((tailOf bs).length) ((tailOf bs).flatMap u8c) :: Im 1 (.slice pA1 (bs.length - 4) cA2) ((headOf bs).length) ((headOf bs).flatMap u8c) :: Im 1 (.slice pA1 bs.length cA2) bs.length (bs.flatMap u8c) :: imi (0 < bs.length) gA3 (.cells kA5 eA6 zA7) :: blk bk14 (.cells #[.int .i64 0, .int .i64 0, .int .i64 0, .int .i64 0, .int .i64 0, .slice none 0 0] 24 (0, 0)) :: F) := (((((((((((H302.move 8 rfl).move 10 rfl).move 10 rfl).move 10 rfl).move 10 rfl).move 10 rfl).move 10 rfl).move 10 rfl).move 10 rfl).move 10 rfl).move 10 rfl)
                      refine g_mix (fun t_ w => St W w (Row 5 1 (.slice none ((frV (remB (headOf bs) 0)).body.length) 0) ((frV (remB (headOf bs) 0)).body.length) ((frV (remB (headOf bs) 0)).body.flatMap u8c) :: blk bk49 (.cells #[.pointer (some ⟨bk46, 0, none⟩), .int .i64 (dgE (frV (remB (headOf bs) 0)))] 50 (0, 0)) :: SrcA bk46 (headOf bs) q284 :: blk bk59 (.cells #[.int .i64 ((frV (remB (headOf bs) 0)).frm.v), .int .i64 ((frV (remB (headOf bs) 0)).to_.v), .int .i64 ((frV (remB (headOf bs) 0)).kind.v), .int .i64 ((frV (remB (headOf bs) 0)).seq.v), .int .i64 ((frV (remB (headOf bs) 0)).ack.v), .slice none ((frV (remB (headOf bs) 0)).body.length) 0] 24 (0, 0)) :: Im 1 (.slice (some ⟨bk35, 0, none⟩) 4 4) 4 ((sumB (sumN (headOf bs))).flatMap u8c) :: blk bk30 (.cells #[.slice pA1 (bs.length - 4) cA2] 22 (0, 0)) :: Im 1 (.slice (cutAt pA1 (bs.length - 4) cA2 1) (bs.length - (bs.length - 4)) (cA2 - (bs.length - 4))) ((tailOf bs).length) ((tailOf bs).flatMap u8c) :: Im 1 (.slice pA1 (bs.length - 4) cA2) ((headOf bs).length) ((headOf bs).flatMap u8c) :: Im 1 (.slice pA1 bs.length cA2) bs.length (bs.flatMap u8c) :: imi (0 < bs.length) gA3 (.cells kA5 eA6 zA7) :: t_)) (blk bk14 (.cells #[.int .i64 0, .int .i64 0, .int .i64 0, .int .i64 0, .int .i64 0, .slice none 0 0] 24 (0, 0)) :: F) mixed 7 rfl H307.drew ?_
                      refine f_first 0 (listed' := #[true, false, false, false, false, false, false]) rfl (by kernel_rfl) (by kernel_rfl) (by kernel_rfl) rfl ?_
                      refine f_val rfl rfl rfl (by intro t_ w hw; exact x_build (cs := #[.int .i64 0, .int .i64 0, .int .i64 0, .int .i64 0, .int .i64 0, .slice none 0 0]) (by kernel_rfl) w) ?_
                      refine f_first 1 (listed' := #[true, true, false, false, false, false, false]) rfl (by kernel_rfl) (by kernel_rfl) (by kernel_rfl) rfl ?_
                      refine f_val rfl rfl rfl (by intro t_ w hw; exact x_move (.pointer (some ⟨bk49, 0, none⟩)) rfl w) ?_
                      refine f_first 2 (listed' := #[true, true, true, false, false, false, false]) rfl (by kernel_rfl) (by kernel_rfl) (by kernel_rfl) rfl ?_
                      refine f_val rfl rfl rfl (by intro t_ w hw; exact x_nilCheck (.pointer (some ⟨bk49, 0, none⟩)) rfl ⟨_, rfl⟩ w) ?_
                      refine f_first 3 (listed' := #[true, true, true, true, false, false, false]) rfl (by kernel_rfl) (by kernel_rfl) (by kernel_rfl) rfl ?_
                      refine f_val rfl rfl rfl (by intro t_ w hw; exact x_fieldAddr 50 1 1 1 25 rfl fi_50_1 rfl w) ?_
                      refine f_first 4 (listed' := #[true, true, true, true, true, false, false]) rfl (by kernel_rfl) (by kernel_rfl) (by kernel_rfl) rfl ?_
                      refine f_val rfl rfl rfl (by intro t_ w hw; exact x_load (.int .i64 (dgE (frV (remB (headOf bs) 0)))) ag_25 rfl (hw.blk_at (i := 1) rfl) rfl) ?_
                      refine f_all (rs := [5]) (by kernel_rfl) (by simp) ?_
                      refine a_cons ⟨_, rfl, ?_⟩ (fun x hx => absurd hx (by simp))
                      intro w308 H309
                      try dsimp only at H309
                      refine s_storeAgg H309 10 #[.int .i64 0, .int .i64 0, .int .i64 0, .int .i64 0, .int .i64 0, .slice none 0 0] 6 rfl rfl rfl sz_24 rfl (by simp [Value.oneCell']) (Nat.le_of_ble_eq_true rfl) (fun o h1 h2 => by first | (simp; done) | (simp; omega)) (cs' := #[.int .i64 0, .int .i64 0, .int .i64 0, .int .i64 0, .int .i64 0, .slice none 0 0]) rfl ?_; intro w310 H311
                      refine ⟨blk bk14 (.cells #[.int .i64 0, .int .i64 0, .int .i64 0, .int .i64 0, .int .i64 0, .slice none 0 0] 24 (0, 0)) :: F, ?_, H311⟩
                      change FReg _ _ _ _ _ #[true, true, true, true, true, true, false] _ _
                      refine f_first 6 (listed' := #[true, true, true, true, true, true, true]) rfl (by kernel_rfl) (by kernel_rfl) (by kernel_rfl) rfl ?_
                      refine f_val rfl rfl rfl (by intro t_ w hw; exact x_assign (.int .i64 (dgE (frV (remB (headOf bs) 0)))) rfl w) ?_
                      refine f_done (by kernel_rfl) ?_
                      intro w312 H313
                      refine g_ret' [.agg #[.int .i64 0, .int .i64 0, .int .i64 0, .int .i64 0, .int .i64 0, .slice none 0 0], .int .i64 (dgE (frV (remB (headOf bs) 0)))] Try.func10 Try.results10 ⟨(res_cellN rfl ag_24 (H313.blk_at (i := 10) rfl) (Nat.le_of_ble_eq_true rfl) rfl), rfl, trivial⟩ ?_
                      have hr0 : rdE (remB (headOf bs) 0) = 0 := rdE_ack he53 (show srcU (remB (headOf bs) 0) 2 = 2 by omega) (by rw [f1]; exact he264) (by rw [f2]; exact he273) (by rw [f3]; exact he282)
                      have hD0 : decE bs = dgE (frV (remB (headOf bs) 0)) := (decE_fr0 (by omega) htl).trans (frE_dg hr0 (by rw [fend]; exact hc296))
                      have hD : decE bs = dgE (frV (remB (headOf bs) 0)) := hD0
                      have H314 : St W w312 F := (((((((((((H313.drop 0 rfl).drop 0 rfl).drop 0 rfl).drop 0 rfl).drop 0 rfl).drop 0 rfl).drop 0 rfl).drop 0 rfl).drop 0 rfl).drop 0 rfl).drop 0 rfl)
                      have hV := decV_no (bs := bs) (by rw [hD]; exact hc303)
                      have H315 := Row.nil_intro H314 5 1
                      exact ⟨none, 0, 0, by rw [hD, hV]; rfl, by rw [hV]; rfl, by rw [hV]; exact H315⟩
                  · skip
                    refine r_cons (s_eql false rfl rfl (dfalse hc296) rfl ?_)
                    refine r_nil ?_
                    refine g_false rfl ?_
                    refine g_skip ?_
                    refine g_seq ?_
                    refine g_seq ?_
                    refine g_region ?_
                    refine r_cons (s_move (.pointer (some ⟨bk49, 0, none⟩)) rfl rfl ?_)
                    refine r_cons (s_nilCheck (.pointer (some ⟨bk49, 0, none⟩)) rfl ⟨_, rfl⟩ rfl ?_)
                    refine r_cons (s_fieldAddr 50 1 1 1 25 rfl fi_50_1 rfl rfl ?_)
                    refine r_cons (s_load (.int .i64 (endE (remB (headOf bs) q284))) ag_25 rfl (H295.blk_at (i := 0) rfl) rfl rfl ?_)
                    refine r_cons (s_neq true rfl rfl (nfalse (by omega)) rfl ?_)
                    refine r_nil ?_
                    refine g_true rfl ?_
                    refine g_seq ?_
                    have H316 : St W w294 (blk bk49 (.cells #[.pointer (some ⟨bk46, 0, none⟩), .int .i64 (endE (remB (headOf bs) q284))] 50 (0, 0)) :: SrcA bk46 (headOf bs) q284 :: blk bk59 (.cells #[.int .i64 (srcU (remB (headOf bs) q55) 4 : Int), .int .i64 (srcU (remB (headOf bs) q266) 4 : Int), .int .i64 (srcU (remB (headOf bs) 0) 2 : Int), .int .i64 0, .int .i64 (tmN (natU (remB (headOf bs) q275))), .slice none 0 0] 24 (0, 0)) :: Im 1 (.slice (some ⟨bk35, 0, none⟩) 4 4) 4 ((sumB (sumN (headOf bs))).flatMap u8c) :: blk bk30 (.cells #[.slice pA1 (bs.length - 4) cA2] 22 (0, 0)) :: Im 1 (.slice (cutAt pA1 (bs.length - 4) cA2 1) (bs.length - (bs.length - 4)) (cA2 - (bs.length - 4))) ((tailOf bs).length) ((tailOf bs).flatMap u8c) :: Im 1 (.slice pA1 (bs.length - 4) cA2) ((headOf bs).length) ((headOf bs).flatMap u8c) :: Im 1 (.slice pA1 bs.length cA2) bs.length (bs.flatMap u8c) :: imi (0 < bs.length) gA3 (.cells kA5 eA6 zA7) :: blk bk14 (.cells #[.int .i64 0, .int .i64 0, .int .i64 0, .int .i64 0, .int .i64 0, .slice none 0 0] 24 (0, 0)) :: F) := ((((((((((H295.move 7 rfl).move 9 rfl).move 9 rfl).move 9 rfl).move 9 rfl).move 9 rfl).move 9 rfl).move 9 rfl).move 9 rfl).move 9 rfl)
                    refine g_mix (fun t_ w => St W w (blk bk49 (.cells #[.pointer (some ⟨bk46, 0, none⟩), .int .i64 (endE (remB (headOf bs) q284))] 50 (0, 0)) :: SrcA bk46 (headOf bs) q284 :: blk bk59 (.cells #[.int .i64 (srcU (remB (headOf bs) q55) 4 : Int), .int .i64 (srcU (remB (headOf bs) q266) 4 : Int), .int .i64 (srcU (remB (headOf bs) 0) 2 : Int), .int .i64 0, .int .i64 (tmN (natU (remB (headOf bs) q275))), .slice none 0 0] 24 (0, 0)) :: Im 1 (.slice (some ⟨bk35, 0, none⟩) 4 4) 4 ((sumB (sumN (headOf bs))).flatMap u8c) :: blk bk30 (.cells #[.slice pA1 (bs.length - 4) cA2] 22 (0, 0)) :: Im 1 (.slice (cutAt pA1 (bs.length - 4) cA2 1) (bs.length - (bs.length - 4)) (cA2 - (bs.length - 4))) ((tailOf bs).length) ((tailOf bs).flatMap u8c) :: Im 1 (.slice pA1 (bs.length - 4) cA2) ((headOf bs).length) ((headOf bs).flatMap u8c) :: Im 1 (.slice pA1 bs.length cA2) bs.length (bs.flatMap u8c) :: imi (0 < bs.length) gA3 (.cells kA5 eA6 zA7) :: t_)) (blk bk14 (.cells #[.int .i64 0, .int .i64 0, .int .i64 0, .int .i64 0, .int .i64 0, .slice none 0 0] 24 (0, 0)) :: F) mixed 7 rfl H316.drew ?_
                    refine f_first 0 (listed' := #[true, false, false, false, false, false, false]) rfl (by kernel_rfl) (by kernel_rfl) (by kernel_rfl) rfl ?_
                    refine f_val rfl rfl rfl (by intro t_ w hw; exact x_build (cs := #[.int .i64 0, .int .i64 0, .int .i64 0, .int .i64 0, .int .i64 0, .slice none 0 0]) (by kernel_rfl) w) ?_
                    refine f_first 1 (listed' := #[true, true, false, false, false, false, false]) rfl (by kernel_rfl) (by kernel_rfl) (by kernel_rfl) rfl ?_
                    refine f_val rfl rfl rfl (by intro t_ w hw; exact x_move (.pointer (some ⟨bk49, 0, none⟩)) rfl w) ?_
                    refine f_first 2 (listed' := #[true, true, true, false, false, false, false]) rfl (by kernel_rfl) (by kernel_rfl) (by kernel_rfl) rfl ?_
                    refine f_val rfl rfl rfl (by intro t_ w hw; exact x_nilCheck (.pointer (some ⟨bk49, 0, none⟩)) rfl ⟨_, rfl⟩ w) ?_
                    refine f_first 3 (listed' := #[true, true, true, true, false, false, false]) rfl (by kernel_rfl) (by kernel_rfl) (by kernel_rfl) rfl ?_
                    refine f_val rfl rfl rfl (by intro t_ w hw; exact x_fieldAddr 50 1 1 1 25 rfl fi_50_1 rfl w) ?_
                    refine f_first 4 (listed' := #[true, true, true, true, true, false, false]) rfl (by kernel_rfl) (by kernel_rfl) (by kernel_rfl) rfl ?_
                    refine f_val rfl rfl rfl (by intro t_ w hw; exact x_load (.int .i64 (endE (remB (headOf bs) q284))) ag_25 rfl (hw.blk_at (i := 0) rfl) rfl) ?_
                    refine f_all (rs := [5]) (by kernel_rfl) (by simp) ?_
                    refine a_cons ⟨_, rfl, ?_⟩ (fun x hx => absurd hx (by simp))
                    intro w317 H318
                    try dsimp only at H318
                    refine s_storeAgg H318 9 #[.int .i64 0, .int .i64 0, .int .i64 0, .int .i64 0, .int .i64 0, .slice none 0 0] 6 rfl rfl rfl sz_24 rfl (by simp [Value.oneCell']) (Nat.le_of_ble_eq_true rfl) (fun o h1 h2 => by first | (simp; done) | (simp; omega)) (cs' := #[.int .i64 0, .int .i64 0, .int .i64 0, .int .i64 0, .int .i64 0, .slice none 0 0]) rfl ?_; intro w319 H320
                    refine ⟨blk bk14 (.cells #[.int .i64 0, .int .i64 0, .int .i64 0, .int .i64 0, .int .i64 0, .slice none 0 0] 24 (0, 0)) :: F, ?_, H320⟩
                    change FReg _ _ _ _ _ #[true, true, true, true, true, true, false] _ _
                    refine f_first 6 (listed' := #[true, true, true, true, true, true, true]) rfl (by kernel_rfl) (by kernel_rfl) (by kernel_rfl) rfl ?_
                    refine f_val rfl rfl rfl (by intro t_ w hw; exact x_assign (.int .i64 (endE (remB (headOf bs) q284))) rfl w) ?_
                    refine f_done (by kernel_rfl) ?_
                    intro w321 H322
                    refine g_ret' [.agg #[.int .i64 0, .int .i64 0, .int .i64 0, .int .i64 0, .int .i64 0, .slice none 0 0], .int .i64 (endE (remB (headOf bs) q284))] Try.func10 Try.results10 ⟨(res_cellN rfl ag_24 (H322.blk_at (i := 9) rfl) (Nat.le_of_ble_eq_true rfl) rfl), rfl, trivial⟩ ?_
                    have f1 : fr1 (remB (headOf bs) 0) = remB (headOf bs) q55 := hR56.symm
                    have f2 : fr2 (remB (headOf bs) 0) = remB (headOf bs) q266 := by unfold fr2; rw [f1]; exact hR267.symm
                    have f3 : fr3 (remB (headOf bs) 0) = remB (headOf bs) q275 := by unfold fr3; rw [f2]; exact hR276.symm
                    have f4 : fr4 (remB (headOf bs) 0) = remB (headOf bs) q284 := by unfold fr4; rw [f3]; exact hR285.symm
                    have fend : frEnd (remB (headOf bs) 0) = remB (headOf bs) q284 := by unfold frEnd; rw [if_neg (show ¬ srcU (remB (headOf bs) 0) 2 = 1 by omega)]; exact f4
                    have hr0 : rdE (remB (headOf bs) 0) = 0 := rdE_ack he53 (show srcU (remB (headOf bs) 0) 2 = 2 by omega) (by rw [f1]; exact he264) (by rw [f2]; exact he273) (by rw [f3]; exact he282)
                    have hD : decE bs = endE (remB (headOf bs) q284) := (decE_fr0 (by omega) htl).trans ((frE_end hr0 (by rw [fend]; exact hc296)).trans (by rw [fend]))
                    have H323 : St W w321 F := ((((((((((H322.drop 0 rfl).drop 0 rfl).drop 0 rfl).drop 0 rfl).drop 0 rfl).drop 0 rfl).drop 0 rfl).drop 0 rfl).drop 0 rfl).drop 0 rfl)
                    have hV := decV_no (bs := bs) (by rw [hD]; exact hc296)
                    have H324 := Row.nil_intro H323 5 1
                    exact ⟨none, 0, 0, by rw [hD, hV]; rfl, by rw [hV]; rfl, by rw [hV]; exact H324⟩
                · skip
                  refine r_cons (s_call [.int .u64 0] pl_29 rfl rfl (frame_clip (0) (by decide) H283) ?_)
                  rintro _ w325 ⟨rfl, H326⟩
                  refine r_cons (s_fieldAddr 24 4 4 4 2 rfl fi_24_4 rfl rfl ?_)
                  refine r_cons (s_store H326 2 (.int .i64 0) rfl rfl rfl sz_2 rfl (Nat.le_of_ble_eq_true rfl) rfl (cs' := #[.int .i64 (srcU (remB (headOf bs) q55) 4 : Int), .int .i64 (srcU (remB (headOf bs) q266) 4 : Int), .int .i64 (srcU (remB (headOf bs) 0) 2 : Int), .int .i64 0, .int .i64 0, .slice none 0 0]) rfl ?_); intro w327 H328
                  refine r_nil ?_
                  refine g_seq ?_
                  refine g_seq ?_
                  refine g_region ?_
                  refine r_cons (s_fieldAddr 24 2 2 2 3 rfl fi_24_2 rfl rfl ?_)
                  refine r_cons (s_load (.int .i64 (srcU (remB (headOf bs) 0) 2 : Int)) ag_3 rfl (H328.blk_at (i := 2) rfl) rfl rfl ?_)
                  refine r_cons (s_eql false rfl rfl (dfalse (by omega)) rfl ?_)
                  refine r_nil ?_
                  refine g_false rfl ?_
                  refine g_skip ?_
                  refine g_seq ?_
                  refine g_seq ?_
                  refine g_region ?_
                  refine r_cons (s_move (.pointer (some ⟨bk49, 0, none⟩)) rfl rfl ?_)
                  refine r_cons (s_nilCheck (.pointer (some ⟨bk49, 0, none⟩)) rfl ⟨_, rfl⟩ rfl ?_)
                  refine r_cons (s_fieldAddr 50 1 1 1 25 rfl fi_50_1 rfl rfl ?_)
                  refine r_cons (s_load (.int .i64 (natE (remB (headOf bs) q275))) ag_25 rfl (H328.blk_at (i := 0) rfl) rfl rfl ?_)
                  refine r_cons (s_eql false rfl rfl (dfalse (by omega)) rfl ?_)
                  refine r_nil ?_
                  refine g_false rfl ?_
                  refine g_skip ?_
                  refine g_seq ?_
                  refine g_seq ?_
                  refine g_region ?_
                  refine r_cons (s_move (.pointer (some ⟨bk49, 0, none⟩)) rfl rfl ?_)
                  refine r_cons (s_nilCheck (.pointer (some ⟨bk49, 0, none⟩)) rfl ⟨_, rfl⟩ rfl ?_)
                  refine r_cons (s_fieldAddr 50 1 1 1 25 rfl fi_50_1 rfl rfl ?_)
                  refine r_cons (s_load (.int .i64 (natE (remB (headOf bs) q275))) ag_25 rfl (H328.blk_at (i := 0) rfl) rfl rfl ?_)
                  refine r_cons (s_eql false rfl rfl (dfalse (by omega)) rfl ?_)
                  refine r_nil ?_
                  refine g_false rfl ?_
                  refine g_skip ?_
                  refine g_seq ?_
                  refine g_seq ?_
                  refine g_region ?_
                  refine r_cons (s_move (.pointer (some ⟨bk49, 0, none⟩)) rfl rfl ?_)
                  refine r_cons (s_nilCheck (.pointer (some ⟨bk49, 0, none⟩)) rfl ⟨_, rfl⟩ rfl ?_)
                  refine r_cons (s_fieldAddr 50 1 1 1 25 rfl fi_50_1 rfl rfl ?_)
                  refine r_cons (s_load (.int .i64 (natE (remB (headOf bs) q275))) ag_25 rfl (H328.blk_at (i := 0) rfl) rfl rfl ?_)
                  refine r_cons (s_neq true rfl rfl (nfalse (by omega)) rfl ?_)
                  refine r_nil ?_
                  refine g_true rfl ?_
                  refine g_seq ?_
                  have H329 : St W w327 (blk bk49 (.cells #[.pointer (some ⟨bk46, 0, none⟩), .int .i64 (natE (remB (headOf bs) q275))] 50 (0, 0)) :: SrcA bk46 (headOf bs) q275 :: blk bk59 (.cells #[.int .i64 (srcU (remB (headOf bs) q55) 4 : Int), .int .i64 (srcU (remB (headOf bs) q266) 4 : Int), .int .i64 (srcU (remB (headOf bs) 0) 2 : Int), .int .i64 0, .int .i64 0, .slice none 0 0] 24 (0, 0)) :: Im 1 (.slice (some ⟨bk35, 0, none⟩) 4 4) 4 ((sumB (sumN (headOf bs))).flatMap u8c) :: blk bk30 (.cells #[.slice pA1 (bs.length - 4) cA2] 22 (0, 0)) :: Im 1 (.slice (cutAt pA1 (bs.length - 4) cA2 1) (bs.length - (bs.length - 4)) (cA2 - (bs.length - 4))) ((tailOf bs).length) ((tailOf bs).flatMap u8c) :: Im 1 (.slice pA1 (bs.length - 4) cA2) ((headOf bs).length) ((headOf bs).flatMap u8c) :: Im 1 (.slice pA1 bs.length cA2) bs.length (bs.flatMap u8c) :: imi (0 < bs.length) gA3 (.cells kA5 eA6 zA7) :: blk bk14 (.cells #[.int .i64 0, .int .i64 0, .int .i64 0, .int .i64 0, .int .i64 0, .slice none 0 0] 24 (0, 0)) :: F) := ((((((((((H328.move 7 rfl).move 9 rfl).move 9 rfl).move 9 rfl).move 9 rfl).move 9 rfl).move 9 rfl).move 9 rfl).move 9 rfl).move 9 rfl)
                  refine g_mix (fun t_ w => St W w (blk bk49 (.cells #[.pointer (some ⟨bk46, 0, none⟩), .int .i64 (natE (remB (headOf bs) q275))] 50 (0, 0)) :: SrcA bk46 (headOf bs) q275 :: blk bk59 (.cells #[.int .i64 (srcU (remB (headOf bs) q55) 4 : Int), .int .i64 (srcU (remB (headOf bs) q266) 4 : Int), .int .i64 (srcU (remB (headOf bs) 0) 2 : Int), .int .i64 0, .int .i64 0, .slice none 0 0] 24 (0, 0)) :: Im 1 (.slice (some ⟨bk35, 0, none⟩) 4 4) 4 ((sumB (sumN (headOf bs))).flatMap u8c) :: blk bk30 (.cells #[.slice pA1 (bs.length - 4) cA2] 22 (0, 0)) :: Im 1 (.slice (cutAt pA1 (bs.length - 4) cA2 1) (bs.length - (bs.length - 4)) (cA2 - (bs.length - 4))) ((tailOf bs).length) ((tailOf bs).flatMap u8c) :: Im 1 (.slice pA1 (bs.length - 4) cA2) ((headOf bs).length) ((headOf bs).flatMap u8c) :: Im 1 (.slice pA1 bs.length cA2) bs.length (bs.flatMap u8c) :: imi (0 < bs.length) gA3 (.cells kA5 eA6 zA7) :: t_)) (blk bk14 (.cells #[.int .i64 0, .int .i64 0, .int .i64 0, .int .i64 0, .int .i64 0, .slice none 0 0] 24 (0, 0)) :: F) mixed 7 rfl H329.drew ?_
                  refine f_first 0 (listed' := #[true, false, false, false, false, false, false]) rfl (by kernel_rfl) (by kernel_rfl) (by kernel_rfl) rfl ?_
                  refine f_val rfl rfl rfl (by intro t_ w hw; exact x_build (cs := #[.int .i64 0, .int .i64 0, .int .i64 0, .int .i64 0, .int .i64 0, .slice none 0 0]) (by kernel_rfl) w) ?_
                  refine f_first 1 (listed' := #[true, true, false, false, false, false, false]) rfl (by kernel_rfl) (by kernel_rfl) (by kernel_rfl) rfl ?_
                  refine f_val rfl rfl rfl (by intro t_ w hw; exact x_move (.pointer (some ⟨bk49, 0, none⟩)) rfl w) ?_
                  refine f_first 2 (listed' := #[true, true, true, false, false, false, false]) rfl (by kernel_rfl) (by kernel_rfl) (by kernel_rfl) rfl ?_
                  refine f_val rfl rfl rfl (by intro t_ w hw; exact x_nilCheck (.pointer (some ⟨bk49, 0, none⟩)) rfl ⟨_, rfl⟩ w) ?_
                  refine f_first 3 (listed' := #[true, true, true, true, false, false, false]) rfl (by kernel_rfl) (by kernel_rfl) (by kernel_rfl) rfl ?_
                  refine f_val rfl rfl rfl (by intro t_ w hw; exact x_fieldAddr 50 1 1 1 25 rfl fi_50_1 rfl w) ?_
                  refine f_first 4 (listed' := #[true, true, true, true, true, false, false]) rfl (by kernel_rfl) (by kernel_rfl) (by kernel_rfl) rfl ?_
                  refine f_val rfl rfl rfl (by intro t_ w hw; exact x_load (.int .i64 (natE (remB (headOf bs) q275))) ag_25 rfl (hw.blk_at (i := 0) rfl) rfl) ?_
                  refine f_all (rs := [5]) (by kernel_rfl) (by simp) ?_
                  refine a_cons ⟨_, rfl, ?_⟩ (fun x hx => absurd hx (by simp))
                  intro w330 H331
                  try dsimp only at H331
                  refine s_storeAgg H331 9 #[.int .i64 0, .int .i64 0, .int .i64 0, .int .i64 0, .int .i64 0, .slice none 0 0] 6 rfl rfl rfl sz_24 rfl (by simp [Value.oneCell']) (Nat.le_of_ble_eq_true rfl) (fun o h1 h2 => by first | (simp; done) | (simp; omega)) (cs' := #[.int .i64 0, .int .i64 0, .int .i64 0, .int .i64 0, .int .i64 0, .slice none 0 0]) rfl ?_; intro w332 H333
                  refine ⟨blk bk14 (.cells #[.int .i64 0, .int .i64 0, .int .i64 0, .int .i64 0, .int .i64 0, .slice none 0 0] 24 (0, 0)) :: F, ?_, H333⟩
                  change FReg _ _ _ _ _ #[true, true, true, true, true, true, false] _ _
                  refine f_first 6 (listed' := #[true, true, true, true, true, true, true]) rfl (by kernel_rfl) (by kernel_rfl) (by kernel_rfl) rfl ?_
                  refine f_val rfl rfl rfl (by intro t_ w hw; exact x_assign (.int .i64 (natE (remB (headOf bs) q275))) rfl w) ?_
                  refine f_done (by kernel_rfl) ?_
                  intro w334 H335
                  refine g_ret' [.agg #[.int .i64 0, .int .i64 0, .int .i64 0, .int .i64 0, .int .i64 0, .slice none 0 0], .int .i64 (natE (remB (headOf bs) q275))] Try.func10 Try.results10 ⟨(res_cellN rfl ag_24 (H335.blk_at (i := 9) rfl) (Nat.le_of_ble_eq_true rfl) rfl), rfl, trivial⟩ ?_
                  have f1 : fr1 (remB (headOf bs) 0) = remB (headOf bs) q55 := hR56.symm
                  have f2 : fr2 (remB (headOf bs) 0) = remB (headOf bs) q266 := by unfold fr2; rw [f1]; exact hR267.symm
                  have f3 : fr3 (remB (headOf bs) 0) = remB (headOf bs) q275 := by unfold fr3; rw [f2]; exact hR276.symm
                  have hr0 := rdE_e he53 (show srcU (remB (headOf bs) 0) 2 = 1 ∨ srcU (remB (headOf bs) 0) 2 = 2 by omega) (by rw [f1]; exact he264) (by rw [f2]; exact he273) (by rw [f3]; exact he282)
                  have hD : decE bs = natE (remB (headOf bs) q275) := (decE_fr0 (by omega) htl).trans ((frE_rd (by rw [hr0, f3]; exact he282)).trans (hr0.trans (by rw [f3])))
                  have H336 : St W w334 F := ((((((((((H335.drop 0 rfl).drop 0 rfl).drop 0 rfl).drop 0 rfl).drop 0 rfl).drop 0 rfl).drop 0 rfl).drop 0 rfl).drop 0 rfl).drop 0 rfl)
                  have hV := decV_no (bs := bs) (by rw [hD]; exact he282)
                  have H337 := Row.nil_intro H336 5 1
                  exact ⟨none, 0, 0, by rw [hD, hV]; rfl, by rw [hV]; rfl, by rw [hV]; exact H337⟩
              · skip
                refine r_cons (s_fieldAddr 24 1 1 1 3 rfl fi_24_1 rfl rfl ?_)
                refine r_cons (s_store H274 2 (.int .i64 0) rfl rfl rfl sz_3 rfl (Nat.le_of_ble_eq_true rfl) rfl (cs' := #[.int .i64 (srcU (remB (headOf bs) q55) 4 : Int), .int .i64 0, .int .i64 (srcU (remB (headOf bs) 0) 2 : Int), .int .i64 0, .int .i64 0, .slice none 0 0]) rfl ?_); intro w338 H339
                refine r_nil ?_
                refine g_seq ?_
                refine g_region ?_
                refine r_cons (s_move (.pointer (some ⟨bk49, 0, none⟩)) rfl rfl ?_)
                refine r_cons (s_call [.pointer (some ⟨bk49, 0, none⟩)] pl_30 rfl rfl (rd_nat_no bk49 bk46 (srcE (remB (headOf bs) q266) 4) (by first | assumption | decide)  (i := 0) rfl H339) ?_)
                rintro _ w340 ⟨rfl, H341⟩
                refine r_cons (s_call [.int .u64 0] pl_29 rfl rfl (frame_clip (0) (by decide) H341) ?_)
                rintro _ w342 ⟨rfl, H343⟩
                refine r_cons (s_fieldAddr 24 4 4 4 2 rfl fi_24_4 rfl rfl ?_)
                refine r_cons (s_store H343 2 (.int .i64 0) rfl rfl rfl sz_2 rfl (Nat.le_of_ble_eq_true rfl) rfl (cs' := #[.int .i64 (srcU (remB (headOf bs) q55) 4 : Int), .int .i64 0, .int .i64 (srcU (remB (headOf bs) 0) 2 : Int), .int .i64 0, .int .i64 0, .slice none 0 0]) rfl ?_); intro w344 H345
                refine r_nil ?_
                refine g_seq ?_
                refine g_seq ?_
                refine g_region ?_
                refine r_cons (s_fieldAddr 24 2 2 2 3 rfl fi_24_2 rfl rfl ?_)
                refine r_cons (s_load (.int .i64 (srcU (remB (headOf bs) 0) 2 : Int)) ag_3 rfl (H345.blk_at (i := 2) rfl) rfl rfl ?_)
                refine r_cons (s_eql false rfl rfl (dfalse (by omega)) rfl ?_)
                refine r_nil ?_
                refine g_false rfl ?_
                refine g_skip ?_
                refine g_seq ?_
                refine g_seq ?_
                refine g_region ?_
                refine r_cons (s_move (.pointer (some ⟨bk49, 0, none⟩)) rfl rfl ?_)
                refine r_cons (s_nilCheck (.pointer (some ⟨bk49, 0, none⟩)) rfl ⟨_, rfl⟩ rfl ?_)
                refine r_cons (s_fieldAddr 50 1 1 1 25 rfl fi_50_1 rfl rfl ?_)
                refine r_cons (s_load (.int .i64 (srcE (remB (headOf bs) q266) 4)) ag_25 rfl (H345.blk_at (i := 0) rfl) rfl rfl ?_)
                refine r_cons (s_eql false rfl rfl (dfalse (by omega)) rfl ?_)
                refine r_nil ?_
                refine g_false rfl ?_
                refine g_skip ?_
                refine g_seq ?_
                refine g_seq ?_
                refine g_region ?_
                refine r_cons (s_move (.pointer (some ⟨bk49, 0, none⟩)) rfl rfl ?_)
                refine r_cons (s_nilCheck (.pointer (some ⟨bk49, 0, none⟩)) rfl ⟨_, rfl⟩ rfl ?_)
                refine r_cons (s_fieldAddr 50 1 1 1 25 rfl fi_50_1 rfl rfl ?_)
                refine r_cons (s_load (.int .i64 (srcE (remB (headOf bs) q266) 4)) ag_25 rfl (H345.blk_at (i := 0) rfl) rfl rfl ?_)
                refine r_cons (s_eql false rfl rfl (dfalse (by omega)) rfl ?_)
                refine r_nil ?_
                refine g_false rfl ?_
                refine g_skip ?_
                refine g_seq ?_
                refine g_seq ?_
                refine g_region ?_
                refine r_cons (s_move (.pointer (some ⟨bk49, 0, none⟩)) rfl rfl ?_)
                refine r_cons (s_nilCheck (.pointer (some ⟨bk49, 0, none⟩)) rfl ⟨_, rfl⟩ rfl ?_)
                refine r_cons (s_fieldAddr 50 1 1 1 25 rfl fi_50_1 rfl rfl ?_)
                refine r_cons (s_load (.int .i64 (srcE (remB (headOf bs) q266) 4)) ag_25 rfl (H345.blk_at (i := 0) rfl) rfl rfl ?_)
                refine r_cons (s_neq true rfl rfl (nfalse (by omega)) rfl ?_)
                refine r_nil ?_
                refine g_true rfl ?_
                refine g_seq ?_
                have H346 : St W w344 (blk bk49 (.cells #[.pointer (some ⟨bk46, 0, none⟩), .int .i64 (srcE (remB (headOf bs) q266) 4)] 50 (0, 0)) :: SrcA bk46 (headOf bs) q266 :: blk bk59 (.cells #[.int .i64 (srcU (remB (headOf bs) q55) 4 : Int), .int .i64 0, .int .i64 (srcU (remB (headOf bs) 0) 2 : Int), .int .i64 0, .int .i64 0, .slice none 0 0] 24 (0, 0)) :: Im 1 (.slice (some ⟨bk35, 0, none⟩) 4 4) 4 ((sumB (sumN (headOf bs))).flatMap u8c) :: blk bk30 (.cells #[.slice pA1 (bs.length - 4) cA2] 22 (0, 0)) :: Im 1 (.slice (cutAt pA1 (bs.length - 4) cA2 1) (bs.length - (bs.length - 4)) (cA2 - (bs.length - 4))) ((tailOf bs).length) ((tailOf bs).flatMap u8c) :: Im 1 (.slice pA1 (bs.length - 4) cA2) ((headOf bs).length) ((headOf bs).flatMap u8c) :: Im 1 (.slice pA1 bs.length cA2) bs.length (bs.flatMap u8c) :: imi (0 < bs.length) gA3 (.cells kA5 eA6 zA7) :: blk bk14 (.cells #[.int .i64 0, .int .i64 0, .int .i64 0, .int .i64 0, .int .i64 0, .slice none 0 0] 24 (0, 0)) :: F) := ((((((((((H345.move 7 rfl).move 9 rfl).move 9 rfl).move 9 rfl).move 9 rfl).move 9 rfl).move 9 rfl).move 9 rfl).move 9 rfl).move 9 rfl)
                refine g_mix (fun t_ w => St W w (blk bk49 (.cells #[.pointer (some ⟨bk46, 0, none⟩), .int .i64 (srcE (remB (headOf bs) q266) 4)] 50 (0, 0)) :: SrcA bk46 (headOf bs) q266 :: blk bk59 (.cells #[.int .i64 (srcU (remB (headOf bs) q55) 4 : Int), .int .i64 0, .int .i64 (srcU (remB (headOf bs) 0) 2 : Int), .int .i64 0, .int .i64 0, .slice none 0 0] 24 (0, 0)) :: Im 1 (.slice (some ⟨bk35, 0, none⟩) 4 4) 4 ((sumB (sumN (headOf bs))).flatMap u8c) :: blk bk30 (.cells #[.slice pA1 (bs.length - 4) cA2] 22 (0, 0)) :: Im 1 (.slice (cutAt pA1 (bs.length - 4) cA2 1) (bs.length - (bs.length - 4)) (cA2 - (bs.length - 4))) ((tailOf bs).length) ((tailOf bs).flatMap u8c) :: Im 1 (.slice pA1 (bs.length - 4) cA2) ((headOf bs).length) ((headOf bs).flatMap u8c) :: Im 1 (.slice pA1 bs.length cA2) bs.length (bs.flatMap u8c) :: imi (0 < bs.length) gA3 (.cells kA5 eA6 zA7) :: t_)) (blk bk14 (.cells #[.int .i64 0, .int .i64 0, .int .i64 0, .int .i64 0, .int .i64 0, .slice none 0 0] 24 (0, 0)) :: F) mixed 7 rfl H346.drew ?_
                refine f_first 0 (listed' := #[true, false, false, false, false, false, false]) rfl (by kernel_rfl) (by kernel_rfl) (by kernel_rfl) rfl ?_
                refine f_val rfl rfl rfl (by intro t_ w hw; exact x_build (cs := #[.int .i64 0, .int .i64 0, .int .i64 0, .int .i64 0, .int .i64 0, .slice none 0 0]) (by kernel_rfl) w) ?_
                refine f_first 1 (listed' := #[true, true, false, false, false, false, false]) rfl (by kernel_rfl) (by kernel_rfl) (by kernel_rfl) rfl ?_
                refine f_val rfl rfl rfl (by intro t_ w hw; exact x_move (.pointer (some ⟨bk49, 0, none⟩)) rfl w) ?_
                refine f_first 2 (listed' := #[true, true, true, false, false, false, false]) rfl (by kernel_rfl) (by kernel_rfl) (by kernel_rfl) rfl ?_
                refine f_val rfl rfl rfl (by intro t_ w hw; exact x_nilCheck (.pointer (some ⟨bk49, 0, none⟩)) rfl ⟨_, rfl⟩ w) ?_
                refine f_first 3 (listed' := #[true, true, true, true, false, false, false]) rfl (by kernel_rfl) (by kernel_rfl) (by kernel_rfl) rfl ?_
                refine f_val rfl rfl rfl (by intro t_ w hw; exact x_fieldAddr 50 1 1 1 25 rfl fi_50_1 rfl w) ?_
                refine f_first 4 (listed' := #[true, true, true, true, true, false, false]) rfl (by kernel_rfl) (by kernel_rfl) (by kernel_rfl) rfl ?_
                refine f_val rfl rfl rfl (by intro t_ w hw; exact x_load (.int .i64 (srcE (remB (headOf bs) q266) 4)) ag_25 rfl (hw.blk_at (i := 0) rfl) rfl) ?_
                refine f_all (rs := [5]) (by kernel_rfl) (by simp) ?_
                refine a_cons ⟨_, rfl, ?_⟩ (fun x hx => absurd hx (by simp))
                intro w347 H348
                try dsimp only at H348
                refine s_storeAgg H348 9 #[.int .i64 0, .int .i64 0, .int .i64 0, .int .i64 0, .int .i64 0, .slice none 0 0] 6 rfl rfl rfl sz_24 rfl (by simp [Value.oneCell']) (Nat.le_of_ble_eq_true rfl) (fun o h1 h2 => by first | (simp; done) | (simp; omega)) (cs' := #[.int .i64 0, .int .i64 0, .int .i64 0, .int .i64 0, .int .i64 0, .slice none 0 0]) rfl ?_; intro w349 H350
                refine ⟨blk bk14 (.cells #[.int .i64 0, .int .i64 0, .int .i64 0, .int .i64 0, .int .i64 0, .slice none 0 0] 24 (0, 0)) :: F, ?_, H350⟩
                change FReg _ _ _ _ _ #[true, true, true, true, true, true, false] _ _
                refine f_first 6 (listed' := #[true, true, true, true, true, true, true]) rfl (by kernel_rfl) (by kernel_rfl) (by kernel_rfl) rfl ?_
                refine f_val rfl rfl rfl (by intro t_ w hw; exact x_assign (.int .i64 (srcE (remB (headOf bs) q266) 4)) rfl w) ?_
                refine f_done (by kernel_rfl) ?_
                intro w351 H352
                refine g_ret' [.agg #[.int .i64 0, .int .i64 0, .int .i64 0, .int .i64 0, .int .i64 0, .slice none 0 0], .int .i64 (srcE (remB (headOf bs) q266) 4)] Try.func10 Try.results10 ⟨(res_cellN rfl ag_24 (H352.blk_at (i := 9) rfl) (Nat.le_of_ble_eq_true rfl) rfl), rfl, trivial⟩ ?_
                have f1 : fr1 (remB (headOf bs) 0) = remB (headOf bs) q55 := hR56.symm
                have f2 : fr2 (remB (headOf bs) 0) = remB (headOf bs) q266 := by unfold fr2; rw [f1]; exact hR267.symm
                have hr0 := rdE_d he53 (show srcU (remB (headOf bs) 0) 2 = 1 ∨ srcU (remB (headOf bs) 0) 2 = 2 by omega) (by rw [f1]; exact he264) (by rw [f2]; exact he273)
                have hD : decE bs = srcE (remB (headOf bs) q266) 4 := (decE_fr0 (by omega) htl).trans ((frE_rd (by rw [hr0, f2]; exact he273)).trans (hr0.trans (by rw [f2])))
                have H353 : St W w351 F := ((((((((((H352.drop 0 rfl).drop 0 rfl).drop 0 rfl).drop 0 rfl).drop 0 rfl).drop 0 rfl).drop 0 rfl).drop 0 rfl).drop 0 rfl).drop 0 rfl)
                have hV := decV_no (bs := bs) (by rw [hD]; exact he273)
                have H354 := Row.nil_intro H353 5 1
                exact ⟨none, 0, 0, by rw [hD, hV]; rfl, by rw [hV]; rfl, by rw [hV]; exact H354⟩
            · skip
              refine r_cons (s_fieldAddr 24 0 0 0 3 rfl fi_24_0 rfl rfl ?_)
              refine r_cons (s_store H265 2 (.int .i64 0) rfl rfl rfl sz_3 rfl (Nat.le_of_ble_eq_true rfl) rfl (cs' := #[.int .i64 0, .int .i64 0, .int .i64 (srcU (remB (headOf bs) 0) 2 : Int), .int .i64 0, .int .i64 0, .slice none 0 0]) rfl ?_); intro w355 H356
              refine r_nil ?_
              refine g_seq ?_
              refine g_region ?_
              refine r_cons (s_move (.pointer (some ⟨bk49, 0, none⟩)) rfl rfl ?_)
              refine r_cons (s_call [.pointer (some ⟨bk49, 0, none⟩), .int .i64 4] pl_27 rfl rfl (rd_bits_no bk49 bk46 (srcE (remB (headOf bs) q55) 4) (by first | assumption | decide) 4 (by decide) (i := 0) rfl H356) ?_)
              rintro _ w357 ⟨rfl, H358⟩
              refine r_cons (s_fieldAddr 24 1 1 1 3 rfl fi_24_1 rfl rfl ?_)
              refine r_cons (s_store H358 2 (.int .i64 0) rfl rfl rfl sz_3 rfl (Nat.le_of_ble_eq_true rfl) rfl (cs' := #[.int .i64 0, .int .i64 0, .int .i64 (srcU (remB (headOf bs) 0) 2 : Int), .int .i64 0, .int .i64 0, .slice none 0 0]) rfl ?_); intro w359 H360
              refine r_nil ?_
              refine g_seq ?_
              refine g_region ?_
              refine r_cons (s_move (.pointer (some ⟨bk49, 0, none⟩)) rfl rfl ?_)
              refine r_cons (s_call [.pointer (some ⟨bk49, 0, none⟩)] pl_30 rfl rfl (rd_nat_no bk49 bk46 (srcE (remB (headOf bs) q55) 4) (by first | assumption | decide)  (i := 0) rfl H360) ?_)
              rintro _ w361 ⟨rfl, H362⟩
              refine r_cons (s_call [.int .u64 0] pl_29 rfl rfl (frame_clip (0) (by decide) H362) ?_)
              rintro _ w363 ⟨rfl, H364⟩
              refine r_cons (s_fieldAddr 24 4 4 4 2 rfl fi_24_4 rfl rfl ?_)
              refine r_cons (s_store H364 2 (.int .i64 0) rfl rfl rfl sz_2 rfl (Nat.le_of_ble_eq_true rfl) rfl (cs' := #[.int .i64 0, .int .i64 0, .int .i64 (srcU (remB (headOf bs) 0) 2 : Int), .int .i64 0, .int .i64 0, .slice none 0 0]) rfl ?_); intro w365 H366
              refine r_nil ?_
              refine g_seq ?_
              refine g_seq ?_
              refine g_region ?_
              refine r_cons (s_fieldAddr 24 2 2 2 3 rfl fi_24_2 rfl rfl ?_)
              refine r_cons (s_load (.int .i64 (srcU (remB (headOf bs) 0) 2 : Int)) ag_3 rfl (H366.blk_at (i := 2) rfl) rfl rfl ?_)
              refine r_cons (s_eql false rfl rfl (dfalse (by omega)) rfl ?_)
              refine r_nil ?_
              refine g_false rfl ?_
              refine g_skip ?_
              refine g_seq ?_
              refine g_seq ?_
              refine g_region ?_
              refine r_cons (s_move (.pointer (some ⟨bk49, 0, none⟩)) rfl rfl ?_)
              refine r_cons (s_nilCheck (.pointer (some ⟨bk49, 0, none⟩)) rfl ⟨_, rfl⟩ rfl ?_)
              refine r_cons (s_fieldAddr 50 1 1 1 25 rfl fi_50_1 rfl rfl ?_)
              refine r_cons (s_load (.int .i64 (srcE (remB (headOf bs) q55) 4)) ag_25 rfl (H366.blk_at (i := 0) rfl) rfl rfl ?_)
              refine r_cons (s_eql false rfl rfl (dfalse (by omega)) rfl ?_)
              refine r_nil ?_
              refine g_false rfl ?_
              refine g_skip ?_
              refine g_seq ?_
              refine g_seq ?_
              refine g_region ?_
              refine r_cons (s_move (.pointer (some ⟨bk49, 0, none⟩)) rfl rfl ?_)
              refine r_cons (s_nilCheck (.pointer (some ⟨bk49, 0, none⟩)) rfl ⟨_, rfl⟩ rfl ?_)
              refine r_cons (s_fieldAddr 50 1 1 1 25 rfl fi_50_1 rfl rfl ?_)
              refine r_cons (s_load (.int .i64 (srcE (remB (headOf bs) q55) 4)) ag_25 rfl (H366.blk_at (i := 0) rfl) rfl rfl ?_)
              refine r_cons (s_eql false rfl rfl (dfalse (by omega)) rfl ?_)
              refine r_nil ?_
              refine g_false rfl ?_
              refine g_skip ?_
              refine g_seq ?_
              refine g_seq ?_
              refine g_region ?_
              refine r_cons (s_move (.pointer (some ⟨bk49, 0, none⟩)) rfl rfl ?_)
              refine r_cons (s_nilCheck (.pointer (some ⟨bk49, 0, none⟩)) rfl ⟨_, rfl⟩ rfl ?_)
              refine r_cons (s_fieldAddr 50 1 1 1 25 rfl fi_50_1 rfl rfl ?_)
              refine r_cons (s_load (.int .i64 (srcE (remB (headOf bs) q55) 4)) ag_25 rfl (H366.blk_at (i := 0) rfl) rfl rfl ?_)
              refine r_cons (s_neq true rfl rfl (nfalse (by omega)) rfl ?_)
              refine r_nil ?_
              refine g_true rfl ?_
              refine g_seq ?_
              have H367 : St W w365 (blk bk49 (.cells #[.pointer (some ⟨bk46, 0, none⟩), .int .i64 (srcE (remB (headOf bs) q55) 4)] 50 (0, 0)) :: SrcA bk46 (headOf bs) q55 :: blk bk59 (.cells #[.int .i64 0, .int .i64 0, .int .i64 (srcU (remB (headOf bs) 0) 2 : Int), .int .i64 0, .int .i64 0, .slice none 0 0] 24 (0, 0)) :: Im 1 (.slice (some ⟨bk35, 0, none⟩) 4 4) 4 ((sumB (sumN (headOf bs))).flatMap u8c) :: blk bk30 (.cells #[.slice pA1 (bs.length - 4) cA2] 22 (0, 0)) :: Im 1 (.slice (cutAt pA1 (bs.length - 4) cA2 1) (bs.length - (bs.length - 4)) (cA2 - (bs.length - 4))) ((tailOf bs).length) ((tailOf bs).flatMap u8c) :: Im 1 (.slice pA1 (bs.length - 4) cA2) ((headOf bs).length) ((headOf bs).flatMap u8c) :: Im 1 (.slice pA1 bs.length cA2) bs.length (bs.flatMap u8c) :: imi (0 < bs.length) gA3 (.cells kA5 eA6 zA7) :: blk bk14 (.cells #[.int .i64 0, .int .i64 0, .int .i64 0, .int .i64 0, .int .i64 0, .slice none 0 0] 24 (0, 0)) :: F) := ((((((((((H366.move 7 rfl).move 9 rfl).move 9 rfl).move 9 rfl).move 9 rfl).move 9 rfl).move 9 rfl).move 9 rfl).move 9 rfl).move 9 rfl)
              refine g_mix (fun t_ w => St W w (blk bk49 (.cells #[.pointer (some ⟨bk46, 0, none⟩), .int .i64 (srcE (remB (headOf bs) q55) 4)] 50 (0, 0)) :: SrcA bk46 (headOf bs) q55 :: blk bk59 (.cells #[.int .i64 0, .int .i64 0, .int .i64 (srcU (remB (headOf bs) 0) 2 : Int), .int .i64 0, .int .i64 0, .slice none 0 0] 24 (0, 0)) :: Im 1 (.slice (some ⟨bk35, 0, none⟩) 4 4) 4 ((sumB (sumN (headOf bs))).flatMap u8c) :: blk bk30 (.cells #[.slice pA1 (bs.length - 4) cA2] 22 (0, 0)) :: Im 1 (.slice (cutAt pA1 (bs.length - 4) cA2 1) (bs.length - (bs.length - 4)) (cA2 - (bs.length - 4))) ((tailOf bs).length) ((tailOf bs).flatMap u8c) :: Im 1 (.slice pA1 (bs.length - 4) cA2) ((headOf bs).length) ((headOf bs).flatMap u8c) :: Im 1 (.slice pA1 bs.length cA2) bs.length (bs.flatMap u8c) :: imi (0 < bs.length) gA3 (.cells kA5 eA6 zA7) :: t_)) (blk bk14 (.cells #[.int .i64 0, .int .i64 0, .int .i64 0, .int .i64 0, .int .i64 0, .slice none 0 0] 24 (0, 0)) :: F) mixed 7 rfl H367.drew ?_
              refine f_first 0 (listed' := #[true, false, false, false, false, false, false]) rfl (by kernel_rfl) (by kernel_rfl) (by kernel_rfl) rfl ?_
              refine f_val rfl rfl rfl (by intro t_ w hw; exact x_build (cs := #[.int .i64 0, .int .i64 0, .int .i64 0, .int .i64 0, .int .i64 0, .slice none 0 0]) (by kernel_rfl) w) ?_
              refine f_first 1 (listed' := #[true, true, false, false, false, false, false]) rfl (by kernel_rfl) (by kernel_rfl) (by kernel_rfl) rfl ?_
              refine f_val rfl rfl rfl (by intro t_ w hw; exact x_move (.pointer (some ⟨bk49, 0, none⟩)) rfl w) ?_
              refine f_first 2 (listed' := #[true, true, true, false, false, false, false]) rfl (by kernel_rfl) (by kernel_rfl) (by kernel_rfl) rfl ?_
              refine f_val rfl rfl rfl (by intro t_ w hw; exact x_nilCheck (.pointer (some ⟨bk49, 0, none⟩)) rfl ⟨_, rfl⟩ w) ?_
              refine f_first 3 (listed' := #[true, true, true, true, false, false, false]) rfl (by kernel_rfl) (by kernel_rfl) (by kernel_rfl) rfl ?_
              refine f_val rfl rfl rfl (by intro t_ w hw; exact x_fieldAddr 50 1 1 1 25 rfl fi_50_1 rfl w) ?_
              refine f_first 4 (listed' := #[true, true, true, true, true, false, false]) rfl (by kernel_rfl) (by kernel_rfl) (by kernel_rfl) rfl ?_
              refine f_val rfl rfl rfl (by intro t_ w hw; exact x_load (.int .i64 (srcE (remB (headOf bs) q55) 4)) ag_25 rfl (hw.blk_at (i := 0) rfl) rfl) ?_
              refine f_all (rs := [5]) (by kernel_rfl) (by simp) ?_
              refine a_cons ⟨_, rfl, ?_⟩ (fun x hx => absurd hx (by simp))
              intro w368 H369
              try dsimp only at H369
              refine s_storeAgg H369 9 #[.int .i64 0, .int .i64 0, .int .i64 0, .int .i64 0, .int .i64 0, .slice none 0 0] 6 rfl rfl rfl sz_24 rfl (by simp [Value.oneCell']) (Nat.le_of_ble_eq_true rfl) (fun o h1 h2 => by first | (simp; done) | (simp; omega)) (cs' := #[.int .i64 0, .int .i64 0, .int .i64 0, .int .i64 0, .int .i64 0, .slice none 0 0]) rfl ?_; intro w370 H371
              refine ⟨blk bk14 (.cells #[.int .i64 0, .int .i64 0, .int .i64 0, .int .i64 0, .int .i64 0, .slice none 0 0] 24 (0, 0)) :: F, ?_, H371⟩
              change FReg _ _ _ _ _ #[true, true, true, true, true, true, false] _ _
              refine f_first 6 (listed' := #[true, true, true, true, true, true, true]) rfl (by kernel_rfl) (by kernel_rfl) (by kernel_rfl) rfl ?_
              refine f_val rfl rfl rfl (by intro t_ w hw; exact x_assign (.int .i64 (srcE (remB (headOf bs) q55) 4)) rfl w) ?_
              refine f_done (by kernel_rfl) ?_
              intro w372 H373
              refine g_ret' [.agg #[.int .i64 0, .int .i64 0, .int .i64 0, .int .i64 0, .int .i64 0, .slice none 0 0], .int .i64 (srcE (remB (headOf bs) q55) 4)] Try.func10 Try.results10 ⟨(res_cellN rfl ag_24 (H373.blk_at (i := 9) rfl) (Nat.le_of_ble_eq_true rfl) rfl), rfl, trivial⟩ ?_
              have f1 : fr1 (remB (headOf bs) 0) = remB (headOf bs) q55 := hR56.symm
              have hr0 := rdE_c he53 (show srcU (remB (headOf bs) 0) 2 = 1 ∨ srcU (remB (headOf bs) 0) 2 = 2 by omega) (by rw [f1]; exact he264)
              have hD : decE bs = srcE (remB (headOf bs) q55) 4 := (decE_fr0 (by omega) htl).trans ((frE_rd (by rw [hr0, f1]; exact he264)).trans (hr0.trans (by rw [f1])))
              have H374 : St W w372 F := ((((((((((H373.drop 0 rfl).drop 0 rfl).drop 0 rfl).drop 0 rfl).drop 0 rfl).drop 0 rfl).drop 0 rfl).drop 0 rfl).drop 0 rfl).drop 0 rfl)
              have hV := decV_no (bs := bs) (by rw [hD]; exact he264)
              have H375 := Row.nil_intro H374 5 1
              exact ⟨none, 0, 0, by rw [hD, hV]; rfl, by rw [hV]; rfl, by rw [hV]; exact H375⟩
          · skip
            refine s_neq true rfl rfl (nfalse hc260) rfl ?_
            refine r_cons (s_pick_t (.bool true) rfl rfl rfl ?_)
            refine r_cons (s_call [.pointer (some ⟨bk49, 0, none⟩), .bool true] pl_28 rfl rfl (rd_fails_t bk49 bk46 (i := 1) rfl H63) ?_)
            rintro _ w376 ⟨rfl, H377⟩
            refine r_nil ?_
            refine g_seq ?_
            refine g_region ?_
            refine r_cons (s_move (.pointer (some ⟨bk49, 0, none⟩)) rfl rfl ?_)
            refine r_cons (s_call [.pointer (some ⟨bk49, 0, none⟩), .int .i64 4] pl_27 rfl rfl (rd_bits_no bk49 bk46 21 (by first | assumption | decide) 4 (by decide) (i := 1) rfl H377) ?_)
            rintro _ w378 ⟨rfl, H379⟩
            refine r_cons (s_fieldAddr 24 0 0 0 3 rfl fi_24_0 rfl rfl ?_)
            refine r_cons (s_store H379 0 (.int .i64 0) rfl rfl rfl sz_3 rfl (Nat.le_of_ble_eq_true rfl) rfl (cs' := #[.int .i64 0, .int .i64 0, .int .i64 (srcU (remB (headOf bs) 0) 2 : Int), .int .i64 0, .int .i64 0, .slice none 0 0]) rfl ?_); intro w380 H381
            refine r_nil ?_
            refine g_seq ?_
            refine g_region ?_
            refine r_cons (s_move (.pointer (some ⟨bk49, 0, none⟩)) rfl rfl ?_)
            refine r_cons (s_call [.pointer (some ⟨bk49, 0, none⟩), .int .i64 4] pl_27 rfl rfl (rd_bits_no bk49 bk46 21 (by first | assumption | decide) 4 (by decide) (i := 1) rfl H381) ?_)
            rintro _ w382 ⟨rfl, H383⟩
            refine r_cons (s_fieldAddr 24 1 1 1 3 rfl fi_24_1 rfl rfl ?_)
            refine r_cons (s_store H383 0 (.int .i64 0) rfl rfl rfl sz_3 rfl (Nat.le_of_ble_eq_true rfl) rfl (cs' := #[.int .i64 0, .int .i64 0, .int .i64 (srcU (remB (headOf bs) 0) 2 : Int), .int .i64 0, .int .i64 0, .slice none 0 0]) rfl ?_); intro w384 H385
            refine r_nil ?_
            refine g_seq ?_
            refine g_region ?_
            refine r_cons (s_move (.pointer (some ⟨bk49, 0, none⟩)) rfl rfl ?_)
            refine r_cons (s_call [.pointer (some ⟨bk49, 0, none⟩)] pl_30 rfl rfl (rd_nat_no bk49 bk46 21 (by first | assumption | decide)  (i := 1) rfl H385) ?_)
            rintro _ w386 ⟨rfl, H387⟩
            refine r_cons (s_call [.int .u64 0] pl_29 rfl rfl (frame_clip (0) (by decide) H387) ?_)
            rintro _ w388 ⟨rfl, H389⟩
            refine r_cons (s_fieldAddr 24 4 4 4 2 rfl fi_24_4 rfl rfl ?_)
            refine r_cons (s_store H389 0 (.int .i64 0) rfl rfl rfl sz_2 rfl (Nat.le_of_ble_eq_true rfl) rfl (cs' := #[.int .i64 0, .int .i64 0, .int .i64 (srcU (remB (headOf bs) 0) 2 : Int), .int .i64 0, .int .i64 0, .slice none 0 0]) rfl ?_); intro w390 H391
            refine r_nil ?_
            refine g_seq ?_
            refine g_seq ?_
            refine g_region ?_
            refine r_cons (s_fieldAddr 24 2 2 2 3 rfl fi_24_2 rfl rfl ?_)
            refine r_cons (s_load (.int .i64 (srcU (remB (headOf bs) 0) 2 : Int)) ag_3 rfl (H391.blk_at (i := 0) rfl) rfl rfl ?_)
            refine r_cons (s_eql false rfl rfl (dfalse (by omega)) rfl ?_)
            refine r_nil ?_
            refine g_false rfl ?_
            refine g_skip ?_
            refine g_seq ?_
            refine g_seq ?_
            refine g_region ?_
            refine r_cons (s_move (.pointer (some ⟨bk49, 0, none⟩)) rfl rfl ?_)
            refine r_cons (s_nilCheck (.pointer (some ⟨bk49, 0, none⟩)) rfl ⟨_, rfl⟩ rfl ?_)
            refine r_cons (s_fieldAddr 50 1 1 1 25 rfl fi_50_1 rfl rfl ?_)
            refine r_cons (s_load (.int .i64 21) ag_25 rfl (H391.blk_at (i := 1) rfl) rfl rfl ?_)
            refine r_cons (s_eql false rfl rfl (dfalse (by decide)) rfl ?_)
            refine r_nil ?_
            refine g_false rfl ?_
            refine g_skip ?_
            refine g_seq ?_
            refine g_seq ?_
            refine g_region ?_
            refine r_cons (s_move (.pointer (some ⟨bk49, 0, none⟩)) rfl rfl ?_)
            refine r_cons (s_nilCheck (.pointer (some ⟨bk49, 0, none⟩)) rfl ⟨_, rfl⟩ rfl ?_)
            refine r_cons (s_fieldAddr 50 1 1 1 25 rfl fi_50_1 rfl rfl ?_)
            refine r_cons (s_load (.int .i64 21) ag_25 rfl (H391.blk_at (i := 1) rfl) rfl rfl ?_)
            refine r_cons (s_eql false rfl rfl (dfalse (by decide)) rfl ?_)
            refine r_nil ?_
            refine g_false rfl ?_
            refine g_skip ?_
            refine g_seq ?_
            refine g_seq ?_
            refine g_region ?_
            refine r_cons (s_move (.pointer (some ⟨bk49, 0, none⟩)) rfl rfl ?_)
            refine r_cons (s_nilCheck (.pointer (some ⟨bk49, 0, none⟩)) rfl ⟨_, rfl⟩ rfl ?_)
            refine r_cons (s_fieldAddr 50 1 1 1 25 rfl fi_50_1 rfl rfl ?_)
            refine r_cons (s_load (.int .i64 21) ag_25 rfl (H391.blk_at (i := 1) rfl) rfl rfl ?_)
            refine r_cons (s_neq true rfl rfl (nfalse (by decide)) rfl ?_)
            refine r_nil ?_
            refine g_true rfl ?_
            refine g_seq ?_
            have H392 : St W w390 (blk bk59 (.cells #[.int .i64 0, .int .i64 0, .int .i64 (srcU (remB (headOf bs) 0) 2 : Int), .int .i64 0, .int .i64 0, .slice none 0 0] 24 (0, 0)) :: blk bk49 (.cells #[.pointer (some ⟨bk46, 0, none⟩), .int .i64 21] 50 (0, 0)) :: SrcA bk46 (headOf bs) q55 :: Im 1 (.slice (some ⟨bk35, 0, none⟩) 4 4) 4 ((sumB (sumN (headOf bs))).flatMap u8c) :: blk bk30 (.cells #[.slice pA1 (bs.length - 4) cA2] 22 (0, 0)) :: Im 1 (.slice (cutAt pA1 (bs.length - 4) cA2 1) (bs.length - (bs.length - 4)) (cA2 - (bs.length - 4))) ((tailOf bs).length) ((tailOf bs).flatMap u8c) :: Im 1 (.slice pA1 (bs.length - 4) cA2) ((headOf bs).length) ((headOf bs).flatMap u8c) :: Im 1 (.slice pA1 bs.length cA2) bs.length (bs.flatMap u8c) :: imi (0 < bs.length) gA3 (.cells kA5 eA6 zA7) :: blk bk14 (.cells #[.int .i64 0, .int .i64 0, .int .i64 0, .int .i64 0, .int .i64 0, .slice none 0 0] 24 (0, 0)) :: F) := ((((((((((H391.move 7 rfl).move 9 rfl).move 9 rfl).move 9 rfl).move 9 rfl).move 9 rfl).move 9 rfl).move 9 rfl).move 9 rfl).move 9 rfl)
            refine g_mix (fun t_ w => St W w (blk bk59 (.cells #[.int .i64 0, .int .i64 0, .int .i64 (srcU (remB (headOf bs) 0) 2 : Int), .int .i64 0, .int .i64 0, .slice none 0 0] 24 (0, 0)) :: blk bk49 (.cells #[.pointer (some ⟨bk46, 0, none⟩), .int .i64 21] 50 (0, 0)) :: SrcA bk46 (headOf bs) q55 :: Im 1 (.slice (some ⟨bk35, 0, none⟩) 4 4) 4 ((sumB (sumN (headOf bs))).flatMap u8c) :: blk bk30 (.cells #[.slice pA1 (bs.length - 4) cA2] 22 (0, 0)) :: Im 1 (.slice (cutAt pA1 (bs.length - 4) cA2 1) (bs.length - (bs.length - 4)) (cA2 - (bs.length - 4))) ((tailOf bs).length) ((tailOf bs).flatMap u8c) :: Im 1 (.slice pA1 (bs.length - 4) cA2) ((headOf bs).length) ((headOf bs).flatMap u8c) :: Im 1 (.slice pA1 bs.length cA2) bs.length (bs.flatMap u8c) :: imi (0 < bs.length) gA3 (.cells kA5 eA6 zA7) :: t_)) (blk bk14 (.cells #[.int .i64 0, .int .i64 0, .int .i64 0, .int .i64 0, .int .i64 0, .slice none 0 0] 24 (0, 0)) :: F) mixed 7 rfl H392.drew ?_
            refine f_first 0 (listed' := #[true, false, false, false, false, false, false]) rfl (by kernel_rfl) (by kernel_rfl) (by kernel_rfl) rfl ?_
            refine f_val rfl rfl rfl (by intro t_ w hw; exact x_build (cs := #[.int .i64 0, .int .i64 0, .int .i64 0, .int .i64 0, .int .i64 0, .slice none 0 0]) (by kernel_rfl) w) ?_
            refine f_first 1 (listed' := #[true, true, false, false, false, false, false]) rfl (by kernel_rfl) (by kernel_rfl) (by kernel_rfl) rfl ?_
            refine f_val rfl rfl rfl (by intro t_ w hw; exact x_move (.pointer (some ⟨bk49, 0, none⟩)) rfl w) ?_
            refine f_first 2 (listed' := #[true, true, true, false, false, false, false]) rfl (by kernel_rfl) (by kernel_rfl) (by kernel_rfl) rfl ?_
            refine f_val rfl rfl rfl (by intro t_ w hw; exact x_nilCheck (.pointer (some ⟨bk49, 0, none⟩)) rfl ⟨_, rfl⟩ w) ?_
            refine f_first 3 (listed' := #[true, true, true, true, false, false, false]) rfl (by kernel_rfl) (by kernel_rfl) (by kernel_rfl) rfl ?_
            refine f_val rfl rfl rfl (by intro t_ w hw; exact x_fieldAddr 50 1 1 1 25 rfl fi_50_1 rfl w) ?_
            refine f_first 4 (listed' := #[true, true, true, true, true, false, false]) rfl (by kernel_rfl) (by kernel_rfl) (by kernel_rfl) rfl ?_
            refine f_val rfl rfl rfl (by intro t_ w hw; exact x_load (.int .i64 21) ag_25 rfl (hw.blk_at (i := 1) rfl) rfl) ?_
            refine f_all (rs := [5]) (by kernel_rfl) (by simp) ?_
            refine a_cons ⟨_, rfl, ?_⟩ (fun x hx => absurd hx (by simp))
            intro w393 H394
            try dsimp only at H394
            refine s_storeAgg H394 9 #[.int .i64 0, .int .i64 0, .int .i64 0, .int .i64 0, .int .i64 0, .slice none 0 0] 6 rfl rfl rfl sz_24 rfl (by simp [Value.oneCell']) (Nat.le_of_ble_eq_true rfl) (fun o h1 h2 => by first | (simp; done) | (simp; omega)) (cs' := #[.int .i64 0, .int .i64 0, .int .i64 0, .int .i64 0, .int .i64 0, .slice none 0 0]) rfl ?_; intro w395 H396
            refine ⟨blk bk14 (.cells #[.int .i64 0, .int .i64 0, .int .i64 0, .int .i64 0, .int .i64 0, .slice none 0 0] 24 (0, 0)) :: F, ?_, H396⟩
            change FReg _ _ _ _ _ #[true, true, true, true, true, true, false] _ _
            refine f_first 6 (listed' := #[true, true, true, true, true, true, true]) rfl (by kernel_rfl) (by kernel_rfl) (by kernel_rfl) rfl ?_
            refine f_val rfl rfl rfl (by intro t_ w hw; exact x_assign (.int .i64 21) rfl w) ?_
            refine f_done (by kernel_rfl) ?_
            intro w397 H398
            refine g_ret' [.agg #[.int .i64 0, .int .i64 0, .int .i64 0, .int .i64 0, .int .i64 0, .slice none 0 0], .int .i64 21] Try.func10 Try.results10 ⟨(res_cellN rfl ag_24 (H398.blk_at (i := 9) rfl) (Nat.le_of_ble_eq_true rfl) rfl), rfl, trivial⟩ ?_
            have f1 : fr1 (remB (headOf bs) 0) = remB (headOf bs) q55 := hR56.symm
            have hD : decE bs = 21 := (decE_fr0 (by omega) htl).trans ((frE_rd (by rw [rdE_b he53 (show ¬ (srcU (remB (headOf bs) 0) 2 = 1 ∨ srcU (remB (headOf bs) 0) 2 = 2) by omega)]; decide)).trans (rdE_b he53 (show ¬ (srcU (remB (headOf bs) 0) 2 = 1 ∨ srcU (remB (headOf bs) 0) 2 = 2) by omega)))
            have H399 : St W w397 F := ((((((((((H398.drop 0 rfl).drop 0 rfl).drop 0 rfl).drop 0 rfl).drop 0 rfl).drop 0 rfl).drop 0 rfl).drop 0 rfl).drop 0 rfl).drop 0 rfl)
            have hV := decV_no (bs := bs) (by rw [hD]; decide)
            have H400 := Row.nil_intro H399 5 1
            exact ⟨none, 0, 0, by rw [hD, hV]; rfl, by rw [hV]; rfl, by rw [hV]; exact H400⟩
      · skip
        refine r_cons (s_build (cs := #[.int .i64 0, .int .i64 0, .int .i64 0, .int .i64 0, .int .i64 0, .slice none 0 0]) (by kernel_rfl) rfl ?_)
        refine r_cons (s_alloc H54 24 ze_24 rfl ?_); intro bk401 w402 H403
        refine r_cons (s_storeAgg H403 0 #[.int .i64 0, .int .i64 0, .int .i64 0, .int .i64 0, .int .i64 0, .slice none 0 0] 6 rfl rfl rfl sz_24 rfl (by simp [Value.oneCell']) (Nat.le_of_ble_eq_true rfl) (fun o h1 h2 => by first | (simp; done) | (simp; omega)) (cs' := #[.int .i64 0, .int .i64 0, .int .i64 0, .int .i64 0, .int .i64 0, .slice none 0 0]) rfl ?_); intro w404 H405
        refine r_nil ?_
        refine g_seq ?_
        refine g_region ?_
        refine r_cons (s_move (.pointer (some ⟨bk49, 0, none⟩)) rfl rfl ?_)
        refine r_cons (s_fieldAddr 24 2 2 2 3 rfl fi_24_2 rfl rfl ?_)
        refine r_cons (s_load (.int .i64 0) ag_3 rfl (H405.blk_at (i := 0) rfl) rfl rfl ?_)
        refine r_cons (s_neq true rfl rfl (nfalse (by decide)) rfl ?_)
        refine r_cons (s_move (.bool true) rfl rfl ?_)
        refine r_cons (r_take rfl rfl ?_)
        refine s_fieldAddr 24 2 2 2 3 rfl fi_24_2 rfl rfl ?_
        refine r_cons (r_take rfl rfl ?_)
        refine s_load (.int .i64 0) ag_3 rfl (H405.blk_at (i := 0) rfl) rfl rfl ?_
        refine r_cons (r_take rfl rfl ?_)
        refine s_neq true rfl rfl (nfalse (by decide)) rfl ?_
        refine r_cons (s_pick_t (.bool true) rfl rfl rfl ?_)
        refine r_cons (s_call [.pointer (some ⟨bk49, 0, none⟩), .bool true] pl_28 rfl rfl (rd_fails_e bk49 bk46 (srcE (remB (headOf bs) 0) 2) (by first | assumption | decide) true (i := 1) rfl H405) ?_)
        rintro _ w406 ⟨rfl, H407⟩
        refine r_nil ?_
        refine g_seq ?_
        refine g_region ?_
        refine r_cons (s_move (.pointer (some ⟨bk49, 0, none⟩)) rfl rfl ?_)
        refine r_cons (s_call [.pointer (some ⟨bk49, 0, none⟩), .int .i64 4] pl_27 rfl rfl (rd_bits_no bk49 bk46 (srcE (remB (headOf bs) 0) 2) (by first | assumption | decide) 4 (by decide) (i := 1) rfl H407) ?_)
        rintro _ w408 ⟨rfl, H409⟩
        refine r_cons (s_fieldAddr 24 0 0 0 3 rfl fi_24_0 rfl rfl ?_)
        refine r_cons (s_store H409 0 (.int .i64 0) rfl rfl rfl sz_3 rfl (Nat.le_of_ble_eq_true rfl) rfl (cs' := #[.int .i64 0, .int .i64 0, .int .i64 0, .int .i64 0, .int .i64 0, .slice none 0 0]) rfl ?_); intro w410 H411
        refine r_nil ?_
        refine g_seq ?_
        refine g_region ?_
        refine r_cons (s_move (.pointer (some ⟨bk49, 0, none⟩)) rfl rfl ?_)
        refine r_cons (s_call [.pointer (some ⟨bk49, 0, none⟩), .int .i64 4] pl_27 rfl rfl (rd_bits_no bk49 bk46 (srcE (remB (headOf bs) 0) 2) (by first | assumption | decide) 4 (by decide) (i := 1) rfl H411) ?_)
        rintro _ w412 ⟨rfl, H413⟩
        refine r_cons (s_fieldAddr 24 1 1 1 3 rfl fi_24_1 rfl rfl ?_)
        refine r_cons (s_store H413 0 (.int .i64 0) rfl rfl rfl sz_3 rfl (Nat.le_of_ble_eq_true rfl) rfl (cs' := #[.int .i64 0, .int .i64 0, .int .i64 0, .int .i64 0, .int .i64 0, .slice none 0 0]) rfl ?_); intro w414 H415
        refine r_nil ?_
        refine g_seq ?_
        refine g_region ?_
        refine r_cons (s_move (.pointer (some ⟨bk49, 0, none⟩)) rfl rfl ?_)
        refine r_cons (s_call [.pointer (some ⟨bk49, 0, none⟩)] pl_30 rfl rfl (rd_nat_no bk49 bk46 (srcE (remB (headOf bs) 0) 2) (by first | assumption | decide)  (i := 1) rfl H415) ?_)
        rintro _ w416 ⟨rfl, H417⟩
        refine r_cons (s_call [.int .u64 0] pl_29 rfl rfl (frame_clip (0) (by decide) H417) ?_)
        rintro _ w418 ⟨rfl, H419⟩
        refine r_cons (s_fieldAddr 24 4 4 4 2 rfl fi_24_4 rfl rfl ?_)
        refine r_cons (s_store H419 0 (.int .i64 0) rfl rfl rfl sz_2 rfl (Nat.le_of_ble_eq_true rfl) rfl (cs' := #[.int .i64 0, .int .i64 0, .int .i64 0, .int .i64 0, .int .i64 0, .slice none 0 0]) rfl ?_); intro w420 H421
        refine r_nil ?_
        refine g_seq ?_
        refine g_seq ?_
        refine g_region ?_
        refine r_cons (s_fieldAddr 24 2 2 2 3 rfl fi_24_2 rfl rfl ?_)
        refine r_cons (s_load (.int .i64 0) ag_3 rfl (H421.blk_at (i := 0) rfl) rfl rfl ?_)
        refine r_cons (s_eql false rfl rfl (dfalse (by decide)) rfl ?_)
        refine r_nil ?_
        refine g_false rfl ?_
        refine g_skip ?_
        refine g_seq ?_
        refine g_seq ?_
        refine g_region ?_
        refine r_cons (s_move (.pointer (some ⟨bk49, 0, none⟩)) rfl rfl ?_)
        refine r_cons (s_nilCheck (.pointer (some ⟨bk49, 0, none⟩)) rfl ⟨_, rfl⟩ rfl ?_)
        refine r_cons (s_fieldAddr 50 1 1 1 25 rfl fi_50_1 rfl rfl ?_)
        refine r_cons (s_load (.int .i64 (srcE (remB (headOf bs) 0) 2)) ag_25 rfl (H421.blk_at (i := 1) rfl) rfl rfl ?_)
        refine r_cons (s_eql false rfl rfl (dfalse (by omega)) rfl ?_)
        refine r_nil ?_
        refine g_false rfl ?_
        refine g_skip ?_
        refine g_seq ?_
        refine g_seq ?_
        refine g_region ?_
        refine r_cons (s_move (.pointer (some ⟨bk49, 0, none⟩)) rfl rfl ?_)
        refine r_cons (s_nilCheck (.pointer (some ⟨bk49, 0, none⟩)) rfl ⟨_, rfl⟩ rfl ?_)
        refine r_cons (s_fieldAddr 50 1 1 1 25 rfl fi_50_1 rfl rfl ?_)
        refine r_cons (s_load (.int .i64 (srcE (remB (headOf bs) 0) 2)) ag_25 rfl (H421.blk_at (i := 1) rfl) rfl rfl ?_)
        refine r_cons (s_eql false rfl rfl (dfalse (by omega)) rfl ?_)
        refine r_nil ?_
        refine g_false rfl ?_
        refine g_skip ?_
        refine g_seq ?_
        refine g_seq ?_
        refine g_region ?_
        refine r_cons (s_move (.pointer (some ⟨bk49, 0, none⟩)) rfl rfl ?_)
        refine r_cons (s_nilCheck (.pointer (some ⟨bk49, 0, none⟩)) rfl ⟨_, rfl⟩ rfl ?_)
        refine r_cons (s_fieldAddr 50 1 1 1 25 rfl fi_50_1 rfl rfl ?_)
        refine r_cons (s_load (.int .i64 (srcE (remB (headOf bs) 0) 2)) ag_25 rfl (H421.blk_at (i := 1) rfl) rfl rfl ?_)
        refine r_cons (s_neq true rfl rfl (nfalse (by omega)) rfl ?_)
        refine r_nil ?_
        refine g_true rfl ?_
        refine g_seq ?_
        have H422 : St W w420 (blk bk401 (.cells #[.int .i64 0, .int .i64 0, .int .i64 0, .int .i64 0, .int .i64 0, .slice none 0 0] 24 (0, 0)) :: blk bk49 (.cells #[.pointer (some ⟨bk46, 0, none⟩), .int .i64 (srcE (remB (headOf bs) 0) 2)] 50 (0, 0)) :: SrcA bk46 (headOf bs) 0 :: Im 1 (.slice (some ⟨bk35, 0, none⟩) 4 4) 4 ((sumB (sumN (headOf bs))).flatMap u8c) :: blk bk30 (.cells #[.slice pA1 (bs.length - 4) cA2] 22 (0, 0)) :: Im 1 (.slice (cutAt pA1 (bs.length - 4) cA2 1) (bs.length - (bs.length - 4)) (cA2 - (bs.length - 4))) ((tailOf bs).length) ((tailOf bs).flatMap u8c) :: Im 1 (.slice pA1 (bs.length - 4) cA2) ((headOf bs).length) ((headOf bs).flatMap u8c) :: Im 1 (.slice pA1 bs.length cA2) bs.length (bs.flatMap u8c) :: imi (0 < bs.length) gA3 (.cells kA5 eA6 zA7) :: blk bk14 (.cells #[.int .i64 0, .int .i64 0, .int .i64 0, .int .i64 0, .int .i64 0, .slice none 0 0] 24 (0, 0)) :: F) := ((((((((((H421.move 7 rfl).move 9 rfl).move 9 rfl).move 9 rfl).move 9 rfl).move 9 rfl).move 9 rfl).move 9 rfl).move 9 rfl).move 9 rfl)
        refine g_mix (fun t_ w => St W w (blk bk401 (.cells #[.int .i64 0, .int .i64 0, .int .i64 0, .int .i64 0, .int .i64 0, .slice none 0 0] 24 (0, 0)) :: blk bk49 (.cells #[.pointer (some ⟨bk46, 0, none⟩), .int .i64 (srcE (remB (headOf bs) 0) 2)] 50 (0, 0)) :: SrcA bk46 (headOf bs) 0 :: Im 1 (.slice (some ⟨bk35, 0, none⟩) 4 4) 4 ((sumB (sumN (headOf bs))).flatMap u8c) :: blk bk30 (.cells #[.slice pA1 (bs.length - 4) cA2] 22 (0, 0)) :: Im 1 (.slice (cutAt pA1 (bs.length - 4) cA2 1) (bs.length - (bs.length - 4)) (cA2 - (bs.length - 4))) ((tailOf bs).length) ((tailOf bs).flatMap u8c) :: Im 1 (.slice pA1 (bs.length - 4) cA2) ((headOf bs).length) ((headOf bs).flatMap u8c) :: Im 1 (.slice pA1 bs.length cA2) bs.length (bs.flatMap u8c) :: imi (0 < bs.length) gA3 (.cells kA5 eA6 zA7) :: t_)) (blk bk14 (.cells #[.int .i64 0, .int .i64 0, .int .i64 0, .int .i64 0, .int .i64 0, .slice none 0 0] 24 (0, 0)) :: F) mixed 7 rfl H422.drew ?_
        refine f_first 0 (listed' := #[true, false, false, false, false, false, false]) rfl (by kernel_rfl) (by kernel_rfl) (by kernel_rfl) rfl ?_
        refine f_val rfl rfl rfl (by intro t_ w hw; exact x_build (cs := #[.int .i64 0, .int .i64 0, .int .i64 0, .int .i64 0, .int .i64 0, .slice none 0 0]) (by kernel_rfl) w) ?_
        refine f_first 1 (listed' := #[true, true, false, false, false, false, false]) rfl (by kernel_rfl) (by kernel_rfl) (by kernel_rfl) rfl ?_
        refine f_val rfl rfl rfl (by intro t_ w hw; exact x_move (.pointer (some ⟨bk49, 0, none⟩)) rfl w) ?_
        refine f_first 2 (listed' := #[true, true, true, false, false, false, false]) rfl (by kernel_rfl) (by kernel_rfl) (by kernel_rfl) rfl ?_
        refine f_val rfl rfl rfl (by intro t_ w hw; exact x_nilCheck (.pointer (some ⟨bk49, 0, none⟩)) rfl ⟨_, rfl⟩ w) ?_
        refine f_first 3 (listed' := #[true, true, true, true, false, false, false]) rfl (by kernel_rfl) (by kernel_rfl) (by kernel_rfl) rfl ?_
        refine f_val rfl rfl rfl (by intro t_ w hw; exact x_fieldAddr 50 1 1 1 25 rfl fi_50_1 rfl w) ?_
        refine f_first 4 (listed' := #[true, true, true, true, true, false, false]) rfl (by kernel_rfl) (by kernel_rfl) (by kernel_rfl) rfl ?_
        refine f_val rfl rfl rfl (by intro t_ w hw; exact x_load (.int .i64 (srcE (remB (headOf bs) 0) 2)) ag_25 rfl (hw.blk_at (i := 1) rfl) rfl) ?_
        refine f_all (rs := [5]) (by kernel_rfl) (by simp) ?_
        refine a_cons ⟨_, rfl, ?_⟩ (fun x hx => absurd hx (by simp))
        intro w423 H424
        try dsimp only at H424
        refine s_storeAgg H424 9 #[.int .i64 0, .int .i64 0, .int .i64 0, .int .i64 0, .int .i64 0, .slice none 0 0] 6 rfl rfl rfl sz_24 rfl (by simp [Value.oneCell']) (Nat.le_of_ble_eq_true rfl) (fun o h1 h2 => by first | (simp; done) | (simp; omega)) (cs' := #[.int .i64 0, .int .i64 0, .int .i64 0, .int .i64 0, .int .i64 0, .slice none 0 0]) rfl ?_; intro w425 H426
        refine ⟨blk bk14 (.cells #[.int .i64 0, .int .i64 0, .int .i64 0, .int .i64 0, .int .i64 0, .slice none 0 0] 24 (0, 0)) :: F, ?_, H426⟩
        change FReg _ _ _ _ _ #[true, true, true, true, true, true, false] _ _
        refine f_first 6 (listed' := #[true, true, true, true, true, true, true]) rfl (by kernel_rfl) (by kernel_rfl) (by kernel_rfl) rfl ?_
        refine f_val rfl rfl rfl (by intro t_ w hw; exact x_assign (.int .i64 (srcE (remB (headOf bs) 0) 2)) rfl w) ?_
        refine f_done (by kernel_rfl) ?_
        intro w427 H428
        refine g_ret' [.agg #[.int .i64 0, .int .i64 0, .int .i64 0, .int .i64 0, .int .i64 0, .slice none 0 0], .int .i64 (srcE (remB (headOf bs) 0) 2)] Try.func10 Try.results10 ⟨(res_cellN rfl ag_24 (H428.blk_at (i := 9) rfl) (Nat.le_of_ble_eq_true rfl) rfl), rfl, trivial⟩ ?_
        have hr0 := rdE_a he53
        have hD : decE bs = srcE (remB (headOf bs) 0) 2 := (decE_fr0 (by omega) htl).trans ((frE_rd (by rw [hr0]; exact he53)).trans (hr0.trans (by rfl)))
        have H429 : St W w427 F := ((((((((((H428.drop 0 rfl).drop 0 rfl).drop 0 rfl).drop 0 rfl).drop 0 rfl).drop 0 rfl).drop 0 rfl).drop 0 rfl).drop 0 rfl).drop 0 rfl)
        have hV := decV_no (bs := bs) (by rw [hD]; exact he53)
        have H430 := Row.nil_intro H429 5 1
        exact ⟨none, 0, 0, by rw [hD, hV]; rfl, by rw [hV]; rfl, by rw [hV]; exact H430⟩
set_option maxHeartbeats 4000000 in
set_option maxRecDepth 100000 in
theorem frame_begun {W w : World} {F : List Atom}  (H : St W w F) : Calls Try.prog 12 #[] w (Ret fun v w' => v = .bool true ∧ St W w' F) := by
  refine calls_of_go (n := 52) Try.func12 rfl Try.ntmps12 rfl ?_
  refine g_seq ?_
  refine g_region ?_
  refine r_cons (s_assign (.bool false) rfl rfl ?_)
  refine r_nil ?_
  refine g_seq ?_
  refine g_region ?_
  refine r_cons (s_build (cs := #[.int .i64 0, .int .i64 1, .int .i64 2, .int .i64 0, .int .i64 0, .slice none 0 0]) (by kernel_rfl) rfl ?_)
  have H1 := Row.im (Row.nil_intro H 5 1) (i := 0) rfl
  refine r_cons (s_call [.agg #[.int .i64 0, .int .i64 1, .int .i64 2, .int .i64 0, .int .i64 0, .slice none 0 0]] pl_14 rfl rfl (frame_Encode dgAck _ RdA.im (j := 0) rfl H1) ?_)
  rintro _ w4 ⟨pp2, _, cc3, rfl, rfl, H5⟩
  refine r_cons (s_move (.tuple #[.slice pp2 ((dgBytes dgAck).length) cc3, .int .i64 (dgE dgAck)]) rfl rfl ?_)
  refine r_cons (s_extract (.slice pp2 ((dgBytes dgAck).length) cc3) #[.slice pp2 ((dgBytes dgAck).length) cc3, .int .i64 (dgE dgAck)] rfl rfl rfl ?_)
  refine r_cons (s_extract (.int .i64 (dgE dgAck)) #[.slice pp2 ((dgBytes dgAck).length) cc3, .int .i64 (dgE dgAck)] rfl rfl rfl ?_)
  refine r_cons (s_assign (.slice pp2 ((dgBytes dgAck).length) cc3) rfl rfl ?_)
  refine r_cons (s_assign (.int .i64 (dgE dgAck)) rfl rfl ?_)
  refine r_nil ?_
  refine g_seq ?_
  refine g_region ?_
  refine r_cons (s_move (.slice pp2 ((dgBytes dgAck).length) cc3) rfl rfl ?_)
  have H6 : St W w4 (Im 1 (.slice pp2 ((dgBytes dgAck).length) cc3) ((dgBytes dgAck).length) ((dgBytes dgAck).flatMap u8c) :: Im 1 (.slice none 0 0) 0 (([] : List UInt8).flatMap u8c) :: F) := Row.im H5 (i := 0) rfl
  refine r_cons (s_call [.slice pp2 ((dgBytes dgAck).length) cc3] pl_10 rfl rfl (frame_Decode (dgBytes dgAck) _ (by decide +kernel) (j := 0) rfl H6) ?_)
  rintro _ w9 ⟨pp7, _, cc8, rfl, rfl, H10⟩
  refine r_cons (s_move (.tuple #[.agg #[.int .i64 ((decV (dgBytes dgAck)).frm.v), .int .i64 ((decV (dgBytes dgAck)).to_.v), .int .i64 ((decV (dgBytes dgAck)).kind.v), .int .i64 ((decV (dgBytes dgAck)).seq.v), .int .i64 ((decV (dgBytes dgAck)).ack.v), .slice pp7 ((decV (dgBytes dgAck)).body.length) cc8], .int .i64 (decE (dgBytes dgAck))]) rfl rfl ?_)
  refine r_cons (s_extract (.agg #[.int .i64 ((decV (dgBytes dgAck)).frm.v), .int .i64 ((decV (dgBytes dgAck)).to_.v), .int .i64 ((decV (dgBytes dgAck)).kind.v), .int .i64 ((decV (dgBytes dgAck)).seq.v), .int .i64 ((decV (dgBytes dgAck)).ack.v), .slice pp7 ((decV (dgBytes dgAck)).body.length) cc8]) #[.agg #[.int .i64 ((decV (dgBytes dgAck)).frm.v), .int .i64 ((decV (dgBytes dgAck)).to_.v), .int .i64 ((decV (dgBytes dgAck)).kind.v), .int .i64 ((decV (dgBytes dgAck)).seq.v), .int .i64 ((decV (dgBytes dgAck)).ack.v), .slice pp7 ((decV (dgBytes dgAck)).body.length) cc8], .int .i64 (decE (dgBytes dgAck))] rfl rfl rfl ?_)
  refine r_cons (s_extract (.int .i64 (decE (dgBytes dgAck))) #[.agg #[.int .i64 ((decV (dgBytes dgAck)).frm.v), .int .i64 ((decV (dgBytes dgAck)).to_.v), .int .i64 ((decV (dgBytes dgAck)).kind.v), .int .i64 ((decV (dgBytes dgAck)).seq.v), .int .i64 ((decV (dgBytes dgAck)).ack.v), .slice pp7 ((decV (dgBytes dgAck)).body.length) cc8], .int .i64 (decE (dgBytes dgAck))] rfl rfl rfl ?_)
  refine r_cons (s_alloc H10 24 ze_24 rfl ?_); intro bk11 w12 H13
  refine r_cons (s_storeAgg H13 0 #[.int .i64 ((decV (dgBytes dgAck)).frm.v), .int .i64 ((decV (dgBytes dgAck)).to_.v), .int .i64 ((decV (dgBytes dgAck)).kind.v), .int .i64 ((decV (dgBytes dgAck)).seq.v), .int .i64 ((decV (dgBytes dgAck)).ack.v), .slice pp7 ((decV (dgBytes dgAck)).body.length) cc8] 6 rfl rfl rfl sz_24 rfl (by simp [Value.oneCell']) (Nat.le_of_ble_eq_true rfl) (fun o h1 h2 => by first | (simp; done) | (simp; omega)) (cs' := #[.int .i64 ((decV (dgBytes dgAck)).frm.v), .int .i64 ((decV (dgBytes dgAck)).to_.v), .int .i64 ((decV (dgBytes dgAck)).kind.v), .int .i64 ((decV (dgBytes dgAck)).seq.v), .int .i64 ((decV (dgBytes dgAck)).ack.v), .slice pp7 ((decV (dgBytes dgAck)).body.length) cc8]) rfl ?_); intro w14 H15
  refine r_cons (s_assign (.int .i64 (decE (dgBytes dgAck))) rfl rfl ?_)
  refine r_nil ?_
  refine g_seq ?_
  refine g_region ?_
  refine r_cons (s_move (.int .i64 (dgE dgAck)) rfl rfl ?_)
  refine r_cons (s_eql true rfl rfl (dtrue (by decide +kernel)) rfl ?_)
  refine r_cons (s_move (.bool true) rfl rfl ?_)
  refine r_cons (r_take rfl rfl ?_)
  refine s_move (.int .i64 (decE (dgBytes dgAck))) rfl rfl ?_
  refine r_cons (r_take rfl rfl ?_)
  refine s_eql true rfl rfl (dtrue (by decide +kernel)) rfl ?_
  refine r_cons (s_pick_t (.bool true) rfl rfl rfl ?_)
  refine r_cons (s_move (.bool true) rfl rfl ?_)
  refine r_cons (r_take rfl rfl ?_)
  refine s_move (.slice pp2 ((dgBytes dgAck).length) cc3) rfl rfl ?_
  refine r_cons (r_take rfl rfl ?_)
  refine s_len ((dgBytes dgAck).length) rfl ⟨_, un_22⟩ rfl ?_
  refine r_cons (r_take rfl rfl ?_)
  refine s_eql true rfl rfl (dtrue (by decide +kernel)) rfl ?_
  refine r_cons (s_pick_t (.bool true) rfl rfl rfl ?_)
  refine r_cons (s_move (.bool true) rfl rfl ?_)
  refine r_cons (r_take rfl rfl ?_)
  refine s_move (.slice pp2 ((dgBytes dgAck).length) cc3) rfl rfl ?_
  refine r_cons (r_take rfl rfl ?_)
  have hl6 : (dgBytes dgAck).length = 6 := by decide +kernel
  obtain ⟨pA16, cA17, gA18, oA19, kA20, eA21, zA22, he28, hn23, hp24, hx25, hs26, hml, H27⟩ := Im.open_ H15 (i := 2) rfl
  obtain ⟨rfl, rfl⟩ : pp2 = pA16 ∧ cc3 = cA17 := by injection he28 with a_ b_ c_; exact ⟨a_, c_⟩
  refine s_indexAddr gA18 (off := oA19) 0 1 (oA19 + 0 * 1) (by exact congrArg (fun z_ => Value.slice z_ ((dgBytes dgAck).length) cc3) (hp24 (by omega))) rfl el_22 (by omega) (by rw [show (0 : Int).toNat = 0 from by omega]) rfl ?_
  refine r_cons (r_take rfl rfl ?_)
  refine s_load (.int .u8 (((dgBytes dgAck).getD 0 0).toNat : Int)) ag_5 rfl (H27.imi_at (i := 0) rfl (by omega)) (elem_cell (L := (dgBytes dgAck)) (i := 0) u8c_len (hx25 (by omega)) (by omega) 0 0 (by decide) _ rfl) rfl ?_
  refine r_cons (r_take rfl rfl ?_)
  refine s_eql true rfl rfl (dtrue (by decide +kernel)) rfl ?_
  refine r_cons (s_pick_t (.bool true) rfl rfl rfl ?_)
  refine r_cons (s_move (.bool true) rfl rfl ?_)
  refine r_cons (r_take rfl rfl ?_)
  refine s_move (.slice pp2 ((dgBytes dgAck).length) cc3) rfl rfl ?_
  refine r_cons (r_take rfl rfl ?_)
  refine s_indexAddr gA18 (off := oA19) 1 1 (oA19 + 1 * 1) (by exact congrArg (fun z_ => Value.slice z_ ((dgBytes dgAck).length) cc3) (hp24 (by omega))) rfl el_22 (by omega) (by rw [show (1 : Int).toNat = 1 from by omega]) rfl ?_
  refine r_cons (r_take rfl rfl ?_)
  refine s_load (.int .u8 (((dgBytes dgAck).getD 1 0).toNat : Int)) ag_5 rfl (H27.imi_at (i := 0) rfl (by omega)) (elem_cell (L := (dgBytes dgAck)) (i := 1) u8c_len (hx25 (by omega)) (by omega) 0 0 (by decide) _ rfl) rfl ?_
  refine r_cons (r_take rfl rfl ?_)
  refine s_eql true rfl rfl (dtrue (by decide +kernel)) rfl ?_
  refine r_cons (s_pick_t (.bool true) rfl rfl rfl ?_)
  refine r_cons (s_move (.bool true) rfl rfl ?_)
  refine r_cons (r_take rfl rfl ?_)
  refine s_fieldAddr 24 1 1 1 3 rfl fi_24_1 rfl rfl ?_
  refine r_cons (r_take rfl rfl ?_)
  refine s_load (.int .i64 ((decV (dgBytes dgAck)).to_.v)) ag_3 rfl (H27.blk_at (i := 1) rfl) rfl rfl ?_
  refine r_cons (r_take rfl rfl ?_)
  refine s_eql true rfl rfl (dtrue (by decide +kernel)) rfl ?_
  refine r_cons (s_pick_t (.bool true) rfl rfl rfl ?_)
  refine r_cons (s_move (.bool true) rfl rfl ?_)
  refine r_cons (r_take rfl rfl ?_)
  refine s_buildSlice H27 1 5 (cs := #[.int .u8 49, .int .u8 50, .int .u8 51, .int .u8 52, .int .u8 53]) #[.int .u8 0] el_22 ze_5 (by decide) (by decide) (by kernel_rfl) rfl ?_; intro bk29 w30 H31
  refine r_cons (r_take rfl rfl ?_)
  refine s_conv_mark H31 0 rfl rfl un_22 un_5 rfl ?_; intro w32 H33
  have H34 : St W w32 (blk bk29 (.cells #[.int .u8 49, .int .u8 50, .int .u8 51, .int .u8 52, .int .u8 53] 5 (5, 6)) :: imi (0 < (dgBytes dgAck).length) gA18 (.cells kA20 eA21 zA22) :: blk bk11 (.cells #[.int .i64 ((decV (dgBytes dgAck)).frm.v), .int .i64 ((decV (dgBytes dgAck)).to_.v), .int .i64 ((decV (dgBytes dgAck)).kind.v), .int .i64 ((decV (dgBytes dgAck)).seq.v), .int .i64 ((decV (dgBytes dgAck)).ack.v), .slice pp7 ((decV (dgBytes dgAck)).body.length) cc8] 24 (0, 0)) :: Row 5 1 (.slice pp7 ((decV (dgBytes dgAck)).body.length) cc8) ((decV (dgBytes dgAck)).body.length) ((decV (dgBytes dgAck)).body.flatMap u8c) :: Im 1 (.slice pp2 ((dgBytes dgAck).length) cc3) ((dgBytes dgAck).length) ((dgBytes dgAck).flatMap u8c) :: Im 1 (.slice none 0 0) 0 (([] : List UInt8).flatMap u8c) :: F) := H33
  refine r_cons (r_take rfl rfl ?_)
  refine s_buildSlice H34 1 4 (cs := #[.int .u8 54, .int .u8 55, .int .u8 56, .int .u8 57]) #[.int .u8 0] el_22 ze_5 (by decide) (by decide) (by kernel_rfl) rfl ?_; intro bk35 w36 H37
  refine r_cons (r_take rfl rfl ?_)
  refine s_conv_mark H37 0 rfl rfl un_22 un_5 rfl ?_; intro w38 H39
  have H40 : St W w38 (blk bk35 (.cells #[.int .u8 54, .int .u8 55, .int .u8 56, .int .u8 57] 5 (4, 5)) :: blk bk29 (.cells #[.int .u8 49, .int .u8 50, .int .u8 51, .int .u8 52, .int .u8 53] 5 (5, 6)) :: imi (0 < (dgBytes dgAck).length) gA18 (.cells kA20 eA21 zA22) :: blk bk11 (.cells #[.int .i64 ((decV (dgBytes dgAck)).frm.v), .int .i64 ((decV (dgBytes dgAck)).to_.v), .int .i64 ((decV (dgBytes dgAck)).kind.v), .int .i64 ((decV (dgBytes dgAck)).seq.v), .int .i64 ((decV (dgBytes dgAck)).ack.v), .slice pp7 ((decV (dgBytes dgAck)).body.length) cc8] 24 (0, 0)) :: Row 5 1 (.slice pp7 ((decV (dgBytes dgAck)).body.length) cc8) ((decV (dgBytes dgAck)).body.length) ((decV (dgBytes dgAck)).body.flatMap u8c) :: Im 1 (.slice pp2 ((dgBytes dgAck).length) cc3) ((dgBytes dgAck).length) ((dgBytes dgAck).flatMap u8c) :: Im 1 (.slice none 0 0) 0 (([] : List UInt8).flatMap u8c) :: F) := H39
  refine r_cons (r_take rfl rfl ?_)
  refine s_buildSlice H40 1 2 (cs := #[.slice (some ⟨bk29, 0, none⟩) 5 5, .slice (some ⟨bk35, 0, none⟩) 4 4]) #[.slice none 0 0] el_64 ze_22 (by decide) (by decide) (by kernel_rfl) rfl ?_; intro bk41 w42 H43
  refine r_cons (r_take rfl rfl ?_)
  have H44 : St W w42 (blk bk41 (.cells #[.slice (some ⟨bk29, 0, none⟩) 5 5, .slice (some ⟨bk35, 0, none⟩) 4 4] 22 (0, 0)) :: blk bk35 (.cells #[.int .u8 54, .int .u8 55, .int .u8 56, .int .u8 57] 5 (4, 5)) :: Im 1 (.slice (some ⟨bk29, 0, none⟩) 5 5) 5 (([49, 50, 51, 52, 53] : List UInt8).flatMap u8c) :: imi (0 < (dgBytes dgAck).length) gA18 (.cells kA20 eA21 zA22) :: blk bk11 (.cells #[.int .i64 ((decV (dgBytes dgAck)).frm.v), .int .i64 ((decV (dgBytes dgAck)).to_.v), .int .i64 ((decV (dgBytes dgAck)).kind.v), .int .i64 ((decV (dgBytes dgAck)).seq.v), .int .i64 ((decV (dgBytes dgAck)).ack.v), .slice pp7 ((decV (dgBytes dgAck)).body.length) cc8] 24 (0, 0)) :: Row 5 1 (.slice pp7 ((decV (dgBytes dgAck)).body.length) cc8) ((decV (dgBytes dgAck)).body.length) ((decV (dgBytes dgAck)).body.flatMap u8c) :: Im 1 (.slice pp2 ((dgBytes dgAck).length) cc3) ((dgBytes dgAck).length) ((dgBytes dgAck).flatMap u8c) :: Im 1 (.slice none 0 0) 0 (([] : List UInt8).flatMap u8c) :: F) := marked_im H43 (i := 2) rfl (by decide) (fun x hx => one_u8 ([49, 50, 51, 52, 53] : List UInt8) x hx)
  have H45 : St W w42 (blk bk41 (.cells #[.slice (some ⟨bk29, 0, none⟩) 5 5, .slice (some ⟨bk35, 0, none⟩) 4 4] 22 (0, 0)) :: Im 1 (.slice (some ⟨bk35, 0, none⟩) 4 4) 4 (([54, 55, 56, 57] : List UInt8).flatMap u8c) :: Im 1 (.slice (some ⟨bk29, 0, none⟩) 5 5) 5 (([49, 50, 51, 52, 53] : List UInt8).flatMap u8c) :: imi (0 < (dgBytes dgAck).length) gA18 (.cells kA20 eA21 zA22) :: blk bk11 (.cells #[.int .i64 ((decV (dgBytes dgAck)).frm.v), .int .i64 ((decV (dgBytes dgAck)).to_.v), .int .i64 ((decV (dgBytes dgAck)).kind.v), .int .i64 ((decV (dgBytes dgAck)).seq.v), .int .i64 ((decV (dgBytes dgAck)).ack.v), .slice pp7 ((decV (dgBytes dgAck)).body.length) cc8] 24 (0, 0)) :: Row 5 1 (.slice pp7 ((decV (dgBytes dgAck)).body.length) cc8) ((decV (dgBytes dgAck)).body.length) ((decV (dgBytes dgAck)).body.flatMap u8c) :: Im 1 (.slice pp2 ((dgBytes dgAck).length) cc3) ((dgBytes dgAck).length) ((dgBytes dgAck).flatMap u8c) :: Im 1 (.slice none 0 0) 0 (([] : List UInt8).flatMap u8c) :: F) := marked_im H44 (i := 1) rfl (by decide) (fun x hx => one_u8 ([54, 55, 56, 57] : List UInt8) x hx)
  refine s_call [.slice (some ⟨bk41, 0, none⟩) 2 2] pl_20 rfl rfl (Sum2_im bk41 ([49, 50, 51, 52, 53] : List UInt8) ([54, 55, 56, 57] : List UInt8) 5 4 _ _ (by first | rfl | (simp only [List.length_take, List.length_drop]; done) | (simp only [List.length_take, List.length_drop]; omega)) (by first | rfl | (simp only [List.length_take, List.length_drop]; done) | (simp only [List.length_take, List.length_drop]; omega)) (j := 2) rfl (k := 1) rfl (i := 0) rfl H45) ?_
  rintro _ w46 ⟨rfl, H47⟩
  refine r_cons (r_take rfl rfl ?_)
  refine s_eql true rfl rfl (dtrue (by decide +kernel)) rfl ?_
  refine r_cons (s_pick_t (.bool true) rfl rfl rfl ?_)
  refine r_cons (s_assign (.bool true) rfl rfl ?_)
  refine r_nil ?_
  refine g_ret' [.bool true] Try.func12 Try.results12 ⟨rfl, trivial⟩ ?_
  have H48 : St W w46 F := ((((((((H47.drop 0 rfl).drop 0 rfl).drop 0 rfl).drop 0 rfl).drop 0 rfl).drop 0 rfl).drop 0 rfl).drop 0 rfl)
  exact ⟨rfl, H48⟩
set_option maxHeartbeats 4000000 in
set_option maxRecDepth 100000 in
theorem FrameSpoilt_ {W w : World} {F : List Atom} (d : DgM) (bv_d : Value) (at_ wv : Nat) (hat : at_ < 65536) (hw : wv < 4294967296) (hb : d.body.length ≤ 140737488355328) {j : Nat} (hj : F[j]? = some (Im 1 bv_d d.body.length (d.body.flatMap u8c))) (H : St W w F) : Calls Try.prog 7 #[.agg #[.int .i64 d.frm.v, .int .i64 d.to_.v, .int .i64 d.kind.v, .int .i64 d.seq.v, .int .i64 d.ack.v, bv_d], .int .u16 (at_ : Int), .int .u32 (wv : Int)] w (Ret fun v w' => v = .bool true ∧ St W w' F) := by
  obtain ⟨pp1, cc2, rfl, hn3⟩ := Rd.shape (Im.rd H (i := j + 0) (by exact hj))
  have H4 := H.dup (i := j + 0) (by exact hj) (Im_pers _ _ _ _)
  have hbl := dgBytes_max d
  refine calls_of_go (n := 76) Try.func7 rfl Try.ntmps7 rfl ?_
  refine g_seq ?_
  refine g_region ?_
  refine r_cons (s_box H4 24 (.agg #[.int .i64 d.frm.v, .int .i64 d.to_.v, .int .i64 d.kind.v, .int .i64 d.seq.v, .int .i64 d.ack.v, .slice pp1 d.body.length cc2]) rfl (cs := #[.int .i64 d.frm.v, .int .i64 d.to_.v, .int .i64 d.kind.v, .int .i64 d.seq.v, .int .i64 d.ack.v, .slice pp1 d.body.length cc2]) rfl rfl ?_); intro bk5 w6 H7
  refine r_cons (s_assign (.bool false) rfl rfl ?_)
  refine r_nil ?_
  refine g_seq ?_
  refine g_region ?_
  refine r_cons (s_loadAgg [.int .i64 d.frm.v, .int .i64 d.to_.v, .int .i64 d.kind.v, .int .i64 d.seq.v, .int .i64 d.ack.v, .slice pp1 d.body.length cc2] 6 ag_24 rfl (H7.blk_at (i := 0) rfl) (Nat.le_of_ble_eq_true rfl) rfl rfl ?_)
  refine r_cons (s_call [.agg #[.int .i64 d.frm.v, .int .i64 d.to_.v, .int .i64 d.kind.v, .int .i64 d.seq.v, .int .i64 d.ack.v, .slice pp1 d.body.length cc2]] pl_14 rfl rfl (frame_Encode d _ RdA.im (j := 1) rfl H7) ?_)
  rintro _ w10 ⟨pp8, _, cc9, rfl, rfl, H11⟩
  refine r_cons (s_move (.tuple #[.slice pp8 ((dgBytes d).length) cc9, .int .i64 (dgE d)]) rfl rfl ?_)
  refine r_cons (s_extract (.slice pp8 ((dgBytes d).length) cc9) #[.slice pp8 ((dgBytes d).length) cc9, .int .i64 (dgE d)] rfl rfl rfl ?_)
  refine r_cons (s_extract (.int .i64 (dgE d)) #[.slice pp8 ((dgBytes d).length) cc9, .int .i64 (dgE d)] rfl rfl rfl ?_)
  refine r_cons (s_assign (.slice pp8 ((dgBytes d).length) cc9) rfl rfl ?_)
  refine r_cons (s_assign (.int .i64 (dgE d)) rfl rfl ?_)
  refine r_nil ?_
  refine g_seq ?_
  refine g_seq ?_
  refine g_region ?_
  refine r_cons (s_call [] pl_12 rfl rfl (frame_begun H11) ?_)
  rintro _ w12 ⟨rfl, H13⟩
  refine r_cons (s_not true rfl false rfl rfl ?_)
  refine r_cons (s_move (.bool false) rfl rfl ?_)
  refine r_cons (r_take rfl rfl ?_)
  refine s_move (.int .i64 (dgE d)) rfl rfl ?_
  refine r_cons (r_take rfl rfl ?_)
  by_cases hc14 : dgE d = 0
  · skip
    refine s_neq false rfl rfl (ntrue hc14) rfl ?_
    refine r_cons (s_pick_f (.bool false) rfl rfl rfl ?_)
    refine r_cons (s_move (.bool false) rfl rfl ?_)
    refine r_cons (r_take rfl rfl ?_)
    refine s_move (.int .u32 (wv : Int)) rfl rfl ?_
    refine r_cons (r_take rfl rfl ?_)
    by_cases hc15 : (wv : Int) = 0
    · skip
      refine s_eql true rfl rfl (dtrue hc15) rfl ?_
      refine r_cons (s_pick_f (.bool true) rfl rfl rfl ?_)
      refine r_nil ?_
      refine g_true rfl ?_
      refine g_seq ?_
      refine g_region ?_
      refine r_cons (s_call [] pl_12 rfl rfl (frame_begun H13) ?_)
      rintro _ w16 ⟨rfl, H17⟩
      refine r_cons (s_assign (.bool true) rfl rfl ?_)
      refine r_nil ?_
      refine g_ret' [.bool true] Try.func7 Try.results7 ⟨rfl, trivial⟩ ?_
      have H18 : St W w16 F := (((H17.drop 0 rfl).drop 0 rfl).drop 0 rfl)
      exact ⟨rfl, H18⟩
    · skip
      refine s_eql false rfl rfl (dfalse hc15) rfl ?_
      refine r_cons (s_pick_f (.bool false) rfl rfl rfl ?_)
      refine r_nil ?_
      refine g_false rfl ?_
      refine g_skip ?_
      refine g_seq ?_
      refine g_region ?_
      refine r_cons (s_move (.slice pp8 ((dgBytes d).length) cc9) rfl rfl ?_)
      refine r_cons (s_call [.slice pp8 ((dgBytes d).length) cc9] pl_22 rfl rfl (bytes_Clone _ _ ((dgBytes d).length) ((dgBytes d).flatMap u8c) RdA.row (by first | omega | (have hlp := Nat.le_refl 0; omega)) (j := 0) rfl H13) ?_)
      rintro _ w21 ⟨pp19, cc20, rfl, H22⟩
      refine r_cons (s_assign (.slice pp19 ((dgBytes d).length) cc20) rfl rfl ?_)
      refine r_nil ?_
      refine g_seq ?_
      refine g_region ?_
      have h6 := dgBytes_6 hc14
      obtain ⟨f, hf⟩ : ∃ f : Nat, f = at_ % (8 * (dgBytes d).length) := ⟨_, rfl⟩
      have hfl : f < 8 * (dgBytes d).length := by rw [hf]; exact Nat.mod_lt _ (by omega)
      refine r_cons (s_move (.int .u16 (at_ : Int)) rfl rfl ?_)
      refine r_cons (s_conv (at_ : Int) rfl us_43 ik_3 (wi64 (by omega)) rfl ?_)
      refine r_cons (s_move (.slice pp8 ((dgBytes d).length) cc9) rfl rfl ?_)
      refine r_cons (s_len ((dgBytes d).length) rfl ⟨_, un_22⟩ rfl ?_)
      refine r_cons (s_mul (8 * ((dgBytes d).length : Int)) rfl rfl (wi64 (by omega)) rfl ?_)
      refine r_cons (s_rem (f : Int) rfl rfl (by omega) (by rw [tmod_pos (by omega), hf]; exact (Int.natCast_emod _ _).symm) rfl ?_)
      refine r_cons (s_assign (.int .i64 (f : Int)) rfl rfl ?_)
      refine r_nil ?_
      refine g_seq ?_
      refine g_region ?_
      refine r_cons (s_assign (.bool false) rfl rfl ?_)
      refine r_nil ?_
      refine g_seq ?_
      refine g_seq ?_
      refine g_region ?_
      refine r_cons (s_move (.int .i64 0) rfl rfl ?_)
      refine r_nil ?_
      refine g_block ?_
      refine g_loop_inv (fun (x_ : Nat) => match x_ with | i => [(2, .int .u32 (wv : Int)), (6, .bool false), (7, .slice pp8 ((dgBytes d).length) cc9), (9, .slice pp19 ((dgBytes d).length) cc20), (10, .int .i64 (f : Int)), (11, .bool (changed (dgBytes d).length wv f i)), (38, .int .i64 (i : Int))]) (fun (x_ : Nat) w => match x_ with | i => (i ≤ 32) ∧ St W w (Row 5 1 (.slice pp19 ((dgBytes d).length) cc20) ((dgBytes d).length) ((spoil (dgBytes d) wv f i).flatMap u8c) :: Row 5 1 (.slice pp8 ((dgBytes d).length) cc9) ((dgBytes d).length) ((dgBytes d).flatMap u8c) :: blk bk5 (.cells #[.int .i64 d.frm.v, .int .i64 d.to_.v, .int .i64 d.kind.v, .int .i64 d.seq.v, .int .i64 d.ack.v, .slice pp1 d.body.length cc2] 24 (0, 0)) :: Im 1 (.slice pp1 d.body.length cc2) d.body.length (d.body.flatMap u8c) :: F)) (fun (x_ : Nat) => match x_ with | i => 32 - i) (0) ?_ ?_ ?_
      · exact ⟨by first | rfl | exact vint (by omega), by first | rfl | exact vint (by omega), by first | rfl | exact vint (by omega), by first | rfl | exact vint (by omega), by first | rfl | exact vint (by omega), rfl, by first | rfl | exact vint (by omega), trivial⟩
      · exact ⟨(by omega), H22⟩
      · rintro i ρ23 w24 ⟨hi32, H25⟩ nx26
        change Ends _ _ (upds ρ23 [(2, .int .u32 (wv : Int)), (6, .bool false), (7, .slice pp8 ((dgBytes d).length) cc9), (9, .slice pp19 ((dgBytes d).length) cc20), (10, .int .i64 (f : Int)), (11, .bool (changed (dgBytes d).length wv f i)), (38, .int .i64 (i : Int))]) w24
        refine g_seq ?_
        refine g_region ?_
        by_cases hc27 : (i : Int) < 32
        · skip
          refine r_cons (s_lss true rfl rfl (dtrue hc27) rfl ?_)
          refine r_nil ?_
          refine g_seq ?_
          refine g_true rfl ?_
          refine g_skip ?_
          refine g_seq ?_
          refine g_block ?_
          refine g_seq ?_
          refine g_region ?_
          refine r_cons (s_move (.int .i64 (i : Int)) rfl rfl ?_)
          refine r_cons (s_assign (.int .i64 (i : Int)) rfl rfl ?_)
          refine r_nil ?_
          refine g_seq ?_
          refine g_region ?_
          refine r_cons (s_move (.int .i64 (f : Int)) rfl rfl ?_)
          refine r_cons (s_move (.int .i64 (i : Int)) rfl rfl ?_)
          refine r_cons (s_add ((f + i : Nat) : Int) rfl rfl ((wi64 (by omega)).trans (by omega)) rfl ?_)
          refine r_cons (s_assign (.int .i64 ((f + i : Nat) : Int)) rfl rfl ?_)
          refine r_nil ?_
          refine g_seq ?_
          refine g_region ?_
          obtain ⟨bk28, cur29, hp30, h31, h32, h33, h34, h35, H36⟩ := Row.open2 H25 (i := 0) rfl (by omega)
          have hfx := flip_lt ((spoil (dgBytes d) wv f i).getD ((f + i) / 8) 0) ((f + i) % 8)
          have hwl : wv / 2 ^ i < 4294967296 := Nat.lt_of_le_of_lt (Nat.div_le_self _ _) hw
          refine r_cons (s_move (.int .i64 ((f + i : Nat) : Int)) rfl rfl ?_)
          refine r_cons (s_move (.slice pp8 ((dgBytes d).length) cc9) rfl rfl ?_)
          refine r_cons (s_len ((dgBytes d).length) rfl ⟨_, un_22⟩ rfl ?_)
          refine r_cons (s_mul (8 * ((dgBytes d).length : Int)) rfl rfl (wi64 (by omega)) rfl ?_)
          by_cases hc37 : ((f + i : Nat) : Int) < 8 * ((dgBytes d).length : Int)
          · skip
            refine r_cons (s_lss true rfl rfl (dtrue hc37) rfl ?_)
            refine r_cons (s_move (.bool true) rfl rfl ?_)
            refine r_cons (r_take rfl rfl ?_)
            refine s_move (.int .u32 (wv : Int)) rfl rfl ?_
            refine r_cons (r_take rfl rfl ?_)
            refine s_move (.int .i64 (i : Int)) rfl rfl ?_
            refine r_cons (r_take rfl rfl ?_)
            refine s_shr ((wv / 2 ^ i : Nat) : Int) rfl rfl (by omega) (shr_nat (k := i) rfl (show i ≤ 32 by omega)) rfl ?_
            refine r_cons (r_take rfl rfl ?_)
            refine s_and ((wv / 2 ^ i % 2 : Nat) : Int) rfl rfl (and_one32 _ hwl) rfl ?_
            refine r_cons (r_take rfl rfl ?_)
            by_cases hc38 : ((wv / 2 ^ i % 2 : Nat) : Int) = 1
            · skip
              refine s_eql true rfl rfl (dtrue hc38) rfl ?_
              refine r_cons (s_pick_t (.bool true) rfl rfl rfl ?_)
              refine r_nil ?_
              refine g_true rfl ?_
              refine g_seq ?_
              have H39 : St W w24 (Row 5 1 (.slice pp8 ((dgBytes d).length) cc9) ((dgBytes d).length) ((dgBytes d).flatMap u8c) :: blk bk5 (.cells #[.int .i64 d.frm.v, .int .i64 d.to_.v, .int .i64 d.kind.v, .int .i64 d.seq.v, .int .i64 d.ack.v, .slice pp1 d.body.length cc2] 24 (0, 0)) :: Im 1 (.slice pp1 d.body.length cc2) d.body.length (d.body.flatMap u8c) :: blk bk28 (.cells cur29 5 (0, 0)) :: F) := (((H36.move 3 rfl).move 3 rfl).move 3 rfl)
              refine g_mix (fun t_ w => St W w (Row 5 1 (.slice pp8 ((dgBytes d).length) cc9) ((dgBytes d).length) ((dgBytes d).flatMap u8c) :: blk bk5 (.cells #[.int .i64 d.frm.v, .int .i64 d.to_.v, .int .i64 d.kind.v, .int .i64 d.seq.v, .int .i64 d.ack.v, .slice pp1 d.body.length cc2] 24 (0, 0)) :: Im 1 (.slice pp1 d.body.length cc2) d.body.length (d.body.flatMap u8c) :: t_)) (blk bk28 (.cells cur29 5 (0, 0)) :: F) mixed 11 rfl H39.drew ?_
              refine f_first 0 (listed' := #[true, false, false, false, false, false, false, false, false, false, false]) rfl (by kernel_rfl) (by kernel_rfl) (by kernel_rfl) rfl ?_
              refine f_val rfl rfl rfl (by intro t_ w hw; exact x_move (.slice pp19 ((dgBytes d).length) cc20) rfl w) ?_
              refine f_first 1 (listed' := #[true, true, false, false, false, false, false, false, false, false, false]) rfl (by kernel_rfl) (by kernel_rfl) (by kernel_rfl) rfl ?_
              refine f_val rfl rfl rfl (by intro t_ w hw; exact x_move (.int .i64 ((f + i : Nat) : Int)) rfl w) ?_
              refine f_first 2 (listed' := #[true, true, true, false, false, false, false, false, false, false, false]) rfl (by kernel_rfl) (by kernel_rfl) (by kernel_rfl) rfl ?_
              refine f_val rfl rfl rfl (by intro t_ w hw; exact x_quo (((f + i) / 8 : Nat) : Int) rfl rfl (by omega) (by rw [tdiv_pos (by omega)]; exact wi64 (by omega)) w) ?_
              refine f_first 3 (listed' := #[true, true, true, true, false, false, false, false, false, false, false]) rfl (by kernel_rfl) (by kernel_rfl) (by kernel_rfl) rfl ?_
              refine f_val rfl rfl rfl (by intro t_ w hw; exact x_indexAddr bk28 (off := 0) (((f + i) / 8 : Nat) : Int) 1 (0 + ((f + i) / 8) * 1) (by exact congrArg (fun z_ => Value.slice z_ ((dgBytes d).length) cc20) ((fun (_ : 0 < 1) => hp30) (by omega))) rfl el_22 (by omega) (by rw [show ((((f + i) / 8 : Nat) : Int) : Int).toNat = (f + i) / 8 from by omega]) w) ?_
              refine f_first 5 (listed' := #[true, true, true, true, false, true, false, false, false, false, false]) rfl (by kernel_rfl) (by kernel_rfl) (by kernel_rfl) rfl ?_
              refine f_val rfl rfl rfl (by intro t_ w hw; exact x_move (.int .i64 ((f + i : Nat) : Int)) rfl w) ?_
              refine f_first 6 (listed' := #[true, true, true, true, false, true, true, false, false, false, false]) rfl (by kernel_rfl) (by kernel_rfl) (by kernel_rfl) rfl ?_
              refine f_val rfl rfl rfl (by intro t_ w hw; exact x_rem (((f + i) % 8 : Nat) : Int) rfl rfl (by omega) (tmod_pos (by omega)) w) ?_
              refine f_first 7 (listed' := #[true, true, true, true, false, true, true, true, false, false, false]) rfl (by kernel_rfl) (by kernel_rfl) (by kernel_rfl) rfl ?_
              refine f_val rfl rfl rfl (by intro t_ w hw; exact x_shr ((128 / 2 ^ ((f + i) % 8) : Nat) : Int) rfl rfl (by omega) (by exact shr_nat (u := 128) (k := (f + i) % 8) rfl (show (f + i) % 8 ≤ 8 by omega)) w) ?_
              refine f_all (rs := [4]) (by kernel_rfl) (by simp) ?_
              refine a_cons ⟨_, rfl, ?_⟩ (fun x hx => absurd hx (by simp))
              intro w40 H41
              try dsimp only at H41
              refine s_load (.int .u8 (((spoil (dgBytes d) wv f i).getD ((f + i) / 8) 0).toNat : Int)) ag_5 rfl (H41.blk_at (i := 3) rfl) (elem_cell (L := spoil (dgBytes d) wv f i) (i := (f + i) / 8) u8c_len (by rw [(spoil_len (dgBytes d) wv f i)]; exact h34) (by have hh : (spoil (dgBytes d) wv f i).length = (dgBytes d).length := (spoil_len (dgBytes d) wv f i); omega) 0 0 (by decide) _ rfl) rfl ?_
              refine ⟨blk bk28 (.cells cur29 5 (0, 0)) :: F, ?_, H41⟩
              change FReg _ _ _ _ _ #[true, true, true, true, true, true, true, true, false, false, false] _ _
              refine f_first 8 (listed' := #[true, true, true, true, true, true, true, true, true, false, false]) rfl (by kernel_rfl) (by kernel_rfl) (by kernel_rfl) rfl ?_
              refine f_val rfl rfl rfl (by intro t_ w hw; exact x_xor (((((spoil (dgBytes d) wv f i).getD ((f + i) / 8) 0).toNat ^^^ (128 / 2 ^ ((f + i) % 8))) : Nat) : Int) rfl rfl (by rw [bit_xor (UInt8.toNat_lt _) (Nat.lt_of_le_of_lt (Nat.div_le_self 128 _) (by decide))]; exact (wu8 (by omega)).trans (by omega)) w) ?_
              refine f_first 9 (listed' := #[true, true, true, true, true, true, true, true, true, true, false]) rfl (by kernel_rfl) (by kernel_rfl) (by kernel_rfl) rfl ?_
              refine f_val rfl rfl rfl (by intro t_ w hw; exact x_indexAddr bk28 (off := 0) (((f + i) / 8 : Nat) : Int) 1 (0 + ((f + i) / 8) * 1) (by exact congrArg (fun z_ => Value.slice z_ ((dgBytes d).length) cc20) ((fun (_ : 0 < 1) => hp30) (by omega))) rfl el_22 (by omega) (by rw [show ((((f + i) / 8 : Nat) : Int) : Int).toNat = (f + i) / 8 from by omega]) w) ?_
              refine f_all (rs := [10]) (by kernel_rfl) (by simp) ?_
              refine a_cons ⟨_, rfl, ?_⟩ (fun x hx => absurd hx (by simp))
              intro w42 H43
              try dsimp only at H43
              have hx46 := row_set1 (f := u8c) (L := spoil (dgBytes d) wv f i) (cur := cur29) u8c_len (by rw [(spoil_len (dgBytes d) wv f i)]; exact h34) (show (spoil (dgBytes d) wv f i).length * 1 ≤ cur29.size by rw [(spoil_len (dgBytes d) wv f i), h33]; exact Nat.mul_le_mul_right 1 h31) (j := (f + i) / 8) (by have hh := (spoil_len (dgBytes d) wv f i); omega) 0 (.int .u8 (((((spoil (dgBytes d) wv f i).getD ((f + i) / 8) 0).toNat ^^^ (128 / 2 ^ ((f + i) % 8))) : Nat) : Int)) (flipB ((spoil (dgBytes d) wv f i).getD ((f + i) / 8) 0) ((f + i) % 8)) ((u8_set hfx))
              refine s_store H43 3 (.int .u8 (((((spoil (dgBytes d) wv f i).getD ((f + i) / 8) 0).toNat ^^^ (128 / 2 ^ ((f + i) % 8))) : Nat) : Int)) rfl rfl rfl sz_5 rfl (by have hh := (spoil_len (dgBytes d) wv f i); have hk := (show (spoil (dgBytes d) wv f i).length * 1 ≤ cur29.size by rw [(spoil_len (dgBytes d) wv f i), h33]; exact Nat.mul_le_mul_right 1 h31); omega) rfl (cs' := (cur29.setIfInBounds (0 + ((f + i) / 8) * 1) (.int .u8 (((((spoil (dgBytes d) wv f i).getD ((f + i) / 8) 0).toNat ^^^ (128 / 2 ^ ((f + i) % 8))) : Nat) : Int)))) rfl ?_; intro w44 H45
              refine ⟨blk bk28 (.cells (cur29.setIfInBounds (0 + ((f + i) / 8) * 1) (.int .u8 (((((spoil (dgBytes d) wv f i).getD ((f + i) / 8) 0).toNat ^^^ (128 / 2 ^ ((f + i) % 8))) : Nat) : Int))) 5 (0, 0)) :: F, ?_, H45⟩
              change FReg _ _ _ _ _ #[true, true, true, true, true, true, true, true, true, true, true] _ _
              refine f_done (by kernel_rfl) ?_
              intro w47 H48
              refine g_region ?_
              refine r_cons (s_assign (.bool true) rfl rfl ?_)
              refine r_nil ?_
              refine g_inBlock ?_
              refine g_region ?_
              refine r_cons (s_add ((i : Int) + 1) rfl rfl (wi64 (by omega)) rfl ?_)
              refine r_cons (s_move (.int .i64 ((i : Int) + 1)) rfl rfl ?_)
              refine r_nil ?_
              have hcc49 : spoilC (dgBytes d).length wv f i = true := decide_eq_true ⟨by omega, by omega⟩
              have H50 := Row.shut2 (p := pp19) (n := (dgBytes d).length) (c := cc20) (size := 1) (xs := (spoil (dgBytes d) wv f (i + 1)).flatMap u8c) H48 (i := 3) rfl hp30 h31 h32 (by rw [Array.size_setIfInBounds]; exact h33) (by have hh : ((cur29.setIfInBounds (0 + ((f + i) / 8) * 1) (.int .u8 (((((spoil (dgBytes d) wv f i).getD ((f + i) / 8) 0).toNat ^^^ (128 / 2 ^ ((f + i) % 8))) : Nat) : Int))).toList.drop 0).take (((spoil (dgBytes d) wv f i).set ((f + i) / 8) (flipB ((spoil (dgBytes d) wv f i).getD ((f + i) / 8) 0) ((f + i) % 8))).length * 1) = ((spoil (dgBytes d) wv f i).set ((f + i) / 8) (flipB ((spoil (dgBytes d) wv f i).getD ((f + i) / 8) 0) ((f + i) % 8))).flatMap u8c := hx46; have hk : ((spoil (dgBytes d) wv f i).set ((f + i) / 8) (flipB ((spoil (dgBytes d) wv f i).getD ((f + i) / 8) 0) ((f + i) % 8))).length = (dgBytes d).length := (by rw [List.length_set]; exact (spoil_len (dgBytes d) wv f i)); rw [hk] at hh; rw [spoil_yes rfl hcc49] at hh; exact hh) (one_u8 _)
              have H51 : St W w47 (Row 5 1 (.slice pp19 ((dgBytes d).length) cc20) ((dgBytes d).length) ((spoil (dgBytes d) wv f (i + 1)).flatMap u8c) :: Row 5 1 (.slice pp8 ((dgBytes d).length) cc9) ((dgBytes d).length) ((dgBytes d).flatMap u8c) :: blk bk5 (.cells #[.int .i64 d.frm.v, .int .i64 d.to_.v, .int .i64 d.kind.v, .int .i64 d.seq.v, .int .i64 d.ack.v, .slice pp1 d.body.length cc2] 24 (0, 0)) :: Im 1 (.slice pp1 d.body.length cc2) d.body.length (d.body.flatMap u8c) :: F) := ((((H50.move 2 rfl).move 2 rfl).move 2 rfl).move 3 rfl)
              exact nx26 (i + 1) _ _ ⟨(by omega), H51⟩ (by first | (dsimp only; omega) | omega) ⟨by first | rfl | exact vint (by omega), by first | rfl | exact vint (by omega), by first | rfl | exact vint (by omega), by first | rfl | exact vint (by omega), by first | rfl | exact vint (by omega), congrArg Value.bool (changed_yes hcc49), by first | rfl | exact vint (by omega), trivial⟩
            · skip
              refine s_eql false rfl rfl (dfalse hc38) rfl ?_
              refine r_cons (s_pick_t (.bool false) rfl rfl rfl ?_)
              refine r_nil ?_
              refine g_false rfl ?_
              refine g_skip ?_
              refine g_inBlock ?_
              refine g_region ?_
              refine r_cons (s_add ((i : Int) + 1) rfl rfl (wi64 (by omega)) rfl ?_)
              refine r_cons (s_move (.int .i64 ((i : Int) + 1)) rfl rfl ?_)
              refine r_nil ?_
              have hcc52 : ¬ spoilC (dgBytes d).length wv f i = true := fun h => by obtain ⟨a1, a2⟩ := of_decide_eq_true h; omega
              have H53 := Row.shut2 (p := pp19) (n := (dgBytes d).length) (c := cc20) (size := 1) (xs := (spoil (dgBytes d) wv f (i + 1)).flatMap u8c) H36 (i := 0) rfl hp30 h31 h32 h33 (by have hh : (cur29.toList.drop 0).take ((spoil (dgBytes d) wv f i).length * 1) = (spoil (dgBytes d) wv f i).flatMap u8c := (by rw [(spoil_len (dgBytes d) wv f i)]; exact h34); have hk : (spoil (dgBytes d) wv f i).length = (dgBytes d).length := (spoil_len (dgBytes d) wv f i); rw [hk] at hh; rw [spoil_skip rfl hcc52] at hh; exact hh) (one_u8 _)
              have H54 : St W w24 (Row 5 1 (.slice pp19 ((dgBytes d).length) cc20) ((dgBytes d).length) ((spoil (dgBytes d) wv f (i + 1)).flatMap u8c) :: Row 5 1 (.slice pp8 ((dgBytes d).length) cc9) ((dgBytes d).length) ((dgBytes d).flatMap u8c) :: blk bk5 (.cells #[.int .i64 d.frm.v, .int .i64 d.to_.v, .int .i64 d.kind.v, .int .i64 d.seq.v, .int .i64 d.ack.v, .slice pp1 d.body.length cc2] 24 (0, 0)) :: Im 1 (.slice pp1 d.body.length cc2) d.body.length (d.body.flatMap u8c) :: F) := ((((H53.move 3 rfl).move 3 rfl).move 3 rfl).move 3 rfl)
              exact nx26 (i + 1) _ _ ⟨(by omega), H54⟩ (by first | (dsimp only; omega) | omega) ⟨by first | rfl | exact vint (by omega), by first | rfl | exact vint (by omega), by first | rfl | exact vint (by omega), by first | rfl | exact vint (by omega), by first | rfl | exact vint (by omega), congrArg Value.bool (changed_skip hcc52), by first | rfl | exact vint (by omega), trivial⟩
          · skip
            refine r_cons (s_lss false rfl rfl (dfalse hc37) rfl ?_)
            refine r_cons (s_move (.bool false) rfl rfl ?_)
            refine r_cons (r_pass rfl rfl rfl rfl rfl ?_)
            refine r_cons (r_pass rfl rfl rfl rfl rfl ?_)
            refine r_cons (r_pass rfl rfl rfl rfl rfl ?_)
            refine r_cons (r_pass rfl rfl rfl rfl rfl ?_)
            refine r_cons (r_pass rfl rfl rfl rfl rfl ?_)
            refine r_cons (s_pick_f (.bool false) rfl rfl rfl ?_)
            refine r_nil ?_
            refine g_false rfl ?_
            refine g_skip ?_
            refine g_inBlock ?_
            refine g_region ?_
            refine r_cons (s_add ((i : Int) + 1) rfl rfl (wi64 (by omega)) rfl ?_)
            refine r_cons (s_move (.int .i64 ((i : Int) + 1)) rfl rfl ?_)
            refine r_nil ?_
            have hcc55 : ¬ spoilC (dgBytes d).length wv f i = true := fun h => by obtain ⟨a1, a2⟩ := of_decide_eq_true h; omega
            have H56 := Row.shut2 (p := pp19) (n := (dgBytes d).length) (c := cc20) (size := 1) (xs := (spoil (dgBytes d) wv f (i + 1)).flatMap u8c) H36 (i := 0) rfl hp30 h31 h32 h33 (by have hh : (cur29.toList.drop 0).take ((spoil (dgBytes d) wv f i).length * 1) = (spoil (dgBytes d) wv f i).flatMap u8c := (by rw [(spoil_len (dgBytes d) wv f i)]; exact h34); have hk : (spoil (dgBytes d) wv f i).length = (dgBytes d).length := (spoil_len (dgBytes d) wv f i); rw [hk] at hh; rw [spoil_skip rfl hcc55] at hh; exact hh) (one_u8 _)
            have H57 : St W w24 (Row 5 1 (.slice pp19 ((dgBytes d).length) cc20) ((dgBytes d).length) ((spoil (dgBytes d) wv f (i + 1)).flatMap u8c) :: Row 5 1 (.slice pp8 ((dgBytes d).length) cc9) ((dgBytes d).length) ((dgBytes d).flatMap u8c) :: blk bk5 (.cells #[.int .i64 d.frm.v, .int .i64 d.to_.v, .int .i64 d.kind.v, .int .i64 d.seq.v, .int .i64 d.ack.v, .slice pp1 d.body.length cc2] 24 (0, 0)) :: Im 1 (.slice pp1 d.body.length cc2) d.body.length (d.body.flatMap u8c) :: F) := ((((H56.move 3 rfl).move 3 rfl).move 3 rfl).move 3 rfl)
            exact nx26 (i + 1) _ _ ⟨(by omega), H57⟩ (by first | (dsimp only; omega) | omega) ⟨by first | rfl | exact vint (by omega), by first | rfl | exact vint (by omega), by first | rfl | exact vint (by omega), by first | rfl | exact vint (by omega), by first | rfl | exact vint (by omega), congrArg Value.bool (changed_skip hcc55), by first | rfl | exact vint (by omega), trivial⟩
        · skip
          refine r_cons (s_lss false rfl rfl (dfalse hc27) rfl ?_)
          refine r_nil ?_
          refine g_seq ?_
          refine g_false rfl ?_
          refine g_exit (by rfl) ?_
          refine g_seq ?_
          refine g_region ?_
          refine r_cons (s_move (.slice pp19 ((dgBytes d).length) cc20) rfl rfl ?_)
          have H58 : St W w24 (Im 1 (.slice pp19 ((dgBytes d).length) cc20) ((dgBytes d).length) ((spoil (dgBytes d) wv f i).flatMap u8c) :: Row 5 1 (.slice pp8 ((dgBytes d).length) cc9) ((dgBytes d).length) ((dgBytes d).flatMap u8c) :: blk bk5 (.cells #[.int .i64 d.frm.v, .int .i64 d.to_.v, .int .i64 d.kind.v, .int .i64 d.seq.v, .int .i64 d.ack.v, .slice pp1 d.body.length cc2] 24 (0, 0)) :: Im 1 (.slice pp1 d.body.length cc2) d.body.length (d.body.flatMap u8c) :: F) := Row.im H25 (i := 0) rfl
          have hsl := spoil_len (dgBytes d) wv f i
          refine r_cons (s_call [.slice pp19 ((dgBytes d).length) cc20] pl_10 rfl rfl (frame_Decode (spoil (dgBytes d) wv f i) _ (by omega) (j := 0) (by rw [hsl]; rfl) H58) ?_)
          rintro _ w61 ⟨pp59, _, cc60, rfl, rfl, H62⟩
          refine r_cons (s_move (.tuple #[.agg #[.int .i64 ((decV (spoil (dgBytes d) wv f i)).frm.v), .int .i64 ((decV (spoil (dgBytes d) wv f i)).to_.v), .int .i64 ((decV (spoil (dgBytes d) wv f i)).kind.v), .int .i64 ((decV (spoil (dgBytes d) wv f i)).seq.v), .int .i64 ((decV (spoil (dgBytes d) wv f i)).ack.v), .slice pp59 ((decV (spoil (dgBytes d) wv f i)).body.length) cc60], .int .i64 (decE (spoil (dgBytes d) wv f i))]) rfl rfl ?_)
          refine r_cons (s_extract (.agg #[.int .i64 ((decV (spoil (dgBytes d) wv f i)).frm.v), .int .i64 ((decV (spoil (dgBytes d) wv f i)).to_.v), .int .i64 ((decV (spoil (dgBytes d) wv f i)).kind.v), .int .i64 ((decV (spoil (dgBytes d) wv f i)).seq.v), .int .i64 ((decV (spoil (dgBytes d) wv f i)).ack.v), .slice pp59 ((decV (spoil (dgBytes d) wv f i)).body.length) cc60]) #[.agg #[.int .i64 ((decV (spoil (dgBytes d) wv f i)).frm.v), .int .i64 ((decV (spoil (dgBytes d) wv f i)).to_.v), .int .i64 ((decV (spoil (dgBytes d) wv f i)).kind.v), .int .i64 ((decV (spoil (dgBytes d) wv f i)).seq.v), .int .i64 ((decV (spoil (dgBytes d) wv f i)).ack.v), .slice pp59 ((decV (spoil (dgBytes d) wv f i)).body.length) cc60], .int .i64 (decE (spoil (dgBytes d) wv f i))] rfl rfl rfl ?_)
          refine r_cons (s_extract (.int .i64 (decE (spoil (dgBytes d) wv f i))) #[.agg #[.int .i64 ((decV (spoil (dgBytes d) wv f i)).frm.v), .int .i64 ((decV (spoil (dgBytes d) wv f i)).to_.v), .int .i64 ((decV (spoil (dgBytes d) wv f i)).kind.v), .int .i64 ((decV (spoil (dgBytes d) wv f i)).seq.v), .int .i64 ((decV (spoil (dgBytes d) wv f i)).ack.v), .slice pp59 ((decV (spoil (dgBytes d) wv f i)).body.length) cc60], .int .i64 (decE (spoil (dgBytes d) wv f i))] rfl rfl rfl ?_)
          refine r_cons (s_assign (.int .i64 (decE (spoil (dgBytes d) wv f i))) rfl rfl ?_)
          refine r_nil ?_
          refine g_seq ?_
          refine g_region ?_
          refine r_cons (s_move (.int .i64 (decE (spoil (dgBytes d) wv f i))) rfl rfl ?_)
          refine r_cons (s_eql (decide (decE (spoil (dgBytes d) wv f i) = 0)) rfl rfl rfl rfl ?_)
          refine r_cons (s_move (.bool (changed (dgBytes d).length wv f i)) rfl rfl ?_)
          have hdz : dgE d = 0 := hc14
          refine r_cons (s_bneq true un_4 rfl rfl (nfalse (spoilt_b hdz hfl (by omega))) rfl ?_)
          refine r_cons (s_assign (.bool true) rfl rfl ?_)
          refine r_nil ?_
          refine g_ret' [.bool true] Try.func7 Try.results7 ⟨rfl, trivial⟩ ?_
          have H63 : St W w61 F := (((((H62.drop 0 rfl).drop 0 rfl).drop 0 rfl).drop 0 rfl).drop 0 rfl)
          exact ⟨rfl, H63⟩
  · skip
    refine s_neq true rfl rfl (nfalse hc14) rfl ?_
    refine r_cons (s_pick_f (.bool true) rfl rfl rfl ?_)
    refine r_cons (s_move (.bool true) rfl rfl ?_)
    refine r_cons (r_pass rfl rfl rfl rfl rfl ?_)
    refine r_cons (r_pass rfl rfl rfl rfl rfl ?_)
    refine r_cons (s_pick_t (.bool true) rfl rfl rfl ?_)
    refine r_nil ?_
    refine g_true rfl ?_
    refine g_seq ?_
    refine g_region ?_
    refine r_cons (s_call [] pl_12 rfl rfl (frame_begun H13) ?_)
    rintro _ w64 ⟨rfl, H65⟩
    refine r_cons (s_assign (.bool true) rfl rfl ?_)
    refine r_nil ?_
    refine g_ret' [.bool true] Try.func7 Try.results7 ⟨rfl, trivial⟩ ?_
    have H66 : St W w64 F := (((H65.drop 0 rfl).drop 0 rfl).drop 0 rfl)
    exact ⟨rfl, H66⟩
end Sl
