/- Walks of the program's functions. Printed by a program of this claim's author. No condition. -/
import Derived.Test.YteogdknlofcpiaaSlBA
import Derived.Test.YteogdknlofcpiaaSlDB
import Derived.Test.YteogdknlofcpiaaSlQ
import Derived.Test.YteogdknlofcpiaaSlI
import Derived.Test.YteogdknlofcpiaaSlP
import Derived.Test.YteogdknlofcpiaaSlDH
import Derived.Test.YteogdknlofcpiaaSlDI
import Derived.Test.YteogdknlofcpiaaSlDJ
import Derived.Test.YteogdknlofcpiaaSlDC
import Derived.Test.YteogdknlofcpiaaProg
import Derived.Test.YteogdknlofcpiaaWalkMigrateWhole0
namespace Sl
open _root_.Go _root_.Go.RowKit _root_.Go.Proofs
set_option linter.all false
set_option maxHeartbeats 4000000 in
set_option maxRecDepth 100000 in
theorem Src_Nat {W w : World} {F : List Atom} (b : Nat) (bs : List UInt8) (p : Nat) (hp : p ≤ 8 * bs.length) (hb : bs.length ≤ 140737488355328) {i : Nat} (hi : F[i]? = some (SrcA b bs p)) (H : St W w F) : Calls Try.prog 116 #[.pointer (some ⟨b, 0, none⟩)] w (Ret fun v w' => v = .tuple #[.int .u64 (natU (remB bs p) : Int), .int .i64 (natE (remB bs p))] ∧ St W w' (F.set i (SrcA b bs (p + natN (remB bs p))))) := by
  have H0 := H.front hi
  refine calls_of_go (n := 82) Try.func116 rfl Try.ntmps116 rfl ?_
  refine g_seq ?_
  refine g_region ?_
  refine r_cons (s_assign (.int .u64 0) rfl rfl ?_)
  refine r_cons (s_assign (.int .i64 0) rfl rfl ?_)
  refine r_nil ?_
  refine g_seq ?_
  refine g_seq ?_
  refine g_region ?_
  refine r_cons (s_move (.pointer (some ⟨b, 0, none⟩)) rfl rfl ?_)
  refine r_cons (s_peql false un_144 rfl rfl rfl rfl ?_)
  refine r_cons (s_move (.bool false) rfl rfl ?_)
  refine r_cons (r_take rfl rfl ?_)
  refine s_move (.pointer (some ⟨b, 0, none⟩)) rfl rfl ?_
  refine r_cons (r_take rfl rfl ?_)
  refine s_nilCheck (.pointer (some ⟨b, 0, none⟩)) rfl ⟨_, rfl⟩ rfl ?_
  refine r_cons (r_take rfl rfl ?_)
  refine s_fieldAddr 184 0 0 0 4 rfl fi_184_0 rfl rfl ?_
  refine r_cons (r_take rfl rfl ?_)
  have H1 := H0.move 0 rfl
  obtain ⟨vv2, H3⟩ := St.open_ex H1
  have H4 := St.open_star H3
  obtain ⟨pp5, cc6, gA7, oA8, kA9, eA10, zA11, rfl, hn12, hp13, hx14, hs15, hml, H16⟩ := Im.open_ H4 (i := 1) rfl
  have H17 : St W w (imi (0 < bs.length) gA7 (.cells kA9 eA10 zA11) :: blk b (.cells #[.bool true, .slice pp5 bs.length cc6, .int .i64 ((p : Nat) : Int)] 184 (0, 0)) :: Im 1 (.slice pp5 bs.length cc6) bs.length (bs.flatMap u8c) :: (F.set i emp)) := H16
  refine s_load (.bool true) ag_4 rfl (H17.blk_at (i := 1) rfl) rfl rfl ?_
  refine r_cons (r_take rfl rfl ?_)
  refine s_not true rfl false rfl rfl ?_
  refine r_cons (s_pick_f (.bool false) rfl rfl rfl ?_)
  refine r_nil ?_
  refine g_false rfl ?_
  refine g_skip ?_
  refine g_seq ?_
  refine g_region ?_
  refine r_cons (s_move (.pointer (some ⟨b, 0, none⟩)) rfl rfl ?_)
  refine r_cons (s_nilCheck (.pointer (some ⟨b, 0, none⟩)) rfl ⟨_, rfl⟩ rfl ?_)
  refine r_cons (s_fieldAddr 184 2 2 2 3 rfl fi_184_2 rfl rfl ?_)
  refine r_cons (s_load (.int .i64 ((p : Nat) : Int)) ag_3 rfl (H17.blk_at (i := 1) rfl) rfl rfl ?_)
  refine r_cons (s_assign (.int .i64 ((p : Nat) : Int)) rfl rfl ?_)
  refine r_nil ?_
  refine g_seq ?_
  refine g_region ?_
  refine r_cons (s_assign (.int .i64 0) rfl rfl ?_)
  refine r_nil ?_
  refine g_seq ?_
  refine g_block ?_
  have H18 : St W w (blk b (.cells #[.bool true, .slice pp5 bs.length cc6, .int .i64 ((p : Nat) : Int)] 184 (0, 0)) :: Im 1 (.slice pp5 bs.length cc6) bs.length (bs.flatMap u8c) :: (F.set i emp)) := (((H17.move 2 rfl).move 2 rfl).drop 2 rfl)
  have H19 : St W w (SrcA b bs p :: (F.set i emp)) := St.shut_ex (.slice pp5 bs.length cc6) (St.shut_star (ls := [blk b (.cells #[.bool true, .slice pp5 bs.length cc6, .int .i64 ((p : Nat) : Int)] 184 (0, 0)), Im 1 (.slice pp5 bs.length cc6) bs.length (bs.flatMap u8c)]) H18)
  have H20 : St W w (SrcA b bs p :: (F.set i emp)) := H19
  have hL := remB_len bs p
  refine g_loop_inv (fun (x_ : Nat) => match x_ with | k => [(0, .pointer (some ⟨b, 0, none⟩)), (2, .int .u64 0), (3, .int .i64 0), (4, .int .i64 ((p : Nat) : Int)), (5, .int .i64 (k : Int))]) (fun (x_ : Nat) w => match x_ with | k => (k ≤ 65) ∧ (k ≤ (remB bs p).length) ∧ (∀ j, j < k → (remB bs p).getD j false = false) ∧ St W w (SrcA b bs p :: (F.set i emp))) (fun (x_ : Nat) => match x_ with | k => 65 - k) (0) ?_ ?_ ?_
  · exact ⟨by first | rfl | exact vint (by omega), by first | rfl | exact vint (by omega), by first | rfl | exact vint (by omega), by first | rfl | exact vint (by omega), by first | rfl | exact vint (by omega), trivial⟩
  · exact ⟨(by omega), (by omega), (fun j hj => by omega), H20⟩
  · rintro k ρ21 w22 ⟨hk, hkr, hz, H23⟩ nx24
    change Ends _ _ (upds ρ21 [(0, .pointer (some ⟨b, 0, none⟩)), (2, .int .u64 0), (3, .int .i64 0), (4, .int .i64 ((p : Nat) : Int)), (5, .int .i64 (k : Int))]) w22
    refine g_seq ?_
    refine g_seq ?_
    refine g_region ?_
    refine r_cons (s_move (.int .i64 (k : Int)) rfl rfl ?_)
    by_cases hc25 : (k : Int) < 65
    · skip
      refine r_cons (s_lss true rfl rfl (dtrue hc25) rfl ?_)
      refine r_cons (s_move (.bool true) rfl rfl ?_)
      refine r_cons (r_take rfl rfl ?_)
      refine s_move (.int .i64 (k : Int)) rfl rfl ?_
      refine r_cons (r_take rfl rfl ?_)
      refine s_move (.pointer (some ⟨b, 0, none⟩)) rfl rfl ?_
      refine r_cons (r_take rfl rfl ?_)
      refine s_call [.pointer (some ⟨b, 0, none⟩)] pl_117 rfl rfl (Src_Left b bs p (by first | omega | decide +kernel | (repeat (first | assumption | exact Nat.zero_le _ | refine natN_pos ?_ | refine srcN_pos ?_ | refine textN_pos ?_))) (by first | omega | decide +kernel)   (i := 0) rfl H23) ?_
      rintro _ w26 ⟨rfl, H27⟩
      refine r_cons (r_take rfl rfl ?_)
      by_cases hc28 : (k : Int) < ((remB bs p).length : Int)
      · skip
        refine s_lss true rfl rfl (dtrue hc28) rfl ?_
        refine r_cons (s_pick_t (.bool true) rfl rfl rfl ?_)
        refine r_cons (s_move (.bool true) rfl rfl ?_)
        refine r_cons (r_take rfl rfl ?_)
        refine s_move (.pointer (some ⟨b, 0, none⟩)) rfl rfl ?_
        refine r_cons (r_take rfl rfl ?_)
        refine s_move (.int .i64 ((p : Nat) : Int)) rfl rfl ?_
        refine r_cons (r_take rfl rfl ?_)
        refine s_move (.int .i64 (k : Int)) rfl rfl ?_
        refine r_cons (r_take rfl rfl ?_)
        refine s_add (((p : Nat) : Int) + (k : Int)) rfl rfl (wi64 (by omega)) rfl ?_
        refine r_cons (r_take rfl rfl ?_)
        refine s_call [.pointer (some ⟨b, 0, none⟩), .int .i64 (((p : Nat) : Int) + (k : Int))] pl_140 rfl rfl (Src_bit b bs p (by first | omega | decide +kernel | (repeat (first | assumption | exact Nat.zero_le _ | refine natN_pos ?_ | refine srcN_pos ?_ | refine textN_pos ?_))) (by first | omega | decide +kernel) (p + k) (by omega) (i := 0) rfl H27) ?_
        rintro _ w29 ⟨rfl, H30⟩
        refine r_cons (r_take rfl rfl ?_)
        by_cases hc31 : ((bitAt bs (p + k)).toNat : Int) = 0
        · skip
          refine s_eql true rfl rfl (dtrue hc31) rfl ?_
          refine r_cons (s_pick_t (.bool true) rfl rfl rfl ?_)
          refine r_nil ?_
          refine g_true rfl ?_
          refine g_skip ?_
          refine g_block ?_
          refine g_region ?_
          refine r_cons (s_move (.int .i64 (k : Int)) rfl rfl ?_)
          refine r_cons (s_add ((k : Int) + 1) rfl rfl (wi64 (by omega)) rfl ?_)
          refine r_cons (s_assign (.int .i64 ((k : Int) + 1)) rfl rfl ?_)
          refine r_nil ?_
          refine g_inBlock ?_
          have H32 : St W w29 (SrcA b bs p :: (F.set i emp)) := H30
          have hbit : bitAt bs (p + k) = false := toNat_1.1 ‹_›
          exact nx24 (k + 1) _ _ ⟨(by omega), (by omega), (fun j hj => (Nat.lt_or_ge j k).elim (hz j) (fun h => by rw [show j = k from by omega, remB_getD (by omega)]; exact hbit)), H32⟩ (by first | (dsimp only; omega) | omega) ⟨by first | rfl | exact vint (by omega), by first | rfl | exact vint (by omega), by first | rfl | exact vint (by omega), by first | rfl | exact vint (by omega), by first | rfl | exact vint (by omega), trivial⟩
        · skip
          refine s_eql false rfl rfl (dfalse hc31) rfl ?_
          refine r_cons (s_pick_t (.bool false) rfl rfl rfl ?_)
          refine r_nil ?_
          refine g_false rfl ?_
          refine g_exit (by rfl) ?_
          refine g_seq ?_
          refine g_block ?_
          refine g_seq ?_
          refine g_region ?_
          have hzz : zeros (remB bs p) = k := zeros_is hk hkr hz (by first | (left; omega) | (right; left; omega) | (right; right; rw [remB_getD (by omega)]; exact Bool.of_not_eq_false fun h => absurd (toNat_1.2 h) ‹_›))
          clear hz
          refine r_cons (s_move (.int .i64 (k : Int)) rfl rfl ?_)
          refine r_cons (s_eql false rfl rfl (dfalse (by omega)) rfl ?_)
          refine r_cons (s_assign (.bool false) rfl rfl ?_)
          refine r_nil ?_
          refine g_false rfl ?_
          refine g_seq ?_
          refine g_region ?_
          refine r_cons (s_move (.pointer (some ⟨b, 0, none⟩)) rfl rfl ?_)
          refine r_cons (s_call [.pointer (some ⟨b, 0, none⟩)] pl_117 rfl rfl (Src_Left b bs p (by first | omega | decide +kernel | (repeat (first | assumption | exact Nat.zero_le _ | refine natN_pos ?_ | refine srcN_pos ?_ | refine textN_pos ?_))) (by first | omega | decide +kernel)   (i := 0) rfl H30) ?_)
          rintro _ w33 ⟨rfl, H34⟩
          refine r_cons (s_move (.int .i64 (k : Int)) rfl rfl ?_)
          refine r_cons (s_mul (2 * (k : Int)) rfl rfl (wi64 (by omega)) rfl ?_)
          refine r_cons (s_add (2 * (k : Int) + 1) rfl rfl (wi64 (by omega)) rfl ?_)
          by_cases hc35 : ((remB bs p).length : Int) < 2 * (k : Int) + 1
          · skip
            refine r_cons (s_lss true rfl rfl (dtrue hc35) rfl ?_)
            refine r_cons (s_assign (.bool true) rfl rfl ?_)
            refine r_nil ?_
            refine g_true rfl ?_
            refine g_seq ?_
            refine g_region ?_
            refine r_cons (s_assign (.int .u64 0) rfl rfl ?_)
            refine r_cons (s_assign (.int .i64 10) rfl rfl ?_)
            refine r_nil ?_
            refine g_ret' [.int .u64 0, .int .i64 10] Try.func116 Try.results116 ⟨rfl, rfl, trivial⟩ ?_
            have H36 : St W w33 (SrcA b bs p :: (F.set i emp)) := H34
            have hE : natE (remB bs p) = 10 := natE_10 (by omega) (by omega)
            have hE0 : ¬ natE (remB bs p) = 0 := by rw [hE]; decide
            exact ⟨by rw [natU_no hE0, hE]; rfl, by rw [natN_no hE0]; exact St.back hi H36⟩
          · skip
            refine r_cons (s_lss false rfl rfl (dfalse hc35) rfl ?_)
            refine r_cons (s_assign (.bool false) rfl rfl ?_)
            refine r_nil ?_
            refine g_false rfl ?_
            refine g_skip ?_
            refine g_inBlock ?_
            refine g_seq ?_
            refine g_region ?_
            refine r_cons (s_move (.pointer (some ⟨b, 0, none⟩)) rfl rfl ?_)
            refine r_cons (s_nilCheck (.pointer (some ⟨b, 0, none⟩)) rfl ⟨_, rfl⟩ rfl ?_)
            refine r_cons (s_fieldAddr 184 2 2 2 3 rfl fi_184_2 rfl rfl ?_)
            have H37 := H34.move 0 rfl
            obtain ⟨vv38, H39⟩ := St.open_ex H37
            have H40 := St.open_star H39
            obtain ⟨pp41, cc42, gA43, oA44, kA45, eA46, zA47, rfl, hn48, hp49, hx50, hs51, hml, H52⟩ := Im.open_ H40 (i := 1) rfl
            have H53 : St W w33 (imi (0 < bs.length) gA43 (.cells kA45 eA46 zA47) :: blk b (.cells #[.bool true, .slice pp41 bs.length cc42, .int .i64 ((p : Nat) : Int)] 184 (0, 0)) :: Im 1 (.slice pp41 bs.length cc42) bs.length (bs.flatMap u8c) :: (F.set i emp)) := H52
            refine r_cons (s_load (.int .i64 ((p : Nat) : Int)) ag_3 rfl (H53.blk_at (i := 1) rfl) rfl rfl ?_)
            refine r_cons (s_move (.int .i64 (k : Int)) rfl rfl ?_)
            refine r_cons (s_add ((k : Int) + 1) rfl rfl (wi64 (by omega)) rfl ?_)
            refine r_cons (s_add (((p : Nat) : Int) + ((k : Int) + 1)) rfl rfl (wi64 (by omega)) rfl ?_)
            refine r_cons (s_nilCheck (.pointer (some ⟨b, 0, none⟩)) rfl ⟨_, rfl⟩ rfl ?_)
            refine r_cons (s_fieldAddr 184 2 2 2 3 rfl fi_184_2 rfl rfl ?_)
            refine r_cons (s_store H53 1 (.int .i64 (((p : Nat) : Int) + ((k : Int) + 1))) rfl rfl rfl sz_3 rfl (Nat.le_of_ble_eq_true rfl) rfl (cs' := #[.bool true, .slice pp41 bs.length cc42, .int .i64 (((p : Nat) : Int) + ((k : Int) + 1))]) rfl ?_); intro w54 H55
            refine r_nil ?_
            refine g_seq ?_
            refine g_region ?_
            have hL1 := remB_len bs (p + k + 1)
            have he : srcE (remB bs (p + k + 1)) (k : Int) = 0 := srcE_0 (by omega) (by omega)
            have hu1 : srcU (remB bs (p + k + 1)) (k : Int) = valOf (((remB bs p).drop (zeros (remB bs p) + 1)).take (zeros (remB bs p))) := by rw [srcU_0 he, hzz, Int.toNat_natCast, remB_drop, Nat.add_assoc]
            have hu2 := srcU_lt_pow (R := remB bs (p + k + 1)) (k := k)
            have hN1 : srcN (remB bs (p + k + 1)) (k : Int) = k := by rw [srcN_0 he]; exact Int.toNat_natCast k
            refine r_cons (s_move (.pointer (some ⟨b, 0, none⟩)) rfl rfl ?_)
            refine r_cons (s_move (.int .i64 (k : Int)) rfl rfl ?_)
            have H56 : St W w54 (blk b (.cells #[.bool true, .slice pp41 bs.length cc42, .int .i64 (((p : Nat) : Int) + ((k : Int) + 1))] 184 (0, 0)) :: Im 1 (.slice pp41 bs.length cc42) bs.length (bs.flatMap u8c) :: (F.set i emp)) := (((H55.move 2 rfl).move 2 rfl).drop 2 rfl)
            have H57 : St W w54 (blk b (.cells #[.bool true, .slice pp41 bs.length cc42, .int .i64 ((p + k + 1 : Nat) : Int)] 184 (0, 0)) :: Im 1 (.slice pp41 bs.length cc42) bs.length (bs.flatMap u8c) :: (F.set i emp)) := by rw [show ((p + k + 1 : Nat) : Int) = ((p : Nat) : Int) + ((k : Int) + 1) from by omega]; exact H56
            have H58 : St W w54 (SrcA b bs (p + k + 1) :: (F.set i emp)) := St.shut_ex (.slice pp41 bs.length cc42) (St.shut_star (ls := [blk b (.cells #[.bool true, .slice pp41 bs.length cc42, .int .i64 ((p + k + 1 : Nat) : Int)] 184 (0, 0)), Im 1 (.slice pp41 bs.length cc42) bs.length (bs.flatMap u8c)]) H57)
            refine r_cons (s_call [.pointer (some ⟨b, 0, none⟩), .int .i64 (k : Int)] pl_119 rfl rfl (Src_Bits b bs (p + k + 1) (by first | omega | decide +kernel | (repeat (first | assumption | exact Nat.zero_le _ | refine natN_pos ?_ | refine srcN_pos ?_ | refine textN_pos ?_))) (by first | omega | decide +kernel) (k : Int)  (i := 0) rfl H58) ?_)
            rintro _ w59 ⟨rfl, H60⟩
            refine r_cons (s_move (.tuple #[.int .u64 (srcU (remB bs (p + k + 1)) (k : Int) : Int), .int .i64 (srcE (remB bs (p + k + 1)) (k : Int))]) rfl rfl ?_)
            refine r_cons (s_extract (.int .u64 (srcU (remB bs (p + k + 1)) (k : Int) : Int)) #[.int .u64 (srcU (remB bs (p + k + 1)) (k : Int) : Int), .int .i64 (srcE (remB bs (p + k + 1)) (k : Int))] rfl rfl rfl ?_)
            refine r_cons (s_extract (.int .i64 (srcE (remB bs (p + k + 1)) (k : Int))) #[.int .u64 (srcU (remB bs (p + k + 1)) (k : Int) : Int), .int .i64 (srcE (remB bs (p + k + 1)) (k : Int))] rfl rfl rfl ?_)
            refine r_cons (s_assign (.int .u64 (srcU (remB bs (p + k + 1)) (k : Int) : Int)) rfl rfl ?_)
            refine r_cons (s_assign (.int .i64 (srcE (remB bs (p + k + 1)) (k : Int))) rfl rfl ?_)
            refine r_nil ?_
            refine g_seq ?_
            refine g_seq ?_
            refine g_region ?_
            refine r_cons (s_move (.pointer (some ⟨b, 0, none⟩)) rfl rfl ?_)
            refine r_cons (s_move (.int .i64 ((p : Nat) : Int)) rfl rfl ?_)
            refine r_cons (s_move (.int .i64 (srcE (remB bs (p + k + 1)) (k : Int))) rfl rfl ?_)
            refine r_cons (s_call [.pointer (some ⟨b, 0, none⟩), .int .i64 ((p : Nat) : Int), .int .i64 (srcE (remB bs (p + k + 1)) (k : Int))] pl_118 rfl rfl (Src_back_ok b bs (p + k + 1 + srcN (remB bs (p + k + 1)) (k : Int)) ((p : Nat) : Int) (srcE (remB bs (p + k + 1)) (k : Int)) he (i := 0) rfl H60) ?_)
            rintro _ w61 ⟨rfl, H62⟩
            refine r_cons (s_neq false rfl rfl (ntrue he) rfl ?_)
            refine r_nil ?_
            refine g_false rfl ?_
            refine g_skip ?_
            refine g_seq ?_
            refine g_seq ?_
            refine g_region ?_
            refine r_cons (s_move (.int .i64 (k : Int)) rfl rfl ?_)
            by_cases hc63 : (k : Int) = 64
            · skip
              refine r_cons (s_eql true rfl rfl (dtrue hc63) rfl ?_)
              refine r_nil ?_
              refine g_true rfl ?_
              refine g_seq ?_
              refine g_seq ?_
              refine g_region ?_
              refine r_cons (s_move (.int .u64 (srcU (remB bs (p + k + 1)) (k : Int) : Int)) rfl rfl ?_)
              by_cases hc64 : (srcU (remB bs (p + k + 1)) (k : Int) : Int) = 0
              · skip
                refine r_cons (s_neq false rfl rfl (ntrue hc64) rfl ?_)
                refine r_nil ?_
                refine g_false rfl ?_
                refine g_skip ?_
                refine g_seq ?_
                refine g_region ?_
                refine r_cons (s_assign (.int .u64 18446744073709551615) rfl rfl ?_)
                refine r_cons (s_assign (.int .i64 0) rfl rfl ?_)
                refine r_nil ?_
                refine g_ret' [.int .u64 18446744073709551615, .int .i64 0] Try.func116 Try.results116 ⟨rfl, rfl, trivial⟩ ?_
                have H65 : St W w61 (SrcA b bs (p + k + 1 + srcN (remB bs (p + k + 1)) (k : Int)) :: (F.set i emp)) := H62
                have hE : natE (remB bs p) = 0 := natE_0 (by omega) (by omega) (by rw [← hu1]; omega)
                have hN : natN (remB bs p) = k + 1 + k := by rw [natN_0 hE]; omega
                have hU : natU (remB bs p) = 18446744073709551615 := by exact natU_64 hE (by omega)
                have hP : p + natN (remB bs p) = p + k + 1 + srcN (remB bs (p + k + 1)) (k : Int) := by rw [hN, hN1]; omega
                have hv : (natU (remB bs p) : Int) = 18446744073709551615 := by rw [hU]; rfl
                exact ⟨by rw [hE, hv]; rfl, by rw [hP]; exact St.back hi H65⟩
              · skip
                refine r_cons (s_neq true rfl rfl (nfalse hc64) rfl ?_)
                refine r_nil ?_
                refine g_true rfl ?_
                refine g_seq ?_
                refine g_region ?_
                refine r_cons (s_move (.pointer (some ⟨b, 0, none⟩)) rfl rfl ?_)
                refine r_cons (s_move (.int .i64 ((p : Nat) : Int)) rfl rfl ?_)
                refine r_cons (s_call [.pointer (some ⟨b, 0, none⟩), .int .i64 ((p : Nat) : Int), .int .i64 11] pl_118 rfl rfl (Src_back_no b bs (p + k + 1 + srcN (remB bs (p + k + 1)) (k : Int)) (p) 11 (by decide) (i := 0) rfl H62) ?_)
                rintro _ w66 ⟨rfl, H67⟩
                refine r_cons (s_assign (.int .u64 0) rfl rfl ?_)
                refine r_cons (s_assign (.int .i64 11) rfl rfl ?_)
                refine r_nil ?_
                refine g_ret' [.int .u64 0, .int .i64 11] Try.func116 Try.results116 ⟨rfl, rfl, trivial⟩ ?_
                have H68 : St W w66 (SrcA b bs p :: (F.set i emp)) := H67
                have hE : natE (remB bs p) = 11 := by first | exact natE_65 (by omega) | exact natE_11 (by omega) (by omega) (by rw [← hu1]; omega)
                have hE0 : ¬ natE (remB bs p) = 0 := by rw [hE]; decide
                exact ⟨by rw [natU_no hE0, hE]; rfl, by rw [natN_no hE0]; exact St.back hi H68⟩
            · skip
              refine r_cons (s_eql false rfl rfl (dfalse hc63) rfl ?_)
              refine r_nil ?_
              refine g_false rfl ?_
              refine g_skip ?_
              refine g_seq ?_
              refine g_region ?_
              have hpw := pow_le63 (k := k) (by omega)
              refine r_cons (s_move (.int .u64 (srcU (remB bs (p + k + 1)) (k : Int) : Int)) rfl rfl ?_)
              refine r_cons (s_move (.int .i64 (k : Int)) rfl rfl ?_)
              refine r_cons (s_shl ((2 ^ k : Nat) : Int) rfl rfl (by omega) (shl_one rfl (by omega)) rfl ?_)
              have hq : 0 < 2 ^ k := Nat.pow_pos (by decide)
              refine r_cons (s_add ((srcU (remB bs (p + k + 1)) (k : Int) + 2 ^ k : Nat) : Int) rfl rfl ((wu64 (by generalize 2 ^ k = q at *; omega)).trans (by generalize 2 ^ k = q at *; omega)) rfl ?_)
              refine r_cons (s_sub ((srcU (remB bs (p + k + 1)) (k : Int) + 2 ^ k - 1 : Nat) : Int) rfl rfl ((wu64 (by generalize 2 ^ k = q at *; omega)).trans (by generalize 2 ^ k = q at *; omega)) rfl ?_)
              refine r_cons (s_assign (.int .u64 ((srcU (remB bs (p + k + 1)) (k : Int) + 2 ^ k - 1 : Nat) : Int)) rfl rfl ?_)
              refine r_cons (s_assign (.int .i64 0) rfl rfl ?_)
              refine r_nil ?_
              refine g_ret' [.int .u64 ((srcU (remB bs (p + k + 1)) (k : Int) + 2 ^ k - 1 : Nat) : Int), .int .i64 0] Try.func116 Try.results116 ⟨rfl, rfl, trivial⟩ ?_
              have H69 : St W w61 (SrcA b bs (p + k + 1 + srcN (remB bs (p + k + 1)) (k : Int)) :: (F.set i emp)) := H62
              have hE : natE (remB bs p) = 0 := natE_0 (by omega) (by omega) (by rw [← hu1]; omega)
              have hN : natN (remB bs p) = k + 1 + k := by rw [natN_0 hE]; omega
              have hU : natU (remB bs p) = valOf (((remB bs p).drop (zeros (remB bs p) + 1)).take (zeros (remB bs p))) + 2 ^ k - 1 := by rw [natU_is hE (by omega), hzz]
              have hP : p + natN (remB bs p) = p + k + 1 + srcN (remB bs (p + k + 1)) (k : Int) := by rw [hN, hN1]; omega
              have hv : (natU (remB bs p) : Int) = ((srcU (remB bs (p + k + 1)) (k : Int) + 2 ^ k - 1 : Nat) : Int) := by rw [hU, ← hu1]; skip
              exact ⟨by rw [hE, hv]; rfl, by rw [hP]; exact St.back hi H69⟩
      · skip
        refine s_lss false rfl rfl (dfalse hc28) rfl ?_
        refine r_cons (s_pick_t (.bool false) rfl rfl rfl ?_)
        refine r_cons (s_move (.bool false) rfl rfl ?_)
        refine r_cons (r_pass rfl rfl rfl rfl rfl ?_)
        refine r_cons (r_pass rfl rfl rfl rfl rfl ?_)
        refine r_cons (r_pass rfl rfl rfl rfl rfl ?_)
        refine r_cons (r_pass rfl rfl rfl rfl rfl ?_)
        refine r_cons (r_pass rfl rfl rfl rfl rfl ?_)
        refine r_cons (r_pass rfl rfl rfl rfl rfl ?_)
        refine r_cons (s_pick_f (.bool false) rfl rfl rfl ?_)
        refine r_nil ?_
        refine g_false rfl ?_
        refine g_exit (by rfl) ?_
        refine g_seq ?_
        refine g_block ?_
        refine g_seq ?_
        refine g_region ?_
        have hzz : zeros (remB bs p) = k := zeros_is hk hkr hz (by first | (left; omega) | (right; left; omega) | (right; right; rw [remB_getD (by omega)]; exact Bool.of_not_eq_false fun h => absurd (toNat_1.2 h) ‹_›))
        clear hz
        refine r_cons (s_move (.int .i64 (k : Int)) rfl rfl ?_)
        refine r_cons (s_eql false rfl rfl (dfalse (by omega)) rfl ?_)
        refine r_cons (s_assign (.bool false) rfl rfl ?_)
        refine r_nil ?_
        refine g_false rfl ?_
        refine g_seq ?_
        refine g_region ?_
        refine r_cons (s_move (.pointer (some ⟨b, 0, none⟩)) rfl rfl ?_)
        refine r_cons (s_call [.pointer (some ⟨b, 0, none⟩)] pl_117 rfl rfl (Src_Left b bs p (by first | omega | decide +kernel | (repeat (first | assumption | exact Nat.zero_le _ | refine natN_pos ?_ | refine srcN_pos ?_ | refine textN_pos ?_))) (by first | omega | decide +kernel)   (i := 0) rfl H27) ?_)
        rintro _ w70 ⟨rfl, H71⟩
        refine r_cons (s_move (.int .i64 (k : Int)) rfl rfl ?_)
        refine r_cons (s_mul (2 * (k : Int)) rfl rfl (wi64 (by omega)) rfl ?_)
        refine r_cons (s_add (2 * (k : Int) + 1) rfl rfl (wi64 (by omega)) rfl ?_)
        by_cases hc72 : ((remB bs p).length : Int) < 2 * (k : Int) + 1
        · skip
          refine r_cons (s_lss true rfl rfl (dtrue hc72) rfl ?_)
          refine r_cons (s_assign (.bool true) rfl rfl ?_)
          refine r_nil ?_
          refine g_true rfl ?_
          refine g_seq ?_
          refine g_region ?_
          refine r_cons (s_assign (.int .u64 0) rfl rfl ?_)
          refine r_cons (s_assign (.int .i64 10) rfl rfl ?_)
          refine r_nil ?_
          refine g_ret' [.int .u64 0, .int .i64 10] Try.func116 Try.results116 ⟨rfl, rfl, trivial⟩ ?_
          have H73 : St W w70 (SrcA b bs p :: (F.set i emp)) := H71
          have hE : natE (remB bs p) = 10 := natE_10 (by omega) (by omega)
          have hE0 : ¬ natE (remB bs p) = 0 := by rw [hE]; decide
          exact ⟨by rw [natU_no hE0, hE]; rfl, by rw [natN_no hE0]; exact St.back hi H73⟩
        · skip
          refine r_cons (s_lss false rfl rfl (dfalse hc72) rfl ?_)
          refine r_cons (s_assign (.bool false) rfl rfl ?_)
          refine r_nil ?_
          refine g_false rfl ?_
          refine g_skip ?_
          refine g_inBlock ?_
          refine g_seq ?_
          refine g_region ?_
          refine r_cons (s_move (.pointer (some ⟨b, 0, none⟩)) rfl rfl ?_)
          refine r_cons (s_nilCheck (.pointer (some ⟨b, 0, none⟩)) rfl ⟨_, rfl⟩ rfl ?_)
          refine r_cons (s_fieldAddr 184 2 2 2 3 rfl fi_184_2 rfl rfl ?_)
          have H74 := H71.move 0 rfl
          obtain ⟨vv75, H76⟩ := St.open_ex H74
          have H77 := St.open_star H76
          obtain ⟨pp78, cc79, gA80, oA81, kA82, eA83, zA84, rfl, hn85, hp86, hx87, hs88, hml, H89⟩ := Im.open_ H77 (i := 1) rfl
          have H90 : St W w70 (imi (0 < bs.length) gA80 (.cells kA82 eA83 zA84) :: blk b (.cells #[.bool true, .slice pp78 bs.length cc79, .int .i64 ((p : Nat) : Int)] 184 (0, 0)) :: Im 1 (.slice pp78 bs.length cc79) bs.length (bs.flatMap u8c) :: (F.set i emp)) := H89
          refine r_cons (s_load (.int .i64 ((p : Nat) : Int)) ag_3 rfl (H90.blk_at (i := 1) rfl) rfl rfl ?_)
          refine r_cons (s_move (.int .i64 (k : Int)) rfl rfl ?_)
          refine r_cons (s_add ((k : Int) + 1) rfl rfl (wi64 (by omega)) rfl ?_)
          refine r_cons (s_add (((p : Nat) : Int) + ((k : Int) + 1)) rfl rfl (wi64 (by omega)) rfl ?_)
          refine r_cons (s_nilCheck (.pointer (some ⟨b, 0, none⟩)) rfl ⟨_, rfl⟩ rfl ?_)
          refine r_cons (s_fieldAddr 184 2 2 2 3 rfl fi_184_2 rfl rfl ?_)
          refine r_cons (s_store H90 1 (.int .i64 (((p : Nat) : Int) + ((k : Int) + 1))) rfl rfl rfl sz_3 rfl (Nat.le_of_ble_eq_true rfl) rfl (cs' := #[.bool true, .slice pp78 bs.length cc79, .int .i64 (((p : Nat) : Int) + ((k : Int) + 1))]) rfl ?_); intro w91 H92
          refine r_nil ?_
          refine g_seq ?_
          refine g_region ?_
          have hL1 := remB_len bs (p + k + 1)
          have he : srcE (remB bs (p + k + 1)) (k : Int) = 0 := srcE_0 (by omega) (by omega)
          have hu1 : srcU (remB bs (p + k + 1)) (k : Int) = valOf (((remB bs p).drop (zeros (remB bs p) + 1)).take (zeros (remB bs p))) := by rw [srcU_0 he, hzz, Int.toNat_natCast, remB_drop, Nat.add_assoc]
          have hu2 := srcU_lt_pow (R := remB bs (p + k + 1)) (k := k)
          have hN1 : srcN (remB bs (p + k + 1)) (k : Int) = k := by rw [srcN_0 he]; exact Int.toNat_natCast k
          refine r_cons (s_move (.pointer (some ⟨b, 0, none⟩)) rfl rfl ?_)
          refine r_cons (s_move (.int .i64 (k : Int)) rfl rfl ?_)
          have H93 : St W w91 (blk b (.cells #[.bool true, .slice pp78 bs.length cc79, .int .i64 (((p : Nat) : Int) + ((k : Int) + 1))] 184 (0, 0)) :: Im 1 (.slice pp78 bs.length cc79) bs.length (bs.flatMap u8c) :: (F.set i emp)) := (((H92.move 2 rfl).move 2 rfl).drop 2 rfl)
          have H94 : St W w91 (blk b (.cells #[.bool true, .slice pp78 bs.length cc79, .int .i64 ((p + k + 1 : Nat) : Int)] 184 (0, 0)) :: Im 1 (.slice pp78 bs.length cc79) bs.length (bs.flatMap u8c) :: (F.set i emp)) := by rw [show ((p + k + 1 : Nat) : Int) = ((p : Nat) : Int) + ((k : Int) + 1) from by omega]; exact H93
          have H95 : St W w91 (SrcA b bs (p + k + 1) :: (F.set i emp)) := St.shut_ex (.slice pp78 bs.length cc79) (St.shut_star (ls := [blk b (.cells #[.bool true, .slice pp78 bs.length cc79, .int .i64 ((p + k + 1 : Nat) : Int)] 184 (0, 0)), Im 1 (.slice pp78 bs.length cc79) bs.length (bs.flatMap u8c)]) H94)
          refine r_cons (s_call [.pointer (some ⟨b, 0, none⟩), .int .i64 (k : Int)] pl_119 rfl rfl (Src_Bits b bs (p + k + 1) (by first | omega | decide +kernel | (repeat (first | assumption | exact Nat.zero_le _ | refine natN_pos ?_ | refine srcN_pos ?_ | refine textN_pos ?_))) (by first | omega | decide +kernel) (k : Int)  (i := 0) rfl H95) ?_)
          rintro _ w96 ⟨rfl, H97⟩
          refine r_cons (s_move (.tuple #[.int .u64 (srcU (remB bs (p + k + 1)) (k : Int) : Int), .int .i64 (srcE (remB bs (p + k + 1)) (k : Int))]) rfl rfl ?_)
          refine r_cons (s_extract (.int .u64 (srcU (remB bs (p + k + 1)) (k : Int) : Int)) #[.int .u64 (srcU (remB bs (p + k + 1)) (k : Int) : Int), .int .i64 (srcE (remB bs (p + k + 1)) (k : Int))] rfl rfl rfl ?_)
          refine r_cons (s_extract (.int .i64 (srcE (remB bs (p + k + 1)) (k : Int))) #[.int .u64 (srcU (remB bs (p + k + 1)) (k : Int) : Int), .int .i64 (srcE (remB bs (p + k + 1)) (k : Int))] rfl rfl rfl ?_)
          refine r_cons (s_assign (.int .u64 (srcU (remB bs (p + k + 1)) (k : Int) : Int)) rfl rfl ?_)
          refine r_cons (s_assign (.int .i64 (srcE (remB bs (p + k + 1)) (k : Int))) rfl rfl ?_)
          refine r_nil ?_
          refine g_seq ?_
          refine g_seq ?_
          refine g_region ?_
          refine r_cons (s_move (.pointer (some ⟨b, 0, none⟩)) rfl rfl ?_)
          refine r_cons (s_move (.int .i64 ((p : Nat) : Int)) rfl rfl ?_)
          refine r_cons (s_move (.int .i64 (srcE (remB bs (p + k + 1)) (k : Int))) rfl rfl ?_)
          refine r_cons (s_call [.pointer (some ⟨b, 0, none⟩), .int .i64 ((p : Nat) : Int), .int .i64 (srcE (remB bs (p + k + 1)) (k : Int))] pl_118 rfl rfl (Src_back_ok b bs (p + k + 1 + srcN (remB bs (p + k + 1)) (k : Int)) ((p : Nat) : Int) (srcE (remB bs (p + k + 1)) (k : Int)) he (i := 0) rfl H97) ?_)
          rintro _ w98 ⟨rfl, H99⟩
          refine r_cons (s_neq false rfl rfl (ntrue he) rfl ?_)
          refine r_nil ?_
          refine g_false rfl ?_
          refine g_skip ?_
          refine g_seq ?_
          refine g_seq ?_
          refine g_region ?_
          refine r_cons (s_move (.int .i64 (k : Int)) rfl rfl ?_)
          by_cases hc100 : (k : Int) = 64
          · skip
            refine r_cons (s_eql true rfl rfl (dtrue hc100) rfl ?_)
            refine r_nil ?_
            refine g_true rfl ?_
            refine g_seq ?_
            refine g_seq ?_
            refine g_region ?_
            refine r_cons (s_move (.int .u64 (srcU (remB bs (p + k + 1)) (k : Int) : Int)) rfl rfl ?_)
            by_cases hc101 : (srcU (remB bs (p + k + 1)) (k : Int) : Int) = 0
            · skip
              refine r_cons (s_neq false rfl rfl (ntrue hc101) rfl ?_)
              refine r_nil ?_
              refine g_false rfl ?_
              refine g_skip ?_
              refine g_seq ?_
              refine g_region ?_
              refine r_cons (s_assign (.int .u64 18446744073709551615) rfl rfl ?_)
              refine r_cons (s_assign (.int .i64 0) rfl rfl ?_)
              refine r_nil ?_
              refine g_ret' [.int .u64 18446744073709551615, .int .i64 0] Try.func116 Try.results116 ⟨rfl, rfl, trivial⟩ ?_
              have H102 : St W w98 (SrcA b bs (p + k + 1 + srcN (remB bs (p + k + 1)) (k : Int)) :: (F.set i emp)) := H99
              have hE : natE (remB bs p) = 0 := natE_0 (by omega) (by omega) (by rw [← hu1]; omega)
              have hN : natN (remB bs p) = k + 1 + k := by rw [natN_0 hE]; omega
              have hU : natU (remB bs p) = 18446744073709551615 := by exact natU_64 hE (by omega)
              have hP : p + natN (remB bs p) = p + k + 1 + srcN (remB bs (p + k + 1)) (k : Int) := by rw [hN, hN1]; omega
              have hv : (natU (remB bs p) : Int) = 18446744073709551615 := by rw [hU]; rfl
              exact ⟨by rw [hE, hv]; rfl, by rw [hP]; exact St.back hi H102⟩
            · skip
              refine r_cons (s_neq true rfl rfl (nfalse hc101) rfl ?_)
              refine r_nil ?_
              refine g_true rfl ?_
              refine g_seq ?_
              refine g_region ?_
              refine r_cons (s_move (.pointer (some ⟨b, 0, none⟩)) rfl rfl ?_)
              refine r_cons (s_move (.int .i64 ((p : Nat) : Int)) rfl rfl ?_)
              refine r_cons (s_call [.pointer (some ⟨b, 0, none⟩), .int .i64 ((p : Nat) : Int), .int .i64 11] pl_118 rfl rfl (Src_back_no b bs (p + k + 1 + srcN (remB bs (p + k + 1)) (k : Int)) (p) 11 (by decide) (i := 0) rfl H99) ?_)
              rintro _ w103 ⟨rfl, H104⟩
              refine r_cons (s_assign (.int .u64 0) rfl rfl ?_)
              refine r_cons (s_assign (.int .i64 11) rfl rfl ?_)
              refine r_nil ?_
              refine g_ret' [.int .u64 0, .int .i64 11] Try.func116 Try.results116 ⟨rfl, rfl, trivial⟩ ?_
              have H105 : St W w103 (SrcA b bs p :: (F.set i emp)) := H104
              have hE : natE (remB bs p) = 11 := by first | exact natE_65 (by omega) | exact natE_11 (by omega) (by omega) (by rw [← hu1]; omega)
              have hE0 : ¬ natE (remB bs p) = 0 := by rw [hE]; decide
              exact ⟨by rw [natU_no hE0, hE]; rfl, by rw [natN_no hE0]; exact St.back hi H105⟩
          · skip
            refine r_cons (s_eql false rfl rfl (dfalse hc100) rfl ?_)
            refine r_nil ?_
            refine g_false rfl ?_
            refine g_skip ?_
            refine g_seq ?_
            refine g_region ?_
            have hpw := pow_le63 (k := k) (by omega)
            refine r_cons (s_move (.int .u64 (srcU (remB bs (p + k + 1)) (k : Int) : Int)) rfl rfl ?_)
            refine r_cons (s_move (.int .i64 (k : Int)) rfl rfl ?_)
            refine r_cons (s_shl ((2 ^ k : Nat) : Int) rfl rfl (by omega) (shl_one rfl (by omega)) rfl ?_)
            have hq : 0 < 2 ^ k := Nat.pow_pos (by decide)
            refine r_cons (s_add ((srcU (remB bs (p + k + 1)) (k : Int) + 2 ^ k : Nat) : Int) rfl rfl ((wu64 (by generalize 2 ^ k = q at *; omega)).trans (by generalize 2 ^ k = q at *; omega)) rfl ?_)
            refine r_cons (s_sub ((srcU (remB bs (p + k + 1)) (k : Int) + 2 ^ k - 1 : Nat) : Int) rfl rfl ((wu64 (by generalize 2 ^ k = q at *; omega)).trans (by generalize 2 ^ k = q at *; omega)) rfl ?_)
            refine r_cons (s_assign (.int .u64 ((srcU (remB bs (p + k + 1)) (k : Int) + 2 ^ k - 1 : Nat) : Int)) rfl rfl ?_)
            refine r_cons (s_assign (.int .i64 0) rfl rfl ?_)
            refine r_nil ?_
            refine g_ret' [.int .u64 ((srcU (remB bs (p + k + 1)) (k : Int) + 2 ^ k - 1 : Nat) : Int), .int .i64 0] Try.func116 Try.results116 ⟨rfl, rfl, trivial⟩ ?_
            have H106 : St W w98 (SrcA b bs (p + k + 1 + srcN (remB bs (p + k + 1)) (k : Int)) :: (F.set i emp)) := H99
            have hE : natE (remB bs p) = 0 := natE_0 (by omega) (by omega) (by rw [← hu1]; omega)
            have hN : natN (remB bs p) = k + 1 + k := by rw [natN_0 hE]; omega
            have hU : natU (remB bs p) = valOf (((remB bs p).drop (zeros (remB bs p) + 1)).take (zeros (remB bs p))) + 2 ^ k - 1 := by rw [natU_is hE (by omega), hzz]
            have hP : p + natN (remB bs p) = p + k + 1 + srcN (remB bs (p + k + 1)) (k : Int) := by rw [hN, hN1]; omega
            have hv : (natU (remB bs p) : Int) = ((srcU (remB bs (p + k + 1)) (k : Int) + 2 ^ k - 1 : Nat) : Int) := by rw [hU, ← hu1]; skip
            exact ⟨by rw [hE, hv]; rfl, by rw [hP]; exact St.back hi H106⟩
    · skip
      refine r_cons (s_lss false rfl rfl (dfalse hc25) rfl ?_)
      refine r_cons (s_move (.bool false) rfl rfl ?_)
      refine r_cons (r_pass rfl rfl rfl rfl rfl ?_)
      refine r_cons (r_pass rfl rfl rfl rfl rfl ?_)
      refine r_cons (r_pass rfl rfl rfl rfl rfl ?_)
      refine r_cons (r_pass rfl rfl rfl rfl rfl ?_)
      refine r_cons (s_pick_f (.bool false) rfl rfl rfl ?_)
      refine r_cons (s_move (.bool false) rfl rfl ?_)
      refine r_cons (r_pass rfl rfl rfl rfl rfl ?_)
      refine r_cons (r_pass rfl rfl rfl rfl rfl ?_)
      refine r_cons (r_pass rfl rfl rfl rfl rfl ?_)
      refine r_cons (r_pass rfl rfl rfl rfl rfl ?_)
      refine r_cons (r_pass rfl rfl rfl rfl rfl ?_)
      refine r_cons (r_pass rfl rfl rfl rfl rfl ?_)
      refine r_cons (s_pick_f (.bool false) rfl rfl rfl ?_)
      refine r_nil ?_
      refine g_false rfl ?_
      refine g_exit (by rfl) ?_
      refine g_seq ?_
      refine g_block ?_
      refine g_seq ?_
      refine g_region ?_
      have hzz : zeros (remB bs p) = k := zeros_is hk hkr hz (by first | (left; omega) | (right; left; omega) | (right; right; rw [remB_getD (by omega)]; exact Bool.of_not_eq_false fun h => absurd (toNat_1.2 h) ‹_›))
      clear hz
      refine r_cons (s_move (.int .i64 (k : Int)) rfl rfl ?_)
      by_cases hc107 : (k : Int) = 65
      · skip
        refine r_cons (s_eql true rfl rfl (dtrue hc107) rfl ?_)
        refine r_cons (s_assign (.bool true) rfl rfl ?_)
        refine r_nil ?_
        refine g_true rfl ?_
        refine g_seq ?_
        refine g_region ?_
        refine r_cons (s_assign (.int .u64 0) rfl rfl ?_)
        refine r_cons (s_assign (.int .i64 11) rfl rfl ?_)
        refine r_nil ?_
        refine g_ret' [.int .u64 0, .int .i64 11] Try.func116 Try.results116 ⟨rfl, rfl, trivial⟩ ?_
        have H108 : St W w22 (SrcA b bs p :: (F.set i emp)) := H23
        have hE : natE (remB bs p) = 11 := by first | exact natE_65 (by omega) | exact natE_11 (by omega) (by omega) (by rw [← hu1]; omega)
        have hE0 : ¬ natE (remB bs p) = 0 := by rw [hE]; decide
        exact ⟨by rw [natU_no hE0, hE]; rfl, by rw [natN_no hE0]; exact St.back hi H108⟩
      · skip
        refine r_cons (s_eql false rfl rfl (dfalse hc107) rfl ?_)
        refine r_cons (s_assign (.bool false) rfl rfl ?_)
        refine r_nil ?_
        refine g_false rfl ?_
        refine g_seq ?_
        refine g_region ?_
        refine r_cons (s_move (.pointer (some ⟨b, 0, none⟩)) rfl rfl ?_)
        refine r_cons (s_call [.pointer (some ⟨b, 0, none⟩)] pl_117 rfl rfl (Src_Left b bs p (by first | omega | decide +kernel | (repeat (first | assumption | exact Nat.zero_le _ | refine natN_pos ?_ | refine srcN_pos ?_ | refine textN_pos ?_))) (by first | omega | decide +kernel)   (i := 0) rfl H23) ?_)
        rintro _ w109 ⟨rfl, H110⟩
        refine r_cons (s_move (.int .i64 (k : Int)) rfl rfl ?_)
        refine r_cons (s_mul (2 * (k : Int)) rfl rfl (wi64 (by omega)) rfl ?_)
        refine r_cons (s_add (2 * (k : Int) + 1) rfl rfl (wi64 (by omega)) rfl ?_)
        by_cases hc111 : ((remB bs p).length : Int) < 2 * (k : Int) + 1
        · skip
          refine r_cons (s_lss true rfl rfl (dtrue hc111) rfl ?_)
          refine r_cons (s_assign (.bool true) rfl rfl ?_)
          refine r_nil ?_
          refine g_true rfl ?_
          refine g_seq ?_
          refine g_region ?_
          refine r_cons (s_assign (.int .u64 0) rfl rfl ?_)
          refine r_cons (s_assign (.int .i64 10) rfl rfl ?_)
          refine r_nil ?_
          refine g_ret' [.int .u64 0, .int .i64 10] Try.func116 Try.results116 ⟨rfl, rfl, trivial⟩ ?_
          have H112 : St W w109 (SrcA b bs p :: (F.set i emp)) := H110
          have hE : natE (remB bs p) = 10 := natE_10 (by omega) (by omega)
          have hE0 : ¬ natE (remB bs p) = 0 := by rw [hE]; decide
          exact ⟨by rw [natU_no hE0, hE]; rfl, by rw [natN_no hE0]; exact St.back hi H112⟩
        · skip
          refine r_cons (s_lss false rfl rfl (dfalse hc111) rfl ?_)
          refine r_cons (s_assign (.bool false) rfl rfl ?_)
          refine r_nil ?_
          refine g_false rfl ?_
          refine g_skip ?_
          refine g_inBlock ?_
          refine g_seq ?_
          refine g_region ?_
          refine r_cons (s_move (.pointer (some ⟨b, 0, none⟩)) rfl rfl ?_)
          refine r_cons (s_nilCheck (.pointer (some ⟨b, 0, none⟩)) rfl ⟨_, rfl⟩ rfl ?_)
          refine r_cons (s_fieldAddr 184 2 2 2 3 rfl fi_184_2 rfl rfl ?_)
          have H113 := H110.move 0 rfl
          obtain ⟨vv114, H115⟩ := St.open_ex H113
          have H116 := St.open_star H115
          obtain ⟨pp117, cc118, gA119, oA120, kA121, eA122, zA123, rfl, hn124, hp125, hx126, hs127, hml, H128⟩ := Im.open_ H116 (i := 1) rfl
          have H129 : St W w109 (imi (0 < bs.length) gA119 (.cells kA121 eA122 zA123) :: blk b (.cells #[.bool true, .slice pp117 bs.length cc118, .int .i64 ((p : Nat) : Int)] 184 (0, 0)) :: Im 1 (.slice pp117 bs.length cc118) bs.length (bs.flatMap u8c) :: (F.set i emp)) := H128
          refine r_cons (s_load (.int .i64 ((p : Nat) : Int)) ag_3 rfl (H129.blk_at (i := 1) rfl) rfl rfl ?_)
          refine r_cons (s_move (.int .i64 (k : Int)) rfl rfl ?_)
          refine r_cons (s_add ((k : Int) + 1) rfl rfl (wi64 (by omega)) rfl ?_)
          refine r_cons (s_add (((p : Nat) : Int) + ((k : Int) + 1)) rfl rfl (wi64 (by omega)) rfl ?_)
          refine r_cons (s_nilCheck (.pointer (some ⟨b, 0, none⟩)) rfl ⟨_, rfl⟩ rfl ?_)
          refine r_cons (s_fieldAddr 184 2 2 2 3 rfl fi_184_2 rfl rfl ?_)
          refine r_cons (s_store H129 1 (.int .i64 (((p : Nat) : Int) + ((k : Int) + 1))) rfl rfl rfl sz_3 rfl (Nat.le_of_ble_eq_true rfl) rfl (cs' := #[.bool true, .slice pp117 bs.length cc118, .int .i64 (((p : Nat) : Int) + ((k : Int) + 1))]) rfl ?_); intro w130 H131
          refine r_nil ?_
          refine g_seq ?_
          refine g_region ?_
          have hL1 := remB_len bs (p + k + 1)
          have he : srcE (remB bs (p + k + 1)) (k : Int) = 0 := srcE_0 (by omega) (by omega)
          have hu1 : srcU (remB bs (p + k + 1)) (k : Int) = valOf (((remB bs p).drop (zeros (remB bs p) + 1)).take (zeros (remB bs p))) := by rw [srcU_0 he, hzz, Int.toNat_natCast, remB_drop, Nat.add_assoc]
          have hu2 := srcU_lt_pow (R := remB bs (p + k + 1)) (k := k)
          have hN1 : srcN (remB bs (p + k + 1)) (k : Int) = k := by rw [srcN_0 he]; exact Int.toNat_natCast k
          refine r_cons (s_move (.pointer (some ⟨b, 0, none⟩)) rfl rfl ?_)
          refine r_cons (s_move (.int .i64 (k : Int)) rfl rfl ?_)
          have H132 : St W w130 (blk b (.cells #[.bool true, .slice pp117 bs.length cc118, .int .i64 (((p : Nat) : Int) + ((k : Int) + 1))] 184 (0, 0)) :: Im 1 (.slice pp117 bs.length cc118) bs.length (bs.flatMap u8c) :: (F.set i emp)) := (((H131.move 2 rfl).move 2 rfl).drop 2 rfl)
          have H133 : St W w130 (blk b (.cells #[.bool true, .slice pp117 bs.length cc118, .int .i64 ((p + k + 1 : Nat) : Int)] 184 (0, 0)) :: Im 1 (.slice pp117 bs.length cc118) bs.length (bs.flatMap u8c) :: (F.set i emp)) := by rw [show ((p + k + 1 : Nat) : Int) = ((p : Nat) : Int) + ((k : Int) + 1) from by omega]; exact H132
          have H134 : St W w130 (SrcA b bs (p + k + 1) :: (F.set i emp)) := St.shut_ex (.slice pp117 bs.length cc118) (St.shut_star (ls := [blk b (.cells #[.bool true, .slice pp117 bs.length cc118, .int .i64 ((p + k + 1 : Nat) : Int)] 184 (0, 0)), Im 1 (.slice pp117 bs.length cc118) bs.length (bs.flatMap u8c)]) H133)
          refine r_cons (s_call [.pointer (some ⟨b, 0, none⟩), .int .i64 (k : Int)] pl_119 rfl rfl (Src_Bits b bs (p + k + 1) (by first | omega | decide +kernel | (repeat (first | assumption | exact Nat.zero_le _ | refine natN_pos ?_ | refine srcN_pos ?_ | refine textN_pos ?_))) (by first | omega | decide +kernel) (k : Int)  (i := 0) rfl H134) ?_)
          rintro _ w135 ⟨rfl, H136⟩
          refine r_cons (s_move (.tuple #[.int .u64 (srcU (remB bs (p + k + 1)) (k : Int) : Int), .int .i64 (srcE (remB bs (p + k + 1)) (k : Int))]) rfl rfl ?_)
          refine r_cons (s_extract (.int .u64 (srcU (remB bs (p + k + 1)) (k : Int) : Int)) #[.int .u64 (srcU (remB bs (p + k + 1)) (k : Int) : Int), .int .i64 (srcE (remB bs (p + k + 1)) (k : Int))] rfl rfl rfl ?_)
          refine r_cons (s_extract (.int .i64 (srcE (remB bs (p + k + 1)) (k : Int))) #[.int .u64 (srcU (remB bs (p + k + 1)) (k : Int) : Int), .int .i64 (srcE (remB bs (p + k + 1)) (k : Int))] rfl rfl rfl ?_)
          refine r_cons (s_assign (.int .u64 (srcU (remB bs (p + k + 1)) (k : Int) : Int)) rfl rfl ?_)
          refine r_cons (s_assign (.int .i64 (srcE (remB bs (p + k + 1)) (k : Int))) rfl rfl ?_)
          refine r_nil ?_
          refine g_seq ?_
          refine g_seq ?_
          refine g_region ?_
          refine r_cons (s_move (.pointer (some ⟨b, 0, none⟩)) rfl rfl ?_)
          refine r_cons (s_move (.int .i64 ((p : Nat) : Int)) rfl rfl ?_)
          refine r_cons (s_move (.int .i64 (srcE (remB bs (p + k + 1)) (k : Int))) rfl rfl ?_)
          refine r_cons (s_call [.pointer (some ⟨b, 0, none⟩), .int .i64 ((p : Nat) : Int), .int .i64 (srcE (remB bs (p + k + 1)) (k : Int))] pl_118 rfl rfl (Src_back_ok b bs (p + k + 1 + srcN (remB bs (p + k + 1)) (k : Int)) ((p : Nat) : Int) (srcE (remB bs (p + k + 1)) (k : Int)) he (i := 0) rfl H136) ?_)
          rintro _ w137 ⟨rfl, H138⟩
          refine r_cons (s_neq false rfl rfl (ntrue he) rfl ?_)
          refine r_nil ?_
          refine g_false rfl ?_
          refine g_skip ?_
          refine g_seq ?_
          refine g_seq ?_
          refine g_region ?_
          refine r_cons (s_move (.int .i64 (k : Int)) rfl rfl ?_)
          refine r_cons (s_eql false rfl rfl (dfalse (by omega)) rfl ?_)
          refine r_nil ?_
          refine g_false rfl ?_
          refine g_skip ?_
          refine g_seq ?_
          refine g_region ?_
          have hpw := pow_le63 (k := k) (by omega)
          refine r_cons (s_move (.int .u64 (srcU (remB bs (p + k + 1)) (k : Int) : Int)) rfl rfl ?_)
          refine r_cons (s_move (.int .i64 (k : Int)) rfl rfl ?_)
          refine r_cons (s_shl ((2 ^ k : Nat) : Int) rfl rfl (by omega) (shl_one rfl (by omega)) rfl ?_)
          have hq : 0 < 2 ^ k := Nat.pow_pos (by decide)
          refine r_cons (s_add ((srcU (remB bs (p + k + 1)) (k : Int) + 2 ^ k : Nat) : Int) rfl rfl ((wu64 (by generalize 2 ^ k = q at *; omega)).trans (by generalize 2 ^ k = q at *; omega)) rfl ?_)
          refine r_cons (s_sub ((srcU (remB bs (p + k + 1)) (k : Int) + 2 ^ k - 1 : Nat) : Int) rfl rfl ((wu64 (by generalize 2 ^ k = q at *; omega)).trans (by generalize 2 ^ k = q at *; omega)) rfl ?_)
          refine r_cons (s_assign (.int .u64 ((srcU (remB bs (p + k + 1)) (k : Int) + 2 ^ k - 1 : Nat) : Int)) rfl rfl ?_)
          refine r_cons (s_assign (.int .i64 0) rfl rfl ?_)
          refine r_nil ?_
          refine g_ret' [.int .u64 ((srcU (remB bs (p + k + 1)) (k : Int) + 2 ^ k - 1 : Nat) : Int), .int .i64 0] Try.func116 Try.results116 ⟨rfl, rfl, trivial⟩ ?_
          have H139 : St W w137 (SrcA b bs (p + k + 1 + srcN (remB bs (p + k + 1)) (k : Int)) :: (F.set i emp)) := H138
          have hE : natE (remB bs p) = 0 := natE_0 (by omega) (by omega) (by rw [← hu1]; omega)
          have hN : natN (remB bs p) = k + 1 + k := by rw [natN_0 hE]; omega
          have hU : natU (remB bs p) = valOf (((remB bs p).drop (zeros (remB bs p) + 1)).take (zeros (remB bs p))) + 2 ^ k - 1 := by rw [natU_is hE (by omega), hzz]
          have hP : p + natN (remB bs p) = p + k + 1 + srcN (remB bs (p + k + 1)) (k : Int) := by rw [hN, hN1]; omega
          have hv : (natU (remB bs p) : Int) = ((srcU (remB bs (p + k + 1)) (k : Int) + 2 ^ k - 1 : Nat) : Int) := by rw [hU, ← hu1]; skip
          exact ⟨by rw [hE, hv]; rfl, by rw [hP]; exact St.back hi H139⟩
set_option maxHeartbeats 4000000 in
set_option maxRecDepth 100000 in
theorem Src_End {W w : World} {F : List Atom} (b : Nat) (bs : List UInt8) (p : Nat) (hp : p ≤ 8 * bs.length) (hb : bs.length ≤ 140737488355328) {i : Nat} (hi : F[i]? = some (SrcA b bs p)) (H : St W w F) : Calls Try.prog 120 #[.pointer (some ⟨b, 0, none⟩)] w (Ret fun v w' => v = .int .i64 (endE (remB bs p)) ∧ St W w' F) := by
  have H0 := H.front hi
  refine calls_of_go (n := 34) Try.func120 rfl Try.ntmps120 rfl ?_
  refine g_seq ?_
  refine g_region ?_
  refine r_cons (s_assign (.int .i64 0) rfl rfl ?_)
  refine r_nil ?_
  refine g_seq ?_
  refine g_seq ?_
  refine g_region ?_
  refine r_cons (s_move (.pointer (some ⟨b, 0, none⟩)) rfl rfl ?_)
  refine r_cons (s_peql false un_144 rfl rfl rfl rfl ?_)
  refine r_cons (s_move (.bool false) rfl rfl ?_)
  refine r_cons (r_take rfl rfl ?_)
  refine s_move (.pointer (some ⟨b, 0, none⟩)) rfl rfl ?_
  refine r_cons (r_take rfl rfl ?_)
  refine s_nilCheck (.pointer (some ⟨b, 0, none⟩)) rfl ⟨_, rfl⟩ rfl ?_
  refine r_cons (r_take rfl rfl ?_)
  refine s_fieldAddr 184 0 0 0 4 rfl fi_184_0 rfl rfl ?_
  refine r_cons (r_take rfl rfl ?_)
  have H1 := H0.move 0 rfl
  obtain ⟨vv2, H3⟩ := St.open_ex H1
  have H4 := St.open_star H3
  obtain ⟨pp5, cc6, gA7, oA8, kA9, eA10, zA11, rfl, hn12, hp13, hx14, hs15, hml, H16⟩ := Im.open_ H4 (i := 1) rfl
  have H17 : St W w (imi (0 < bs.length) gA7 (.cells kA9 eA10 zA11) :: blk b (.cells #[.bool true, .slice pp5 bs.length cc6, .int .i64 ((p : Nat) : Int)] 184 (0, 0)) :: Im 1 (.slice pp5 bs.length cc6) bs.length (bs.flatMap u8c) :: (F.set i emp)) := H16
  refine s_load (.bool true) ag_4 rfl (H17.blk_at (i := 1) rfl) rfl rfl ?_
  refine r_cons (r_take rfl rfl ?_)
  refine s_not true rfl false rfl rfl ?_
  refine r_cons (s_pick_f (.bool false) rfl rfl rfl ?_)
  refine r_nil ?_
  refine g_false rfl ?_
  refine g_skip ?_
  refine g_seq ?_
  refine g_seq ?_
  refine g_region ?_
  refine r_cons (s_move (.pointer (some ⟨b, 0, none⟩)) rfl rfl ?_)
  have H18 : St W w (blk b (.cells #[.bool true, .slice pp5 bs.length cc6, .int .i64 ((p : Nat) : Int)] 184 (0, 0)) :: Im 1 (.slice pp5 bs.length cc6) bs.length (bs.flatMap u8c) :: (F.set i emp)) := (((H17.move 2 rfl).move 2 rfl).drop 2 rfl)
  have H19 : St W w (SrcA b bs p :: (F.set i emp)) := St.shut_ex (.slice pp5 bs.length cc6) (St.shut_star (ls := [blk b (.cells #[.bool true, .slice pp5 bs.length cc6, .int .i64 ((p : Nat) : Int)] 184 (0, 0)), Im 1 (.slice pp5 bs.length cc6) bs.length (bs.flatMap u8c)]) H18)
  refine r_cons (s_call [.pointer (some ⟨b, 0, none⟩)] pl_117 rfl rfl (Src_Left b bs p (by first | omega | decide +kernel | (repeat (first | assumption | exact Nat.zero_le _ | refine natN_pos ?_ | refine srcN_pos ?_ | refine textN_pos ?_))) (by first | omega | decide +kernel)   (i := 0) rfl H19) ?_)
  rintro _ w20 ⟨rfl, H21⟩
  by_cases hc22 : (8 : Int) ≤ ((remB bs p).length : Int)
  · skip
    refine r_cons (s_geq true rfl rfl (dtrue hc22) rfl ?_)
    refine r_nil ?_
    refine g_true rfl ?_
    refine g_seq ?_
    refine g_region ?_
    refine r_cons (s_assign (.int .i64 12) rfl rfl ?_)
    refine r_nil ?_
    refine g_ret' [.int .i64 12] Try.func120 Try.results120 ⟨rfl, trivial⟩ ?_
    have H23 : St W w20 (SrcA b bs p :: (F.set i emp)) := H21
    exact ⟨vint (by have hL2 := remB_len bs p; first | exact (endE_long (by omega)).symm | exact (endE_bit (j := k) (by omega) (by rw [remB_getD (by omega)]; cases hh : bitAt bs (p + k) with | true => rfl | false => (have h1 : (((bitAt bs (p + k)).toNat : Nat) : Int) = 1 := ‹_›; rw [hh] at h1; cases h1))).symm | exact (endE_0 (by omega) (fun j hj => hz j (by omega))).symm), St.back_same hi H23⟩
  · skip
    refine r_cons (s_geq false rfl rfl (dfalse hc22) rfl ?_)
    refine r_nil ?_
    refine g_false rfl ?_
    refine g_skip ?_
    refine g_seq ?_
    refine g_seq ?_
    refine g_region ?_
    refine r_cons (s_move (.pointer (some ⟨b, 0, none⟩)) rfl rfl ?_)
    refine r_cons (s_nilCheck (.pointer (some ⟨b, 0, none⟩)) rfl ⟨_, rfl⟩ rfl ?_)
    refine r_cons (s_fieldAddr 184 2 2 2 3 rfl fi_184_2 rfl rfl ?_)
    have H24 := H21.move 0 rfl
    obtain ⟨vv25, H26⟩ := St.open_ex H24
    have H27 := St.open_star H26
    obtain ⟨pp28, cc29, gA30, oA31, kA32, eA33, zA34, rfl, hn35, hp36, hx37, hs38, hml, H39⟩ := Im.open_ H27 (i := 1) rfl
    have H40 : St W w20 (imi (0 < bs.length) gA30 (.cells kA32 eA33 zA34) :: blk b (.cells #[.bool true, .slice pp28 bs.length cc29, .int .i64 ((p : Nat) : Int)] 184 (0, 0)) :: Im 1 (.slice pp28 bs.length cc29) bs.length (bs.flatMap u8c) :: (F.set i emp)) := H39
    refine r_cons (s_load (.int .i64 ((p : Nat) : Int)) ag_3 rfl (H40.blk_at (i := 1) rfl) rfl rfl ?_)
    refine r_cons (s_assign (.int .i64 ((p : Nat) : Int)) rfl rfl ?_)
    refine r_nil ?_
    refine g_block ?_
    have H41 : St W w20 (blk b (.cells #[.bool true, .slice pp28 bs.length cc29, .int .i64 ((p : Nat) : Int)] 184 (0, 0)) :: Im 1 (.slice pp28 bs.length cc29) bs.length (bs.flatMap u8c) :: (F.set i emp)) := (((H40.move 2 rfl).move 2 rfl).drop 2 rfl)
    have H42 : St W w20 (SrcA b bs p :: (F.set i emp)) := St.shut_ex (.slice pp28 bs.length cc29) (St.shut_star (ls := [blk b (.cells #[.bool true, .slice pp28 bs.length cc29, .int .i64 ((p : Nat) : Int)] 184 (0, 0)), Im 1 (.slice pp28 bs.length cc29) bs.length (bs.flatMap u8c)]) H41)
    have H43 : St W w20 (SrcA b bs p :: (F.set i emp)) := H42
    have hL := remB_len bs p
    refine g_loop_inv (fun (x_ : Nat) => match x_ with | k => [(0, .pointer (some ⟨b, 0, none⟩)), (2, .int .i64 0), (3, .int .i64 ((p + k : Nat) : Int))]) (fun (x_ : Nat) w => match x_ with | k => (p + k ≤ 8 * bs.length) ∧ (∀ j, j < k → (remB bs p).getD j false = false) ∧ St W w (SrcA b bs p :: (F.set i emp))) (fun (x_ : Nat) => match x_ with | k => 8 * bs.length - (p + k)) (0) ?_ ?_ ?_
    · exact ⟨by first | rfl | exact vint (by omega), by first | rfl | exact vint (by omega), by first | rfl | exact vint (by omega), trivial⟩
    · exact ⟨(by omega), (fun j hj => by omega), H43⟩
    · rintro k ρ44 w45 ⟨hk, hz, H46⟩ nx47
      change Ends _ _ (upds ρ44 [(0, .pointer (some ⟨b, 0, none⟩)), (2, .int .i64 0), (3, .int .i64 ((p + k : Nat) : Int))]) w45
      refine g_seq ?_
      refine g_seq ?_
      refine g_region ?_
      refine r_cons (s_move (.int .i64 ((p + k : Nat) : Int)) rfl rfl ?_)
      refine r_cons (s_move (.pointer (some ⟨b, 0, none⟩)) rfl rfl ?_)
      refine r_cons (s_nilCheck (.pointer (some ⟨b, 0, none⟩)) rfl ⟨_, rfl⟩ rfl ?_)
      refine r_cons (s_fieldAddr 184 1 1 1 23 rfl fi_184_1 rfl rfl ?_)
      have H48 := H46.move 0 rfl
      obtain ⟨vv49, H50⟩ := St.open_ex H48
      have H51 := St.open_star H50
      obtain ⟨pp52, cc53, gA54, oA55, kA56, eA57, zA58, rfl, hn59, hp60, hx61, hs62, hml, H63⟩ := Im.open_ H51 (i := 1) rfl
      have H64 : St W w45 (imi (0 < bs.length) gA54 (.cells kA56 eA57 zA58) :: blk b (.cells #[.bool true, .slice pp52 bs.length cc53, .int .i64 ((p : Nat) : Int)] 184 (0, 0)) :: Im 1 (.slice pp52 bs.length cc53) bs.length (bs.flatMap u8c) :: (F.set i emp)) := H63
      refine r_cons (s_load (.slice pp52 bs.length cc53) ag_23 rfl (H64.blk_at (i := 1) rfl) rfl rfl ?_)
      refine r_cons (s_len bs.length rfl ⟨_, un_23⟩ rfl ?_)
      refine r_cons (s_mul (8 * (bs.length : Int)) rfl rfl (wi64 (by omega)) rfl ?_)
      by_cases hc65 : ((p + k : Nat) : Int) < 8 * (bs.length : Int)
      · skip
        refine r_cons (s_lss true rfl rfl (dtrue hc65) rfl ?_)
        refine r_nil ?_
        refine g_true rfl ?_
        refine g_skip ?_
        refine g_seq ?_
        refine g_block ?_
        refine g_seq ?_
        refine g_region ?_
        refine r_cons (s_move (.pointer (some ⟨b, 0, none⟩)) rfl rfl ?_)
        refine r_cons (s_move (.int .i64 ((p + k : Nat) : Int)) rfl rfl ?_)
        have H66 : St W w45 (blk b (.cells #[.bool true, .slice pp52 bs.length cc53, .int .i64 ((p : Nat) : Int)] 184 (0, 0)) :: Im 1 (.slice pp52 bs.length cc53) bs.length (bs.flatMap u8c) :: (F.set i emp)) := (((H64.move 2 rfl).move 2 rfl).drop 2 rfl)
        have H67 : St W w45 (SrcA b bs p :: (F.set i emp)) := St.shut_ex (.slice pp52 bs.length cc53) (St.shut_star (ls := [blk b (.cells #[.bool true, .slice pp52 bs.length cc53, .int .i64 ((p : Nat) : Int)] 184 (0, 0)), Im 1 (.slice pp52 bs.length cc53) bs.length (bs.flatMap u8c)]) H66)
        refine r_cons (s_call [.pointer (some ⟨b, 0, none⟩), .int .i64 ((p + k : Nat) : Int)] pl_140 rfl rfl (Src_bit b bs p (by first | omega | decide +kernel | (repeat (first | assumption | exact Nat.zero_le _ | refine natN_pos ?_ | refine srcN_pos ?_ | refine textN_pos ?_))) (by first | omega | decide +kernel) (p + k) (by omega) (i := 0) rfl H67) ?_)
        rintro _ w68 ⟨rfl, H69⟩
        by_cases hc70 : ((bitAt bs (p + k)).toNat : Int) = 1
        · skip
          refine r_cons (s_eql true rfl rfl (dtrue hc70) rfl ?_)
          refine r_nil ?_
          refine g_true rfl ?_
          refine g_seq ?_
          refine g_region ?_
          refine r_cons (s_assign (.int .i64 12) rfl rfl ?_)
          refine r_nil ?_
          refine g_ret' [.int .i64 12] Try.func120 Try.results120 ⟨rfl, trivial⟩ ?_
          have H71 : St W w68 (SrcA b bs p :: (F.set i emp)) := H69
          exact ⟨vint (by have hL2 := remB_len bs p; first | exact (endE_long (by omega)).symm | exact (endE_bit (j := k) (by omega) (by rw [remB_getD (by omega)]; cases hh : bitAt bs (p + k) with | true => rfl | false => (have h1 : (((bitAt bs (p + k)).toNat : Nat) : Int) = 1 := ‹_›; rw [hh] at h1; cases h1))).symm | exact (endE_0 (by omega) (fun j hj => hz j (by omega))).symm), St.back_same hi H71⟩
        · skip
          refine r_cons (s_eql false rfl rfl (dfalse hc70) rfl ?_)
          refine r_nil ?_
          refine g_false rfl ?_
          refine g_skip ?_
          refine g_inBlock ?_
          refine g_region ?_
          refine r_cons (s_move (.int .i64 ((p + k : Nat) : Int)) rfl rfl ?_)
          refine r_cons (s_add (((p + k : Nat) : Int) + 1) rfl rfl (wi64 (by omega)) rfl ?_)
          refine r_cons (s_assign (.int .i64 (((p + k : Nat) : Int) + 1)) rfl rfl ?_)
          refine r_nil ?_
          have H72 : St W w68 (SrcA b bs p :: (F.set i emp)) := H69
          have hbit : bitAt bs (p + k) = false := by cases hh : bitAt bs (p + k) with | false => rfl | true => exact absurd (show (((bitAt bs (p + k)).toNat : Nat) : Int) = 1 by rw [hh]; rfl) ‹_›
          exact nx47 (k + 1) _ _ ⟨(by omega), (fun j hj => (Nat.lt_or_ge j k).elim (hz j) (fun h => by rw [show j = k from by omega, remB_getD (by omega)]; exact hbit)), H72⟩ (by first | (dsimp only; omega) | omega) ⟨by first | rfl | exact vint (by omega), by first | rfl | exact vint (by omega), by first | rfl | exact vint (by omega), trivial⟩
      · skip
        refine r_cons (s_lss false rfl rfl (dfalse hc65) rfl ?_)
        refine r_nil ?_
        refine g_false rfl ?_
        refine g_exit (by rfl) ?_
        refine g_seq ?_
        refine g_region ?_
        refine r_cons (s_assign (.int .i64 0) rfl rfl ?_)
        refine r_nil ?_
        refine g_ret' [.int .i64 0] Try.func120 Try.results120 ⟨rfl, trivial⟩ ?_
        have H73 : St W w45 (blk b (.cells #[.bool true, .slice pp52 bs.length cc53, .int .i64 ((p : Nat) : Int)] 184 (0, 0)) :: Im 1 (.slice pp52 bs.length cc53) bs.length (bs.flatMap u8c) :: (F.set i emp)) := (((H64.move 2 rfl).move 2 rfl).drop 2 rfl)
        have H74 : St W w45 (SrcA b bs p :: (F.set i emp)) := St.shut_ex (.slice pp52 bs.length cc53) (St.shut_star (ls := [blk b (.cells #[.bool true, .slice pp52 bs.length cc53, .int .i64 ((p : Nat) : Int)] 184 (0, 0)), Im 1 (.slice pp52 bs.length cc53) bs.length (bs.flatMap u8c)]) H73)
        have H75 : St W w45 (SrcA b bs p :: (F.set i emp)) := H74
        exact ⟨vint (by have hL2 := remB_len bs p; first | exact (endE_long (by omega)).symm | exact (endE_bit (j := k) (by omega) (by rw [remB_getD (by omega)]; cases hh : bitAt bs (p + k) with | true => rfl | false => (have h1 : (((bitAt bs (p + k)).toNat : Nat) : Int) = 1 := ‹_›; rw [hh] at h1; cases h1))).symm | exact (endE_0 (by omega) (fun j hj => hz j (by omega))).symm), St.back_same hi H75⟩
set_option maxHeartbeats 4000000 in
set_option maxRecDepth 100000 in
theorem bytes_Equal {W w : World} {F : List Atom} (A B : Atom) (u v : Value) (m n : Nat) (xs ys : List UInt8) (hA : RdA A 1 u m (xs.flatMap u8c)) (hB : RdA B 1 v n (ys.flatMap u8c)) {j k : Nat} (hj : F[j]? = some A) (hk : F[k]? = some B) (H : St W w F) : Calls Try.prog 27 #[u, v] w (Ret fun v w' => v = .bool (decide (xs = ys)) ∧ St W w' F) := by
  have hml := (hA _ _ _ j H hj).2
  obtain ⟨pp1, cc2, rfl, hn3⟩ := Rd.shape (hA _ _ _ j H hj).1
  have hml := (hB _ _ _ k H hk).2
  obtain ⟨pp4, cc5, rfl, hn6⟩ := Rd.shape (hB _ _ _ k H hk).1
  refine calls_of_go (n := 10) Try.func27 rfl Try.ntmps27 rfl ?_
  refine g_seq ?_
  refine g_region ?_
  refine r_cons (s_assign (.bool false) rfl rfl ?_)
  refine r_nil ?_
  refine g_seq ?_
  refine g_region ?_
  refine r_cons (s_move (.slice pp1 m cc2) rfl rfl ?_)
  refine r_cons (s_bytes_str (xs := xs) rfl (by rw [bytesV_flat]; exact (hA _ _ _ (j + 0) H (by exact hj)).1) un_23 un_5 un_9 rfl ?_)
  refine r_cons (s_move (.slice pp4 n cc5) rfl rfl ?_)
  refine r_cons (s_bytes_str (xs := ys) rfl (by rw [bytesV_flat]; exact (hB _ _ _ (k + 0) H (by exact hk)).1) un_23 un_5 un_9 rfl ?_)
  refine r_cons (s_seql (decide ((⟨(xs).toArray⟩ : ByteArray) = ⟨(ys).toArray⟩)) rfl rfl rfl rfl ?_)
  refine r_cons (s_assign (.bool (decide ((⟨(xs).toArray⟩ : ByteArray) = ⟨(ys).toArray⟩))) rfl rfl ?_)
  refine r_nil ?_
  refine g_ret' [.bool (decide ((⟨(xs).toArray⟩ : ByteArray) = ⟨(ys).toArray⟩))] Try.func27 Try.results27 ⟨rfl, trivial⟩ ?_
  have H7 : St W w F := H
  exact ⟨congrArg Value.bool lit_bytes, H7⟩
set_option maxHeartbeats 4000000 in
set_option maxRecDepth 100000 in
theorem Src_Text {W w : World} {F : List Atom} (b : Nat) (bs : List UInt8) (p : Nat) (hp : p ≤ 8 * bs.length) (hb : bs.length ≤ 140737488355328) {i : Nat} (hi : F[i]? = some (SrcA b bs p)) (H : St W w F) : Calls Try.prog 89 #[.pointer (some ⟨b, 0, none⟩)] w (Ret fun v w' => v = .tuple #[.string (textS (remB bs p)), .int .i64 (textE (remB bs p))] ∧ St W w' (F.set i (SrcA b bs (p + textN (remB bs p))))) := by
  have H0 := H.front hi
  refine calls_of_go (n := 61) Try.func89 rfl Try.ntmps89 rfl ?_
  refine g_seq ?_
  refine g_region ?_
  refine r_cons (s_assign (.string ByteArray.empty) rfl rfl ?_)
  refine r_cons (s_assign (.int .i64 0) rfl rfl ?_)
  refine r_nil ?_
  refine g_seq ?_
  refine g_seq ?_
  refine g_region ?_
  refine r_cons (s_move (.pointer (some ⟨b, 0, none⟩)) rfl rfl ?_)
  refine r_cons (s_peql false un_144 rfl rfl rfl rfl ?_)
  refine r_cons (s_move (.bool false) rfl rfl ?_)
  refine r_cons (r_take rfl rfl ?_)
  refine s_move (.pointer (some ⟨b, 0, none⟩)) rfl rfl ?_
  refine r_cons (r_take rfl rfl ?_)
  refine s_nilCheck (.pointer (some ⟨b, 0, none⟩)) rfl ⟨_, rfl⟩ rfl ?_
  refine r_cons (r_take rfl rfl ?_)
  refine s_fieldAddr 184 0 0 0 4 rfl fi_184_0 rfl rfl ?_
  refine r_cons (r_take rfl rfl ?_)
  have H1 := H0.move 0 rfl
  obtain ⟨vv2, H3⟩ := St.open_ex H1
  have H4 := St.open_star H3
  obtain ⟨pp5, cc6, gA7, oA8, kA9, eA10, zA11, rfl, hn12, hp13, hx14, hs15, hml, H16⟩ := Im.open_ H4 (i := 1) rfl
  have H17 : St W w (imi (0 < bs.length) gA7 (.cells kA9 eA10 zA11) :: blk b (.cells #[.bool true, .slice pp5 bs.length cc6, .int .i64 ((p : Nat) : Int)] 184 (0, 0)) :: Im 1 (.slice pp5 bs.length cc6) bs.length (bs.flatMap u8c) :: (F.set i emp)) := H16
  refine s_load (.bool true) ag_4 rfl (H17.blk_at (i := 1) rfl) rfl rfl ?_
  refine r_cons (r_take rfl rfl ?_)
  refine s_not true rfl false rfl rfl ?_
  refine r_cons (s_pick_f (.bool false) rfl rfl rfl ?_)
  refine r_nil ?_
  refine g_false rfl ?_
  refine g_skip ?_
  refine g_seq ?_
  refine g_region ?_
  refine r_cons (s_move (.pointer (some ⟨b, 0, none⟩)) rfl rfl ?_)
  refine r_cons (s_nilCheck (.pointer (some ⟨b, 0, none⟩)) rfl ⟨_, rfl⟩ rfl ?_)
  refine r_cons (s_fieldAddr 184 2 2 2 3 rfl fi_184_2 rfl rfl ?_)
  refine r_cons (s_load (.int .i64 ((p : Nat) : Int)) ag_3 rfl (H17.blk_at (i := 1) rfl) rfl rfl ?_)
  refine r_cons (s_assign (.int .i64 ((p : Nat) : Int)) rfl rfl ?_)
  refine r_nil ?_
  refine g_seq ?_
  refine g_region ?_
  refine r_cons (s_move (.pointer (some ⟨b, 0, none⟩)) rfl rfl ?_)
  have H18 : St W w (blk b (.cells #[.bool true, .slice pp5 bs.length cc6, .int .i64 ((p : Nat) : Int)] 184 (0, 0)) :: Im 1 (.slice pp5 bs.length cc6) bs.length (bs.flatMap u8c) :: (F.set i emp)) := (((H17.move 2 rfl).move 2 rfl).drop 2 rfl)
  have H19 : St W w (SrcA b bs p :: (F.set i emp)) := St.shut_ex (.slice pp5 bs.length cc6) (St.shut_star (ls := [blk b (.cells #[.bool true, .slice pp5 bs.length cc6, .int .i64 ((p : Nat) : Int)] 184 (0, 0)), Im 1 (.slice pp5 bs.length cc6) bs.length (bs.flatMap u8c)]) H18)
  refine r_cons (s_call [.pointer (some ⟨b, 0, none⟩)] pl_116 rfl rfl (Src_Nat b bs p (by first | omega | decide +kernel | (repeat (first | assumption | exact Nat.zero_le _ | refine natN_pos ?_ | refine srcN_pos ?_ | refine textN_pos ?_))) (by first | omega | decide +kernel)   (i := 0) rfl H19) ?_)
  rintro _ w20 ⟨rfl, H21⟩
  refine r_cons (s_move (.tuple #[.int .u64 (natU (remB bs p) : Int), .int .i64 (natE (remB bs p))]) rfl rfl ?_)
  refine r_cons (s_extract (.int .u64 (natU (remB bs p) : Int)) #[.int .u64 (natU (remB bs p) : Int), .int .i64 (natE (remB bs p))] rfl rfl rfl ?_)
  refine r_cons (s_extract (.int .i64 (natE (remB bs p))) #[.int .u64 (natU (remB bs p) : Int), .int .i64 (natE (remB bs p))] rfl rfl rfl ?_)
  refine r_cons (s_assign (.int .u64 (natU (remB bs p) : Int)) rfl rfl ?_)
  refine r_cons (s_assign (.int .i64 (natE (remB bs p))) rfl rfl ?_)
  refine r_nil ?_
  refine g_seq ?_
  refine g_seq ?_
  refine g_region ?_
  refine r_cons (s_move (.int .i64 (natE (remB bs p))) rfl rfl ?_)
  by_cases hc22 : natE (remB bs p) = 0
  · skip
    refine r_cons (s_neq false rfl rfl (ntrue hc22) rfl ?_)
    refine r_nil ?_
    refine g_false rfl ?_
    refine g_skip ?_
    refine g_seq ?_
    refine g_seq ?_
    refine g_region ?_
    refine r_cons (s_move (.int .u64 (natU (remB bs p) : Int)) rfl rfl ?_)
    refine r_cons (s_move (.pointer (some ⟨b, 0, none⟩)) rfl rfl ?_)
    have hL := remB_len bs p
    have hL2 := remB_len bs (p + natN (remB bs p))
    refine r_cons (s_call [.pointer (some ⟨b, 0, none⟩)] pl_117 rfl rfl (Src_Left b bs (p + natN (remB bs p)) (by first | omega | decide +kernel | (repeat (first | assumption | exact Nat.zero_le _ | refine natN_pos ?_ | refine srcN_pos ?_ | refine textN_pos ?_))) (by first | omega | decide +kernel)   (i := 0) rfl H21) ?_)
    rintro _ w23 ⟨rfl, H24⟩
    refine r_cons (s_quo ((((remB bs (p + natN (remB bs p))).length) / 8 : Nat) : Int) rfl rfl (by omega) (by rw [tdiv_pos (by omega)]; exact wi64 (by omega)) rfl ?_)
    refine r_cons (s_conv ((((remB bs (p + natN (remB bs p))).length) / 8 : Nat) : Int) rfl us_3 ik_137 (wu64 (by omega)) rfl ?_)
    by_cases hc25 : ((((remB bs (p + natN (remB bs p))).length) / 8 : Nat) : Int) < (natU (remB bs p) : Int)
    · skip
      refine r_cons (s_gtr true rfl rfl (dtrue hc25) rfl ?_)
      refine r_nil ?_
      refine g_true rfl ?_
      refine g_seq ?_
      refine g_region ?_
      refine r_cons (s_move (.pointer (some ⟨b, 0, none⟩)) rfl rfl ?_)
      refine r_cons (s_move (.int .i64 ((p : Nat) : Int)) rfl rfl ?_)
      refine r_cons (s_call [.pointer (some ⟨b, 0, none⟩), .int .i64 ((p : Nat) : Int), .int .i64 10] pl_118 rfl rfl (Src_back_no b bs (p + natN (remB bs p)) (p) 10 (by decide) (i := 0) rfl H24) ?_)
      rintro _ w26 ⟨rfl, H27⟩
      refine r_cons (s_assign (.string ByteArray.empty) rfl rfl ?_)
      refine r_cons (s_assign (.int .i64 10) rfl rfl ?_)
      refine r_nil ?_
      refine g_ret' [.string ByteArray.empty, .int .i64 10] Try.func89 Try.results89 ⟨rfl, rfl, trivial⟩ ?_
      have H28 : St W w26 (SrcA b bs p :: (F.set i emp)) := H27
      have hT : textE (remB bs p) = 10 := textE_10 (by assumption) (by omega)
      have hT0 : ¬ textE (remB bs p) = 0 := by rw [hT]; first | assumption | decide
      exact ⟨by rw [textS_0 hT0, hT]; rfl, by rw [textN_no hT0]; exact St.back hi H28⟩
    · skip
      refine r_cons (s_gtr false rfl rfl (dfalse hc25) rfl ?_)
      refine r_nil ?_
      refine g_false rfl ?_
      refine g_skip ?_
      refine g_seq ?_
      refine g_region ?_
      refine r_cons (s_move (.int .u64 (natU (remB bs p) : Int)) rfl rfl ?_)
      refine r_cons (s_make H24 (natU (remB bs p) : Int) 1 1 rfl rfl un_23 in_5 (by omega) (by omega) (by omega) (by exact made_bytes (natU (remB bs p))) rfl ?_); intro bk29 w30 H31
      have H32 : St W w30 (Row 5 1 (.slice (some ⟨bk29, 0, none⟩) (natU (remB bs p)) (natU (remB bs p))) (natU (remB bs p)) ((List.replicate (natU (remB bs p)) (0 : UInt8)).flatMap u8c) :: SrcA b bs (p + natN (remB bs p)) :: (F.set i emp)) := Row.of_list (xs := (List.replicate (natU (remB bs p)) (0 : UInt8)).flatMap u8c) (n := natU (remB bs p)) H31 (i := 0) rfl (by unfold maxLen; omega) (by simp [flat1, u8c_len, blc_len]) (by intro x hx; first | exact one_u8 _ x hx | exact one_bl _ x hx)
      have H33 : St W w30 (Row 5 1 (.slice (some ⟨bk29, 0, none⟩) (natU (remB bs p)) (natU (remB bs p))) (natU (remB bs p)) ((textP (remB bs p) 0).flatMap u8c) :: SrcA b bs (p + natN (remB bs p)) :: (F.set i emp)) := by rw [textP_0]; exact H32
      refine r_cons (s_assign (.slice (some ⟨bk29, 0, none⟩) (natU (remB bs p)) (natU (remB bs p))) rfl rfl ?_)
      refine r_nil ?_
      refine g_seq ?_
      refine g_seq ?_
      refine g_region ?_
      refine r_cons (s_move (.slice (some ⟨bk29, 0, none⟩) (natU (remB bs p)) (natU (remB bs p))) rfl rfl ?_)
      refine r_cons (s_len (natU (remB bs p)) rfl ⟨_, un_23⟩ rfl ?_)
      refine r_cons (s_move (.int .i64 0) rfl rfl ?_)
      refine r_nil ?_
      refine g_block ?_
      have H34 : St W w30 (Row 5 1 (.slice (some ⟨bk29, 0, none⟩) (natU (remB bs p)) (natU (remB bs p))) (natU (remB bs p)) ((textP (remB bs p) 0).flatMap u8c) :: SrcA b bs (p + natN (remB bs p) + 8 * 0) :: (F.set i emp)) := H33
      have H35 : St W w30 (Row 5 1 (.slice (some ⟨bk29, 0, none⟩) (natU (remB bs p)) (natU (remB bs p))) (natU (remB bs p)) ((textP (remB bs p) 0).flatMap u8c) :: SrcA b bs (p + natN (remB bs p) + 8 * 0) :: (F.set i emp)) := ((H34.move 1 rfl).move 1 rfl)
      refine g_loop_inv (fun (x_ : Nat × (Option Addr) × Nat) => match x_ with | (j, pq, cq) => [(0, .pointer (some ⟨b, 0, none⟩)), (2, .string ByteArray.empty), (3, .int .i64 0), (7, .slice pq (natU (remB bs p)) cq), (44, .int .i64 (natU (remB bs p) : Int)), (45, .int .i64 (j : Int))]) (fun (x_ : Nat × (Option Addr) × Nat) w => match x_ with | (j, pq, cq) => (j ≤ natU (remB bs p)) ∧ St W w (Row 5 1 (.slice pq (natU (remB bs p)) cq) (natU (remB bs p)) ((textP (remB bs p) j).flatMap u8c) :: SrcA b bs (p + natN (remB bs p) + 8 * j) :: (F.set i emp))) (fun (x_ : Nat × (Option Addr) × Nat) => match x_ with | (j, pq, cq) => natU (remB bs p) - j) (0, (some ⟨bk29, 0, none⟩), natU (remB bs p)) ?_ ?_ ?_
      · exact ⟨by first | rfl | exact vint (by omega), by first | rfl | exact vint (by omega), by first | rfl | exact vint (by omega), by first | rfl | exact vint (by omega), by first | rfl | exact vint (by omega), by first | rfl | exact vint (by omega), trivial⟩
      · exact ⟨(by omega), H35⟩
      · rintro ⟨j, pq, cq⟩ ρ36 w37 ⟨hj, H38⟩ nx39
        change Ends _ _ (upds ρ36 [(0, .pointer (some ⟨b, 0, none⟩)), (2, .string ByteArray.empty), (3, .int .i64 0), (7, .slice pq (natU (remB bs p)) cq), (44, .int .i64 (natU (remB bs p) : Int)), (45, .int .i64 (j : Int))]) w37
        refine g_seq ?_
        refine g_region ?_
        by_cases hc40 : (j : Int) < (natU (remB bs p) : Int)
        · skip
          refine r_cons (s_lss true rfl rfl (dtrue hc40) rfl ?_)
          refine r_nil ?_
          refine g_seq ?_
          refine g_true rfl ?_
          refine g_skip ?_
          refine g_seq ?_
          refine g_block ?_
          refine g_seq ?_
          refine g_region ?_
          refine r_cons (s_move (.int .i64 (j : Int)) rfl rfl ?_)
          refine r_cons (s_assign (.int .i64 (j : Int)) rfl rfl ?_)
          refine r_nil ?_
          refine g_seq ?_
          refine g_region ?_
          refine r_cons (s_move (.pointer (some ⟨b, 0, none⟩)) rfl rfl ?_)
          have hL3 := remB_len bs (p + natN (remB bs p) + 8 * j)
          have hE8 : srcE (remB bs (p + natN (remB bs p) + 8 * j)) 8 = 0 := srcE_0 (by omega) (by omega)
          have hN8 : srcN (remB bs (p + natN (remB bs p) + 8 * j)) 8 = 8 := srcN_0 hE8
          have hU8 : srcU (remB bs (p + natN (remB bs p) + 8 * j)) 8 < 256 := srcU_lt_pow (k := 8)
          have hB8 : byteT (remB bs p) j = UInt8.ofNat (srcU (remB bs (p + natN (remB bs p) + 8 * j)) 8) := by unfold byteT; rw [srcU_0 hE8, remB_drop, ← Nat.add_assoc]; rfl
          refine r_cons (s_call [.pointer (some ⟨b, 0, none⟩), .int .i64 8] pl_119 rfl rfl (Src_Bits b bs (p + natN (remB bs p) + 8 * j) (by first | omega | decide +kernel | (repeat (first | assumption | exact Nat.zero_le _ | refine natN_pos ?_ | refine srcN_pos ?_ | refine textN_pos ?_))) (by first | omega | decide +kernel) 8  (i := 1) rfl H38) ?_)
          rintro _ w41 ⟨rfl, H42⟩
          refine r_cons (s_move (.tuple #[.int .u64 (srcU (remB bs (p + natN (remB bs p) + 8 * j)) 8 : Int), .int .i64 (srcE (remB bs (p + natN (remB bs p) + 8 * j)) 8)]) rfl rfl ?_)
          refine r_cons (s_extract (.int .u64 (srcU (remB bs (p + natN (remB bs p) + 8 * j)) 8 : Int)) #[.int .u64 (srcU (remB bs (p + natN (remB bs p) + 8 * j)) 8 : Int), .int .i64 (srcE (remB bs (p + natN (remB bs p) + 8 * j)) 8)] rfl rfl rfl ?_)
          refine r_cons (s_extract (.int .i64 (srcE (remB bs (p + natN (remB bs p) + 8 * j)) 8)) #[.int .u64 (srcU (remB bs (p + natN (remB bs p) + 8 * j)) 8 : Int), .int .i64 (srcE (remB bs (p + natN (remB bs p) + 8 * j)) 8)] rfl rfl rfl ?_)
          refine r_cons (s_assign (.int .u64 (srcU (remB bs (p + natN (remB bs p) + 8 * j)) 8 : Int)) rfl rfl ?_)
          refine r_cons (s_assign (.int .i64 (srcE (remB bs (p + natN (remB bs p) + 8 * j)) 8)) rfl rfl ?_)
          refine r_nil ?_
          refine g_region ?_
          refine r_cons (s_move (.slice pq (natU (remB bs p)) cq) rfl rfl ?_)
          refine r_cons (s_move (.int .i64 (j : Int)) rfl rfl ?_)
          refine r_cons (s_move (.int .u64 (srcU (remB bs (p + natN (remB bs p) + 8 * j)) 8 : Int)) rfl rfl ?_)
          refine r_cons (s_conv (srcU (remB bs (p + natN (remB bs p) + 8 * j)) 8 : Int) rfl us_137 ik_5 (wu8 (by omega)) rfl ?_)
          obtain ⟨bk43, cur44, hp45, h46, h47, h48, h49, h50, H51⟩ := Row.open2 H42 (i := 0) rfl (by omega)
          refine r_cons (s_indexAddr bk43 (off := 0) (j : Int) 1 (0 + j * 1) (by exact congrArg (fun z_ => Value.slice z_ (natU (remB bs p)) cq) ((fun (_ : 0 < 1) => hp45) (by omega))) rfl el_23 (by omega) rfl rfl ?_)
          have hx54 := row_set1 (f := u8c) (L := textP (remB bs p) j) (cur := cur44) u8c_len (by rw [(textP_len (remB bs p) j)]; exact h49) (show (textP (remB bs p) j).length * 1 ≤ cur44.size by rw [(textP_len (remB bs p) j), h48]; exact Nat.mul_le_mul_right 1 h46) (j := j) (by have hh := (textP_len (remB bs p) j); omega) 0 (.int .u8 (srcU (remB bs (p + natN (remB bs p) + 8 * j)) 8 : Int)) (byteT (remB bs p) j) ((by rw [hB8]; exact u8_set hU8))
          refine r_cons (s_store H51 0 (.int .u8 (srcU (remB bs (p + natN (remB bs p) + 8 * j)) 8 : Int)) rfl rfl rfl sz_5 rfl (by have hh := (textP_len (remB bs p) j); have hk := (show (textP (remB bs p) j).length * 1 ≤ cur44.size by rw [(textP_len (remB bs p) j), h48]; exact Nat.mul_le_mul_right 1 h46); omega) rfl (cs' := (cur44.setIfInBounds (0 + j * 1) (.int .u8 (srcU (remB bs (p + natN (remB bs p) + 8 * j)) 8 : Int)))) rfl ?_); intro w52 H53
          refine r_nil ?_
          refine g_inBlock ?_
          refine g_region ?_
          refine r_cons (s_add ((j : Int) + 1) rfl rfl (wi64 (by omega)) rfl ?_)
          refine r_cons (s_move (.int .i64 ((j : Int) + 1)) rfl rfl ?_)
          refine r_nil ?_
          have H55 := Row.shut2 (p := pq) (n := natU (remB bs p)) (c := cq) (size := 1) (xs := (textP (remB bs p) (j + 1)).flatMap u8c) H53 (i := 0) rfl hp45 h46 h47 (show ((cur44.setIfInBounds (0 + j * 1) (.int .u8 (srcU (remB bs (p + natN (remB bs p) + 8 * j)) 8 : Int)))).size = cq * 1 from by rw [Array.size_setIfInBounds]; exact h48) (by have hh : ((cur44.setIfInBounds (0 + j * 1) (.int .u8 (srcU (remB bs (p + natN (remB bs p) + 8 * j)) 8 : Int))).toList.drop 0).take (((textP (remB bs p) j).set j (byteT (remB bs p) j)).length * 1) = ((textP (remB bs p) j).set j (byteT (remB bs p) j)).flatMap u8c := hx54; have hk : ((textP (remB bs p) j).set j (byteT (remB bs p) j)).length = natU (remB bs p) := (show ((textP (remB bs p) j).set j (byteT (remB bs p) j)).length = natU (remB bs p) from by first | (rw [List.length_set]; exact (textP_len (remB bs p) j)) | rw [List.length_set]); rw [hk] at hh; rw [(textP_succ (by omega)).symm] at hh; exact hh) (one_u8 _)
          have H56 : St W w52 (Row 5 1 (.slice pq (natU (remB bs p)) cq) (natU (remB bs p)) ((textP (remB bs p) (j + 1)).flatMap u8c) :: SrcA b bs (p + natN (remB bs p) + 8 * (j + 1)) :: (F.set i emp)) := by rw [show p + natN (remB bs p) + 8 * (j + 1) = p + natN (remB bs p) + 8 * j + srcN (remB bs (p + natN (remB bs p) + 8 * j)) 8 from by rw [hN8]; omega]; exact H55
          have H57 : St W w52 (Row 5 1 (.slice pq (natU (remB bs p)) cq) (natU (remB bs p)) ((textP (remB bs p) (j + 1)).flatMap u8c) :: SrcA b bs (p + natN (remB bs p) + 8 * (j + 1)) :: (F.set i emp)) := ((H56.move 1 rfl).move 1 rfl)
          exact nx39 (j + 1, pq, cq) _ _ ⟨(by omega), H57⟩ (by first | (dsimp only; omega) | omega) ⟨by first | rfl | exact vint (by omega), by first | rfl | exact vint (by omega), by first | rfl | exact vint (by omega), by first | rfl | exact vint (by omega), by first | rfl | exact vint (by omega), by first | rfl | exact vint (by omega), trivial⟩
        · skip
          refine r_cons (s_lss false rfl rfl (dfalse hc40) rfl ?_)
          refine r_nil ?_
          refine g_seq ?_
          refine g_false rfl ?_
          refine g_exit (by rfl) ?_
          refine g_seq ?_
          refine g_region ?_
          refine r_cons (s_move (.slice pq (natU (remB bs p)) cq) rfl rfl ?_)
          refine r_cons (s_bytes_str (xs := (textP (remB bs p) j)) rfl (by rw [bytesV_flat]; exact (Row.rd H38 (i := 0) rfl)) un_23 un_5 un_9 rfl ?_)
          refine r_cons (s_assign (.string (⟨((textP (remB bs p) j)).toArray⟩)) rfl rfl ?_)
          refine r_cons (s_assign (.int .i64 0) rfl rfl ?_)
          refine r_nil ?_
          refine g_ret' [.string (⟨((textP (remB bs p) j)).toArray⟩), .int .i64 0] Try.func89 Try.results89 ⟨rfl, rfl, trivial⟩ ?_
          have H58 : St W w37 (SrcA b bs (p + natN (remB bs p) + 8 * j) :: (F.set i emp)) := ((H38.move 1 rfl).drop 1 rfl)
          have hT : textE (remB bs p) = 0 := textE_0 (by assumption) (by omega)
          obtain rfl : j = natU (remB bs p) := by omega
          exact ⟨by rw [hT, textP_all hT]; rfl, by rw [textN_0 hT, ← Nat.add_assoc]; exact St.back hi H58⟩
  · skip
    refine r_cons (s_neq true rfl rfl (nfalse hc22) rfl ?_)
    refine r_nil ?_
    refine g_true rfl ?_
    refine g_seq ?_
    refine g_region ?_
    refine r_cons (s_move (.int .i64 (natE (remB bs p))) rfl rfl ?_)
    refine r_cons (s_assign (.string ByteArray.empty) rfl rfl ?_)
    refine r_cons (s_assign (.int .i64 (natE (remB bs p))) rfl rfl ?_)
    refine r_nil ?_
    refine g_ret' [.string ByteArray.empty, .int .i64 (natE (remB bs p))] Try.func89 Try.results89 ⟨rfl, rfl, trivial⟩ ?_
    have H59 : St W w20 (SrcA b bs (p + natN (remB bs p)) :: (F.set i emp)) := H21
    have hT : textE (remB bs p) = natE (remB bs p) := textE_nat (by assumption)
    have hT0 : ¬ textE (remB bs p) = 0 := by rw [hT]; first | assumption | decide
    exact ⟨by rw [textS_0 hT0, hT]; rfl, by rw [textN_no hT0]; have hx := H59; rw [natN_no (by assumption)] at hx; exact St.back hi hx⟩
set_option maxHeartbeats 4000000 in
set_option maxRecDepth 100000 in
theorem migrate_piece {W w : World} {F : List Atom} (o m i : Int) (sp : Option Addr) (sn sc : Nat) (H : St W w F) : Calls Try.prog 72 #[.agg #[.int .i64 o, .int .i64 m, .int .i64 i, .slice sp sn sc]] w (Ret fun v w' => v = .bool (pieceB o m i sn) ∧ St W w' F) := by
  refine calls_of_go (n := 35) Try.func72 rfl Try.ntmps72 rfl ?_
  refine g_seq ?_
  refine g_region ?_
  refine r_cons (s_box H 51 (.agg #[.int .i64 o, .int .i64 m, .int .i64 i, .slice sp sn sc]) rfl (cs := #[.int .i64 o, .int .i64 m, .int .i64 i, .slice sp sn sc]) rfl rfl ?_); intro bk1 w2 H3
  refine r_cons (s_assign (.bool false) rfl rfl ?_)
  refine r_nil ?_
  refine g_seq ?_
  refine g_region ?_
  refine r_cons (s_fieldAddr 51 0 0 0 3 rfl fi_51_0 rfl rfl ?_)
  refine r_cons (s_load (.int .i64 o) ag_3 rfl (H3.blk_at (i := 0) rfl) rfl rfl ?_)
  refine r_cons (s_buildSlice H3 1 1 (cs := #[.int .i64 o]) #[.int .i64 0] el_174 ze_2 (by decide) (by decide) (by kernel_rfl) rfl ?_); intro bk4 w5 H6
  refine r_cons (s_call [.slice (some ⟨bk4, 0, none⟩) 1 1] pl_68 rfl rfl (time1 bk4 o H6) ?_)
  rintro _ w7 ⟨rfl, H8⟩
  refine r_cons (s_move (.bool (timeB o)) rfl rfl ?_)
  by_cases hb9 : (timeB o) = true
  · skip
    refine r_cons (r_take rfl (congrArg some hb9) ?_)
    refine s_fieldAddr 51 1 1 1 3 rfl fi_51_1 rfl rfl ?_
    refine r_cons (r_take rfl (congrArg some hb9) ?_)
    refine s_load (.int .i64 m) ag_3 rfl (H8.blk_at (i := 1) rfl) rfl rfl ?_
    refine r_cons (r_take rfl (congrArg some hb9) ?_)
    by_cases hc10 : (1 : Int) ≤ m
    · skip
      refine s_geq true rfl rfl (dtrue hc10) rfl ?_
      refine r_cons (s_pick_t (.bool true) (by exact congrArg Value.bool hb9) rfl rfl ?_)
      refine r_cons (s_move (.bool true) rfl rfl ?_)
      refine r_cons (r_take rfl rfl ?_)
      refine s_fieldAddr 51 1 1 1 3 rfl fi_51_1 rfl rfl ?_
      refine r_cons (r_take rfl rfl ?_)
      refine s_load (.int .i64 m) ag_3 rfl (H8.blk_at (i := 1) rfl) rfl rfl ?_
      refine r_cons (r_take rfl rfl ?_)
      by_cases hc11 : m ≤ 1024
      · skip
        refine s_leq true rfl rfl (dtrue hc11) rfl ?_
        refine r_cons (s_pick_t (.bool true) rfl rfl rfl ?_)
        refine r_cons (s_move (.bool true) rfl rfl ?_)
        refine r_cons (r_take rfl rfl ?_)
        refine s_fieldAddr 51 2 2 2 3 rfl fi_51_2 rfl rfl ?_
        refine r_cons (r_take rfl rfl ?_)
        refine s_load (.int .i64 i) ag_3 rfl (H8.blk_at (i := 1) rfl) rfl rfl ?_
        refine r_cons (r_take rfl rfl ?_)
        by_cases hc12 : (0 : Int) ≤ i
        · skip
          refine s_geq true rfl rfl (dtrue hc12) rfl ?_
          refine r_cons (s_pick_t (.bool true) rfl rfl rfl ?_)
          refine r_cons (s_move (.bool true) rfl rfl ?_)
          refine r_cons (r_take rfl rfl ?_)
          refine s_fieldAddr 51 2 2 2 3 rfl fi_51_2 rfl rfl ?_
          refine r_cons (r_take rfl rfl ?_)
          refine s_load (.int .i64 i) ag_3 rfl (H8.blk_at (i := 1) rfl) rfl rfl ?_
          refine r_cons (r_take rfl rfl ?_)
          refine s_fieldAddr 51 1 1 1 3 rfl fi_51_1 rfl rfl ?_
          refine r_cons (r_take rfl rfl ?_)
          refine s_load (.int .i64 m) ag_3 rfl (H8.blk_at (i := 1) rfl) rfl rfl ?_
          refine r_cons (r_take rfl rfl ?_)
          by_cases hc13 : i < m
          · skip
            refine s_lss true rfl rfl (dtrue hc13) rfl ?_
            refine r_cons (s_pick_t (.bool true) rfl rfl rfl ?_)
            refine r_cons (s_move (.bool true) rfl rfl ?_)
            refine r_cons (r_take rfl rfl ?_)
            refine s_fieldAddr 51 3 3 3 23 rfl fi_51_3 rfl rfl ?_
            refine r_cons (r_take rfl rfl ?_)
            refine s_load (.slice sp sn sc) ag_23 rfl (H8.blk_at (i := 1) rfl) rfl rfl ?_
            refine r_cons (r_take rfl rfl ?_)
            refine s_len sn rfl ⟨_, un_23⟩ rfl ?_
            refine r_cons (r_take rfl rfl ?_)
            by_cases hc14 : (sn : Int) ≤ 4096
            · skip
              refine s_leq true rfl rfl (dtrue hc14) rfl ?_
              refine r_cons (s_pick_t (.bool true) rfl rfl rfl ?_)
              refine r_cons (s_assign (.bool true) rfl rfl ?_)
              refine r_nil ?_
              refine g_ret' [.bool true] Try.func72 Try.results72 ⟨rfl, trivial⟩ ?_
              have H15 : St W w7 F := ((H8.drop 0 rfl).drop 0 rfl)
              exact ⟨congrArg Value.bool (pieceB_t hb9 (by omega)).symm, H15⟩
            · skip
              refine s_leq false rfl rfl (dfalse hc14) rfl ?_
              refine r_cons (s_pick_t (.bool false) rfl rfl rfl ?_)
              refine r_cons (s_assign (.bool false) rfl rfl ?_)
              refine r_nil ?_
              refine g_ret' [.bool false] Try.func72 Try.results72 ⟨rfl, trivial⟩ ?_
              have H16 : St W w7 F := ((H8.drop 0 rfl).drop 0 rfl)
              exact ⟨congrArg Value.bool (pieceB_2 (by omega)).symm, H16⟩
          · skip
            refine s_lss false rfl rfl (dfalse hc13) rfl ?_
            refine r_cons (s_pick_t (.bool false) rfl rfl rfl ?_)
            refine r_cons (s_move (.bool false) rfl rfl ?_)
            refine r_cons (r_pass rfl rfl rfl rfl rfl ?_)
            refine r_cons (r_pass rfl rfl rfl rfl rfl ?_)
            refine r_cons (r_pass rfl rfl rfl rfl rfl ?_)
            refine r_cons (r_pass rfl rfl rfl rfl rfl ?_)
            refine r_cons (s_pick_f (.bool false) rfl rfl rfl ?_)
            refine r_cons (s_assign (.bool false) rfl rfl ?_)
            refine r_nil ?_
            refine g_ret' [.bool false] Try.func72 Try.results72 ⟨rfl, trivial⟩ ?_
            have H17 : St W w7 F := ((H8.drop 0 rfl).drop 0 rfl)
            exact ⟨congrArg Value.bool (pieceB_2 (by omega)).symm, H17⟩
        · skip
          refine s_geq false rfl rfl (dfalse hc12) rfl ?_
          refine r_cons (s_pick_t (.bool false) rfl rfl rfl ?_)
          refine r_cons (s_move (.bool false) rfl rfl ?_)
          refine r_cons (r_pass rfl rfl rfl rfl rfl ?_)
          refine r_cons (r_pass rfl rfl rfl rfl rfl ?_)
          refine r_cons (r_pass rfl rfl rfl rfl rfl ?_)
          refine r_cons (r_pass rfl rfl rfl rfl rfl ?_)
          refine r_cons (r_pass rfl rfl rfl rfl rfl ?_)
          refine r_cons (s_pick_f (.bool false) rfl rfl rfl ?_)
          refine r_cons (s_move (.bool false) rfl rfl ?_)
          refine r_cons (r_pass rfl rfl rfl rfl rfl ?_)
          refine r_cons (r_pass rfl rfl rfl rfl rfl ?_)
          refine r_cons (r_pass rfl rfl rfl rfl rfl ?_)
          refine r_cons (r_pass rfl rfl rfl rfl rfl ?_)
          refine r_cons (s_pick_f (.bool false) rfl rfl rfl ?_)
          refine r_cons (s_assign (.bool false) rfl rfl ?_)
          refine r_nil ?_
          refine g_ret' [.bool false] Try.func72 Try.results72 ⟨rfl, trivial⟩ ?_
          have H18 : St W w7 F := ((H8.drop 0 rfl).drop 0 rfl)
          exact ⟨congrArg Value.bool (pieceB_2 (by omega)).symm, H18⟩
      · skip
        refine s_leq false rfl rfl (dfalse hc11) rfl ?_
        refine r_cons (s_pick_t (.bool false) rfl rfl rfl ?_)
        refine r_cons (s_move (.bool false) rfl rfl ?_)
        refine r_cons (r_pass rfl rfl rfl rfl rfl ?_)
        refine r_cons (r_pass rfl rfl rfl rfl rfl ?_)
        refine r_cons (r_pass rfl rfl rfl rfl rfl ?_)
        refine r_cons (s_pick_f (.bool false) rfl rfl rfl ?_)
        refine r_cons (s_move (.bool false) rfl rfl ?_)
        refine r_cons (r_pass rfl rfl rfl rfl rfl ?_)
        refine r_cons (r_pass rfl rfl rfl rfl rfl ?_)
        refine r_cons (r_pass rfl rfl rfl rfl rfl ?_)
        refine r_cons (r_pass rfl rfl rfl rfl rfl ?_)
        refine r_cons (r_pass rfl rfl rfl rfl rfl ?_)
        refine r_cons (s_pick_f (.bool false) rfl rfl rfl ?_)
        refine r_cons (s_move (.bool false) rfl rfl ?_)
        refine r_cons (r_pass rfl rfl rfl rfl rfl ?_)
        refine r_cons (r_pass rfl rfl rfl rfl rfl ?_)
        refine r_cons (r_pass rfl rfl rfl rfl rfl ?_)
        refine r_cons (r_pass rfl rfl rfl rfl rfl ?_)
        refine r_cons (s_pick_f (.bool false) rfl rfl rfl ?_)
        refine r_cons (s_assign (.bool false) rfl rfl ?_)
        refine r_nil ?_
        refine g_ret' [.bool false] Try.func72 Try.results72 ⟨rfl, trivial⟩ ?_
        have H19 : St W w7 F := ((H8.drop 0 rfl).drop 0 rfl)
        exact ⟨congrArg Value.bool (pieceB_2 (by omega)).symm, H19⟩
    · skip
      refine s_geq false rfl rfl (dfalse hc10) rfl ?_
      refine r_cons (s_pick_t (.bool false) (by exact congrArg Value.bool hb9) rfl rfl ?_)
      refine r_cons (s_move (.bool false) rfl rfl ?_)
      refine r_cons (r_pass rfl rfl rfl rfl rfl ?_)
      refine r_cons (r_pass rfl rfl rfl rfl rfl ?_)
      refine r_cons (r_pass rfl rfl rfl rfl rfl ?_)
      refine r_cons (s_pick_f (.bool false) rfl rfl rfl ?_)
      refine r_cons (s_move (.bool false) rfl rfl ?_)
      refine r_cons (r_pass rfl rfl rfl rfl rfl ?_)
      refine r_cons (r_pass rfl rfl rfl rfl rfl ?_)
      refine r_cons (r_pass rfl rfl rfl rfl rfl ?_)
      refine r_cons (s_pick_f (.bool false) rfl rfl rfl ?_)
      refine r_cons (s_move (.bool false) rfl rfl ?_)
      refine r_cons (r_pass rfl rfl rfl rfl rfl ?_)
      refine r_cons (r_pass rfl rfl rfl rfl rfl ?_)
      refine r_cons (r_pass rfl rfl rfl rfl rfl ?_)
      refine r_cons (r_pass rfl rfl rfl rfl rfl ?_)
      refine r_cons (r_pass rfl rfl rfl rfl rfl ?_)
      refine r_cons (s_pick_f (.bool false) rfl rfl rfl ?_)
      refine r_cons (s_move (.bool false) rfl rfl ?_)
      refine r_cons (r_pass rfl rfl rfl rfl rfl ?_)
      refine r_cons (r_pass rfl rfl rfl rfl rfl ?_)
      refine r_cons (r_pass rfl rfl rfl rfl rfl ?_)
      refine r_cons (r_pass rfl rfl rfl rfl rfl ?_)
      refine r_cons (s_pick_f (.bool false) rfl rfl rfl ?_)
      refine r_cons (s_assign (.bool false) rfl rfl ?_)
      refine r_nil ?_
      refine g_ret' [.bool false] Try.func72 Try.results72 ⟨rfl, trivial⟩ ?_
      have H20 : St W w7 F := ((H8.drop 0 rfl).drop 0 rfl)
      exact ⟨congrArg Value.bool (pieceB_2 (by omega)).symm, H20⟩
  · have hb9 := eq_false_of_ne_true hb9
    refine r_cons (r_pass rfl (congrArg some hb9) rfl rfl rfl ?_)
    refine r_cons (r_pass rfl (congrArg some hb9) rfl rfl rfl ?_)
    refine r_cons (r_pass rfl (congrArg some hb9) rfl rfl rfl ?_)
    refine r_cons (s_pick_f (.bool false) (by exact congrArg Value.bool hb9) rfl rfl ?_)
    refine r_cons (s_move (.bool false) rfl rfl ?_)
    refine r_cons (r_pass rfl rfl rfl rfl rfl ?_)
    refine r_cons (r_pass rfl rfl rfl rfl rfl ?_)
    refine r_cons (r_pass rfl rfl rfl rfl rfl ?_)
    refine r_cons (s_pick_f (.bool false) rfl rfl rfl ?_)
    refine r_cons (s_move (.bool false) rfl rfl ?_)
    refine r_cons (r_pass rfl rfl rfl rfl rfl ?_)
    refine r_cons (r_pass rfl rfl rfl rfl rfl ?_)
    refine r_cons (r_pass rfl rfl rfl rfl rfl ?_)
    refine r_cons (s_pick_f (.bool false) rfl rfl rfl ?_)
    refine r_cons (s_move (.bool false) rfl rfl ?_)
    refine r_cons (r_pass rfl rfl rfl rfl rfl ?_)
    refine r_cons (r_pass rfl rfl rfl rfl rfl ?_)
    refine r_cons (r_pass rfl rfl rfl rfl rfl ?_)
    refine r_cons (r_pass rfl rfl rfl rfl rfl ?_)
    refine r_cons (r_pass rfl rfl rfl rfl rfl ?_)
    refine r_cons (s_pick_f (.bool false) rfl rfl rfl ?_)
    refine r_cons (s_move (.bool false) rfl rfl ?_)
    refine r_cons (r_pass rfl rfl rfl rfl rfl ?_)
    refine r_cons (r_pass rfl rfl rfl rfl rfl ?_)
    refine r_cons (r_pass rfl rfl rfl rfl rfl ?_)
    refine r_cons (r_pass rfl rfl rfl rfl rfl ?_)
    refine r_cons (s_pick_f (.bool false) rfl rfl rfl ?_)
    refine r_cons (s_assign (.bool false) rfl rfl ?_)
    refine r_nil ?_
    refine g_ret' [.bool false] Try.func72 Try.results72 ⟨rfl, trivial⟩ ?_
    have H21 : St W w7 F := ((H8.drop 0 rfl).drop 0 rfl)
    exact ⟨congrArg Value.bool (pieceB_1 hb9).symm, H21⟩
set_option maxHeartbeats 4000000 in
set_option maxRecDepth 100000 in
theorem migrate_PieceBytes {W w : World} {F : List Atom} (x : PieceD) {j : Nat} (hj : F[j]? = some (DtA x.p x.c x.v.data)) (H : St W w F) : Calls Try.prog 29 #[.agg #[.int .i64 x.v.op.v, .int .i64 x.v.many.v, .int .i64 x.v.index.v, .slice x.p x.v.data.length x.c]] w (Ret fun v w' => ∃ p n c, v = .tuple #[.slice p n c, .int .i64 (pcE x.v)] ∧ n = (pcBytes x.v).length ∧ St W w' (Row 5 1 (.slice p n c) n ((pcBytes x.v).flatMap u8c) :: F)) := by
  have H0 := H.dup hj (DtA_pers _ _ _)
  have H1 : St W w (Im 1 (.slice x.p x.v.data.length x.c) x.v.data.length (x.v.data.flatMap u8c) :: F) := H0
  refine calls_of_go (n := 31) Try.func29 rfl Try.ntmps29 rfl ?_
  refine g_seq ?_
  refine g_region ?_
  refine r_cons (s_box H1 51 (.agg #[.int .i64 x.v.op.v, .int .i64 x.v.many.v, .int .i64 x.v.index.v, .slice x.p x.v.data.length x.c]) rfl (cs := #[.int .i64 x.v.op.v, .int .i64 x.v.many.v, .int .i64 x.v.index.v, .slice x.p x.v.data.length x.c]) rfl rfl ?_); intro bk2 w3 H4
  refine r_cons (s_assign (.slice none 0 0) rfl rfl ?_)
  refine r_cons (s_assign (.int .i64 0) rfl rfl ?_)
  refine r_nil ?_
  refine g_seq ?_
  refine g_seq ?_
  refine g_region ?_
  refine r_cons (s_loadAgg [.int .i64 x.v.op.v, .int .i64 x.v.many.v, .int .i64 x.v.index.v, .slice x.p x.v.data.length x.c] 4 ag_51 rfl (H4.blk_at (i := 0) rfl) (Nat.le_of_ble_eq_true rfl) rfl rfl ?_)
  refine r_cons (s_call [.agg #[.int .i64 x.v.op.v, .int .i64 x.v.many.v, .int .i64 x.v.index.v, .slice x.p x.v.data.length x.c]] pl_72 rfl rfl (migrate_piece x.v.op.v x.v.many.v x.v.index.v x.p x.v.data.length x.c H4) ?_)
  rintro _ w5 ⟨rfl, H6⟩
  refine r_cons (s_not (pieceB x.v.op.v x.v.many.v x.v.index.v x.v.data.length) rfl (!(pieceB x.v.op.v x.v.many.v x.v.index.v x.v.data.length)) rfl rfl ?_)
  refine r_nil ?_
  by_cases hb7 : (!(pieceB x.v.op.v x.v.many.v x.v.index.v x.v.data.length)) = true
  · skip
    refine g_true (congrArg Value.bool hb7) ?_
    refine g_seq ?_
    refine g_region ?_
    refine r_cons (s_assign (.slice none 0 0) rfl rfl ?_)
    refine r_cons (s_assign (.int .i64 242) rfl rfl ?_)
    refine r_nil ?_
    refine g_ret' [.slice none 0 0, .int .i64 242] Try.func29 Try.results29 ⟨rfl, rfl, trivial⟩ ?_
    have hno : pieceOk x.v = false := (nottrue hb7)
    have H8 := Row.nil_intro H6 5 1
    have H9 : St W w5 (Row 5 1 (.slice none 0 0) 0 [] :: F) := ((H8.drop 1 rfl).drop 1 rfl)
    exact ⟨none, 0, 0, by rw [pcE_242 hno]; rfl, by rw [pcBytes_no hno]; rfl, by rw [pcBytes_no hno]; exact H9⟩
  · have hb7 := eq_false_of_ne_true hb7
    refine g_false (congrArg Value.bool hb7) ?_
    refine g_skip ?_
    refine g_seq ?_
    refine g_region ?_
    have hok : pieceOk x.v = true := (notfalse hb7)
    obtain ⟨q1, q2, q3, q4, q5, q6, q7⟩ := pieceOk_is hok
    have hz1 := sizeU_le (u := x.v.op.v.toNat) (by omega)
    have hz2 := sizeU_le (u := x.v.many.v.toNat) (by omega)
    have hz3 := sizeU_le (u := x.v.index.v.toNat) (by omega)
    have hbsz : (bstr x.v.data).size = x.v.data.length := rfl
    have hz4 := sizeU_le (u := (bstr x.v.data).size) (by rw [hbsz]; omega)
    have htb : (textB (bstr x.v.data)).length = sizeU x.v.data.length + 8 * x.v.data.length := by rw [textB_len]; rfl
    have hz5 : (bstr x.v.data).size = x.v.data.length := rfl
    have hz6 := sizeU_le (u := x.v.data.length) (by omega)
    refine r_cons (s_call [] pl_78 rfl rfl (NewSink H6) ?_)
    rintro _ w11 ⟨bk10, rfl, H12⟩
    refine r_cons (s_assign (.pointer (some ⟨bk10, 0, none⟩)) rfl rfl ?_)
    refine r_nil ?_
    refine g_seq ?_
    refine g_region ?_
    refine r_cons (s_move (.pointer (some ⟨bk10, 0, none⟩)) rfl rfl ?_)
    refine r_cons (s_fieldAddr 51 0 0 0 3 rfl fi_51_0 rfl rfl ?_)
    refine r_cons (s_load (.int .i64 x.v.op.v) ag_3 rfl (H12.blk_at (i := 1) rfl) rfl rfl ?_)
    refine r_cons (s_conv ((x.v.op.v.toNat : Nat) : Int) rfl us_3 ik_137 ((wu64 (by omega)).trans (by omega)) rfl ?_)
    refine r_cons (s_call [.pointer (some ⟨bk10, 0, none⟩), .int .u64 ((x.v.op.v.toNat : Nat) : Int)] pl_79 rfl rfl (Sink_Nat bk10 [] x.v.op.v.toNat (by omega) (by first | omega | (simp only [List.length_append, List.length_nil, lowB_len, natB_len]; omega) | (repeat (first | exact Nat.zero_le _ | assumption | refine putL_le ?_ | refine bitsL_le ?_ | refine evPutL_le ?_ | (simp only [List.length_append, List.length_nil, lowB_len, natB_len]; omega)))) (i := 0) rfl H12) ?_)
    rintro _ w13 ⟨rfl, H14⟩
    have hk15 : putE [] (sizeU x.v.op.v.toNat : Int) = 0 ∧ putL [] (natB x.v.op.v.toNat) = natB x.v.op.v.toNat := by have hh_ := put_ok (L := ([] : List Bool)) (M := natB x.v.op.v.toNat) (n := (sizeU x.v.op.v.toNat : Int)) (by rw [natB_len]) (by (try simp only [List.length_append, List.length_nil, lowB_len, natB_len]); omega); rw [List.nil_append] at hh_; exact hh_
    have H17 : St W w13 (SinkA bk10 (natB x.v.op.v.toNat) :: blk bk2 (.cells #[.int .i64 x.v.op.v, .int .i64 x.v.many.v, .int .i64 x.v.index.v, .slice x.p x.v.data.length x.c] 51 (0, 0)) :: Im 1 (.slice x.p x.v.data.length x.c) x.v.data.length (x.v.data.flatMap u8c) :: F) := by rw [← hk15.2]; exact H14
    refine r_nil ?_
    refine g_seq ?_
    refine g_region ?_
    refine r_cons (s_move (.pointer (some ⟨bk10, 0, none⟩)) rfl rfl ?_)
    refine r_cons (s_fieldAddr 51 1 1 1 3 rfl fi_51_1 rfl rfl ?_)
    refine r_cons (s_load (.int .i64 x.v.many.v) ag_3 rfl (H17.blk_at (i := 1) rfl) rfl rfl ?_)
    refine r_cons (s_conv ((x.v.many.v.toNat : Nat) : Int) rfl us_3 ik_137 ((wu64 (by omega)).trans (by omega)) rfl ?_)
    refine r_cons (s_call [.pointer (some ⟨bk10, 0, none⟩), .int .u64 ((x.v.many.v.toNat : Nat) : Int)] pl_79 rfl rfl (Sink_Nat bk10 (natB x.v.op.v.toNat) x.v.many.v.toNat (by omega) (by first | omega | (simp only [List.length_append, List.length_nil, lowB_len, natB_len]; omega) | (repeat (first | exact Nat.zero_le _ | assumption | refine putL_le ?_ | refine bitsL_le ?_ | refine evPutL_le ?_ | (simp only [List.length_append, List.length_nil, lowB_len, natB_len]; omega)))) (i := 0) rfl H17) ?_)
    rintro _ w18 ⟨rfl, H19⟩
    have hk20 : putE (natB x.v.op.v.toNat) (sizeU x.v.many.v.toNat : Int) = 0 ∧ putL (natB x.v.op.v.toNat) (natB x.v.many.v.toNat) = natB x.v.op.v.toNat ++ natB x.v.many.v.toNat := put_ok (L := natB x.v.op.v.toNat) (M := natB x.v.many.v.toNat) (n := (sizeU x.v.many.v.toNat : Int)) (by rw [natB_len]) (by (try simp only [List.length_append, List.length_nil, lowB_len, natB_len]); omega)
    have H22 : St W w18 (SinkA bk10 (natB x.v.op.v.toNat ++ natB x.v.many.v.toNat) :: blk bk2 (.cells #[.int .i64 x.v.op.v, .int .i64 x.v.many.v, .int .i64 x.v.index.v, .slice x.p x.v.data.length x.c] 51 (0, 0)) :: Im 1 (.slice x.p x.v.data.length x.c) x.v.data.length (x.v.data.flatMap u8c) :: F) := by rw [← hk20.2]; exact H19
    refine r_nil ?_
    refine g_seq ?_
    refine g_region ?_
    refine r_cons (s_move (.pointer (some ⟨bk10, 0, none⟩)) rfl rfl ?_)
    refine r_cons (s_fieldAddr 51 2 2 2 3 rfl fi_51_2 rfl rfl ?_)
    refine r_cons (s_load (.int .i64 x.v.index.v) ag_3 rfl (H22.blk_at (i := 1) rfl) rfl rfl ?_)
    refine r_cons (s_conv ((x.v.index.v.toNat : Nat) : Int) rfl us_3 ik_137 ((wu64 (by omega)).trans (by omega)) rfl ?_)
    refine r_cons (s_call [.pointer (some ⟨bk10, 0, none⟩), .int .u64 ((x.v.index.v.toNat : Nat) : Int)] pl_79 rfl rfl (Sink_Nat bk10 (natB x.v.op.v.toNat ++ natB x.v.many.v.toNat) x.v.index.v.toNat (by omega) (by first | omega | (simp only [List.length_append, List.length_nil, lowB_len, natB_len]; omega) | (repeat (first | exact Nat.zero_le _ | assumption | refine putL_le ?_ | refine bitsL_le ?_ | refine evPutL_le ?_ | (simp only [List.length_append, List.length_nil, lowB_len, natB_len]; omega)))) (i := 0) rfl H22) ?_)
    rintro _ w23 ⟨rfl, H24⟩
    have hk25 : putE (natB x.v.op.v.toNat ++ natB x.v.many.v.toNat) (sizeU x.v.index.v.toNat : Int) = 0 ∧ putL (natB x.v.op.v.toNat ++ natB x.v.many.v.toNat) (natB x.v.index.v.toNat) = natB x.v.op.v.toNat ++ natB x.v.many.v.toNat ++ natB x.v.index.v.toNat := put_ok (L := natB x.v.op.v.toNat ++ natB x.v.many.v.toNat) (M := natB x.v.index.v.toNat) (n := (sizeU x.v.index.v.toNat : Int)) (by rw [natB_len]) (by (try simp only [List.length_append, List.length_nil, lowB_len, natB_len]); omega)
    have H27 : St W w23 (SinkA bk10 (natB x.v.op.v.toNat ++ natB x.v.many.v.toNat ++ natB x.v.index.v.toNat) :: blk bk2 (.cells #[.int .i64 x.v.op.v, .int .i64 x.v.many.v, .int .i64 x.v.index.v, .slice x.p x.v.data.length x.c] 51 (0, 0)) :: Im 1 (.slice x.p x.v.data.length x.c) x.v.data.length (x.v.data.flatMap u8c) :: F) := by rw [← hk25.2]; exact H24
    refine r_nil ?_
    refine g_seq ?_
    refine g_region ?_
    refine r_cons (s_move (.pointer (some ⟨bk10, 0, none⟩)) rfl rfl ?_)
    refine r_cons (s_fieldAddr 51 3 3 3 23 rfl fi_51_3 rfl rfl ?_)
    refine r_cons (s_load (.slice x.p x.v.data.length x.c) ag_23 rfl (H27.blk_at (i := 1) rfl) rfl rfl ?_)
    refine r_cons (s_bytes_str (xs := x.v.data) rfl (by rw [bytesV_flat]; exact (Im.rd H27 (i := 2) rfl)) un_23 un_5 un_9 rfl ?_)
    refine r_cons (s_call [.pointer (some ⟨bk10, 0, none⟩), .string (bstr x.v.data)] pl_80 rfl rfl (Sink_Text bk10 (natB x.v.op.v.toNat ++ natB x.v.many.v.toNat ++ natB x.v.index.v.toNat) (bstr x.v.data) (by rw [bstr_size]; omega) (by first | omega | (simp only [List.length_append, List.length_nil, lowB_len, natB_len]; omega) | (repeat (first | exact Nat.zero_le _ | assumption | refine putL_le ?_ | refine bitsL_le ?_ | refine evPutL_le ?_ | (simp only [List.length_append, List.length_nil, lowB_len, natB_len]; omega)))) (i := 0) rfl H27) ?_)
    rintro _ w28 ⟨rfl, H29⟩
    have hk30 : putE (natB x.v.op.v.toNat ++ natB x.v.many.v.toNat ++ natB x.v.index.v.toNat) ((textB (bstr x.v.data)).length : Int) = 0 ∧ putL (natB x.v.op.v.toNat ++ natB x.v.many.v.toNat ++ natB x.v.index.v.toNat) (textB (bstr x.v.data)) = natB x.v.op.v.toNat ++ natB x.v.many.v.toNat ++ natB x.v.index.v.toNat ++ textB (bstr x.v.data) := put_ok (L := natB x.v.op.v.toNat ++ natB x.v.many.v.toNat ++ natB x.v.index.v.toNat) rfl (by (try simp only [List.length_append, List.length_nil, lowB_len, natB_len]); omega)
    have H32 : St W w28 (SinkA bk10 (natB x.v.op.v.toNat ++ natB x.v.many.v.toNat ++ natB x.v.index.v.toNat ++ textB (bstr x.v.data)) :: blk bk2 (.cells #[.int .i64 x.v.op.v, .int .i64 x.v.many.v, .int .i64 x.v.index.v, .slice x.p x.v.data.length x.c] 51 (0, 0)) :: Im 1 (.slice x.p x.v.data.length x.c) x.v.data.length (x.v.data.flatMap u8c) :: F) := by rw [← hk30.2]; exact H29
    refine r_nil ?_
    refine g_seq ?_
    refine g_region ?_
    refine r_cons (s_move (.pointer (some ⟨bk10, 0, none⟩)) rfl rfl ?_)
    refine r_cons (s_call [.pointer (some ⟨bk10, 0, none⟩)] pl_81 rfl rfl (Sink_Out bk10 (natB x.v.op.v.toNat ++ natB x.v.many.v.toNat ++ natB x.v.index.v.toNat ++ textB (bstr x.v.data)) (by first | omega | (simp only [List.length_append, List.length_nil, lowB_len, natB_len]; omega) | (repeat (first | exact Nat.zero_le _ | assumption | refine putL_le ?_ | refine bitsL_le ?_ | refine evPutL_le ?_ | (simp only [List.length_append, List.length_nil, lowB_len, natB_len]; omega)))) (i := 0) rfl H32) ?_)
    rintro _ w35 ⟨pp33, cc34, rfl, H36⟩
    refine r_cons (s_assign (.slice pp33 (((natB x.v.op.v.toNat ++ natB x.v.many.v.toNat ++ natB x.v.index.v.toNat ++ textB (bstr x.v.data)).length + 7) / 8) cc34) rfl rfl ?_)
    refine r_cons (s_assign (.int .i64 0) rfl rfl ?_)
    refine r_nil ?_
    refine g_ret' [.slice pp33 (((natB x.v.op.v.toNat ++ natB x.v.many.v.toNat ++ natB x.v.index.v.toNat ++ textB (bstr x.v.data)).length + 7) / 8) cc34, .int .i64 0] Try.func29 Try.results29 ⟨rfl, rfl, trivial⟩ ?_
    have H37 : St W w35 (Row 5 1 (.slice pp33 (((natB x.v.op.v.toNat ++ natB x.v.many.v.toNat ++ natB x.v.index.v.toNat ++ textB (bstr x.v.data)).length + 7) / 8) cc34) (((natB x.v.op.v.toNat ++ natB x.v.many.v.toNat ++ natB x.v.index.v.toNat ++ textB (bstr x.v.data)).length + 7) / 8) ((pk (natB x.v.op.v.toNat ++ natB x.v.many.v.toNat ++ natB x.v.index.v.toNat ++ textB (bstr x.v.data))).flatMap u8c) :: F) := (((H36.drop 1 rfl).drop 1 rfl).drop 1 rfl)
    have hdg : pcB x.v = (natB x.v.op.v.toNat ++ natB x.v.many.v.toNat ++ natB x.v.index.v.toNat ++ textB (bstr x.v.data)) := by unfold pcB; simp only [List.nil_append, List.append_nil, List.append_assoc]
    refine ⟨_, _, _, by rw [pcE_0 hok]; rfl, ?_, ?_⟩
    · rw [pcBytes_yes hok, hdg, pk_len]
    · rw [pcBytes_yes hok, hdg]
      exact H37
set_option maxHeartbeats 4000000 in
set_option maxRecDepth 100000 in
theorem mr_nat_ok {W w : World} {F : List Atom} (r b : Nat) (bs : List UInt8) (p : Nat) (hp : p ≤ 8 * bs.length) (hb : bs.length ≤ 140737488355328) (H : St W w (blk r (.cells #[.pointer (some ⟨b, 0, none⟩), .int .i64 0] 147 (0, 0)) :: SrcA b bs p :: F)) : Calls Try.prog 86 #[.pointer (some ⟨r, 0, none⟩)] w (Ret fun v w' => (natE (remB bs p) = 0 ∧ v = .int .u64 (natU (remB bs p) : Int) ∧ ∃ p', remB bs p' = (remB bs p).drop (natN (remB bs p)) ∧ p' ≤ 8 * bs.length ∧ St W w' (blk r (.cells #[.pointer (some ⟨b, 0, none⟩), .int .i64 0] 147 (0, 0)) :: SrcA b bs p' :: F)) ∨ (¬ natE (remB bs p) = 0 ∧ v = .int .u64 0 ∧ St W w' (blk r (.cells #[.pointer (some ⟨b, 0, none⟩), .int .i64 (natE (remB bs p))] 147 (0, 0)) :: SrcA b bs p :: F))) := by
  refine calls_of_go (n := 23) Try.func86 rfl Try.ntmps86 rfl ?_
  refine g_seq ?_
  refine g_region ?_
  refine r_cons (s_assign (.int .u64 0) rfl rfl ?_)
  refine r_nil ?_
  refine g_seq ?_
  refine g_seq ?_
  refine g_region ?_
  refine r_cons (s_move (.pointer (some ⟨r, 0, none⟩)) rfl rfl ?_)
  refine r_cons (s_nilCheck (.pointer (some ⟨r, 0, none⟩)) rfl ⟨_, rfl⟩ rfl ?_)
  refine r_cons (s_fieldAddr 147 1 1 1 33 rfl fi_147_1 rfl rfl ?_)
  refine r_cons (s_load (.int .i64 0) ag_33 rfl (H.blk_at (i := 0) rfl) rfl rfl ?_)
  refine r_cons (s_neq false rfl rfl (ntrue (by decide)) rfl ?_)
  refine r_nil ?_
  refine g_false rfl ?_
  refine g_skip ?_
  refine g_seq ?_
  refine g_region ?_
  refine r_cons (s_move (.pointer (some ⟨r, 0, none⟩)) rfl rfl ?_)
  refine r_cons (s_nilCheck (.pointer (some ⟨r, 0, none⟩)) rfl ⟨_, rfl⟩ rfl ?_)
  refine r_cons (s_fieldAddr 147 0 0 0 144 rfl fi_147_0 rfl rfl ?_)
  refine r_cons (s_load (.pointer (some ⟨b, 0, none⟩)) ag_144 rfl (H.blk_at (i := 0) rfl) rfl rfl ?_)
  refine r_cons (s_call [.pointer (some ⟨b, 0, none⟩)] pl_116 rfl rfl (Src_Nat b bs p (by first | omega | decide +kernel | (repeat (first | assumption | exact Nat.zero_le _ | refine natN_pos ?_ | refine srcN_pos ?_ | refine textN_pos ?_))) (by first | omega | decide +kernel)   (i := 1) rfl H) ?_)
  rintro _ w1 ⟨rfl, H2⟩
  refine r_cons (s_move (.tuple #[.int .u64 (natU (remB bs p) : Int), .int .i64 (natE (remB bs p))]) rfl rfl ?_)
  refine r_cons (s_extract (.int .u64 (natU (remB bs p) : Int)) #[.int .u64 (natU (remB bs p) : Int), .int .i64 (natE (remB bs p))] rfl rfl rfl ?_)
  refine r_cons (s_extract (.int .i64 (natE (remB bs p))) #[.int .u64 (natU (remB bs p) : Int), .int .i64 (natE (remB bs p))] rfl rfl rfl ?_)
  refine r_cons (s_assign (.int .u64 (natU (remB bs p) : Int)) rfl rfl ?_)
  refine r_cons (s_assign (.int .i64 (natE (remB bs p))) rfl rfl ?_)
  refine r_nil ?_
  refine g_seq ?_
  refine g_region ?_
  refine r_cons (s_move (.pointer (some ⟨r, 0, none⟩)) rfl rfl ?_)
  refine r_cons (s_move (.int .i64 (natE (remB bs p))) rfl rfl ?_)
  refine r_cons (s_nilCheck (.pointer (some ⟨r, 0, none⟩)) rfl ⟨_, rfl⟩ rfl ?_)
  refine r_cons (s_fieldAddr 147 1 1 1 33 rfl fi_147_1 rfl rfl ?_)
  refine r_cons (s_store H2 0 (.int .i64 (natE (remB bs p))) rfl rfl rfl sz_33 rfl (Nat.le_of_ble_eq_true rfl) rfl (cs' := #[.pointer (some ⟨b, 0, none⟩), .int .i64 (natE (remB bs p))]) rfl ?_); intro w3 H4
  refine r_nil ?_
  refine g_seq ?_
  refine g_region ?_
  refine r_cons (s_move (.int .u64 (natU (remB bs p) : Int)) rfl rfl ?_)
  refine r_cons (s_assign (.int .u64 (natU (remB bs p) : Int)) rfl rfl ?_)
  refine r_nil ?_
  refine g_ret' [.int .u64 (natU (remB bs p) : Int)] Try.func86 Try.results86 ⟨rfl, trivial⟩ ?_
  have H5 : St W w3 (blk r (.cells #[.pointer (some ⟨b, 0, none⟩), .int .i64 (natE (remB bs p))] 147 (0, 0)) :: SrcA b bs (p + natN (remB bs p)) :: F) := ((H4.move 1 rfl).move 1 rfl)
  rcases Decidable.em (natE (remB bs p) = 0) with he | he
  · refine .inl ⟨he, rfl, p + natN (remB bs p), remB_drop bs p _ ▸ rfl, natN_pos hp, ?_⟩
    have hx := H5
    rw [he] at hx
    exact hx
  · refine .inr ⟨he, by rw [natU_no he]; rfl, ?_⟩
    have hx := H5
    rw [natN_no he] at hx
    exact hx
set_option maxHeartbeats 4000000 in
set_option maxRecDepth 100000 in
theorem mr_nat_no {W w : World} {F : List Atom} (r b : Nat) (e : Int) (he : ¬ e = 0) {i : Nat} (hi : F[i]? = some (blk r (.cells #[.pointer (some ⟨b, 0, none⟩), .int .i64 e] 147 (0, 0)))) (H : St W w F) : Calls Try.prog 86 #[.pointer (some ⟨r, 0, none⟩)] w (Ret fun v w' => v = .int .u64 0 ∧ St W w' F) := by
  have H0 := H.front hi
  refine calls_of_go (n := 23) Try.func86 rfl Try.ntmps86 rfl ?_
  refine g_seq ?_
  refine g_region ?_
  refine r_cons (s_assign (.int .u64 0) rfl rfl ?_)
  refine r_nil ?_
  refine g_seq ?_
  refine g_seq ?_
  refine g_region ?_
  refine r_cons (s_move (.pointer (some ⟨r, 0, none⟩)) rfl rfl ?_)
  refine r_cons (s_nilCheck (.pointer (some ⟨r, 0, none⟩)) rfl ⟨_, rfl⟩ rfl ?_)
  refine r_cons (s_fieldAddr 147 1 1 1 33 rfl fi_147_1 rfl rfl ?_)
  refine r_cons (s_load (.int .i64 e) ag_33 rfl (H0.blk_at (i := 0) rfl) rfl rfl ?_)
  refine r_cons (s_neq true rfl rfl (nfalse he) rfl ?_)
  refine r_nil ?_
  refine g_true rfl ?_
  refine g_seq ?_
  refine g_region ?_
  refine r_cons (s_assign (.int .u64 0) rfl rfl ?_)
  refine r_nil ?_
  refine g_ret' [.int .u64 0] Try.func86 Try.results86 ⟨rfl, trivial⟩ ?_
  have H1 : St W w (blk r (.cells #[.pointer (some ⟨b, 0, none⟩), .int .i64 e] 147 (0, 0)) :: (F.set i emp)) := H0
  exact ⟨rfl, St.back_same hi H1⟩
set_option maxHeartbeats 4000000 in
set_option maxRecDepth 100000 in
theorem mr_wrong_e {W w : World} {F : List Atom} (r b : Nat) (e : Int) (he : ¬ e = 0) (x : Bool) (k : Int) {i : Nat} (hi : F[i]? = some (blk r (.cells #[.pointer (some ⟨b, 0, none⟩), .int .i64 e] 147 (0, 0)))) (H : St W w F) : Calls Try.prog 87 #[.pointer (some ⟨r, 0, none⟩), .bool x, .int .i64 k] w (Ret fun v w' => v = .tuple #[] ∧ St W w' F) := by
  have H0 := H.front hi
  refine calls_of_go (n := 18) Try.func87 rfl Try.ntmps87 rfl ?_
  refine g_seq ?_
  refine g_region ?_
  refine r_cons (s_move (.pointer (some ⟨r, 0, none⟩)) rfl rfl ?_)
  refine r_cons (s_nilCheck (.pointer (some ⟨r, 0, none⟩)) rfl ⟨_, rfl⟩ rfl ?_)
  refine r_cons (s_fieldAddr 147 1 1 1 33 rfl fi_147_1 rfl rfl ?_)
  refine r_cons (s_load (.int .i64 e) ag_33 rfl (H0.blk_at (i := 0) rfl) rfl rfl ?_)
  refine r_cons (s_eql false rfl rfl (dfalse he) rfl ?_)
  refine r_cons (s_move (.bool false) rfl rfl ?_)
  refine r_cons (r_pass rfl rfl rfl rfl rfl ?_)
  refine r_cons (s_pick_f (.bool false) rfl rfl rfl ?_)
  refine r_nil ?_
  refine g_false rfl ?_
  refine g_skip ?_
  refine g_end' [] Try.func87 Try.results87 trivial ?_
  have H1 : St W w (blk r (.cells #[.pointer (some ⟨b, 0, none⟩), .int .i64 e] 147 (0, 0)) :: (F.set i emp)) := H0
  exact ⟨rfl, St.back_same hi H1⟩
set_option maxHeartbeats 4000000 in
set_option maxRecDepth 100000 in
theorem mr_wrong_f {W w : World} {F : List Atom} (r b : Nat) (x : Bool) (k : Int) (hx : x = false) {i : Nat} (hi : F[i]? = some (blk r (.cells #[.pointer (some ⟨b, 0, none⟩), .int .i64 0] 147 (0, 0)))) (H : St W w F) : Calls Try.prog 87 #[.pointer (some ⟨r, 0, none⟩), .bool x, .int .i64 k] w (Ret fun v w' => v = .tuple #[] ∧ St W w' F) := by
  have H0 := H.front hi
  refine calls_of_go (n := 18) Try.func87 rfl Try.ntmps87 rfl ?_
  refine g_seq ?_
  refine g_region ?_
  refine r_cons (s_move (.pointer (some ⟨r, 0, none⟩)) rfl rfl ?_)
  refine r_cons (s_nilCheck (.pointer (some ⟨r, 0, none⟩)) rfl ⟨_, rfl⟩ rfl ?_)
  refine r_cons (s_fieldAddr 147 1 1 1 33 rfl fi_147_1 rfl rfl ?_)
  refine r_cons (s_load (.int .i64 0) ag_33 rfl (H0.blk_at (i := 0) rfl) rfl rfl ?_)
  refine r_cons (s_eql true rfl rfl (dtrue (by decide)) rfl ?_)
  refine r_cons (s_move (.bool true) rfl rfl ?_)
  refine r_cons (r_take rfl rfl ?_)
  refine s_move (.bool x) rfl rfl ?_
  refine r_cons (s_pick_t (.bool x) rfl rfl rfl ?_)
  refine r_nil ?_
  refine g_false (congrArg Value.bool hx) ?_
  refine g_skip ?_
  refine g_end' [] Try.func87 Try.results87 trivial ?_
  have H1 : St W w (blk r (.cells #[.pointer (some ⟨b, 0, none⟩), .int .i64 0] 147 (0, 0)) :: (F.set i emp)) := H0
  exact ⟨rfl, St.back_same hi H1⟩
set_option maxHeartbeats 4000000 in
set_option maxRecDepth 100000 in
theorem mr_wrong_t {W w : World} {F : List Atom} (r b : Nat) (x : Bool) (k : Int) (hx : x = true) {i : Nat} (hi : F[i]? = some (blk r (.cells #[.pointer (some ⟨b, 0, none⟩), .int .i64 0] 147 (0, 0)))) (H : St W w F) : Calls Try.prog 87 #[.pointer (some ⟨r, 0, none⟩), .bool x, .int .i64 k] w (Ret fun v w' => v = .tuple #[] ∧ St W w' (F.set i (blk r (.cells #[.pointer (some ⟨b, 0, none⟩), .int .i64 k] 147 (0, 0))))) := by
  have H0 := H.front hi
  refine calls_of_go (n := 18) Try.func87 rfl Try.ntmps87 rfl ?_
  refine g_seq ?_
  refine g_region ?_
  refine r_cons (s_move (.pointer (some ⟨r, 0, none⟩)) rfl rfl ?_)
  refine r_cons (s_nilCheck (.pointer (some ⟨r, 0, none⟩)) rfl ⟨_, rfl⟩ rfl ?_)
  refine r_cons (s_fieldAddr 147 1 1 1 33 rfl fi_147_1 rfl rfl ?_)
  refine r_cons (s_load (.int .i64 0) ag_33 rfl (H0.blk_at (i := 0) rfl) rfl rfl ?_)
  refine r_cons (s_eql true rfl rfl (dtrue (by decide)) rfl ?_)
  refine r_cons (s_move (.bool true) rfl rfl ?_)
  refine r_cons (r_take rfl rfl ?_)
  refine s_move (.bool x) rfl rfl ?_
  refine r_cons (s_pick_t (.bool x) rfl rfl rfl ?_)
  refine r_nil ?_
  refine g_true (congrArg Value.bool hx) ?_
  refine g_region ?_
  refine r_cons (s_move (.pointer (some ⟨r, 0, none⟩)) rfl rfl ?_)
  refine r_cons (s_move (.int .i64 k) rfl rfl ?_)
  refine r_cons (s_nilCheck (.pointer (some ⟨r, 0, none⟩)) rfl ⟨_, rfl⟩ rfl ?_)
  refine r_cons (s_fieldAddr 147 1 1 1 33 rfl fi_147_1 rfl rfl ?_)
  refine r_cons (s_store H0 0 (.int .i64 k) rfl rfl rfl sz_33 rfl (Nat.le_of_ble_eq_true rfl) rfl (cs' := #[.pointer (some ⟨b, 0, none⟩), .int .i64 k]) rfl ?_); intro w1 H2
  refine r_nil ?_
  refine g_end' [] Try.func87 Try.results87 trivial ?_
  have H3 : St W w1 (blk r (.cells #[.pointer (some ⟨b, 0, none⟩), .int .i64 k] 147 (0, 0)) :: (F.set i emp)) := H2
  exact ⟨rfl, St.back hi H3⟩
set_option maxHeartbeats 4000000 in
set_option maxRecDepth 100000 in
theorem mr_end_ok {W w : World} {F : List Atom} (r b : Nat) (bs : List UInt8) (p : Nat) (hp : p ≤ 8 * bs.length) (hb : bs.length ≤ 140737488355328) (H : St W w (blk r (.cells #[.pointer (some ⟨b, 0, none⟩), .int .i64 0] 147 (0, 0)) :: SrcA b bs p :: F)) : Calls Try.prog 90 #[.pointer (some ⟨r, 0, none⟩)] w (Ret fun v w' => v = .tuple #[] ∧ St W w' (blk r (.cells #[.pointer (some ⟨b, 0, none⟩), .int .i64 (endE (remB bs p))] 147 (0, 0)) :: SrcA b bs p :: F)) := by
  refine calls_of_go (n := 15) Try.func90 rfl Try.ntmps90 rfl ?_
  refine g_seq ?_
  refine g_region ?_
  refine r_cons (s_move (.pointer (some ⟨r, 0, none⟩)) rfl rfl ?_)
  refine r_cons (s_nilCheck (.pointer (some ⟨r, 0, none⟩)) rfl ⟨_, rfl⟩ rfl ?_)
  refine r_cons (s_fieldAddr 147 1 1 1 33 rfl fi_147_1 rfl rfl ?_)
  refine r_cons (s_load (.int .i64 0) ag_33 rfl (H.blk_at (i := 0) rfl) rfl rfl ?_)
  refine r_cons (s_eql true rfl rfl (dtrue (by decide)) rfl ?_)
  refine r_nil ?_
  refine g_true rfl ?_
  refine g_region ?_
  refine r_cons (s_move (.pointer (some ⟨r, 0, none⟩)) rfl rfl ?_)
  refine r_cons (s_move (.pointer (some ⟨r, 0, none⟩)) rfl rfl ?_)
  refine r_cons (s_nilCheck (.pointer (some ⟨r, 0, none⟩)) rfl ⟨_, rfl⟩ rfl ?_)
  refine r_cons (s_fieldAddr 147 0 0 0 144 rfl fi_147_0 rfl rfl ?_)
  refine r_cons (s_load (.pointer (some ⟨b, 0, none⟩)) ag_144 rfl (H.blk_at (i := 0) rfl) rfl rfl ?_)
  refine r_cons (s_call [.pointer (some ⟨b, 0, none⟩)] pl_120 rfl rfl (Src_End b bs p (by first | omega | decide +kernel | (repeat (first | assumption | exact Nat.zero_le _ | refine natN_pos ?_ | refine srcN_pos ?_ | refine textN_pos ?_))) (by first | omega | decide +kernel)   (i := 1) rfl H) ?_)
  rintro _ w1 ⟨rfl, H2⟩
  refine r_cons (s_nilCheck (.pointer (some ⟨r, 0, none⟩)) rfl ⟨_, rfl⟩ rfl ?_)
  refine r_cons (s_fieldAddr 147 1 1 1 33 rfl fi_147_1 rfl rfl ?_)
  refine r_cons (s_store H2 0 (.int .i64 (endE (remB bs p))) rfl rfl rfl sz_33 rfl (Nat.le_of_ble_eq_true rfl) rfl (cs' := #[.pointer (some ⟨b, 0, none⟩), .int .i64 (endE (remB bs p))]) rfl ?_); intro w3 H4
  refine r_nil ?_
  refine g_end' [] Try.func90 Try.results90 trivial ?_
  have H5 : St W w3 (blk r (.cells #[.pointer (some ⟨b, 0, none⟩), .int .i64 (endE (remB bs p))] 147 (0, 0)) :: SrcA b bs p :: F) := ((H4.move 1 rfl).move 1 rfl)
  exact ⟨rfl, H5⟩
set_option maxHeartbeats 4000000 in
set_option maxRecDepth 100000 in
theorem mr_end_no {W w : World} {F : List Atom} (r b : Nat) (e : Int) (he : ¬ e = 0) {i : Nat} (hi : F[i]? = some (blk r (.cells #[.pointer (some ⟨b, 0, none⟩), .int .i64 e] 147 (0, 0)))) (H : St W w F) : Calls Try.prog 90 #[.pointer (some ⟨r, 0, none⟩)] w (Ret fun v w' => v = .tuple #[] ∧ St W w' F) := by
  have H0 := H.front hi
  refine calls_of_go (n := 15) Try.func90 rfl Try.ntmps90 rfl ?_
  refine g_seq ?_
  refine g_region ?_
  refine r_cons (s_move (.pointer (some ⟨r, 0, none⟩)) rfl rfl ?_)
  refine r_cons (s_nilCheck (.pointer (some ⟨r, 0, none⟩)) rfl ⟨_, rfl⟩ rfl ?_)
  refine r_cons (s_fieldAddr 147 1 1 1 33 rfl fi_147_1 rfl rfl ?_)
  refine r_cons (s_load (.int .i64 e) ag_33 rfl (H0.blk_at (i := 0) rfl) rfl rfl ?_)
  refine r_cons (s_eql false rfl rfl (dfalse he) rfl ?_)
  refine r_nil ?_
  refine g_false rfl ?_
  refine g_skip ?_
  refine g_end' [] Try.func90 Try.results90 trivial ?_
  have H1 : St W w (blk r (.cells #[.pointer (some ⟨b, 0, none⟩), .int .i64 e] 147 (0, 0)) :: (F.set i emp)) := H0
  exact ⟨rfl, St.back_same hi H1⟩
set_option maxHeartbeats 4000000 in
set_option maxRecDepth 100000 in
theorem migrate_clip {W w : World} {F : List Atom} (u : Nat) (hu : u < 18446744073709551616) (H : St W w F) : Calls Try.prog 88 #[.int .u64 (u : Int)] w (Ret fun v w' => v = .int .i64 (clipN u) ∧ St W w' F) := by
  refine calls_of_go (n := 7) Try.func88 rfl Try.ntmps88 rfl ?_
  refine g_seq ?_
  refine g_region ?_
  refine r_cons (s_assign (.int .i64 0) rfl rfl ?_)
  refine r_nil ?_
  refine g_seq ?_
  refine g_seq ?_
  refine g_region ?_
  refine r_cons (s_move (.int .u64 (u : Int)) rfl rfl ?_)
  by_cases hc1 : (1099511627777 : Int) < (u : Int)
  · skip
    refine r_cons (s_gtr true rfl rfl (dtrue hc1) rfl ?_)
    refine r_nil ?_
    refine g_true rfl ?_
    refine g_seq ?_
    refine g_region ?_
    refine r_cons (s_assign (.int .i64 (-1)) rfl rfl ?_)
    refine r_nil ?_
    refine g_ret' [.int .i64 (-1)] Try.func88 Try.results88 ⟨rfl, trivial⟩ ?_
    have H2 : St W w F := H
    exact ⟨vint (by unfold clipN; first | (rw [if_pos (by omega)]; done) | (rw [if_neg (by omega)]; done)), H2⟩
  · skip
    refine r_cons (s_gtr false rfl rfl (dfalse hc1) rfl ?_)
    refine r_nil ?_
    refine g_false rfl ?_
    refine g_skip ?_
    refine g_seq ?_
    refine g_region ?_
    refine r_cons (s_move (.int .u64 (u : Int)) rfl rfl ?_)
    refine r_cons (s_conv (u : Int) rfl us_137 ik_2 (wi64 (by omega)) rfl ?_)
    refine r_cons (s_assign (.int .i64 (u : Int)) rfl rfl ?_)
    refine r_nil ?_
    refine g_ret' [.int .i64 (u : Int)] Try.func88 Try.results88 ⟨rfl, trivial⟩ ?_
    have H3 : St W w F := H
    exact ⟨vint (by unfold clipN; first | (rw [if_pos (by omega)]; done) | (rw [if_neg (by omega)]; done)), H3⟩
set_option maxHeartbeats 4000000 in
set_option maxRecDepth 100000 in
theorem migrate_ParsePiece {W w : World} {F : List Atom} (A : Atom) (v0 : Value) (bs : List UInt8) (hA : RdA A 1 v0 bs.length (bs.flatMap u8c)) (hb : bs.length ≤ 140737488355328) {j : Nat} (hj : F[j]? = some A) (H : St W w F) : Calls Try.prog 31 #[v0] w (Ret fun v w' => ∃ q c, v = .tuple #[.agg #[.int .i64 ((ppV (remB bs 0)).op.v), .int .i64 ((ppV (remB bs 0)).many.v), .int .i64 ((ppV (remB bs 0)).index.v), .slice q ((ppV (remB bs 0)).data.length) c], .int .i64 (ppE (remB bs 0))] ∧ St W w' (DtA q c (ppV (remB bs 0)).data :: F)) := by
  have hml := (hA _ _ _ j H hj).2
  obtain ⟨pp1, cc2, rfl, hn3⟩ := Rd.shape (hA _ _ _ j H hj).1
  refine calls_of_go (n := 77) Try.func31 rfl Try.ntmps31 rfl ?_
  refine g_seq ?_
  refine g_region ?_
  refine r_cons (s_alloc H 51 ze_51 rfl ?_); intro bk4 w5 H6
  refine r_cons (s_assign (.int .i64 0) rfl rfl ?_)
  refine r_nil ?_
  refine g_seq ?_
  refine g_region ?_
  refine r_cons (s_move (.slice pp1 bs.length cc2) rfl rfl ?_)
  refine r_cons (s_call [.slice pp1 bs.length cc2] pl_85 rfl rfl (NewSource _ _ bs (hA) (by first | omega | decide) (j := j + 1) (by exact hj) H6) ?_)
  rintro _ w8 ⟨bk7, rfl, H9⟩
  refine r_cons (s_build (cs := #[.pointer (some ⟨bk7, 0, none⟩), .int .i64 0]) (by kernel_rfl) rfl ?_)
  refine r_cons (s_box H9 147 (.agg #[.pointer (some ⟨bk7, 0, none⟩), .int .i64 0]) rfl (cs := #[.pointer (some ⟨bk7, 0, none⟩), .int .i64 0]) rfl rfl ?_); intro bk10 w11 H12
  refine r_cons (s_assign (.pointer (some ⟨bk10, 0, none⟩)) rfl rfl ?_)
  refine r_nil ?_
  refine g_seq ?_
  refine g_region ?_
  refine r_cons (s_move (.pointer (some ⟨bk10, 0, none⟩)) rfl rfl ?_)
  refine r_cons (s_call [.pointer (some ⟨bk10, 0, none⟩)] pl_86 rfl rfl (mr_nat_ok bk10 bk7 bs 0 (by first | omega | decide +kernel | (repeat (first | assumption | exact Nat.zero_le _ | refine natN_pos ?_ | refine srcN_pos ?_ | refine textN_pos ?_))) (by omega) H12) ?_)
  rintro _ w18 (⟨he13, rfl, q15, hR16, hp17, H14⟩ | ⟨he13, rfl, H14⟩)
  · skip
    refine r_cons (s_assign (.int .u64 (natU (remB bs 0) : Int)) rfl rfl ?_)
    refine r_nil ?_
    refine g_seq ?_
    refine g_region ?_
    refine r_cons (s_move (.pointer (some ⟨bk10, 0, none⟩)) rfl rfl ?_)
    refine r_cons (s_move (.int .u64 (natU (remB bs 0) : Int)) rfl rfl ?_)
    by_cases hc19 : (1099511627776 : Int) < (natU (remB bs 0) : Int)
    · skip
      refine r_cons (s_gtr true rfl rfl (dtrue hc19) rfl ?_)
      refine r_cons (s_call [.pointer (some ⟨bk10, 0, none⟩), .bool true, .int .i64 242] pl_87 rfl rfl (mr_wrong_t bk10 bk7 true 242 rfl (i := 0) rfl H14) ?_)
      rintro _ w20 ⟨rfl, H21⟩
      refine r_nil ?_
      refine g_seq ?_
      refine g_region ?_
      refine r_cons (s_move (.pointer (some ⟨bk10, 0, none⟩)) rfl rfl ?_)
      refine r_cons (s_call [.pointer (some ⟨bk10, 0, none⟩)] pl_86 rfl rfl (mr_nat_no bk10 bk7 242 (by first | assumption | decide | omega) (i := 0) rfl H21) ?_)
      rintro _ w22 ⟨rfl, H23⟩
      refine r_cons (s_assign (.int .u64 0) rfl rfl ?_)
      refine r_nil ?_
      refine g_seq ?_
      refine g_region ?_
      refine r_cons (s_move (.pointer (some ⟨bk10, 0, none⟩)) rfl rfl ?_)
      refine r_cons (s_move (.int .u64 0) rfl rfl ?_)
      refine r_cons (s_gtr false rfl rfl (dfalse (by decide)) rfl ?_)
      refine r_cons (s_call [.pointer (some ⟨bk10, 0, none⟩), .bool false, .int .i64 242] pl_87 rfl rfl (mr_wrong_e bk10 bk7 242 (by first | assumption | decide | omega) false 242 (i := 0) rfl H23) ?_)
      rintro _ w24 ⟨rfl, H25⟩
      refine r_nil ?_
      refine g_seq ?_
      refine g_region ?_
      refine r_cons (s_move (.pointer (some ⟨bk10, 0, none⟩)) rfl rfl ?_)
      refine r_cons (s_call [.pointer (some ⟨bk10, 0, none⟩)] pl_86 rfl rfl (mr_nat_no bk10 bk7 242 (by first | assumption | decide | omega) (i := 0) rfl H25) ?_)
      rintro _ w26 ⟨rfl, H27⟩
      refine r_cons (s_assign (.int .u64 0) rfl rfl ?_)
      refine r_nil ?_
      refine g_seq ?_
      refine g_region ?_
      refine r_cons (s_move (.pointer (some ⟨bk10, 0, none⟩)) rfl rfl ?_)
      refine r_cons (s_move (.int .u64 0) rfl rfl ?_)
      refine r_cons (s_move (.int .u64 0) rfl rfl ?_)
      refine r_cons (s_geq true rfl rfl (dtrue (by decide)) rfl ?_)
      refine r_cons (s_call [.pointer (some ⟨bk10, 0, none⟩), .bool true, .int .i64 242] pl_87 rfl rfl (mr_wrong_e bk10 bk7 242 (by first | assumption | decide | omega) true 242 (i := 0) rfl H27) ?_)
      rintro _ w28 ⟨rfl, H29⟩
      refine r_nil ?_
      refine g_seq ?_
      refine g_region ?_
      refine r_cons (s_move (.int .u64 (natU (remB bs 0) : Int)) rfl rfl ?_)
      refine r_cons (s_call [.int .u64 (natU (remB bs 0) : Int)] pl_88 rfl rfl (migrate_clip (natU (remB bs 0)) (natU_lt _) H29) ?_)
      rintro _ w30 ⟨rfl, H31⟩
      refine r_cons (s_move (.int .u64 0) rfl rfl ?_)
      refine r_cons (s_call [.int .u64 0] pl_88 rfl rfl (migrate_clip (0) (by decide) H31) ?_)
      rintro _ w32 ⟨rfl, H33⟩
      refine r_cons (s_move (.int .u64 0) rfl rfl ?_)
      refine r_cons (s_call [.int .u64 0] pl_88 rfl rfl (migrate_clip (0) (by decide) H33) ?_)
      rintro _ w34 ⟨rfl, H35⟩
      refine r_cons (s_build (cs := #[.int .i64 (clipN (natU (remB bs 0))), .int .i64 (clipN 0), .int .i64 (clipN 0), .slice none 0 0]) (by kernel_rfl) rfl ?_)
      refine r_cons (s_alloc H35 51 ze_51 rfl ?_); intro bk36 w37 H38
      refine r_cons (s_storeAgg H38 0 #[.int .i64 (clipN (natU (remB bs 0))), .int .i64 (clipN 0), .int .i64 (clipN 0), .slice none 0 0] 4 rfl rfl rfl sz_51 rfl (by simp [Value.oneCell']) (Nat.le_of_ble_eq_true rfl) (fun o h1 h2 => by first | (simp; done) | (simp; omega)) (cs' := #[.int .i64 (clipN (natU (remB bs 0))), .int .i64 (clipN 0), .int .i64 (clipN 0), .slice none 0 0]) rfl ?_); intro w39 H40
      refine r_nil ?_
      refine g_seq ?_
      refine g_seq ?_
      refine g_region ?_
      refine r_cons (s_move (.pointer (some ⟨bk10, 0, none⟩)) rfl rfl ?_)
      refine r_cons (s_nilCheck (.pointer (some ⟨bk10, 0, none⟩)) rfl ⟨_, rfl⟩ rfl ?_)
      refine r_cons (s_fieldAddr 147 1 1 1 33 rfl fi_147_1 rfl rfl ?_)
      refine r_cons (s_load (.int .i64 242) ag_33 rfl (H40.blk_at (i := 1) rfl) rfl rfl ?_)
      refine r_cons (s_eql false rfl rfl (dfalse (by decide)) rfl ?_)
      refine r_nil ?_
      refine g_false rfl ?_
      refine g_skip ?_
      refine g_seq ?_
      refine g_region ?_
      refine r_cons (s_move (.pointer (some ⟨bk10, 0, none⟩)) rfl rfl ?_)
      refine r_cons (s_call [.pointer (some ⟨bk10, 0, none⟩)] pl_90 rfl rfl (mr_end_no bk10 bk7 242 (by first | assumption | decide | omega) (i := 1) rfl H40) ?_)
      rintro _ w41 ⟨rfl, H42⟩
      refine r_nil ?_
      refine g_seq ?_
      refine g_region ?_
      refine r_cons (s_move (.pointer (some ⟨bk10, 0, none⟩)) rfl rfl ?_)
      refine r_cons (s_loadAgg [.int .i64 (clipN (natU (remB bs 0))), .int .i64 (clipN 0), .int .i64 (clipN 0), .slice none 0 0] 4 ag_51 rfl (H42.blk_at (i := 0) rfl) (Nat.le_of_ble_eq_true rfl) rfl rfl ?_)
      refine r_cons (s_call [.agg #[.int .i64 (clipN (natU (remB bs 0))), .int .i64 (clipN 0), .int .i64 (clipN 0), .slice none 0 0]] pl_72 rfl rfl (migrate_piece (clipN (natU (remB bs 0))) (clipN 0) (clipN 0) none 0 0 H42) ?_)
      rintro _ w43 ⟨rfl, H44⟩
      refine r_cons (s_not (pieceB (clipN (natU (remB bs 0))) (clipN 0) (clipN 0) 0) rfl (!(pieceB (clipN (natU (remB bs 0))) (clipN 0) (clipN 0) 0)) rfl rfl ?_)
      refine r_cons (s_call [.pointer (some ⟨bk10, 0, none⟩), .bool (!(pieceB (clipN (natU (remB bs 0))) (clipN 0) (clipN 0) 0)), .int .i64 242] pl_87 rfl rfl (mr_wrong_e bk10 bk7 242 (by first | assumption | decide | omega) (!(pieceB (clipN (natU (remB bs 0))) (clipN 0) (clipN 0) 0)) 242 (i := 1) rfl H44) ?_)
      rintro _ w45 ⟨rfl, H46⟩
      refine r_nil ?_
      refine g_seq ?_
      refine g_seq ?_
      refine g_region ?_
      refine r_cons (s_move (.pointer (some ⟨bk10, 0, none⟩)) rfl rfl ?_)
      refine r_cons (s_nilCheck (.pointer (some ⟨bk10, 0, none⟩)) rfl ⟨_, rfl⟩ rfl ?_)
      refine r_cons (s_fieldAddr 147 1 1 1 33 rfl fi_147_1 rfl rfl ?_)
      refine r_cons (s_load (.int .i64 242) ag_33 rfl (H46.blk_at (i := 1) rfl) rfl rfl ?_)
      refine r_cons (s_neq true rfl rfl (nfalse (by decide)) rfl ?_)
      refine r_nil ?_
      refine g_true rfl ?_
      refine g_seq ?_
      refine g_mix (fun t_ w => St W w (blk bk36 (.cells #[.int .i64 (clipN (natU (remB bs 0))), .int .i64 (clipN 0), .int .i64 (clipN 0), .slice none 0 0] 51 (0, 0)) :: blk bk10 (.cells #[.pointer (some ⟨bk7, 0, none⟩), .int .i64 242] 147 (0, 0)) :: SrcA bk7 bs q15 :: t_)) (blk bk4 (.cells #[.int .i64 0, .int .i64 0, .int .i64 0, .slice none 0 0] 51 (0, 0)) :: F) mixed 7 rfl H46.drew ?_
      refine f_first 0 (listed' := #[true, false, false, false, false, false, false]) rfl (by kernel_rfl) (by kernel_rfl) (by kernel_rfl) rfl ?_
      refine f_val rfl rfl rfl (by intro t_ w hw; exact x_build (cs := #[.int .i64 0, .int .i64 0, .int .i64 0, .slice none 0 0]) (by kernel_rfl) w) ?_
      refine f_first 1 (listed' := #[true, true, false, false, false, false, false]) rfl (by kernel_rfl) (by kernel_rfl) (by kernel_rfl) rfl ?_
      refine f_val rfl rfl rfl (by intro t_ w hw; exact x_move (.pointer (some ⟨bk10, 0, none⟩)) rfl w) ?_
      refine f_first 2 (listed' := #[true, true, true, false, false, false, false]) rfl (by kernel_rfl) (by kernel_rfl) (by kernel_rfl) rfl ?_
      refine f_val rfl rfl rfl (by intro t_ w hw; exact x_nilCheck (.pointer (some ⟨bk10, 0, none⟩)) rfl ⟨_, rfl⟩ w) ?_
      refine f_first 3 (listed' := #[true, true, true, true, false, false, false]) rfl (by kernel_rfl) (by kernel_rfl) (by kernel_rfl) rfl ?_
      refine f_val rfl rfl rfl (by intro t_ w hw; exact x_fieldAddr 147 1 1 1 33 rfl fi_147_1 rfl w) ?_
      refine f_first 4 (listed' := #[true, true, true, true, true, false, false]) rfl (by kernel_rfl) (by kernel_rfl) (by kernel_rfl) rfl ?_
      refine f_val rfl rfl rfl (by intro t_ w hw; exact x_load (.int .i64 242) ag_33 rfl (hw.blk_at (i := 1) rfl) rfl) ?_
      refine f_all (rs := [5]) (by kernel_rfl) (by simp) ?_
      refine a_cons ⟨_, rfl, ?_⟩ (fun x hx => absurd hx (by simp))
      intro w47 H48
      try dsimp only at H48
      refine s_storeAgg H48 3 #[.int .i64 0, .int .i64 0, .int .i64 0, .slice none 0 0] 4 rfl rfl rfl sz_51 rfl (by simp [Value.oneCell']) (Nat.le_of_ble_eq_true rfl) (fun o h1 h2 => by first | (simp; done) | (simp; omega)) (cs' := #[.int .i64 0, .int .i64 0, .int .i64 0, .slice none 0 0]) rfl ?_; intro w49 H50
      refine ⟨blk bk4 (.cells #[.int .i64 0, .int .i64 0, .int .i64 0, .slice none 0 0] 51 (0, 0)) :: F, ?_, H50⟩
      change FReg _ _ _ _ _ #[true, true, true, true, true, true, false] _ _
      refine f_first 6 (listed' := #[true, true, true, true, true, true, true]) rfl (by kernel_rfl) (by kernel_rfl) (by kernel_rfl) rfl ?_
      refine f_val rfl rfl rfl (by intro t_ w hw; exact x_assign (.int .i64 242) rfl w) ?_
      refine f_done (by kernel_rfl) ?_
      intro w51 H52
      refine g_ret' [.agg #[.int .i64 0, .int .i64 0, .int .i64 0, .slice none 0 0], .int .i64 242] Try.func31 Try.results31 ⟨(res_cellN rfl ag_51 (H52.blk_at (i := 3) rfl) (Nat.le_of_ble_eq_true rfl) rfl), rfl, trivial⟩ ?_
      have hE : ppE (remB bs 0) = 242 := pp_2 he13 (by omega)
      have hE0 : ¬ ppE (remB bs 0) = 0 := by rw [hE]; first | assumption | decide
      have H53 := Row.im (Row.nil_intro H52 5 1) (i := 0) rfl
      have H54 : St W w51 (Im 1 (.slice none 0 0) 0 [] :: F) := ((((H53.drop 1 rfl).drop 1 rfl).drop 1 rfl).drop 1 rfl)
      exact ⟨none, 0, by rw [hE, ppV_no hE0]; rfl, by rw [ppV_no hE0]; exact H54⟩
    · skip
      refine r_cons (s_gtr false rfl rfl (dfalse hc19) rfl ?_)
      refine r_cons (s_call [.pointer (some ⟨bk10, 0, none⟩), .bool false, .int .i64 242] pl_87 rfl rfl (mr_wrong_f bk10 bk7 false 242 rfl (i := 0) rfl H14) ?_)
      rintro _ w55 ⟨rfl, H56⟩
      refine r_nil ?_
      refine g_seq ?_
      refine g_region ?_
      refine r_cons (s_move (.pointer (some ⟨bk10, 0, none⟩)) rfl rfl ?_)
      refine r_cons (s_call [.pointer (some ⟨bk10, 0, none⟩)] pl_86 rfl rfl (mr_nat_ok bk10 bk7 bs q15 (by first | omega | decide +kernel | (repeat (first | assumption | exact Nat.zero_le _ | refine natN_pos ?_ | refine srcN_pos ?_ | refine textN_pos ?_))) (by omega) H56) ?_)
      rintro _ w62 (⟨he57, rfl, q59, hR60, hp61, H58⟩ | ⟨he57, rfl, H58⟩)
      · skip
        refine r_cons (s_assign (.int .u64 (natU (remB bs q15) : Int)) rfl rfl ?_)
        refine r_nil ?_
        refine g_seq ?_
        refine g_region ?_
        refine r_cons (s_move (.pointer (some ⟨bk10, 0, none⟩)) rfl rfl ?_)
        refine r_cons (s_move (.int .u64 (natU (remB bs q15) : Int)) rfl rfl ?_)
        by_cases hc63 : (1024 : Int) < (natU (remB bs q15) : Int)
        · skip
          refine r_cons (s_gtr true rfl rfl (dtrue hc63) rfl ?_)
          refine r_cons (s_call [.pointer (some ⟨bk10, 0, none⟩), .bool true, .int .i64 242] pl_87 rfl rfl (mr_wrong_t bk10 bk7 true 242 rfl (i := 0) rfl H58) ?_)
          rintro _ w64 ⟨rfl, H65⟩
          refine r_nil ?_
          refine g_seq ?_
          refine g_region ?_
          refine r_cons (s_move (.pointer (some ⟨bk10, 0, none⟩)) rfl rfl ?_)
          refine r_cons (s_call [.pointer (some ⟨bk10, 0, none⟩)] pl_86 rfl rfl (mr_nat_no bk10 bk7 242 (by first | assumption | decide | omega) (i := 0) rfl H65) ?_)
          rintro _ w66 ⟨rfl, H67⟩
          refine r_cons (s_assign (.int .u64 0) rfl rfl ?_)
          refine r_nil ?_
          refine g_seq ?_
          refine g_region ?_
          refine r_cons (s_move (.pointer (some ⟨bk10, 0, none⟩)) rfl rfl ?_)
          refine r_cons (s_move (.int .u64 0) rfl rfl ?_)
          refine r_cons (s_move (.int .u64 (natU (remB bs q15) : Int)) rfl rfl ?_)
          refine r_cons (s_geq false rfl rfl (dfalse (by omega)) rfl ?_)
          refine r_cons (s_call [.pointer (some ⟨bk10, 0, none⟩), .bool false, .int .i64 242] pl_87 rfl rfl (mr_wrong_e bk10 bk7 242 (by first | assumption | decide | omega) false 242 (i := 0) rfl H67) ?_)
          rintro _ w68 ⟨rfl, H69⟩
          refine r_nil ?_
          refine g_seq ?_
          refine g_region ?_
          refine r_cons (s_move (.int .u64 (natU (remB bs 0) : Int)) rfl rfl ?_)
          refine r_cons (s_call [.int .u64 (natU (remB bs 0) : Int)] pl_88 rfl rfl (migrate_clip (natU (remB bs 0)) (natU_lt _) H69) ?_)
          rintro _ w70 ⟨rfl, H71⟩
          refine r_cons (s_move (.int .u64 (natU (remB bs q15) : Int)) rfl rfl ?_)
          refine r_cons (s_call [.int .u64 (natU (remB bs q15) : Int)] pl_88 rfl rfl (migrate_clip (natU (remB bs q15)) (natU_lt _) H71) ?_)
          rintro _ w72 ⟨rfl, H73⟩
          refine r_cons (s_move (.int .u64 0) rfl rfl ?_)
          refine r_cons (s_call [.int .u64 0] pl_88 rfl rfl (migrate_clip (0) (by decide) H73) ?_)
          rintro _ w74 ⟨rfl, H75⟩
          refine r_cons (s_build (cs := #[.int .i64 (clipN (natU (remB bs 0))), .int .i64 (clipN (natU (remB bs q15))), .int .i64 (clipN 0), .slice none 0 0]) (by kernel_rfl) rfl ?_)
          refine r_cons (s_alloc H75 51 ze_51 rfl ?_); intro bk76 w77 H78
          refine r_cons (s_storeAgg H78 0 #[.int .i64 (clipN (natU (remB bs 0))), .int .i64 (clipN (natU (remB bs q15))), .int .i64 (clipN 0), .slice none 0 0] 4 rfl rfl rfl sz_51 rfl (by simp [Value.oneCell']) (Nat.le_of_ble_eq_true rfl) (fun o h1 h2 => by first | (simp; done) | (simp; omega)) (cs' := #[.int .i64 (clipN (natU (remB bs 0))), .int .i64 (clipN (natU (remB bs q15))), .int .i64 (clipN 0), .slice none 0 0]) rfl ?_); intro w79 H80
          refine r_nil ?_
          refine g_seq ?_
          refine g_seq ?_
          refine g_region ?_
          refine r_cons (s_move (.pointer (some ⟨bk10, 0, none⟩)) rfl rfl ?_)
          refine r_cons (s_nilCheck (.pointer (some ⟨bk10, 0, none⟩)) rfl ⟨_, rfl⟩ rfl ?_)
          refine r_cons (s_fieldAddr 147 1 1 1 33 rfl fi_147_1 rfl rfl ?_)
          refine r_cons (s_load (.int .i64 242) ag_33 rfl (H80.blk_at (i := 1) rfl) rfl rfl ?_)
          refine r_cons (s_eql false rfl rfl (dfalse (by decide)) rfl ?_)
          refine r_nil ?_
          refine g_false rfl ?_
          refine g_skip ?_
          refine g_seq ?_
          refine g_region ?_
          refine r_cons (s_move (.pointer (some ⟨bk10, 0, none⟩)) rfl rfl ?_)
          refine r_cons (s_call [.pointer (some ⟨bk10, 0, none⟩)] pl_90 rfl rfl (mr_end_no bk10 bk7 242 (by first | assumption | decide | omega) (i := 1) rfl H80) ?_)
          rintro _ w81 ⟨rfl, H82⟩
          refine r_nil ?_
          refine g_seq ?_
          refine g_region ?_
          refine r_cons (s_move (.pointer (some ⟨bk10, 0, none⟩)) rfl rfl ?_)
          refine r_cons (s_loadAgg [.int .i64 (clipN (natU (remB bs 0))), .int .i64 (clipN (natU (remB bs q15))), .int .i64 (clipN 0), .slice none 0 0] 4 ag_51 rfl (H82.blk_at (i := 0) rfl) (Nat.le_of_ble_eq_true rfl) rfl rfl ?_)
          refine r_cons (s_call [.agg #[.int .i64 (clipN (natU (remB bs 0))), .int .i64 (clipN (natU (remB bs q15))), .int .i64 (clipN 0), .slice none 0 0]] pl_72 rfl rfl (migrate_piece (clipN (natU (remB bs 0))) (clipN (natU (remB bs q15))) (clipN 0) none 0 0 H82) ?_)
          rintro _ w83 ⟨rfl, H84⟩
          refine r_cons (s_not (pieceB (clipN (natU (remB bs 0))) (clipN (natU (remB bs q15))) (clipN 0) 0) rfl (!(pieceB (clipN (natU (remB bs 0))) (clipN (natU (remB bs q15))) (clipN 0) 0)) rfl rfl ?_)
          refine r_cons (s_call [.pointer (some ⟨bk10, 0, none⟩), .bool (!(pieceB (clipN (natU (remB bs 0))) (clipN (natU (remB bs q15))) (clipN 0) 0)), .int .i64 242] pl_87 rfl rfl (mr_wrong_e bk10 bk7 242 (by first | assumption | decide | omega) (!(pieceB (clipN (natU (remB bs 0))) (clipN (natU (remB bs q15))) (clipN 0) 0)) 242 (i := 1) rfl H84) ?_)
          rintro _ w85 ⟨rfl, H86⟩
          refine r_nil ?_
          refine g_seq ?_
          refine g_seq ?_
          refine g_region ?_
          refine r_cons (s_move (.pointer (some ⟨bk10, 0, none⟩)) rfl rfl ?_)
          refine r_cons (s_nilCheck (.pointer (some ⟨bk10, 0, none⟩)) rfl ⟨_, rfl⟩ rfl ?_)
          refine r_cons (s_fieldAddr 147 1 1 1 33 rfl fi_147_1 rfl rfl ?_)
          refine r_cons (s_load (.int .i64 242) ag_33 rfl (H86.blk_at (i := 1) rfl) rfl rfl ?_)
          refine r_cons (s_neq true rfl rfl (nfalse (by decide)) rfl ?_)
          refine r_nil ?_
          refine g_true rfl ?_
          refine g_seq ?_
          refine g_mix (fun t_ w => St W w (blk bk76 (.cells #[.int .i64 (clipN (natU (remB bs 0))), .int .i64 (clipN (natU (remB bs q15))), .int .i64 (clipN 0), .slice none 0 0] 51 (0, 0)) :: blk bk10 (.cells #[.pointer (some ⟨bk7, 0, none⟩), .int .i64 242] 147 (0, 0)) :: SrcA bk7 bs q59 :: t_)) (blk bk4 (.cells #[.int .i64 0, .int .i64 0, .int .i64 0, .slice none 0 0] 51 (0, 0)) :: F) mixed 7 rfl H86.drew ?_
          refine f_first 0 (listed' := #[true, false, false, false, false, false, false]) rfl (by kernel_rfl) (by kernel_rfl) (by kernel_rfl) rfl ?_
          refine f_val rfl rfl rfl (by intro t_ w hw; exact x_build (cs := #[.int .i64 0, .int .i64 0, .int .i64 0, .slice none 0 0]) (by kernel_rfl) w) ?_
          refine f_first 1 (listed' := #[true, true, false, false, false, false, false]) rfl (by kernel_rfl) (by kernel_rfl) (by kernel_rfl) rfl ?_
          refine f_val rfl rfl rfl (by intro t_ w hw; exact x_move (.pointer (some ⟨bk10, 0, none⟩)) rfl w) ?_
          refine f_first 2 (listed' := #[true, true, true, false, false, false, false]) rfl (by kernel_rfl) (by kernel_rfl) (by kernel_rfl) rfl ?_
          refine f_val rfl rfl rfl (by intro t_ w hw; exact x_nilCheck (.pointer (some ⟨bk10, 0, none⟩)) rfl ⟨_, rfl⟩ w) ?_
          refine f_first 3 (listed' := #[true, true, true, true, false, false, false]) rfl (by kernel_rfl) (by kernel_rfl) (by kernel_rfl) rfl ?_
          refine f_val rfl rfl rfl (by intro t_ w hw; exact x_fieldAddr 147 1 1 1 33 rfl fi_147_1 rfl w) ?_
          refine f_first 4 (listed' := #[true, true, true, true, true, false, false]) rfl (by kernel_rfl) (by kernel_rfl) (by kernel_rfl) rfl ?_
          refine f_val rfl rfl rfl (by intro t_ w hw; exact x_load (.int .i64 242) ag_33 rfl (hw.blk_at (i := 1) rfl) rfl) ?_
          refine f_all (rs := [5]) (by kernel_rfl) (by simp) ?_
          refine a_cons ⟨_, rfl, ?_⟩ (fun x hx => absurd hx (by simp))
          intro w87 H88
          try dsimp only at H88
          refine s_storeAgg H88 3 #[.int .i64 0, .int .i64 0, .int .i64 0, .slice none 0 0] 4 rfl rfl rfl sz_51 rfl (by simp [Value.oneCell']) (Nat.le_of_ble_eq_true rfl) (fun o h1 h2 => by first | (simp; done) | (simp; omega)) (cs' := #[.int .i64 0, .int .i64 0, .int .i64 0, .slice none 0 0]) rfl ?_; intro w89 H90
          refine ⟨blk bk4 (.cells #[.int .i64 0, .int .i64 0, .int .i64 0, .slice none 0 0] 51 (0, 0)) :: F, ?_, H90⟩
          change FReg _ _ _ _ _ #[true, true, true, true, true, true, false] _ _
          refine f_first 6 (listed' := #[true, true, true, true, true, true, true]) rfl (by kernel_rfl) (by kernel_rfl) (by kernel_rfl) rfl ?_
          refine f_val rfl rfl rfl (by intro t_ w hw; exact x_assign (.int .i64 242) rfl w) ?_
          refine f_done (by kernel_rfl) ?_
          intro w91 H92
          refine g_ret' [.agg #[.int .i64 0, .int .i64 0, .int .i64 0, .slice none 0 0], .int .i64 242] Try.func31 Try.results31 ⟨(res_cellN rfl ag_51 (H92.blk_at (i := 3) rfl) (Nat.le_of_ble_eq_true rfl) rfl), rfl, trivial⟩ ?_
          have hE : ppE (remB bs 0) = 242 := pq_4 hR16 he13 (by omega) he57 (by omega)
          have hE0 : ¬ ppE (remB bs 0) = 0 := by rw [hE]; first | assumption | decide
          have H93 := Row.im (Row.nil_intro H92 5 1) (i := 0) rfl
          have H94 : St W w91 (Im 1 (.slice none 0 0) 0 [] :: F) := ((((H93.drop 1 rfl).drop 1 rfl).drop 1 rfl).drop 1 rfl)
          exact ⟨none, 0, by rw [hE, ppV_no hE0]; rfl, by rw [ppV_no hE0]; exact H94⟩
        · skip
          refine r_cons (s_gtr false rfl rfl (dfalse hc63) rfl ?_)
          refine r_cons (s_call [.pointer (some ⟨bk10, 0, none⟩), .bool false, .int .i64 242] pl_87 rfl rfl (mr_wrong_f bk10 bk7 false 242 rfl (i := 0) rfl H58) ?_)
          rintro _ w95 ⟨rfl, H96⟩
          refine r_nil ?_
          refine g_seq ?_
          refine g_region ?_
          refine r_cons (s_move (.pointer (some ⟨bk10, 0, none⟩)) rfl rfl ?_)
          refine r_cons (s_call [.pointer (some ⟨bk10, 0, none⟩)] pl_86 rfl rfl (mr_nat_ok bk10 bk7 bs q59 (by first | omega | decide +kernel | (repeat (first | assumption | exact Nat.zero_le _ | refine natN_pos ?_ | refine srcN_pos ?_ | refine textN_pos ?_))) (by omega) H96) ?_)
          rintro _ w102 (⟨he97, rfl, q99, hR100, hp101, H98⟩ | ⟨he97, rfl, H98⟩)
          · skip
            refine r_cons (s_assign (.int .u64 (natU (remB bs q59) : Int)) rfl rfl ?_)
            refine r_nil ?_
            refine g_seq ?_
            refine g_region ?_
            refine r_cons (s_move (.pointer (some ⟨bk10, 0, none⟩)) rfl rfl ?_)
            refine r_cons (s_move (.int .u64 (natU (remB bs q59) : Int)) rfl rfl ?_)
            refine r_cons (s_move (.int .u64 (natU (remB bs q15) : Int)) rfl rfl ?_)
            by_cases hc103 : (natU (remB bs q15) : Int) ≤ (natU (remB bs q59) : Int)
            · skip
              refine r_cons (s_geq true rfl rfl (dtrue hc103) rfl ?_)
              refine r_cons (s_call [.pointer (some ⟨bk10, 0, none⟩), .bool true, .int .i64 242] pl_87 rfl rfl (mr_wrong_t bk10 bk7 true 242 rfl (i := 0) rfl H98) ?_)
              rintro _ w104 ⟨rfl, H105⟩
              refine r_nil ?_
              refine g_seq ?_
              refine g_region ?_
              refine r_cons (s_move (.int .u64 (natU (remB bs 0) : Int)) rfl rfl ?_)
              refine r_cons (s_call [.int .u64 (natU (remB bs 0) : Int)] pl_88 rfl rfl (migrate_clip (natU (remB bs 0)) (natU_lt _) H105) ?_)
              rintro _ w106 ⟨rfl, H107⟩
              refine r_cons (s_move (.int .u64 (natU (remB bs q15) : Int)) rfl rfl ?_)
              refine r_cons (s_call [.int .u64 (natU (remB bs q15) : Int)] pl_88 rfl rfl (migrate_clip (natU (remB bs q15)) (natU_lt _) H107) ?_)
              rintro _ w108 ⟨rfl, H109⟩
              refine r_cons (s_move (.int .u64 (natU (remB bs q59) : Int)) rfl rfl ?_)
              refine r_cons (s_call [.int .u64 (natU (remB bs q59) : Int)] pl_88 rfl rfl (migrate_clip (natU (remB bs q59)) (natU_lt _) H109) ?_)
              rintro _ w110 ⟨rfl, H111⟩
              refine r_cons (s_build (cs := #[.int .i64 (clipN (natU (remB bs 0))), .int .i64 (clipN (natU (remB bs q15))), .int .i64 (clipN (natU (remB bs q59))), .slice none 0 0]) (by kernel_rfl) rfl ?_)
              refine r_cons (s_alloc H111 51 ze_51 rfl ?_); intro bk112 w113 H114
              refine r_cons (s_storeAgg H114 0 #[.int .i64 (clipN (natU (remB bs 0))), .int .i64 (clipN (natU (remB bs q15))), .int .i64 (clipN (natU (remB bs q59))), .slice none 0 0] 4 rfl rfl rfl sz_51 rfl (by simp [Value.oneCell']) (Nat.le_of_ble_eq_true rfl) (fun o h1 h2 => by first | (simp; done) | (simp; omega)) (cs' := #[.int .i64 (clipN (natU (remB bs 0))), .int .i64 (clipN (natU (remB bs q15))), .int .i64 (clipN (natU (remB bs q59))), .slice none 0 0]) rfl ?_); intro w115 H116
              refine r_nil ?_
              refine g_seq ?_
              refine g_seq ?_
              refine g_region ?_
              refine r_cons (s_move (.pointer (some ⟨bk10, 0, none⟩)) rfl rfl ?_)
              refine r_cons (s_nilCheck (.pointer (some ⟨bk10, 0, none⟩)) rfl ⟨_, rfl⟩ rfl ?_)
              refine r_cons (s_fieldAddr 147 1 1 1 33 rfl fi_147_1 rfl rfl ?_)
              refine r_cons (s_load (.int .i64 242) ag_33 rfl (H116.blk_at (i := 1) rfl) rfl rfl ?_)
              refine r_cons (s_eql false rfl rfl (dfalse (by decide)) rfl ?_)
              refine r_nil ?_
              refine g_false rfl ?_
              refine g_skip ?_
              refine g_seq ?_
              refine g_region ?_
              refine r_cons (s_move (.pointer (some ⟨bk10, 0, none⟩)) rfl rfl ?_)
              refine r_cons (s_call [.pointer (some ⟨bk10, 0, none⟩)] pl_90 rfl rfl (mr_end_no bk10 bk7 242 (by first | assumption | decide | omega) (i := 1) rfl H116) ?_)
              rintro _ w117 ⟨rfl, H118⟩
              refine r_nil ?_
              refine g_seq ?_
              refine g_region ?_
              refine r_cons (s_move (.pointer (some ⟨bk10, 0, none⟩)) rfl rfl ?_)
              refine r_cons (s_loadAgg [.int .i64 (clipN (natU (remB bs 0))), .int .i64 (clipN (natU (remB bs q15))), .int .i64 (clipN (natU (remB bs q59))), .slice none 0 0] 4 ag_51 rfl (H118.blk_at (i := 0) rfl) (Nat.le_of_ble_eq_true rfl) rfl rfl ?_)
              refine r_cons (s_call [.agg #[.int .i64 (clipN (natU (remB bs 0))), .int .i64 (clipN (natU (remB bs q15))), .int .i64 (clipN (natU (remB bs q59))), .slice none 0 0]] pl_72 rfl rfl (migrate_piece (clipN (natU (remB bs 0))) (clipN (natU (remB bs q15))) (clipN (natU (remB bs q59))) none 0 0 H118) ?_)
              rintro _ w119 ⟨rfl, H120⟩
              refine r_cons (s_not (pieceB (clipN (natU (remB bs 0))) (clipN (natU (remB bs q15))) (clipN (natU (remB bs q59))) 0) rfl (!(pieceB (clipN (natU (remB bs 0))) (clipN (natU (remB bs q15))) (clipN (natU (remB bs q59))) 0)) rfl rfl ?_)
              refine r_cons (s_call [.pointer (some ⟨bk10, 0, none⟩), .bool (!(pieceB (clipN (natU (remB bs 0))) (clipN (natU (remB bs q15))) (clipN (natU (remB bs q59))) 0)), .int .i64 242] pl_87 rfl rfl (mr_wrong_e bk10 bk7 242 (by first | assumption | decide | omega) (!(pieceB (clipN (natU (remB bs 0))) (clipN (natU (remB bs q15))) (clipN (natU (remB bs q59))) 0)) 242 (i := 1) rfl H120) ?_)
              rintro _ w121 ⟨rfl, H122⟩
              refine r_nil ?_
              refine g_seq ?_
              refine g_seq ?_
              refine g_region ?_
              refine r_cons (s_move (.pointer (some ⟨bk10, 0, none⟩)) rfl rfl ?_)
              refine r_cons (s_nilCheck (.pointer (some ⟨bk10, 0, none⟩)) rfl ⟨_, rfl⟩ rfl ?_)
              refine r_cons (s_fieldAddr 147 1 1 1 33 rfl fi_147_1 rfl rfl ?_)
              refine r_cons (s_load (.int .i64 242) ag_33 rfl (H122.blk_at (i := 1) rfl) rfl rfl ?_)
              refine r_cons (s_neq true rfl rfl (nfalse (by decide)) rfl ?_)
              refine r_nil ?_
              refine g_true rfl ?_
              refine g_seq ?_
              refine g_mix (fun t_ w => St W w (blk bk112 (.cells #[.int .i64 (clipN (natU (remB bs 0))), .int .i64 (clipN (natU (remB bs q15))), .int .i64 (clipN (natU (remB bs q59))), .slice none 0 0] 51 (0, 0)) :: blk bk10 (.cells #[.pointer (some ⟨bk7, 0, none⟩), .int .i64 242] 147 (0, 0)) :: SrcA bk7 bs q99 :: t_)) (blk bk4 (.cells #[.int .i64 0, .int .i64 0, .int .i64 0, .slice none 0 0] 51 (0, 0)) :: F) mixed 7 rfl H122.drew ?_
              refine f_first 0 (listed' := #[true, false, false, false, false, false, false]) rfl (by kernel_rfl) (by kernel_rfl) (by kernel_rfl) rfl ?_
              refine f_val rfl rfl rfl (by intro t_ w hw; exact x_build (cs := #[.int .i64 0, .int .i64 0, .int .i64 0, .slice none 0 0]) (by kernel_rfl) w) ?_
              refine f_first 1 (listed' := #[true, true, false, false, false, false, false]) rfl (by kernel_rfl) (by kernel_rfl) (by kernel_rfl) rfl ?_
              refine f_val rfl rfl rfl (by intro t_ w hw; exact x_move (.pointer (some ⟨bk10, 0, none⟩)) rfl w) ?_
              refine f_first 2 (listed' := #[true, true, true, false, false, false, false]) rfl (by kernel_rfl) (by kernel_rfl) (by kernel_rfl) rfl ?_
              refine f_val rfl rfl rfl (by intro t_ w hw; exact x_nilCheck (.pointer (some ⟨bk10, 0, none⟩)) rfl ⟨_, rfl⟩ w) ?_
              refine f_first 3 (listed' := #[true, true, true, true, false, false, false]) rfl (by kernel_rfl) (by kernel_rfl) (by kernel_rfl) rfl ?_
              refine f_val rfl rfl rfl (by intro t_ w hw; exact x_fieldAddr 147 1 1 1 33 rfl fi_147_1 rfl w) ?_
              refine f_first 4 (listed' := #[true, true, true, true, true, false, false]) rfl (by kernel_rfl) (by kernel_rfl) (by kernel_rfl) rfl ?_
              refine f_val rfl rfl rfl (by intro t_ w hw; exact x_load (.int .i64 242) ag_33 rfl (hw.blk_at (i := 1) rfl) rfl) ?_
              refine f_all (rs := [5]) (by kernel_rfl) (by simp) ?_
              refine a_cons ⟨_, rfl, ?_⟩ (fun x hx => absurd hx (by simp))
              intro w123 H124
              try dsimp only at H124
              refine s_storeAgg H124 3 #[.int .i64 0, .int .i64 0, .int .i64 0, .slice none 0 0] 4 rfl rfl rfl sz_51 rfl (by simp [Value.oneCell']) (Nat.le_of_ble_eq_true rfl) (fun o h1 h2 => by first | (simp; done) | (simp; omega)) (cs' := #[.int .i64 0, .int .i64 0, .int .i64 0, .slice none 0 0]) rfl ?_; intro w125 H126
              refine ⟨blk bk4 (.cells #[.int .i64 0, .int .i64 0, .int .i64 0, .slice none 0 0] 51 (0, 0)) :: F, ?_, H126⟩
              change FReg _ _ _ _ _ #[true, true, true, true, true, true, false] _ _
              refine f_first 6 (listed' := #[true, true, true, true, true, true, true]) rfl (by kernel_rfl) (by kernel_rfl) (by kernel_rfl) rfl ?_
              refine f_val rfl rfl rfl (by intro t_ w hw; exact x_assign (.int .i64 242) rfl w) ?_
              refine f_done (by kernel_rfl) ?_
              intro w127 H128
              refine g_ret' [.agg #[.int .i64 0, .int .i64 0, .int .i64 0, .slice none 0 0], .int .i64 242] Try.func31 Try.results31 ⟨(res_cellN rfl ag_51 (H128.blk_at (i := 3) rfl) (Nat.le_of_ble_eq_true rfl) rfl), rfl, trivial⟩ ?_
              have hE : ppE (remB bs 0) = 242 := pq_6 hR16 hR60 he13 (by omega) he57 (by omega) he97 (by omega)
              have hE0 : ¬ ppE (remB bs 0) = 0 := by rw [hE]; first | assumption | decide
              have H129 := Row.im (Row.nil_intro H128 5 1) (i := 0) rfl
              have H130 : St W w127 (Im 1 (.slice none 0 0) 0 [] :: F) := ((((H129.drop 1 rfl).drop 1 rfl).drop 1 rfl).drop 1 rfl)
              exact ⟨none, 0, by rw [hE, ppV_no hE0]; rfl, by rw [ppV_no hE0]; exact H130⟩
            · skip
              refine r_cons (s_geq false rfl rfl (dfalse hc103) rfl ?_)
              refine r_cons (s_call [.pointer (some ⟨bk10, 0, none⟩), .bool false, .int .i64 242] pl_87 rfl rfl (mr_wrong_f bk10 bk7 false 242 rfl (i := 0) rfl H98) ?_)
              rintro _ w131 ⟨rfl, H132⟩
              refine r_nil ?_
              refine g_seq ?_
              refine g_region ?_
              refine r_cons (s_move (.int .u64 (natU (remB bs 0) : Int)) rfl rfl ?_)
              refine r_cons (s_call [.int .u64 (natU (remB bs 0) : Int)] pl_88 rfl rfl (migrate_clip (natU (remB bs 0)) (natU_lt _) H132) ?_)
              rintro _ w133 ⟨rfl, H134⟩
              refine r_cons (s_move (.int .u64 (natU (remB bs q15) : Int)) rfl rfl ?_)
              refine r_cons (s_call [.int .u64 (natU (remB bs q15) : Int)] pl_88 rfl rfl (migrate_clip (natU (remB bs q15)) (natU_lt _) H134) ?_)
              rintro _ w135 ⟨rfl, H136⟩
              refine r_cons (s_move (.int .u64 (natU (remB bs q59) : Int)) rfl rfl ?_)
              refine r_cons (s_call [.int .u64 (natU (remB bs q59) : Int)] pl_88 rfl rfl (migrate_clip (natU (remB bs q59)) (natU_lt _) H136) ?_)
              rintro _ w137 ⟨rfl, H138⟩
              refine r_cons (s_build (cs := #[.int .i64 (clipN (natU (remB bs 0))), .int .i64 (clipN (natU (remB bs q15))), .int .i64 (clipN (natU (remB bs q59))), .slice none 0 0]) (by kernel_rfl) rfl ?_)
              refine r_cons (s_alloc H138 51 ze_51 rfl ?_); intro bk139 w140 H141
              refine r_cons (s_storeAgg H141 0 #[.int .i64 (clipN (natU (remB bs 0))), .int .i64 (clipN (natU (remB bs q15))), .int .i64 (clipN (natU (remB bs q59))), .slice none 0 0] 4 rfl rfl rfl sz_51 rfl (by simp [Value.oneCell']) (Nat.le_of_ble_eq_true rfl) (fun o h1 h2 => by first | (simp; done) | (simp; omega)) (cs' := #[.int .i64 (clipN (natU (remB bs 0))), .int .i64 (clipN (natU (remB bs q15))), .int .i64 (clipN (natU (remB bs q59))), .slice none 0 0]) rfl ?_); intro w142 H143
              refine r_nil ?_
              refine g_seq ?_
              refine g_seq ?_
              refine g_region ?_
              refine r_cons (s_move (.pointer (some ⟨bk10, 0, none⟩)) rfl rfl ?_)
              refine r_cons (s_nilCheck (.pointer (some ⟨bk10, 0, none⟩)) rfl ⟨_, rfl⟩ rfl ?_)
              refine r_cons (s_fieldAddr 147 1 1 1 33 rfl fi_147_1 rfl rfl ?_)
              refine r_cons (s_load (.int .i64 0) ag_33 rfl (H143.blk_at (i := 1) rfl) rfl rfl ?_)
              refine r_cons (s_eql true rfl rfl (dtrue (by decide)) rfl ?_)
              refine r_nil ?_
              refine g_true rfl ?_
              refine g_seq ?_
              refine g_region ?_
              refine r_cons (s_assign (.string ByteArray.empty) rfl rfl ?_)
              refine r_nil ?_
              refine g_seq ?_
              refine g_region ?_
              refine r_cons (s_move (.pointer (some ⟨bk10, 0, none⟩)) rfl rfl ?_)
              refine r_cons (s_move (.pointer (some ⟨bk10, 0, none⟩)) rfl rfl ?_)
              refine r_cons (s_nilCheck (.pointer (some ⟨bk10, 0, none⟩)) rfl ⟨_, rfl⟩ rfl ?_)
              refine r_cons (s_fieldAddr 147 0 0 0 144 rfl fi_147_0 rfl rfl ?_)
              refine r_cons (s_load (.pointer (some ⟨bk7, 0, none⟩)) ag_144 rfl (H143.blk_at (i := 1) rfl) rfl rfl ?_)
              refine r_cons (s_call [.pointer (some ⟨bk7, 0, none⟩)] pl_89 rfl rfl (Src_Text bk7 bs q99 (by first | omega | decide +kernel | (repeat (first | assumption | exact Nat.zero_le _ | refine natN_pos ?_ | refine srcN_pos ?_ | refine textN_pos ?_))) (by first | omega | decide +kernel) (i := 2) rfl H143) ?_)
              rintro _ w144 ⟨rfl, H145⟩
              by_cases hc146 : textE (remB bs q99) = 0
              · skip
                refine r_cons (s_move (.tuple #[.string (textS (remB bs q99)), .int .i64 (textE (remB bs q99))]) rfl rfl ?_)
                refine r_cons (s_extract (.string (textS (remB bs q99))) #[.string (textS (remB bs q99)), .int .i64 (textE (remB bs q99))] rfl rfl rfl ?_)
                refine r_cons (s_extract (.int .i64 (textE (remB bs q99))) #[.string (textS (remB bs q99)), .int .i64 (textE (remB bs q99))] rfl rfl rfl ?_)
                refine r_cons (s_assign (.string (textS (remB bs q99))) rfl rfl ?_)
                refine r_cons (s_nilCheck (.pointer (some ⟨bk10, 0, none⟩)) rfl ⟨_, rfl⟩ rfl ?_)
                refine r_cons (s_fieldAddr 147 1 1 1 33 rfl fi_147_1 rfl rfl ?_)
                refine r_cons (s_store H145 1 (.int .i64 (textE (remB bs q99))) rfl rfl rfl sz_33 rfl (Nat.le_of_ble_eq_true rfl) rfl (cs' := #[.pointer (some ⟨bk7, 0, none⟩), .int .i64 (textE (remB bs q99))]) rfl ?_); intro w147 H148
                refine r_nil ?_
                refine g_region ?_
                refine r_cons (s_move (.string (textS (remB bs q99))) rfl rfl ?_)
                refine r_cons (s_str_bytes H148 (textS (remB bs q99)) rfl us_9 un_23 un_5 rfl ?_); intro bk149 w150 cap152 N153 tl154 hN153 hcap152 htl154 H151
                refine r_cons (s_fieldAddr 51 3 3 3 23 rfl fi_51_3 rfl rfl ?_)
                refine r_cons (s_store H151 1 (.slice (some ⟨bk149, 0, none⟩) ((textS (remB bs q99)).size) cap152) rfl rfl rfl sz_23 rfl (Nat.le_of_ble_eq_true rfl) rfl (cs' := #[.int .i64 (clipN (natU (remB bs 0))), .int .i64 (clipN (natU (remB bs q15))), .int .i64 (clipN (natU (remB bs q59))), .slice (some ⟨bk149, 0, none⟩) ((textS (remB bs q99)).size) cap152]) rfl ?_); intro w155 H156
                refine r_nil ?_
                refine g_seq ?_
                refine g_region ?_
                have H157 : St W w155 (blk bk149 (.cells ((bytesV (textS (remB bs q99)).data.toList ++ tl154).toArray) 5 (N153, N153 + 1)) :: blk bk139 (.cells #[.int .i64 (clipN (natU (remB bs 0))), .int .i64 (clipN (natU (remB bs q15))), .int .i64 (clipN (natU (remB bs q59))), .slice (some ⟨bk149, 0, none⟩) ((textS (remB bs q99)).size) cap152] 51 (0, 0)) :: blk bk10 (.cells #[.pointer (some ⟨bk7, 0, none⟩), .int .i64 0] 147 (0, 0)) :: SrcA bk7 bs (q99 + textN (remB bs q99)) :: blk bk4 (.cells #[.int .i64 0, .int .i64 0, .int .i64 0, .slice none 0 0] 51 (0, 0)) :: F) := by have hx := H156; rw [hc146] at hx; exact hx
                refine r_cons (s_move (.pointer (some ⟨bk10, 0, none⟩)) rfl rfl ?_)
                have H158 : St W w155 (blk bk10 (.cells #[.pointer (some ⟨bk7, 0, none⟩), .int .i64 0] 147 (0, 0)) :: SrcA bk7 bs (q99 + textN (remB bs q99)) :: blk bk149 (.cells ((bytesV (textS (remB bs q99)).data.toList ++ tl154).toArray) 5 (N153, N153 + 1)) :: blk bk139 (.cells #[.int .i64 (clipN (natU (remB bs 0))), .int .i64 (clipN (natU (remB bs q15))), .int .i64 (clipN (natU (remB bs q59))), .slice (some ⟨bk149, 0, none⟩) ((textS (remB bs q99)).size) cap152] 51 (0, 0)) :: blk bk4 (.cells #[.int .i64 0, .int .i64 0, .int .i64 0, .slice none 0 0] 51 (0, 0)) :: F) := ((H157.move 3 rfl).move 3 rfl)
                refine r_cons (s_call [.pointer (some ⟨bk10, 0, none⟩)] pl_90 rfl rfl (mr_end_ok bk10 bk7 bs (q99 + textN (remB bs q99)) (by first | omega | decide +kernel | (repeat (first | assumption | exact Nat.zero_le _ | refine natN_pos ?_ | refine srcN_pos ?_ | refine textN_pos ?_))) (by omega) H158) ?_)
                rintro _ w159 ⟨rfl, H160⟩
                by_cases hc162 : endE (remB bs (q99 + textN (remB bs q99))) = 0
                · skip
                  have H163 : St W w159 (blk bk10 (.cells #[.pointer (some ⟨bk7, 0, none⟩), .int .i64 0] 147 (0, 0)) :: SrcA bk7 bs (q99 + textN (remB bs q99)) :: blk bk149 (.cells ((bytesV (textS (remB bs q99)).data.toList ++ tl154).toArray) 5 (N153, N153 + 1)) :: blk bk139 (.cells #[.int .i64 (clipN (natU (remB bs 0))), .int .i64 (clipN (natU (remB bs q15))), .int .i64 (clipN (natU (remB bs q59))), .slice (some ⟨bk149, 0, none⟩) ((textS (remB bs q99)).size) cap152] 51 (0, 0)) :: blk bk4 (.cells #[.int .i64 0, .int .i64 0, .int .i64 0, .slice none 0 0] 51 (0, 0)) :: F) := by have hx := H160; rw [hc162] at hx; exact hx
                  refine r_nil ?_
                  refine g_seq ?_
                  refine g_region ?_
                  refine r_cons (s_move (.pointer (some ⟨bk10, 0, none⟩)) rfl rfl ?_)
                  refine r_cons (s_loadAgg [.int .i64 (clipN (natU (remB bs 0))), .int .i64 (clipN (natU (remB bs q15))), .int .i64 (clipN (natU (remB bs q59))), .slice (some ⟨bk149, 0, none⟩) ((textS (remB bs q99)).size) cap152] 4 ag_51 rfl (H163.blk_at (i := 3) rfl) (Nat.le_of_ble_eq_true rfl) rfl rfl ?_)
                  refine r_cons (s_call [.agg #[.int .i64 (clipN (natU (remB bs 0))), .int .i64 (clipN (natU (remB bs q15))), .int .i64 (clipN (natU (remB bs q59))), .slice (some ⟨bk149, 0, none⟩) ((textS (remB bs q99)).size) cap152]] pl_72 rfl rfl (migrate_piece (clipN (natU (remB bs 0))) (clipN (natU (remB bs q15))) (clipN (natU (remB bs q59))) (some ⟨bk149, 0, none⟩) ((textS (remB bs q99)).size) cap152 H163) ?_)
                  rintro _ w164 ⟨rfl, H165⟩
                  refine r_cons (s_not (pieceB (clipN (natU (remB bs 0))) (clipN (natU (remB bs q15))) (clipN (natU (remB bs q59))) ((textS (remB bs q99)).size)) rfl (!(pieceB (clipN (natU (remB bs 0))) (clipN (natU (remB bs q15))) (clipN (natU (remB bs q59))) ((textS (remB bs q99)).size))) rfl rfl ?_)
                  by_cases hb166 : (!(pieceB (clipN (natU (remB bs 0))) (clipN (natU (remB bs q15))) (clipN (natU (remB bs q59))) ((textS (remB bs q99)).size))) = true
                  · skip
                    refine r_cons (s_call [.pointer (some ⟨bk10, 0, none⟩), .bool (!(pieceB (clipN (natU (remB bs 0))) (clipN (natU (remB bs q15))) (clipN (natU (remB bs q59))) ((textS (remB bs q99)).size))), .int .i64 242] pl_87 rfl rfl (mr_wrong_t bk10 bk7 (!(pieceB (clipN (natU (remB bs 0))) (clipN (natU (remB bs q15))) (clipN (natU (remB bs q59))) ((textS (remB bs q99)).size))) 242 hb166 (i := 0) rfl H165) ?_)
                    rintro _ w167 ⟨rfl, H168⟩
                    refine r_nil ?_
                    refine g_seq ?_
                    refine g_seq ?_
                    refine g_region ?_
                    refine r_cons (s_move (.pointer (some ⟨bk10, 0, none⟩)) rfl rfl ?_)
                    refine r_cons (s_nilCheck (.pointer (some ⟨bk10, 0, none⟩)) rfl ⟨_, rfl⟩ rfl ?_)
                    refine r_cons (s_fieldAddr 147 1 1 1 33 rfl fi_147_1 rfl rfl ?_)
                    refine r_cons (s_load (.int .i64 242) ag_33 rfl (H168.blk_at (i := 0) rfl) rfl rfl ?_)
                    refine r_cons (s_neq true rfl rfl (nfalse (by decide)) rfl ?_)
                    refine r_nil ?_
                    refine g_true rfl ?_
                    refine g_seq ?_
                    refine g_mix (fun t_ w => St W w (blk bk10 (.cells #[.pointer (some ⟨bk7, 0, none⟩), .int .i64 242] 147 (0, 0)) :: SrcA bk7 bs (q99 + textN (remB bs q99)) :: blk bk149 (.cells ((bytesV (textS (remB bs q99)).data.toList ++ tl154).toArray) 5 (N153, N153 + 1)) :: blk bk139 (.cells #[.int .i64 (clipN (natU (remB bs 0))), .int .i64 (clipN (natU (remB bs q15))), .int .i64 (clipN (natU (remB bs q59))), .slice (some ⟨bk149, 0, none⟩) ((textS (remB bs q99)).size) cap152] 51 (0, 0)) :: t_)) (blk bk4 (.cells #[.int .i64 0, .int .i64 0, .int .i64 0, .slice none 0 0] 51 (0, 0)) :: F) mixed 7 rfl H168.drew ?_
                    refine f_first 0 (listed' := #[true, false, false, false, false, false, false]) rfl (by kernel_rfl) (by kernel_rfl) (by kernel_rfl) rfl ?_
                    refine f_val rfl rfl rfl (by intro t_ w hw; exact x_build (cs := #[.int .i64 0, .int .i64 0, .int .i64 0, .slice none 0 0]) (by kernel_rfl) w) ?_
                    refine f_first 1 (listed' := #[true, true, false, false, false, false, false]) rfl (by kernel_rfl) (by kernel_rfl) (by kernel_rfl) rfl ?_
                    refine f_val rfl rfl rfl (by intro t_ w hw; exact x_move (.pointer (some ⟨bk10, 0, none⟩)) rfl w) ?_
                    refine f_first 2 (listed' := #[true, true, true, false, false, false, false]) rfl (by kernel_rfl) (by kernel_rfl) (by kernel_rfl) rfl ?_
                    refine f_val rfl rfl rfl (by intro t_ w hw; exact x_nilCheck (.pointer (some ⟨bk10, 0, none⟩)) rfl ⟨_, rfl⟩ w) ?_
                    refine f_first 3 (listed' := #[true, true, true, true, false, false, false]) rfl (by kernel_rfl) (by kernel_rfl) (by kernel_rfl) rfl ?_
                    refine f_val rfl rfl rfl (by intro t_ w hw; exact x_fieldAddr 147 1 1 1 33 rfl fi_147_1 rfl w) ?_
                    refine f_first 4 (listed' := #[true, true, true, true, true, false, false]) rfl (by kernel_rfl) (by kernel_rfl) (by kernel_rfl) rfl ?_
                    refine f_val rfl rfl rfl (by intro t_ w hw; exact x_load (.int .i64 242) ag_33 rfl (hw.blk_at (i := 0) rfl) rfl) ?_
                    refine f_all (rs := [5]) (by kernel_rfl) (by simp) ?_
                    refine a_cons ⟨_, rfl, ?_⟩ (fun x hx => absurd hx (by simp))
                    intro w169 H170
                    try dsimp only at H170
                    refine s_storeAgg H170 4 #[.int .i64 0, .int .i64 0, .int .i64 0, .slice none 0 0] 4 rfl rfl rfl sz_51 rfl (by simp [Value.oneCell']) (Nat.le_of_ble_eq_true rfl) (fun o h1 h2 => by first | (simp; done) | (simp; omega)) (cs' := #[.int .i64 0, .int .i64 0, .int .i64 0, .slice none 0 0]) rfl ?_; intro w171 H172
                    refine ⟨blk bk4 (.cells #[.int .i64 0, .int .i64 0, .int .i64 0, .slice none 0 0] 51 (0, 0)) :: F, ?_, H172⟩
                    change FReg _ _ _ _ _ #[true, true, true, true, true, true, false] _ _
                    refine f_first 6 (listed' := #[true, true, true, true, true, true, true]) rfl (by kernel_rfl) (by kernel_rfl) (by kernel_rfl) rfl ?_
                    refine f_val rfl rfl rfl (by intro t_ w hw; exact x_assign (.int .i64 242) rfl w) ?_
                    refine f_done (by kernel_rfl) ?_
                    intro w173 H174
                    refine g_ret' [.agg #[.int .i64 0, .int .i64 0, .int .i64 0, .slice none 0 0], .int .i64 242] Try.func31 Try.results31 ⟨(res_cellN rfl ag_51 (H174.blk_at (i := 4) rfl) (Nat.le_of_ble_eq_true rfl) rfl), rfl, trivial⟩ ?_
                    have g4 := (remB_drop bs q99 (textN (remB bs q99))).symm
                    obtain ⟨k0, k1, k2, k3, k4⟩ := pq_9 hR16 hR60 hR100 g4 he13 (by omega) he57 (by omega) he97 (by omega) hc146 hc162
                    have hE : ppE (remB bs 0) = 242 := by rw [k0]; exact pcE_242 (by unfold pieceOk; rw [k1, k2, k3, k4, ← textBytes_size]; simpa using hb166)
                    have hE0 : ¬ ppE (remB bs 0) = 0 := by rw [hE]; decide
                    have H175 := Row.im (Row.nil_intro H174 5 1) (i := 0) rfl
                    have H176 : St W w173 (Im 1 (.slice none 0 0) 0 [] :: F) := (((((H175.drop 1 rfl).drop 1 rfl).drop 1 rfl).drop 1 rfl).drop 1 rfl)
                    exact ⟨none, 0, by rw [hE, ppV_no hE0]; rfl, by rw [ppV_no hE0]; exact H176⟩
                  · have hb166 := eq_false_of_ne_true hb166
                    refine r_cons (s_call [.pointer (some ⟨bk10, 0, none⟩), .bool (!(pieceB (clipN (natU (remB bs 0))) (clipN (natU (remB bs q15))) (clipN (natU (remB bs q59))) ((textS (remB bs q99)).size))), .int .i64 242] pl_87 rfl rfl (mr_wrong_f bk10 bk7 (!(pieceB (clipN (natU (remB bs 0))) (clipN (natU (remB bs q15))) (clipN (natU (remB bs q59))) ((textS (remB bs q99)).size))) 242 hb166 (i := 0) rfl H165) ?_)
                    rintro _ w177 ⟨rfl, H178⟩
                    refine r_nil ?_
                    refine g_seq ?_
                    refine g_seq ?_
                    refine g_region ?_
                    refine r_cons (s_move (.pointer (some ⟨bk10, 0, none⟩)) rfl rfl ?_)
                    refine r_cons (s_nilCheck (.pointer (some ⟨bk10, 0, none⟩)) rfl ⟨_, rfl⟩ rfl ?_)
                    refine r_cons (s_fieldAddr 147 1 1 1 33 rfl fi_147_1 rfl rfl ?_)
                    refine r_cons (s_load (.int .i64 0) ag_33 rfl (H178.blk_at (i := 0) rfl) rfl rfl ?_)
                    refine r_cons (s_neq false rfl rfl (ntrue (by decide)) rfl ?_)
                    refine r_nil ?_
                    refine g_false rfl ?_
                    refine g_skip ?_
                    refine g_seq ?_
                    refine g_region ?_
                    refine r_cons (s_loadAgg [.int .i64 (clipN (natU (remB bs 0))), .int .i64 (clipN (natU (remB bs q15))), .int .i64 (clipN (natU (remB bs q59))), .slice (some ⟨bk149, 0, none⟩) ((textS (remB bs q99)).size) cap152] 4 ag_51 rfl (H178.blk_at (i := 3) rfl) (Nat.le_of_ble_eq_true rfl) rfl rfl ?_)
                    refine r_cons (s_storeAgg H178 4 #[.int .i64 (clipN (natU (remB bs 0))), .int .i64 (clipN (natU (remB bs q15))), .int .i64 (clipN (natU (remB bs q59))), .slice (some ⟨bk149, 0, none⟩) ((textS (remB bs q99)).size) cap152] 4 rfl rfl rfl sz_51 rfl (by simp [Value.oneCell']) (Nat.le_of_ble_eq_true rfl) (fun o h1 h2 => by first | (simp; done) | (simp; omega)) (cs' := #[.int .i64 (clipN (natU (remB bs 0))), .int .i64 (clipN (natU (remB bs q15))), .int .i64 (clipN (natU (remB bs q59))), .slice (some ⟨bk149, 0, none⟩) ((textS (remB bs q99)).size) cap152]) rfl ?_); intro w179 H180
                    refine r_cons (s_assign (.int .i64 0) rfl rfl ?_)
                    refine r_nil ?_
                    refine g_ret' [.agg #[.int .i64 (clipN (natU (remB bs 0))), .int .i64 (clipN (natU (remB bs q15))), .int .i64 (clipN (natU (remB bs q59))), .slice (some ⟨bk149, 0, none⟩) ((textS (remB bs q99)).size) cap152], .int .i64 0] Try.func31 Try.results31 ⟨(res_cellN rfl ag_51 (H180.blk_at (i := 4) rfl) (Nat.le_of_ble_eq_true rfl) rfl), rfl, trivial⟩ ?_
                    have g4 := (remB_drop bs q99 (textN (remB bs q99))).symm
                    obtain ⟨k0, k1, k2, k3, k4⟩ := pq_9 hR16 hR60 hR100 g4 he13 (by omega) he57 (by omega) he97 (by omega) hc146 hc162
                    have hE : ppE (remB bs 0) = 0 := by rw [k0]; exact pcE_0 (by unfold pieceOk; rw [k1, k2, k3, k4, ← textBytes_size]; simpa using hb166)
                    have H181 : St W w179 (blk bk10 (.cells #[.pointer (some ⟨bk7, 0, none⟩), .int .i64 0] 147 (0, 0)) :: SrcA bk7 bs (q99 + textN (remB bs q99)) :: Im 1 (.slice (some ⟨bk149, 0, none⟩) ((textBytes (remB bs q99)).length) cap152) ((textBytes (remB bs q99)).length) ((textBytes (remB bs q99)).flatMap u8c) :: blk bk139 (.cells #[.int .i64 (clipN (natU (remB bs 0))), .int .i64 (clipN (natU (remB bs q15))), .int .i64 (clipN (natU (remB bs q59))), .slice (some ⟨bk149, 0, none⟩) ((textS (remB bs q99)).size) cap152] 51 (0, 0)) :: blk bk4 (.cells #[.int .i64 (clipN (natU (remB bs 0))), .int .i64 (clipN (natU (remB bs q15))), .int .i64 (clipN (natU (remB bs q59))), .slice (some ⟨bk149, 0, none⟩) ((textS (remB bs q99)).size) cap152] 51 (0, 0)) :: F) := text_im (D := (textBytes (remB bs q99))) H180 (i := 2) rfl rfl (by assumption) (by have h9 := textBytes_le (remB bs q99); rw [remB_len] at h9; omega)
                    have H182 : St W w179 (Im 1 (.slice (some ⟨bk149, 0, none⟩) ((textBytes (remB bs q99)).length) cap152) ((textBytes (remB bs q99)).length) ((textBytes (remB bs q99)).flatMap u8c) :: F) := (((((H181.move 2 rfl).drop 1 rfl).drop 1 rfl).drop 1 rfl).drop 1 rfl)
                    exact ⟨_, _, by rw [hE, ppV_yes hE, k1, k2, k3, k4]; rfl, by rw [ppV_yes hE, k4]; exact H182⟩
                · skip
                  refine r_nil ?_
                  refine g_seq ?_
                  refine g_region ?_
                  refine r_cons (s_move (.pointer (some ⟨bk10, 0, none⟩)) rfl rfl ?_)
                  refine r_cons (s_loadAgg [.int .i64 (clipN (natU (remB bs 0))), .int .i64 (clipN (natU (remB bs q15))), .int .i64 (clipN (natU (remB bs q59))), .slice (some ⟨bk149, 0, none⟩) ((textS (remB bs q99)).size) cap152] 4 ag_51 rfl (H160.blk_at (i := 3) rfl) (Nat.le_of_ble_eq_true rfl) rfl rfl ?_)
                  refine r_cons (s_call [.agg #[.int .i64 (clipN (natU (remB bs 0))), .int .i64 (clipN (natU (remB bs q15))), .int .i64 (clipN (natU (remB bs q59))), .slice (some ⟨bk149, 0, none⟩) ((textS (remB bs q99)).size) cap152]] pl_72 rfl rfl (migrate_piece (clipN (natU (remB bs 0))) (clipN (natU (remB bs q15))) (clipN (natU (remB bs q59))) (some ⟨bk149, 0, none⟩) ((textS (remB bs q99)).size) cap152 H160) ?_)
                  rintro _ w183 ⟨rfl, H184⟩
                  refine r_cons (s_not (pieceB (clipN (natU (remB bs 0))) (clipN (natU (remB bs q15))) (clipN (natU (remB bs q59))) ((textS (remB bs q99)).size)) rfl (!(pieceB (clipN (natU (remB bs 0))) (clipN (natU (remB bs q15))) (clipN (natU (remB bs q59))) ((textS (remB bs q99)).size))) rfl rfl ?_)
                  refine r_cons (s_call [.pointer (some ⟨bk10, 0, none⟩), .bool (!(pieceB (clipN (natU (remB bs 0))) (clipN (natU (remB bs q15))) (clipN (natU (remB bs q59))) ((textS (remB bs q99)).size))), .int .i64 242] pl_87 rfl rfl (mr_wrong_e bk10 bk7 (endE (remB bs (q99 + textN (remB bs q99)))) (by first | assumption | decide | omega) (!(pieceB (clipN (natU (remB bs 0))) (clipN (natU (remB bs q15))) (clipN (natU (remB bs q59))) ((textS (remB bs q99)).size))) 242 (i := 0) rfl H184) ?_)
                  rintro _ w185 ⟨rfl, H186⟩
                  refine r_nil ?_
                  refine g_seq ?_
                  refine g_seq ?_
                  refine g_region ?_
                  refine r_cons (s_move (.pointer (some ⟨bk10, 0, none⟩)) rfl rfl ?_)
                  refine r_cons (s_nilCheck (.pointer (some ⟨bk10, 0, none⟩)) rfl ⟨_, rfl⟩ rfl ?_)
                  refine r_cons (s_fieldAddr 147 1 1 1 33 rfl fi_147_1 rfl rfl ?_)
                  refine r_cons (s_load (.int .i64 (endE (remB bs (q99 + textN (remB bs q99))))) ag_33 rfl (H186.blk_at (i := 0) rfl) rfl rfl ?_)
                  refine r_cons (s_neq true rfl rfl (nfalse (by omega)) rfl ?_)
                  refine r_nil ?_
                  refine g_true rfl ?_
                  refine g_seq ?_
                  refine g_mix (fun t_ w => St W w (blk bk10 (.cells #[.pointer (some ⟨bk7, 0, none⟩), .int .i64 (endE (remB bs (q99 + textN (remB bs q99))))] 147 (0, 0)) :: SrcA bk7 bs (q99 + textN (remB bs q99)) :: blk bk149 (.cells ((bytesV (textS (remB bs q99)).data.toList ++ tl154).toArray) 5 (N153, N153 + 1)) :: blk bk139 (.cells #[.int .i64 (clipN (natU (remB bs 0))), .int .i64 (clipN (natU (remB bs q15))), .int .i64 (clipN (natU (remB bs q59))), .slice (some ⟨bk149, 0, none⟩) ((textS (remB bs q99)).size) cap152] 51 (0, 0)) :: t_)) (blk bk4 (.cells #[.int .i64 0, .int .i64 0, .int .i64 0, .slice none 0 0] 51 (0, 0)) :: F) mixed 7 rfl H186.drew ?_
                  refine f_first 0 (listed' := #[true, false, false, false, false, false, false]) rfl (by kernel_rfl) (by kernel_rfl) (by kernel_rfl) rfl ?_
                  refine f_val rfl rfl rfl (by intro t_ w hw; exact x_build (cs := #[.int .i64 0, .int .i64 0, .int .i64 0, .slice none 0 0]) (by kernel_rfl) w) ?_
                  refine f_first 1 (listed' := #[true, true, false, false, false, false, false]) rfl (by kernel_rfl) (by kernel_rfl) (by kernel_rfl) rfl ?_
                  refine f_val rfl rfl rfl (by intro t_ w hw; exact x_move (.pointer (some ⟨bk10, 0, none⟩)) rfl w) ?_
                  refine f_first 2 (listed' := #[true, true, true, false, false, false, false]) rfl (by kernel_rfl) (by kernel_rfl) (by kernel_rfl) rfl ?_
                  refine f_val rfl rfl rfl (by intro t_ w hw; exact x_nilCheck (.pointer (some ⟨bk10, 0, none⟩)) rfl ⟨_, rfl⟩ w) ?_
                  refine f_first 3 (listed' := #[true, true, true, true, false, false, false]) rfl (by kernel_rfl) (by kernel_rfl) (by kernel_rfl) rfl ?_
                  refine f_val rfl rfl rfl (by intro t_ w hw; exact x_fieldAddr 147 1 1 1 33 rfl fi_147_1 rfl w) ?_
                  refine f_first 4 (listed' := #[true, true, true, true, true, false, false]) rfl (by kernel_rfl) (by kernel_rfl) (by kernel_rfl) rfl ?_
                  refine f_val rfl rfl rfl (by intro t_ w hw; exact x_load (.int .i64 (endE (remB bs (q99 + textN (remB bs q99))))) ag_33 rfl (hw.blk_at (i := 0) rfl) rfl) ?_
                  refine f_all (rs := [5]) (by kernel_rfl) (by simp) ?_
                  refine a_cons ⟨_, rfl, ?_⟩ (fun x hx => absurd hx (by simp))
                  intro w187 H188
                  try dsimp only at H188
                  refine s_storeAgg H188 4 #[.int .i64 0, .int .i64 0, .int .i64 0, .slice none 0 0] 4 rfl rfl rfl sz_51 rfl (by simp [Value.oneCell']) (Nat.le_of_ble_eq_true rfl) (fun o h1 h2 => by first | (simp; done) | (simp; omega)) (cs' := #[.int .i64 0, .int .i64 0, .int .i64 0, .slice none 0 0]) rfl ?_; intro w189 H190
                  refine ⟨blk bk4 (.cells #[.int .i64 0, .int .i64 0, .int .i64 0, .slice none 0 0] 51 (0, 0)) :: F, ?_, H190⟩
                  change FReg _ _ _ _ _ #[true, true, true, true, true, true, false] _ _
                  refine f_first 6 (listed' := #[true, true, true, true, true, true, true]) rfl (by kernel_rfl) (by kernel_rfl) (by kernel_rfl) rfl ?_
                  refine f_val rfl rfl rfl (by intro t_ w hw; exact x_assign (.int .i64 (endE (remB bs (q99 + textN (remB bs q99))))) rfl w) ?_
                  refine f_done (by kernel_rfl) ?_
                  intro w191 H192
                  refine g_ret' [.agg #[.int .i64 0, .int .i64 0, .int .i64 0, .slice none 0 0], .int .i64 (endE (remB bs (q99 + textN (remB bs q99))))] Try.func31 Try.results31 ⟨(res_cellN rfl ag_51 (H192.blk_at (i := 4) rfl) (Nat.le_of_ble_eq_true rfl) rfl), rfl, trivial⟩ ?_
                  have g4 := (remB_drop bs q99 (textN (remB bs q99))).symm
                  have hE : ppE (remB bs 0) = (endE (remB bs (q99 + textN (remB bs q99)))) := pq_8 hR16 hR60 hR100 g4 he13 (by omega) he57 (by omega) he97 (by omega) hc146 hc162
                  have hE0 : ¬ ppE (remB bs 0) = 0 := by rw [hE]; first | assumption | decide
                  have H193 := Row.im (Row.nil_intro H192 5 1) (i := 0) rfl
                  have H194 : St W w191 (Im 1 (.slice none 0 0) 0 [] :: F) := (((((H193.drop 1 rfl).drop 1 rfl).drop 1 rfl).drop 1 rfl).drop 1 rfl)
                  exact ⟨none, 0, by rw [hE, ppV_no hE0]; rfl, by rw [ppV_no hE0]; exact H194⟩
              · skip
                refine r_cons (s_move (.tuple #[.string (textS (remB bs q99)), .int .i64 (textE (remB bs q99))]) rfl rfl ?_)
                refine r_cons (s_extract (.string (textS (remB bs q99))) #[.string (textS (remB bs q99)), .int .i64 (textE (remB bs q99))] rfl rfl rfl ?_)
                refine r_cons (s_extract (.int .i64 (textE (remB bs q99))) #[.string (textS (remB bs q99)), .int .i64 (textE (remB bs q99))] rfl rfl rfl ?_)
                refine r_cons (s_assign (.string (textS (remB bs q99))) rfl rfl ?_)
                refine r_cons (s_nilCheck (.pointer (some ⟨bk10, 0, none⟩)) rfl ⟨_, rfl⟩ rfl ?_)
                refine r_cons (s_fieldAddr 147 1 1 1 33 rfl fi_147_1 rfl rfl ?_)
                refine r_cons (s_store H145 1 (.int .i64 (textE (remB bs q99))) rfl rfl rfl sz_33 rfl (Nat.le_of_ble_eq_true rfl) rfl (cs' := #[.pointer (some ⟨bk7, 0, none⟩), .int .i64 (textE (remB bs q99))]) rfl ?_); intro w195 H196
                refine r_nil ?_
                refine g_region ?_
                refine r_cons (s_move (.string (textS (remB bs q99))) rfl rfl ?_)
                refine r_cons (s_str_bytes H196 (textS (remB bs q99)) rfl us_9 un_23 un_5 rfl ?_); intro bk197 w198 cap200 N201 tl202 hN201 hcap200 htl202 H199
                refine r_cons (s_fieldAddr 51 3 3 3 23 rfl fi_51_3 rfl rfl ?_)
                refine r_cons (s_store H199 1 (.slice (some ⟨bk197, 0, none⟩) ((textS (remB bs q99)).size) cap200) rfl rfl rfl sz_23 rfl (Nat.le_of_ble_eq_true rfl) rfl (cs' := #[.int .i64 (clipN (natU (remB bs 0))), .int .i64 (clipN (natU (remB bs q15))), .int .i64 (clipN (natU (remB bs q59))), .slice (some ⟨bk197, 0, none⟩) ((textS (remB bs q99)).size) cap200]) rfl ?_); intro w203 H204
                refine r_nil ?_
                refine g_seq ?_
                refine g_region ?_
                refine r_cons (s_move (.pointer (some ⟨bk10, 0, none⟩)) rfl rfl ?_)
                refine r_cons (s_call [.pointer (some ⟨bk10, 0, none⟩)] pl_90 rfl rfl (mr_end_no bk10 bk7 (textE (remB bs q99)) (by first | assumption | decide | omega) (i := 2) rfl H204) ?_)
                rintro _ w205 ⟨rfl, H206⟩
                refine r_nil ?_
                refine g_seq ?_
                refine g_region ?_
                refine r_cons (s_move (.pointer (some ⟨bk10, 0, none⟩)) rfl rfl ?_)
                refine r_cons (s_loadAgg [.int .i64 (clipN (natU (remB bs 0))), .int .i64 (clipN (natU (remB bs q15))), .int .i64 (clipN (natU (remB bs q59))), .slice (some ⟨bk197, 0, none⟩) ((textS (remB bs q99)).size) cap200] 4 ag_51 rfl (H206.blk_at (i := 1) rfl) (Nat.le_of_ble_eq_true rfl) rfl rfl ?_)
                refine r_cons (s_call [.agg #[.int .i64 (clipN (natU (remB bs 0))), .int .i64 (clipN (natU (remB bs q15))), .int .i64 (clipN (natU (remB bs q59))), .slice (some ⟨bk197, 0, none⟩) ((textS (remB bs q99)).size) cap200]] pl_72 rfl rfl (migrate_piece (clipN (natU (remB bs 0))) (clipN (natU (remB bs q15))) (clipN (natU (remB bs q59))) (some ⟨bk197, 0, none⟩) ((textS (remB bs q99)).size) cap200 H206) ?_)
                rintro _ w207 ⟨rfl, H208⟩
                refine r_cons (s_not (pieceB (clipN (natU (remB bs 0))) (clipN (natU (remB bs q15))) (clipN (natU (remB bs q59))) ((textS (remB bs q99)).size)) rfl (!(pieceB (clipN (natU (remB bs 0))) (clipN (natU (remB bs q15))) (clipN (natU (remB bs q59))) ((textS (remB bs q99)).size))) rfl rfl ?_)
                refine r_cons (s_call [.pointer (some ⟨bk10, 0, none⟩), .bool (!(pieceB (clipN (natU (remB bs 0))) (clipN (natU (remB bs q15))) (clipN (natU (remB bs q59))) ((textS (remB bs q99)).size))), .int .i64 242] pl_87 rfl rfl (mr_wrong_e bk10 bk7 (textE (remB bs q99)) (by first | assumption | decide | omega) (!(pieceB (clipN (natU (remB bs 0))) (clipN (natU (remB bs q15))) (clipN (natU (remB bs q59))) ((textS (remB bs q99)).size))) 242 (i := 2) rfl H208) ?_)
                rintro _ w209 ⟨rfl, H210⟩
                refine r_nil ?_
                refine g_seq ?_
                refine g_seq ?_
                refine g_region ?_
                refine r_cons (s_move (.pointer (some ⟨bk10, 0, none⟩)) rfl rfl ?_)
                refine r_cons (s_nilCheck (.pointer (some ⟨bk10, 0, none⟩)) rfl ⟨_, rfl⟩ rfl ?_)
                refine r_cons (s_fieldAddr 147 1 1 1 33 rfl fi_147_1 rfl rfl ?_)
                refine r_cons (s_load (.int .i64 (textE (remB bs q99))) ag_33 rfl (H210.blk_at (i := 2) rfl) rfl rfl ?_)
                refine r_cons (s_neq true rfl rfl (nfalse (by omega)) rfl ?_)
                refine r_nil ?_
                refine g_true rfl ?_
                refine g_seq ?_
                refine g_mix (fun t_ w => St W w (blk bk197 (.cells ((bytesV (textS (remB bs q99)).data.toList ++ tl202).toArray) 5 (N201, N201 + 1)) :: blk bk139 (.cells #[.int .i64 (clipN (natU (remB bs 0))), .int .i64 (clipN (natU (remB bs q15))), .int .i64 (clipN (natU (remB bs q59))), .slice (some ⟨bk197, 0, none⟩) ((textS (remB bs q99)).size) cap200] 51 (0, 0)) :: blk bk10 (.cells #[.pointer (some ⟨bk7, 0, none⟩), .int .i64 (textE (remB bs q99))] 147 (0, 0)) :: SrcA bk7 bs (q99 + textN (remB bs q99)) :: t_)) (blk bk4 (.cells #[.int .i64 0, .int .i64 0, .int .i64 0, .slice none 0 0] 51 (0, 0)) :: F) mixed 7 rfl H210.drew ?_
                refine f_first 0 (listed' := #[true, false, false, false, false, false, false]) rfl (by kernel_rfl) (by kernel_rfl) (by kernel_rfl) rfl ?_
                refine f_val rfl rfl rfl (by intro t_ w hw; exact x_build (cs := #[.int .i64 0, .int .i64 0, .int .i64 0, .slice none 0 0]) (by kernel_rfl) w) ?_
                refine f_first 1 (listed' := #[true, true, false, false, false, false, false]) rfl (by kernel_rfl) (by kernel_rfl) (by kernel_rfl) rfl ?_
                refine f_val rfl rfl rfl (by intro t_ w hw; exact x_move (.pointer (some ⟨bk10, 0, none⟩)) rfl w) ?_
                refine f_first 2 (listed' := #[true, true, true, false, false, false, false]) rfl (by kernel_rfl) (by kernel_rfl) (by kernel_rfl) rfl ?_
                refine f_val rfl rfl rfl (by intro t_ w hw; exact x_nilCheck (.pointer (some ⟨bk10, 0, none⟩)) rfl ⟨_, rfl⟩ w) ?_
                refine f_first 3 (listed' := #[true, true, true, true, false, false, false]) rfl (by kernel_rfl) (by kernel_rfl) (by kernel_rfl) rfl ?_
                refine f_val rfl rfl rfl (by intro t_ w hw; exact x_fieldAddr 147 1 1 1 33 rfl fi_147_1 rfl w) ?_
                refine f_first 4 (listed' := #[true, true, true, true, true, false, false]) rfl (by kernel_rfl) (by kernel_rfl) (by kernel_rfl) rfl ?_
                refine f_val rfl rfl rfl (by intro t_ w hw; exact x_load (.int .i64 (textE (remB bs q99))) ag_33 rfl (hw.blk_at (i := 2) rfl) rfl) ?_
                refine f_all (rs := [5]) (by kernel_rfl) (by simp) ?_
                refine a_cons ⟨_, rfl, ?_⟩ (fun x hx => absurd hx (by simp))
                intro w211 H212
                try dsimp only at H212
                refine s_storeAgg H212 4 #[.int .i64 0, .int .i64 0, .int .i64 0, .slice none 0 0] 4 rfl rfl rfl sz_51 rfl (by simp [Value.oneCell']) (Nat.le_of_ble_eq_true rfl) (fun o h1 h2 => by first | (simp; done) | (simp; omega)) (cs' := #[.int .i64 0, .int .i64 0, .int .i64 0, .slice none 0 0]) rfl ?_; intro w213 H214
                refine ⟨blk bk4 (.cells #[.int .i64 0, .int .i64 0, .int .i64 0, .slice none 0 0] 51 (0, 0)) :: F, ?_, H214⟩
                change FReg _ _ _ _ _ #[true, true, true, true, true, true, false] _ _
                refine f_first 6 (listed' := #[true, true, true, true, true, true, true]) rfl (by kernel_rfl) (by kernel_rfl) (by kernel_rfl) rfl ?_
                refine f_val rfl rfl rfl (by intro t_ w hw; exact x_assign (.int .i64 (textE (remB bs q99))) rfl w) ?_
                refine f_done (by kernel_rfl) ?_
                intro w215 H216
                refine g_ret' [.agg #[.int .i64 0, .int .i64 0, .int .i64 0, .slice none 0 0], .int .i64 (textE (remB bs q99))] Try.func31 Try.results31 ⟨(res_cellN rfl ag_51 (H216.blk_at (i := 4) rfl) (Nat.le_of_ble_eq_true rfl) rfl), rfl, trivial⟩ ?_
                have hE : ppE (remB bs 0) = textE (remB bs q99) := pq_7 hR16 hR60 hR100 he13 (by omega) he57 (by omega) he97 (by omega) hc146
                have hE0 : ¬ ppE (remB bs 0) = 0 := by rw [hE]; first | assumption | decide
                have H217 := Row.im (Row.nil_intro H216 5 1) (i := 0) rfl
                have H218 : St W w215 (Im 1 (.slice none 0 0) 0 [] :: F) := (((((H217.drop 1 rfl).drop 1 rfl).drop 1 rfl).drop 1 rfl).drop 1 rfl)
                exact ⟨none, 0, by rw [hE, ppV_no hE0]; rfl, by rw [ppV_no hE0]; exact H218⟩
          · skip
            refine r_cons (s_assign (.int .u64 0) rfl rfl ?_)
            refine r_nil ?_
            refine g_seq ?_
            refine g_region ?_
            refine r_cons (s_move (.pointer (some ⟨bk10, 0, none⟩)) rfl rfl ?_)
            refine r_cons (s_move (.int .u64 0) rfl rfl ?_)
            refine r_cons (s_move (.int .u64 (natU (remB bs q15) : Int)) rfl rfl ?_)
            by_cases hc219 : (natU (remB bs q15) : Int) ≤ 0
            · skip
              refine r_cons (s_geq true rfl rfl (dtrue hc219) rfl ?_)
              refine r_cons (s_call [.pointer (some ⟨bk10, 0, none⟩), .bool true, .int .i64 242] pl_87 rfl rfl (mr_wrong_e bk10 bk7 (natE (remB bs q59)) (by first | assumption | decide | omega) true 242 (i := 0) rfl H98) ?_)
              rintro _ w220 ⟨rfl, H221⟩
              refine r_nil ?_
              refine g_seq ?_
              refine g_region ?_
              refine r_cons (s_move (.int .u64 (natU (remB bs 0) : Int)) rfl rfl ?_)
              refine r_cons (s_call [.int .u64 (natU (remB bs 0) : Int)] pl_88 rfl rfl (migrate_clip (natU (remB bs 0)) (natU_lt _) H221) ?_)
              rintro _ w222 ⟨rfl, H223⟩
              refine r_cons (s_move (.int .u64 (natU (remB bs q15) : Int)) rfl rfl ?_)
              refine r_cons (s_call [.int .u64 (natU (remB bs q15) : Int)] pl_88 rfl rfl (migrate_clip (natU (remB bs q15)) (natU_lt _) H223) ?_)
              rintro _ w224 ⟨rfl, H225⟩
              refine r_cons (s_move (.int .u64 0) rfl rfl ?_)
              refine r_cons (s_call [.int .u64 0] pl_88 rfl rfl (migrate_clip (0) (by decide) H225) ?_)
              rintro _ w226 ⟨rfl, H227⟩
              refine r_cons (s_build (cs := #[.int .i64 (clipN (natU (remB bs 0))), .int .i64 (clipN (natU (remB bs q15))), .int .i64 (clipN 0), .slice none 0 0]) (by kernel_rfl) rfl ?_)
              refine r_cons (s_alloc H227 51 ze_51 rfl ?_); intro bk228 w229 H230
              refine r_cons (s_storeAgg H230 0 #[.int .i64 (clipN (natU (remB bs 0))), .int .i64 (clipN (natU (remB bs q15))), .int .i64 (clipN 0), .slice none 0 0] 4 rfl rfl rfl sz_51 rfl (by simp [Value.oneCell']) (Nat.le_of_ble_eq_true rfl) (fun o h1 h2 => by first | (simp; done) | (simp; omega)) (cs' := #[.int .i64 (clipN (natU (remB bs 0))), .int .i64 (clipN (natU (remB bs q15))), .int .i64 (clipN 0), .slice none 0 0]) rfl ?_); intro w231 H232
              refine r_nil ?_
              refine g_seq ?_
              refine g_seq ?_
              refine g_region ?_
              refine r_cons (s_move (.pointer (some ⟨bk10, 0, none⟩)) rfl rfl ?_)
              refine r_cons (s_nilCheck (.pointer (some ⟨bk10, 0, none⟩)) rfl ⟨_, rfl⟩ rfl ?_)
              refine r_cons (s_fieldAddr 147 1 1 1 33 rfl fi_147_1 rfl rfl ?_)
              refine r_cons (s_load (.int .i64 (natE (remB bs q59))) ag_33 rfl (H232.blk_at (i := 1) rfl) rfl rfl ?_)
              refine r_cons (s_eql false rfl rfl (dfalse (by omega)) rfl ?_)
              refine r_nil ?_
              refine g_false rfl ?_
              refine g_skip ?_
              refine g_seq ?_
              refine g_region ?_
              refine r_cons (s_move (.pointer (some ⟨bk10, 0, none⟩)) rfl rfl ?_)
              refine r_cons (s_call [.pointer (some ⟨bk10, 0, none⟩)] pl_90 rfl rfl (mr_end_no bk10 bk7 (natE (remB bs q59)) (by first | assumption | decide | omega) (i := 1) rfl H232) ?_)
              rintro _ w233 ⟨rfl, H234⟩
              refine r_nil ?_
              refine g_seq ?_
              refine g_region ?_
              refine r_cons (s_move (.pointer (some ⟨bk10, 0, none⟩)) rfl rfl ?_)
              refine r_cons (s_loadAgg [.int .i64 (clipN (natU (remB bs 0))), .int .i64 (clipN (natU (remB bs q15))), .int .i64 (clipN 0), .slice none 0 0] 4 ag_51 rfl (H234.blk_at (i := 0) rfl) (Nat.le_of_ble_eq_true rfl) rfl rfl ?_)
              refine r_cons (s_call [.agg #[.int .i64 (clipN (natU (remB bs 0))), .int .i64 (clipN (natU (remB bs q15))), .int .i64 (clipN 0), .slice none 0 0]] pl_72 rfl rfl (migrate_piece (clipN (natU (remB bs 0))) (clipN (natU (remB bs q15))) (clipN 0) none 0 0 H234) ?_)
              rintro _ w235 ⟨rfl, H236⟩
              refine r_cons (s_not (pieceB (clipN (natU (remB bs 0))) (clipN (natU (remB bs q15))) (clipN 0) 0) rfl (!(pieceB (clipN (natU (remB bs 0))) (clipN (natU (remB bs q15))) (clipN 0) 0)) rfl rfl ?_)
              refine r_cons (s_call [.pointer (some ⟨bk10, 0, none⟩), .bool (!(pieceB (clipN (natU (remB bs 0))) (clipN (natU (remB bs q15))) (clipN 0) 0)), .int .i64 242] pl_87 rfl rfl (mr_wrong_e bk10 bk7 (natE (remB bs q59)) (by first | assumption | decide | omega) (!(pieceB (clipN (natU (remB bs 0))) (clipN (natU (remB bs q15))) (clipN 0) 0)) 242 (i := 1) rfl H236) ?_)
              rintro _ w237 ⟨rfl, H238⟩
              refine r_nil ?_
              refine g_seq ?_
              refine g_seq ?_
              refine g_region ?_
              refine r_cons (s_move (.pointer (some ⟨bk10, 0, none⟩)) rfl rfl ?_)
              refine r_cons (s_nilCheck (.pointer (some ⟨bk10, 0, none⟩)) rfl ⟨_, rfl⟩ rfl ?_)
              refine r_cons (s_fieldAddr 147 1 1 1 33 rfl fi_147_1 rfl rfl ?_)
              refine r_cons (s_load (.int .i64 (natE (remB bs q59))) ag_33 rfl (H238.blk_at (i := 1) rfl) rfl rfl ?_)
              refine r_cons (s_neq true rfl rfl (nfalse (by omega)) rfl ?_)
              refine r_nil ?_
              refine g_true rfl ?_
              refine g_seq ?_
              refine g_mix (fun t_ w => St W w (blk bk228 (.cells #[.int .i64 (clipN (natU (remB bs 0))), .int .i64 (clipN (natU (remB bs q15))), .int .i64 (clipN 0), .slice none 0 0] 51 (0, 0)) :: blk bk10 (.cells #[.pointer (some ⟨bk7, 0, none⟩), .int .i64 (natE (remB bs q59))] 147 (0, 0)) :: SrcA bk7 bs q59 :: t_)) (blk bk4 (.cells #[.int .i64 0, .int .i64 0, .int .i64 0, .slice none 0 0] 51 (0, 0)) :: F) mixed 7 rfl H238.drew ?_
              refine f_first 0 (listed' := #[true, false, false, false, false, false, false]) rfl (by kernel_rfl) (by kernel_rfl) (by kernel_rfl) rfl ?_
              refine f_val rfl rfl rfl (by intro t_ w hw; exact x_build (cs := #[.int .i64 0, .int .i64 0, .int .i64 0, .slice none 0 0]) (by kernel_rfl) w) ?_
              refine f_first 1 (listed' := #[true, true, false, false, false, false, false]) rfl (by kernel_rfl) (by kernel_rfl) (by kernel_rfl) rfl ?_
              refine f_val rfl rfl rfl (by intro t_ w hw; exact x_move (.pointer (some ⟨bk10, 0, none⟩)) rfl w) ?_
              refine f_first 2 (listed' := #[true, true, true, false, false, false, false]) rfl (by kernel_rfl) (by kernel_rfl) (by kernel_rfl) rfl ?_
              refine f_val rfl rfl rfl (by intro t_ w hw; exact x_nilCheck (.pointer (some ⟨bk10, 0, none⟩)) rfl ⟨_, rfl⟩ w) ?_
              refine f_first 3 (listed' := #[true, true, true, true, false, false, false]) rfl (by kernel_rfl) (by kernel_rfl) (by kernel_rfl) rfl ?_
              refine f_val rfl rfl rfl (by intro t_ w hw; exact x_fieldAddr 147 1 1 1 33 rfl fi_147_1 rfl w) ?_
              refine f_first 4 (listed' := #[true, true, true, true, true, false, false]) rfl (by kernel_rfl) (by kernel_rfl) (by kernel_rfl) rfl ?_
              refine f_val rfl rfl rfl (by intro t_ w hw; exact x_load (.int .i64 (natE (remB bs q59))) ag_33 rfl (hw.blk_at (i := 1) rfl) rfl) ?_
              refine f_all (rs := [5]) (by kernel_rfl) (by simp) ?_
              refine a_cons ⟨_, rfl, ?_⟩ (fun x hx => absurd hx (by simp))
              intro w239 H240
              try dsimp only at H240
              refine s_storeAgg H240 3 #[.int .i64 0, .int .i64 0, .int .i64 0, .slice none 0 0] 4 rfl rfl rfl sz_51 rfl (by simp [Value.oneCell']) (Nat.le_of_ble_eq_true rfl) (fun o h1 h2 => by first | (simp; done) | (simp; omega)) (cs' := #[.int .i64 0, .int .i64 0, .int .i64 0, .slice none 0 0]) rfl ?_; intro w241 H242
              refine ⟨blk bk4 (.cells #[.int .i64 0, .int .i64 0, .int .i64 0, .slice none 0 0] 51 (0, 0)) :: F, ?_, H242⟩
              change FReg _ _ _ _ _ #[true, true, true, true, true, true, false] _ _
              refine f_first 6 (listed' := #[true, true, true, true, true, true, true]) rfl (by kernel_rfl) (by kernel_rfl) (by kernel_rfl) rfl ?_
              refine f_val rfl rfl rfl (by intro t_ w hw; exact x_assign (.int .i64 (natE (remB bs q59))) rfl w) ?_
              refine f_done (by kernel_rfl) ?_
              intro w243 H244
              refine g_ret' [.agg #[.int .i64 0, .int .i64 0, .int .i64 0, .slice none 0 0], .int .i64 (natE (remB bs q59))] Try.func31 Try.results31 ⟨(res_cellN rfl ag_51 (H244.blk_at (i := 3) rfl) (Nat.le_of_ble_eq_true rfl) rfl), rfl, trivial⟩ ?_
              have hE : ppE (remB bs 0) = (natE (remB bs q59)) := pq_5 hR16 hR60 he13 (by omega) he57 (by omega) he97
              have hE0 : ¬ ppE (remB bs 0) = 0 := by rw [hE]; first | assumption | decide
              have H245 := Row.im (Row.nil_intro H244 5 1) (i := 0) rfl
              have H246 : St W w243 (Im 1 (.slice none 0 0) 0 [] :: F) := ((((H245.drop 1 rfl).drop 1 rfl).drop 1 rfl).drop 1 rfl)
              exact ⟨none, 0, by rw [hE, ppV_no hE0]; rfl, by rw [ppV_no hE0]; exact H246⟩
            · skip
              refine r_cons (s_geq false rfl rfl (dfalse hc219) rfl ?_)
              refine r_cons (s_call [.pointer (some ⟨bk10, 0, none⟩), .bool false, .int .i64 242] pl_87 rfl rfl (mr_wrong_e bk10 bk7 (natE (remB bs q59)) (by first | assumption | decide | omega) false 242 (i := 0) rfl H98) ?_)
              rintro _ w247 ⟨rfl, H248⟩
              refine r_nil ?_
              refine g_seq ?_
              refine g_region ?_
              refine r_cons (s_move (.int .u64 (natU (remB bs 0) : Int)) rfl rfl ?_)
              refine r_cons (s_call [.int .u64 (natU (remB bs 0) : Int)] pl_88 rfl rfl (migrate_clip (natU (remB bs 0)) (natU_lt _) H248) ?_)
              rintro _ w249 ⟨rfl, H250⟩
              refine r_cons (s_move (.int .u64 (natU (remB bs q15) : Int)) rfl rfl ?_)
              refine r_cons (s_call [.int .u64 (natU (remB bs q15) : Int)] pl_88 rfl rfl (migrate_clip (natU (remB bs q15)) (natU_lt _) H250) ?_)
              rintro _ w251 ⟨rfl, H252⟩
              refine r_cons (s_move (.int .u64 0) rfl rfl ?_)
              refine r_cons (s_call [.int .u64 0] pl_88 rfl rfl (migrate_clip (0) (by decide) H252) ?_)
              rintro _ w253 ⟨rfl, H254⟩
              refine r_cons (s_build (cs := #[.int .i64 (clipN (natU (remB bs 0))), .int .i64 (clipN (natU (remB bs q15))), .int .i64 (clipN 0), .slice none 0 0]) (by kernel_rfl) rfl ?_)
              refine r_cons (s_alloc H254 51 ze_51 rfl ?_); intro bk255 w256 H257
              refine r_cons (s_storeAgg H257 0 #[.int .i64 (clipN (natU (remB bs 0))), .int .i64 (clipN (natU (remB bs q15))), .int .i64 (clipN 0), .slice none 0 0] 4 rfl rfl rfl sz_51 rfl (by simp [Value.oneCell']) (Nat.le_of_ble_eq_true rfl) (fun o h1 h2 => by first | (simp; done) | (simp; omega)) (cs' := #[.int .i64 (clipN (natU (remB bs 0))), .int .i64 (clipN (natU (remB bs q15))), .int .i64 (clipN 0), .slice none 0 0]) rfl ?_); intro w258 H259
              refine r_nil ?_
              refine g_seq ?_
              refine g_seq ?_
              refine g_region ?_
              refine r_cons (s_move (.pointer (some ⟨bk10, 0, none⟩)) rfl rfl ?_)
              refine r_cons (s_nilCheck (.pointer (some ⟨bk10, 0, none⟩)) rfl ⟨_, rfl⟩ rfl ?_)
              refine r_cons (s_fieldAddr 147 1 1 1 33 rfl fi_147_1 rfl rfl ?_)
              refine r_cons (s_load (.int .i64 (natE (remB bs q59))) ag_33 rfl (H259.blk_at (i := 1) rfl) rfl rfl ?_)
              refine r_cons (s_eql false rfl rfl (dfalse (by omega)) rfl ?_)
              refine r_nil ?_
              refine g_false rfl ?_
              refine g_skip ?_
              refine g_seq ?_
              refine g_region ?_
              refine r_cons (s_move (.pointer (some ⟨bk10, 0, none⟩)) rfl rfl ?_)
              refine r_cons (s_call [.pointer (some ⟨bk10, 0, none⟩)] pl_90 rfl rfl (mr_end_no bk10 bk7 (natE (remB bs q59)) (by first | assumption | decide | omega) (i := 1) rfl H259) ?_)
              rintro _ w260 ⟨rfl, H261⟩
              refine r_nil ?_
              refine g_seq ?_
              refine g_region ?_
              refine r_cons (s_move (.pointer (some ⟨bk10, 0, none⟩)) rfl rfl ?_)
              refine r_cons (s_loadAgg [.int .i64 (clipN (natU (remB bs 0))), .int .i64 (clipN (natU (remB bs q15))), .int .i64 (clipN 0), .slice none 0 0] 4 ag_51 rfl (H261.blk_at (i := 0) rfl) (Nat.le_of_ble_eq_true rfl) rfl rfl ?_)
              refine r_cons (s_call [.agg #[.int .i64 (clipN (natU (remB bs 0))), .int .i64 (clipN (natU (remB bs q15))), .int .i64 (clipN 0), .slice none 0 0]] pl_72 rfl rfl (migrate_piece (clipN (natU (remB bs 0))) (clipN (natU (remB bs q15))) (clipN 0) none 0 0 H261) ?_)
              rintro _ w262 ⟨rfl, H263⟩
              refine r_cons (s_not (pieceB (clipN (natU (remB bs 0))) (clipN (natU (remB bs q15))) (clipN 0) 0) rfl (!(pieceB (clipN (natU (remB bs 0))) (clipN (natU (remB bs q15))) (clipN 0) 0)) rfl rfl ?_)
              refine r_cons (s_call [.pointer (some ⟨bk10, 0, none⟩), .bool (!(pieceB (clipN (natU (remB bs 0))) (clipN (natU (remB bs q15))) (clipN 0) 0)), .int .i64 242] pl_87 rfl rfl (mr_wrong_e bk10 bk7 (natE (remB bs q59)) (by first | assumption | decide | omega) (!(pieceB (clipN (natU (remB bs 0))) (clipN (natU (remB bs q15))) (clipN 0) 0)) 242 (i := 1) rfl H263) ?_)
              rintro _ w264 ⟨rfl, H265⟩
              refine r_nil ?_
              refine g_seq ?_
              refine g_seq ?_
              refine g_region ?_
              refine r_cons (s_move (.pointer (some ⟨bk10, 0, none⟩)) rfl rfl ?_)
              refine r_cons (s_nilCheck (.pointer (some ⟨bk10, 0, none⟩)) rfl ⟨_, rfl⟩ rfl ?_)
              refine r_cons (s_fieldAddr 147 1 1 1 33 rfl fi_147_1 rfl rfl ?_)
              refine r_cons (s_load (.int .i64 (natE (remB bs q59))) ag_33 rfl (H265.blk_at (i := 1) rfl) rfl rfl ?_)
              refine r_cons (s_neq true rfl rfl (nfalse (by omega)) rfl ?_)
              refine r_nil ?_
              refine g_true rfl ?_
              refine g_seq ?_
              refine g_mix (fun t_ w => St W w (blk bk255 (.cells #[.int .i64 (clipN (natU (remB bs 0))), .int .i64 (clipN (natU (remB bs q15))), .int .i64 (clipN 0), .slice none 0 0] 51 (0, 0)) :: blk bk10 (.cells #[.pointer (some ⟨bk7, 0, none⟩), .int .i64 (natE (remB bs q59))] 147 (0, 0)) :: SrcA bk7 bs q59 :: t_)) (blk bk4 (.cells #[.int .i64 0, .int .i64 0, .int .i64 0, .slice none 0 0] 51 (0, 0)) :: F) mixed 7 rfl H265.drew ?_
              refine f_first 0 (listed' := #[true, false, false, false, false, false, false]) rfl (by kernel_rfl) (by kernel_rfl) (by kernel_rfl) rfl ?_
              refine f_val rfl rfl rfl (by intro t_ w hw; exact x_build (cs := #[.int .i64 0, .int .i64 0, .int .i64 0, .slice none 0 0]) (by kernel_rfl) w) ?_
              refine f_first 1 (listed' := #[true, true, false, false, false, false, false]) rfl (by kernel_rfl) (by kernel_rfl) (by kernel_rfl) rfl ?_
              refine f_val rfl rfl rfl (by intro t_ w hw; exact x_move (.pointer (some ⟨bk10, 0, none⟩)) rfl w) ?_
              refine f_first 2 (listed' := #[true, true, true, false, false, false, false]) rfl (by kernel_rfl) (by kernel_rfl) (by kernel_rfl) rfl ?_
              refine f_val rfl rfl rfl (by intro t_ w hw; exact x_nilCheck (.pointer (some ⟨bk10, 0, none⟩)) rfl ⟨_, rfl⟩ w) ?_
              refine f_first 3 (listed' := #[true, true, true, true, false, false, false]) rfl (by kernel_rfl) (by kernel_rfl) (by kernel_rfl) rfl ?_
              refine f_val rfl rfl rfl (by intro t_ w hw; exact x_fieldAddr 147 1 1 1 33 rfl fi_147_1 rfl w) ?_
              refine f_first 4 (listed' := #[true, true, true, true, true, false, false]) rfl (by kernel_rfl) (by kernel_rfl) (by kernel_rfl) rfl ?_
              refine f_val rfl rfl rfl (by intro t_ w hw; exact x_load (.int .i64 (natE (remB bs q59))) ag_33 rfl (hw.blk_at (i := 1) rfl) rfl) ?_
              refine f_all (rs := [5]) (by kernel_rfl) (by simp) ?_
              refine a_cons ⟨_, rfl, ?_⟩ (fun x hx => absurd hx (by simp))
              intro w266 H267
              try dsimp only at H267
              refine s_storeAgg H267 3 #[.int .i64 0, .int .i64 0, .int .i64 0, .slice none 0 0] 4 rfl rfl rfl sz_51 rfl (by simp [Value.oneCell']) (Nat.le_of_ble_eq_true rfl) (fun o h1 h2 => by first | (simp; done) | (simp; omega)) (cs' := #[.int .i64 0, .int .i64 0, .int .i64 0, .slice none 0 0]) rfl ?_; intro w268 H269
              refine ⟨blk bk4 (.cells #[.int .i64 0, .int .i64 0, .int .i64 0, .slice none 0 0] 51 (0, 0)) :: F, ?_, H269⟩
              change FReg _ _ _ _ _ #[true, true, true, true, true, true, false] _ _
              refine f_first 6 (listed' := #[true, true, true, true, true, true, true]) rfl (by kernel_rfl) (by kernel_rfl) (by kernel_rfl) rfl ?_
              refine f_val rfl rfl rfl (by intro t_ w hw; exact x_assign (.int .i64 (natE (remB bs q59))) rfl w) ?_
              refine f_done (by kernel_rfl) ?_
              intro w270 H271
              refine g_ret' [.agg #[.int .i64 0, .int .i64 0, .int .i64 0, .slice none 0 0], .int .i64 (natE (remB bs q59))] Try.func31 Try.results31 ⟨(res_cellN rfl ag_51 (H271.blk_at (i := 3) rfl) (Nat.le_of_ble_eq_true rfl) rfl), rfl, trivial⟩ ?_
              have hE : ppE (remB bs 0) = (natE (remB bs q59)) := pq_5 hR16 hR60 he13 (by omega) he57 (by omega) he97
              have hE0 : ¬ ppE (remB bs 0) = 0 := by rw [hE]; first | assumption | decide
              have H272 := Row.im (Row.nil_intro H271 5 1) (i := 0) rfl
              have H273 : St W w270 (Im 1 (.slice none 0 0) 0 [] :: F) := ((((H272.drop 1 rfl).drop 1 rfl).drop 1 rfl).drop 1 rfl)
              exact ⟨none, 0, by rw [hE, ppV_no hE0]; rfl, by rw [ppV_no hE0]; exact H273⟩
      · skip
        refine r_cons (s_assign (.int .u64 0) rfl rfl ?_)
        refine r_nil ?_
        refine g_seq ?_
        refine g_region ?_
        refine r_cons (s_move (.pointer (some ⟨bk10, 0, none⟩)) rfl rfl ?_)
        refine r_cons (s_move (.int .u64 0) rfl rfl ?_)
        refine r_cons (s_gtr false rfl rfl (dfalse (by decide)) rfl ?_)
        refine r_cons (s_call [.pointer (some ⟨bk10, 0, none⟩), .bool false, .int .i64 242] pl_87 rfl rfl (mr_wrong_e bk10 bk7 (natE (remB bs q15)) (by first | assumption | decide | omega) false 242 (i := 0) rfl H58) ?_)
        rintro _ w274 ⟨rfl, H275⟩
        refine r_nil ?_
        refine g_seq ?_
        refine g_region ?_
        refine r_cons (s_move (.pointer (some ⟨bk10, 0, none⟩)) rfl rfl ?_)
        refine r_cons (s_call [.pointer (some ⟨bk10, 0, none⟩)] pl_86 rfl rfl (mr_nat_no bk10 bk7 (natE (remB bs q15)) (by first | assumption | decide | omega) (i := 0) rfl H275) ?_)
        rintro _ w276 ⟨rfl, H277⟩
        refine r_cons (s_assign (.int .u64 0) rfl rfl ?_)
        refine r_nil ?_
        refine g_seq ?_
        refine g_region ?_
        refine r_cons (s_move (.pointer (some ⟨bk10, 0, none⟩)) rfl rfl ?_)
        refine r_cons (s_move (.int .u64 0) rfl rfl ?_)
        refine r_cons (s_move (.int .u64 0) rfl rfl ?_)
        refine r_cons (s_geq true rfl rfl (dtrue (by decide)) rfl ?_)
        refine r_cons (s_call [.pointer (some ⟨bk10, 0, none⟩), .bool true, .int .i64 242] pl_87 rfl rfl (mr_wrong_e bk10 bk7 (natE (remB bs q15)) (by first | assumption | decide | omega) true 242 (i := 0) rfl H277) ?_)
        rintro _ w278 ⟨rfl, H279⟩
        refine r_nil ?_
        refine g_seq ?_
        refine g_region ?_
        refine r_cons (s_move (.int .u64 (natU (remB bs 0) : Int)) rfl rfl ?_)
        refine r_cons (s_call [.int .u64 (natU (remB bs 0) : Int)] pl_88 rfl rfl (migrate_clip (natU (remB bs 0)) (natU_lt _) H279) ?_)
        rintro _ w280 ⟨rfl, H281⟩
        refine r_cons (s_move (.int .u64 0) rfl rfl ?_)
        refine r_cons (s_call [.int .u64 0] pl_88 rfl rfl (migrate_clip (0) (by decide) H281) ?_)
        rintro _ w282 ⟨rfl, H283⟩
        refine r_cons (s_move (.int .u64 0) rfl rfl ?_)
        refine r_cons (s_call [.int .u64 0] pl_88 rfl rfl (migrate_clip (0) (by decide) H283) ?_)
        rintro _ w284 ⟨rfl, H285⟩
        refine r_cons (s_build (cs := #[.int .i64 (clipN (natU (remB bs 0))), .int .i64 (clipN 0), .int .i64 (clipN 0), .slice none 0 0]) (by kernel_rfl) rfl ?_)
        refine r_cons (s_alloc H285 51 ze_51 rfl ?_); intro bk286 w287 H288
        refine r_cons (s_storeAgg H288 0 #[.int .i64 (clipN (natU (remB bs 0))), .int .i64 (clipN 0), .int .i64 (clipN 0), .slice none 0 0] 4 rfl rfl rfl sz_51 rfl (by simp [Value.oneCell']) (Nat.le_of_ble_eq_true rfl) (fun o h1 h2 => by first | (simp; done) | (simp; omega)) (cs' := #[.int .i64 (clipN (natU (remB bs 0))), .int .i64 (clipN 0), .int .i64 (clipN 0), .slice none 0 0]) rfl ?_); intro w289 H290
        refine r_nil ?_
        refine g_seq ?_
        refine g_seq ?_
        refine g_region ?_
        refine r_cons (s_move (.pointer (some ⟨bk10, 0, none⟩)) rfl rfl ?_)
        refine r_cons (s_nilCheck (.pointer (some ⟨bk10, 0, none⟩)) rfl ⟨_, rfl⟩ rfl ?_)
        refine r_cons (s_fieldAddr 147 1 1 1 33 rfl fi_147_1 rfl rfl ?_)
        refine r_cons (s_load (.int .i64 (natE (remB bs q15))) ag_33 rfl (H290.blk_at (i := 1) rfl) rfl rfl ?_)
        refine r_cons (s_eql false rfl rfl (dfalse (by omega)) rfl ?_)
        refine r_nil ?_
        refine g_false rfl ?_
        refine g_skip ?_
        refine g_seq ?_
        refine g_region ?_
        refine r_cons (s_move (.pointer (some ⟨bk10, 0, none⟩)) rfl rfl ?_)
        refine r_cons (s_call [.pointer (some ⟨bk10, 0, none⟩)] pl_90 rfl rfl (mr_end_no bk10 bk7 (natE (remB bs q15)) (by first | assumption | decide | omega) (i := 1) rfl H290) ?_)
        rintro _ w291 ⟨rfl, H292⟩
        refine r_nil ?_
        refine g_seq ?_
        refine g_region ?_
        refine r_cons (s_move (.pointer (some ⟨bk10, 0, none⟩)) rfl rfl ?_)
        refine r_cons (s_loadAgg [.int .i64 (clipN (natU (remB bs 0))), .int .i64 (clipN 0), .int .i64 (clipN 0), .slice none 0 0] 4 ag_51 rfl (H292.blk_at (i := 0) rfl) (Nat.le_of_ble_eq_true rfl) rfl rfl ?_)
        refine r_cons (s_call [.agg #[.int .i64 (clipN (natU (remB bs 0))), .int .i64 (clipN 0), .int .i64 (clipN 0), .slice none 0 0]] pl_72 rfl rfl (migrate_piece (clipN (natU (remB bs 0))) (clipN 0) (clipN 0) none 0 0 H292) ?_)
        rintro _ w293 ⟨rfl, H294⟩
        refine r_cons (s_not (pieceB (clipN (natU (remB bs 0))) (clipN 0) (clipN 0) 0) rfl (!(pieceB (clipN (natU (remB bs 0))) (clipN 0) (clipN 0) 0)) rfl rfl ?_)
        refine r_cons (s_call [.pointer (some ⟨bk10, 0, none⟩), .bool (!(pieceB (clipN (natU (remB bs 0))) (clipN 0) (clipN 0) 0)), .int .i64 242] pl_87 rfl rfl (mr_wrong_e bk10 bk7 (natE (remB bs q15)) (by first | assumption | decide | omega) (!(pieceB (clipN (natU (remB bs 0))) (clipN 0) (clipN 0) 0)) 242 (i := 1) rfl H294) ?_)
        rintro _ w295 ⟨rfl, H296⟩
        refine r_nil ?_
        refine g_seq ?_
        refine g_seq ?_
        refine g_region ?_
        refine r_cons (s_move (.pointer (some ⟨bk10, 0, none⟩)) rfl rfl ?_)
        refine r_cons (s_nilCheck (.pointer (some ⟨bk10, 0, none⟩)) rfl ⟨_, rfl⟩ rfl ?_)
        refine r_cons (s_fieldAddr 147 1 1 1 33 rfl fi_147_1 rfl rfl ?_)
        refine r_cons (s_load (.int .i64 (natE (remB bs q15))) ag_33 rfl (H296.blk_at (i := 1) rfl) rfl rfl ?_)
        refine r_cons (s_neq true rfl rfl (nfalse (by omega)) rfl ?_)
        refine r_nil ?_
        refine g_true rfl ?_
        refine g_seq ?_
        refine g_mix (fun t_ w => St W w (blk bk286 (.cells #[.int .i64 (clipN (natU (remB bs 0))), .int .i64 (clipN 0), .int .i64 (clipN 0), .slice none 0 0] 51 (0, 0)) :: blk bk10 (.cells #[.pointer (some ⟨bk7, 0, none⟩), .int .i64 (natE (remB bs q15))] 147 (0, 0)) :: SrcA bk7 bs q15 :: t_)) (blk bk4 (.cells #[.int .i64 0, .int .i64 0, .int .i64 0, .slice none 0 0] 51 (0, 0)) :: F) mixed 7 rfl H296.drew ?_
        refine f_first 0 (listed' := #[true, false, false, false, false, false, false]) rfl (by kernel_rfl) (by kernel_rfl) (by kernel_rfl) rfl ?_
        refine f_val rfl rfl rfl (by intro t_ w hw; exact x_build (cs := #[.int .i64 0, .int .i64 0, .int .i64 0, .slice none 0 0]) (by kernel_rfl) w) ?_
        refine f_first 1 (listed' := #[true, true, false, false, false, false, false]) rfl (by kernel_rfl) (by kernel_rfl) (by kernel_rfl) rfl ?_
        refine f_val rfl rfl rfl (by intro t_ w hw; exact x_move (.pointer (some ⟨bk10, 0, none⟩)) rfl w) ?_
        refine f_first 2 (listed' := #[true, true, true, false, false, false, false]) rfl (by kernel_rfl) (by kernel_rfl) (by kernel_rfl) rfl ?_
        refine f_val rfl rfl rfl (by intro t_ w hw; exact x_nilCheck (.pointer (some ⟨bk10, 0, none⟩)) rfl ⟨_, rfl⟩ w) ?_
        refine f_first 3 (listed' := #[true, true, true, true, false, false, false]) rfl (by kernel_rfl) (by kernel_rfl) (by kernel_rfl) rfl ?_
        refine f_val rfl rfl rfl (by intro t_ w hw; exact x_fieldAddr 147 1 1 1 33 rfl fi_147_1 rfl w) ?_
        refine f_first 4 (listed' := #[true, true, true, true, true, false, false]) rfl (by kernel_rfl) (by kernel_rfl) (by kernel_rfl) rfl ?_
        refine f_val rfl rfl rfl (by intro t_ w hw; exact x_load (.int .i64 (natE (remB bs q15))) ag_33 rfl (hw.blk_at (i := 1) rfl) rfl) ?_
        refine f_all (rs := [5]) (by kernel_rfl) (by simp) ?_
        refine a_cons ⟨_, rfl, ?_⟩ (fun x hx => absurd hx (by simp))
        intro w297 H298
        try dsimp only at H298
        refine s_storeAgg H298 3 #[.int .i64 0, .int .i64 0, .int .i64 0, .slice none 0 0] 4 rfl rfl rfl sz_51 rfl (by simp [Value.oneCell']) (Nat.le_of_ble_eq_true rfl) (fun o h1 h2 => by first | (simp; done) | (simp; omega)) (cs' := #[.int .i64 0, .int .i64 0, .int .i64 0, .slice none 0 0]) rfl ?_; intro w299 H300
        refine ⟨blk bk4 (.cells #[.int .i64 0, .int .i64 0, .int .i64 0, .slice none 0 0] 51 (0, 0)) :: F, ?_, H300⟩
        change FReg _ _ _ _ _ #[true, true, true, true, true, true, false] _ _
        refine f_first 6 (listed' := #[true, true, true, true, true, true, true]) rfl (by kernel_rfl) (by kernel_rfl) (by kernel_rfl) rfl ?_
        refine f_val rfl rfl rfl (by intro t_ w hw; exact x_assign (.int .i64 (natE (remB bs q15))) rfl w) ?_
        refine f_done (by kernel_rfl) ?_
        intro w301 H302
        refine g_ret' [.agg #[.int .i64 0, .int .i64 0, .int .i64 0, .slice none 0 0], .int .i64 (natE (remB bs q15))] Try.func31 Try.results31 ⟨(res_cellN rfl ag_51 (H302.blk_at (i := 3) rfl) (Nat.le_of_ble_eq_true rfl) rfl), rfl, trivial⟩ ?_
        have hE : ppE (remB bs 0) = (natE (remB bs q15)) := pq_3 hR16 he13 (by omega) he57
        have hE0 : ¬ ppE (remB bs 0) = 0 := by rw [hE]; first | assumption | decide
        have H303 := Row.im (Row.nil_intro H302 5 1) (i := 0) rfl
        have H304 : St W w301 (Im 1 (.slice none 0 0) 0 [] :: F) := ((((H303.drop 1 rfl).drop 1 rfl).drop 1 rfl).drop 1 rfl)
        exact ⟨none, 0, by rw [hE, ppV_no hE0]; rfl, by rw [ppV_no hE0]; exact H304⟩
  · skip
    refine r_cons (s_assign (.int .u64 0) rfl rfl ?_)
    refine r_nil ?_
    refine g_seq ?_
    refine g_region ?_
    refine r_cons (s_move (.pointer (some ⟨bk10, 0, none⟩)) rfl rfl ?_)
    refine r_cons (s_move (.int .u64 0) rfl rfl ?_)
    refine r_cons (s_gtr false rfl rfl (dfalse (by decide)) rfl ?_)
    refine r_cons (s_call [.pointer (some ⟨bk10, 0, none⟩), .bool false, .int .i64 242] pl_87 rfl rfl (mr_wrong_e bk10 bk7 (natE (remB bs 0)) (by first | assumption | decide | omega) false 242 (i := 0) rfl H14) ?_)
    rintro _ w305 ⟨rfl, H306⟩
    refine r_nil ?_
    refine g_seq ?_
    refine g_region ?_
    refine r_cons (s_move (.pointer (some ⟨bk10, 0, none⟩)) rfl rfl ?_)
    refine r_cons (s_call [.pointer (some ⟨bk10, 0, none⟩)] pl_86 rfl rfl (mr_nat_no bk10 bk7 (natE (remB bs 0)) (by first | assumption | decide | omega) (i := 0) rfl H306) ?_)
    rintro _ w307 ⟨rfl, H308⟩
    refine r_cons (s_assign (.int .u64 0) rfl rfl ?_)
    refine r_nil ?_
    refine g_seq ?_
    refine g_region ?_
    refine r_cons (s_move (.pointer (some ⟨bk10, 0, none⟩)) rfl rfl ?_)
    refine r_cons (s_move (.int .u64 0) rfl rfl ?_)
    refine r_cons (s_gtr false rfl rfl (dfalse (by decide)) rfl ?_)
    refine r_cons (s_call [.pointer (some ⟨bk10, 0, none⟩), .bool false, .int .i64 242] pl_87 rfl rfl (mr_wrong_e bk10 bk7 (natE (remB bs 0)) (by first | assumption | decide | omega) false 242 (i := 0) rfl H308) ?_)
    rintro _ w309 ⟨rfl, H310⟩
    refine r_nil ?_
    refine g_seq ?_
    refine g_region ?_
    refine r_cons (s_move (.pointer (some ⟨bk10, 0, none⟩)) rfl rfl ?_)
    refine r_cons (s_call [.pointer (some ⟨bk10, 0, none⟩)] pl_86 rfl rfl (mr_nat_no bk10 bk7 (natE (remB bs 0)) (by first | assumption | decide | omega) (i := 0) rfl H310) ?_)
    rintro _ w311 ⟨rfl, H312⟩
    refine r_cons (s_assign (.int .u64 0) rfl rfl ?_)
    refine r_nil ?_
    refine g_seq ?_
    refine g_region ?_
    refine r_cons (s_move (.pointer (some ⟨bk10, 0, none⟩)) rfl rfl ?_)
    refine r_cons (s_move (.int .u64 0) rfl rfl ?_)
    refine r_cons (s_move (.int .u64 0) rfl rfl ?_)
    refine r_cons (s_geq true rfl rfl (dtrue (by decide)) rfl ?_)
    refine r_cons (s_call [.pointer (some ⟨bk10, 0, none⟩), .bool true, .int .i64 242] pl_87 rfl rfl (mr_wrong_e bk10 bk7 (natE (remB bs 0)) (by first | assumption | decide | omega) true 242 (i := 0) rfl H312) ?_)
    rintro _ w313 ⟨rfl, H314⟩
    refine r_nil ?_
    refine g_seq ?_
    refine g_region ?_
    refine r_cons (s_move (.int .u64 0) rfl rfl ?_)
    refine r_cons (s_call [.int .u64 0] pl_88 rfl rfl (migrate_clip (0) (by decide) H314) ?_)
    rintro _ w315 ⟨rfl, H316⟩
    refine r_cons (s_move (.int .u64 0) rfl rfl ?_)
    refine r_cons (s_call [.int .u64 0] pl_88 rfl rfl (migrate_clip (0) (by decide) H316) ?_)
    rintro _ w317 ⟨rfl, H318⟩
    refine r_cons (s_move (.int .u64 0) rfl rfl ?_)
    refine r_cons (s_call [.int .u64 0] pl_88 rfl rfl (migrate_clip (0) (by decide) H318) ?_)
    rintro _ w319 ⟨rfl, H320⟩
    refine r_cons (s_build (cs := #[.int .i64 (clipN 0), .int .i64 (clipN 0), .int .i64 (clipN 0), .slice none 0 0]) (by kernel_rfl) rfl ?_)
    refine r_cons (s_alloc H320 51 ze_51 rfl ?_); intro bk321 w322 H323
    refine r_cons (s_storeAgg H323 0 #[.int .i64 (clipN 0), .int .i64 (clipN 0), .int .i64 (clipN 0), .slice none 0 0] 4 rfl rfl rfl sz_51 rfl (by simp [Value.oneCell']) (Nat.le_of_ble_eq_true rfl) (fun o h1 h2 => by first | (simp; done) | (simp; omega)) (cs' := #[.int .i64 (clipN 0), .int .i64 (clipN 0), .int .i64 (clipN 0), .slice none 0 0]) rfl ?_); intro w324 H325
    refine r_nil ?_
    refine g_seq ?_
    refine g_seq ?_
    refine g_region ?_
    refine r_cons (s_move (.pointer (some ⟨bk10, 0, none⟩)) rfl rfl ?_)
    refine r_cons (s_nilCheck (.pointer (some ⟨bk10, 0, none⟩)) rfl ⟨_, rfl⟩ rfl ?_)
    refine r_cons (s_fieldAddr 147 1 1 1 33 rfl fi_147_1 rfl rfl ?_)
    refine r_cons (s_load (.int .i64 (natE (remB bs 0))) ag_33 rfl (H325.blk_at (i := 1) rfl) rfl rfl ?_)
    refine r_cons (s_eql false rfl rfl (dfalse (by omega)) rfl ?_)
    refine r_nil ?_
    refine g_false rfl ?_
    refine g_skip ?_
    refine g_seq ?_
    refine g_region ?_
    refine r_cons (s_move (.pointer (some ⟨bk10, 0, none⟩)) rfl rfl ?_)
    refine r_cons (s_call [.pointer (some ⟨bk10, 0, none⟩)] pl_90 rfl rfl (mr_end_no bk10 bk7 (natE (remB bs 0)) (by first | assumption | decide | omega) (i := 1) rfl H325) ?_)
    rintro _ w326 ⟨rfl, H327⟩
    refine r_nil ?_
    refine g_seq ?_
    refine g_region ?_
    refine r_cons (s_move (.pointer (some ⟨bk10, 0, none⟩)) rfl rfl ?_)
    refine r_cons (s_loadAgg [.int .i64 (clipN 0), .int .i64 (clipN 0), .int .i64 (clipN 0), .slice none 0 0] 4 ag_51 rfl (H327.blk_at (i := 0) rfl) (Nat.le_of_ble_eq_true rfl) rfl rfl ?_)
    refine r_cons (s_call [.agg #[.int .i64 (clipN 0), .int .i64 (clipN 0), .int .i64 (clipN 0), .slice none 0 0]] pl_72 rfl rfl (migrate_piece (clipN 0) (clipN 0) (clipN 0) none 0 0 H327) ?_)
    rintro _ w328 ⟨rfl, H329⟩
    refine r_cons (s_not (pieceB (clipN 0) (clipN 0) (clipN 0) 0) rfl (!(pieceB (clipN 0) (clipN 0) (clipN 0) 0)) rfl rfl ?_)
    refine r_cons (s_call [.pointer (some ⟨bk10, 0, none⟩), .bool (!(pieceB (clipN 0) (clipN 0) (clipN 0) 0)), .int .i64 242] pl_87 rfl rfl (mr_wrong_e bk10 bk7 (natE (remB bs 0)) (by first | assumption | decide | omega) (!(pieceB (clipN 0) (clipN 0) (clipN 0) 0)) 242 (i := 1) rfl H329) ?_)
    rintro _ w330 ⟨rfl, H331⟩
    refine r_nil ?_
    refine g_seq ?_
    refine g_seq ?_
    refine g_region ?_
    refine r_cons (s_move (.pointer (some ⟨bk10, 0, none⟩)) rfl rfl ?_)
    refine r_cons (s_nilCheck (.pointer (some ⟨bk10, 0, none⟩)) rfl ⟨_, rfl⟩ rfl ?_)
    refine r_cons (s_fieldAddr 147 1 1 1 33 rfl fi_147_1 rfl rfl ?_)
    refine r_cons (s_load (.int .i64 (natE (remB bs 0))) ag_33 rfl (H331.blk_at (i := 1) rfl) rfl rfl ?_)
    refine r_cons (s_neq true rfl rfl (nfalse (by omega)) rfl ?_)
    refine r_nil ?_
    refine g_true rfl ?_
    refine g_seq ?_
    refine g_mix (fun t_ w => St W w (blk bk321 (.cells #[.int .i64 (clipN 0), .int .i64 (clipN 0), .int .i64 (clipN 0), .slice none 0 0] 51 (0, 0)) :: blk bk10 (.cells #[.pointer (some ⟨bk7, 0, none⟩), .int .i64 (natE (remB bs 0))] 147 (0, 0)) :: SrcA bk7 bs 0 :: t_)) (blk bk4 (.cells #[.int .i64 0, .int .i64 0, .int .i64 0, .slice none 0 0] 51 (0, 0)) :: F) mixed 7 rfl H331.drew ?_
    refine f_first 0 (listed' := #[true, false, false, false, false, false, false]) rfl (by kernel_rfl) (by kernel_rfl) (by kernel_rfl) rfl ?_
    refine f_val rfl rfl rfl (by intro t_ w hw; exact x_build (cs := #[.int .i64 0, .int .i64 0, .int .i64 0, .slice none 0 0]) (by kernel_rfl) w) ?_
    refine f_first 1 (listed' := #[true, true, false, false, false, false, false]) rfl (by kernel_rfl) (by kernel_rfl) (by kernel_rfl) rfl ?_
    refine f_val rfl rfl rfl (by intro t_ w hw; exact x_move (.pointer (some ⟨bk10, 0, none⟩)) rfl w) ?_
    refine f_first 2 (listed' := #[true, true, true, false, false, false, false]) rfl (by kernel_rfl) (by kernel_rfl) (by kernel_rfl) rfl ?_
    refine f_val rfl rfl rfl (by intro t_ w hw; exact x_nilCheck (.pointer (some ⟨bk10, 0, none⟩)) rfl ⟨_, rfl⟩ w) ?_
    refine f_first 3 (listed' := #[true, true, true, true, false, false, false]) rfl (by kernel_rfl) (by kernel_rfl) (by kernel_rfl) rfl ?_
    refine f_val rfl rfl rfl (by intro t_ w hw; exact x_fieldAddr 147 1 1 1 33 rfl fi_147_1 rfl w) ?_
    refine f_first 4 (listed' := #[true, true, true, true, true, false, false]) rfl (by kernel_rfl) (by kernel_rfl) (by kernel_rfl) rfl ?_
    refine f_val rfl rfl rfl (by intro t_ w hw; exact x_load (.int .i64 (natE (remB bs 0))) ag_33 rfl (hw.blk_at (i := 1) rfl) rfl) ?_
    refine f_all (rs := [5]) (by kernel_rfl) (by simp) ?_
    refine a_cons ⟨_, rfl, ?_⟩ (fun x hx => absurd hx (by simp))
    intro w332 H333
    try dsimp only at H333
    refine s_storeAgg H333 3 #[.int .i64 0, .int .i64 0, .int .i64 0, .slice none 0 0] 4 rfl rfl rfl sz_51 rfl (by simp [Value.oneCell']) (Nat.le_of_ble_eq_true rfl) (fun o h1 h2 => by first | (simp; done) | (simp; omega)) (cs' := #[.int .i64 0, .int .i64 0, .int .i64 0, .slice none 0 0]) rfl ?_; intro w334 H335
    refine ⟨blk bk4 (.cells #[.int .i64 0, .int .i64 0, .int .i64 0, .slice none 0 0] 51 (0, 0)) :: F, ?_, H335⟩
    change FReg _ _ _ _ _ #[true, true, true, true, true, true, false] _ _
    refine f_first 6 (listed' := #[true, true, true, true, true, true, true]) rfl (by kernel_rfl) (by kernel_rfl) (by kernel_rfl) rfl ?_
    refine f_val rfl rfl rfl (by intro t_ w hw; exact x_assign (.int .i64 (natE (remB bs 0))) rfl w) ?_
    refine f_done (by kernel_rfl) ?_
    intro w336 H337
    refine g_ret' [.agg #[.int .i64 0, .int .i64 0, .int .i64 0, .slice none 0 0], .int .i64 (natE (remB bs 0))] Try.func31 Try.results31 ⟨(res_cellN rfl ag_51 (H337.blk_at (i := 3) rfl) (Nat.le_of_ble_eq_true rfl) rfl), rfl, trivial⟩ ?_
    have hE : ppE (remB bs 0) = (natE (remB bs 0)) := pp_1 he13
    have hE0 : ¬ ppE (remB bs 0) = 0 := by rw [hE]; first | assumption | decide
    have H338 := Row.im (Row.nil_intro H337 5 1) (i := 0) rfl
    have H339 : St W w336 (Im 1 (.slice none 0 0) 0 [] :: F) := ((((H338.drop 1 rfl).drop 1 rfl).drop 1 rfl).drop 1 rfl)
    exact ⟨none, 0, by rw [hE, ppV_no hE0]; rfl, by rw [ppV_no hE0]; exact H339⟩
set_option maxHeartbeats 4000000 in
set_option maxRecDepth 100000 in
theorem NewLanding_ {W w : World} {F : List Atom} (op : Int) (ht : timeB op = true) (H : St W w F) : Calls Try.prog 18 #[.int .i64 op] w (Ret fun v w' => ∃ g m, v = .tuple #[.pointer (some ⟨g, 0, none⟩), .int .i64 0] ∧ St W w' (blk g (.cells #[.bool true, .bool false, .int .i64 op, .int .i64 0, .map (some m), .slice none 0 0] 98 (0, 0)) :: MapA m (ents (kI .i64) evD ([] : List (I64 × BytesD))) :: F)) := by
  refine calls_of_go (n := 12) Try.func18 rfl Try.ntmps18 rfl ?_
  refine g_seq ?_
  refine g_region ?_
  refine r_cons (s_assign (.pointer none) rfl rfl ?_)
  refine r_cons (s_assign (.int .i64 0) rfl rfl ?_)
  refine r_nil ?_
  refine g_seq ?_
  refine g_seq ?_
  refine g_region ?_
  refine r_cons (s_move (.int .i64 op) rfl rfl ?_)
  refine r_cons (s_buildSlice H 1 1 (cs := #[.int .i64 op]) #[.int .i64 0] el_174 ze_2 (by decide) (by decide) (by kernel_rfl) rfl ?_); intro bk1 w2 H3
  refine r_cons (s_call [.slice (some ⟨bk1, 0, none⟩) 1 1] pl_68 rfl rfl (time1 bk1 op H3) ?_)
  rintro _ w4 ⟨rfl, H5⟩
  refine r_cons (s_not (timeB op) rfl false (by rw [ht]; rfl) rfl ?_)
  refine r_nil ?_
  refine g_false rfl ?_
  refine g_skip ?_
  refine g_seq ?_
  refine g_region ?_
  refine r_cons (s_move (.int .i64 op) rfl rfl ?_)
  refine r_cons (s_makeMap H5 rfl ?_); intro mp6 w7 H8
  have H9 : St W w7 (MapA mp6 (ents (kI .i64) evD ([] : List (I64 × BytesD))) :: blk bk1 (.cells #[.int .i64 op] 2 (0, 0)) :: F) := H8
  refine r_cons (s_build (cs := #[.bool true, .bool false, .int .i64 op, .int .i64 0, .map (some mp6), .slice none 0 0]) (by kernel_rfl) rfl ?_)
  refine r_cons (s_box H9 98 (.agg #[.bool true, .bool false, .int .i64 op, .int .i64 0, .map (some mp6), .slice none 0 0]) rfl (cs := #[.bool true, .bool false, .int .i64 op, .int .i64 0, .map (some mp6), .slice none 0 0]) rfl rfl ?_); intro bk10 w11 H12
  refine r_cons (s_assign (.pointer (some ⟨bk10, 0, none⟩)) rfl rfl ?_)
  refine r_cons (s_assign (.int .i64 0) rfl rfl ?_)
  refine r_nil ?_
  refine g_ret' [.pointer (some ⟨bk10, 0, none⟩), .int .i64 0] Try.func18 Try.results18 ⟨rfl, rfl, trivial⟩ ?_
  have H13 : St W w11 (blk bk10 (.cells #[.bool true, .bool false, .int .i64 op, .int .i64 0, .map (some mp6), .slice none 0 0] 98 (0, 0)) :: MapA mp6 (ents (kI .i64) evD ([] : List (I64 × BytesD))) :: F) := (((H12.move 1 rfl).move 1 rfl).drop 2 rfl)
  exact ⟨bk10, mp6, rfl, H13⟩
set_option maxHeartbeats 4000000 in
set_option maxRecDepth 100000 in
theorem Ln_open {W w : World} {F : List Atom} (g m : Nat) (op k : Int) {i : Nat} (hi : F[i]? = some (blk g (.cells #[.bool true, .bool false, .int .i64 op, .int .i64 k, .map (some m), .slice none 0 0] 98 (0, 0)))) (H : St W w F) : Calls Try.prog 71 #[.pointer (some ⟨g, 0, none⟩)] w (Ret fun v w' => v = .int .i64 0 ∧ St W w' F) := by
  have H0 := H.front hi
  refine calls_of_go (n := 18) Try.func71 rfl Try.ntmps71 rfl ?_
  refine g_seq ?_
  refine g_region ?_
  refine r_cons (s_assign (.int .i64 0) rfl rfl ?_)
  refine r_nil ?_
  refine g_seq ?_
  refine g_block ?_
  refine g_seq ?_
  refine g_region ?_
  refine r_cons (s_move (.pointer (some ⟨g, 0, none⟩)) rfl rfl ?_)
  refine r_cons (s_peql false un_44 rfl rfl rfl rfl ?_)
  refine r_cons (s_move (.bool false) rfl rfl ?_)
  refine r_cons (r_take rfl rfl ?_)
  refine s_move (.pointer (some ⟨g, 0, none⟩)) rfl rfl ?_
  refine r_cons (r_take rfl rfl ?_)
  refine s_nilCheck (.pointer (some ⟨g, 0, none⟩)) rfl ⟨_, rfl⟩ rfl ?_
  refine r_cons (r_take rfl rfl ?_)
  refine s_fieldAddr 98 0 0 0 4 rfl fi_98_0 rfl rfl ?_
  refine r_cons (r_take rfl rfl ?_)
  refine s_load (.bool true) ag_4 rfl (H0.blk_at (i := 0) rfl) rfl rfl ?_
  refine r_cons (r_take rfl rfl ?_)
  refine s_not true rfl false rfl rfl ?_
  refine r_cons (s_pick_f (.bool false) rfl rfl rfl ?_)
  refine r_cons (s_assign (.bool false) rfl rfl ?_)
  refine r_nil ?_
  refine g_false rfl ?_
  refine g_seq ?_
  refine g_region ?_
  refine r_cons (s_move (.pointer (some ⟨g, 0, none⟩)) rfl rfl ?_)
  refine r_cons (s_nilCheck (.pointer (some ⟨g, 0, none⟩)) rfl ⟨_, rfl⟩ rfl ?_)
  refine r_cons (s_fieldAddr 98 1 1 1 4 rfl fi_98_1 rfl rfl ?_)
  refine r_cons (s_load (.bool false) ag_4 rfl (H0.blk_at (i := 0) rfl) rfl rfl ?_)
  refine r_cons (s_assign (.bool false) rfl rfl ?_)
  refine r_nil ?_
  refine g_false rfl ?_
  refine g_skip ?_
  refine g_inBlock ?_
  refine g_seq ?_
  refine g_region ?_
  refine r_cons (s_assign (.int .i64 0) rfl rfl ?_)
  refine r_nil ?_
  refine g_ret' [.int .i64 0] Try.func71 Try.results71 ⟨rfl, trivial⟩ ?_
  have H1 : St W w (blk g (.cells #[.bool true, .bool false, .int .i64 op, .int .i64 k, .map (some m), .slice none 0 0] 98 (0, 0)) :: (F.set i emp)) := H0
  exact ⟨rfl, St.back_same hi H1⟩
set_option maxHeartbeats 4000000 in
set_option maxRecDepth 100000 in
theorem Ln_whole {W w : World} {F : List Atom} (g m : Nat) (op k : Int) (E : List (I64 × BytesD)) (hk : 0 < k) (H : St W w (blk g (.cells #[.bool true, .bool false, .int .i64 op, .int .i64 k, .map (some m), .slice none 0 0] 98 (0, 0)) :: MapA m (ents (kI .i64) evD E) :: F)) : Calls Try.prog 74 #[.pointer (some ⟨g, 0, none⟩)] w (Ret fun v w' => v = .bool (decide ((E.length : Int) = k)) ∧ St W w' (blk g (.cells #[.bool true, .bool false, .int .i64 op, .int .i64 k, .map (some m), .slice none 0 0] 98 (0, 0)) :: MapA m (ents (kI .i64) evD E) :: F)) := by
  refine calls_of_go (n := 20) Try.func74 rfl Try.ntmps74 rfl ?_
  refine g_seq ?_
  refine g_region ?_
  refine r_cons (s_assign (.bool false) rfl rfl ?_)
  refine r_nil ?_
  refine g_seq ?_
  refine g_quiet (fun w' => St W w' (blk g (.cells #[.bool true, .bool false, .int .i64 op, .int .i64 k, .map (some m), .slice none 0 0] 98 (0, 0)) :: MapA m (ents (kI .i64) evD E) :: F)) mixed (by kernel_rfl) H.drew ?_
  refine q_cons (q_val rfl rfl rfl (by intro w hw; exact x_move (.pointer (some ⟨g, 0, none⟩)) rfl w) ?_)
  refine q_cons (q_val rfl rfl rfl (by intro w hw; exact x_nilCheck (.pointer (some ⟨g, 0, none⟩)) rfl ⟨_, rfl⟩ w) ?_)
  refine q_cons (q_val rfl rfl rfl (by intro w hw; exact x_fieldAddr 98 3 3 3 3 rfl fi_98_3 rfl w) ?_)
  refine q_cons (q_val rfl rfl rfl (by intro w hw; exact x_load (.int .i64 k) ag_3 rfl (hw.blk_at (i := 0) rfl) rfl) ?_)
  refine q_cons (q_val rfl rfl rfl (by intro w hw; exact x_gtr true rfl rfl (dtrue hk) w) ?_)
  refine q_cons (q_val rfl rfl rfl (by intro w hw; exact x_move (.bool true) rfl w) ?_)
  refine q_cons (q_take rfl rfl ?_)
  refine q_val rfl rfl rfl (by intro w hw; exact x_move (.pointer (some ⟨g, 0, none⟩)) rfl w) ?_
  refine q_cons (q_take rfl rfl ?_)
  refine q_val rfl rfl rfl (by intro w hw; exact x_nilCheck (.pointer (some ⟨g, 0, none⟩)) rfl ⟨_, rfl⟩ w) ?_
  refine q_cons (q_take rfl rfl ?_)
  refine q_val rfl rfl rfl (by intro w hw; exact x_fieldAddr 98 4 4 4 96 rfl fi_98_4 rfl w) ?_
  refine q_cons (q_take rfl rfl ?_)
  refine q_val rfl rfl rfl (by intro w hw; exact x_load (.map (some m)) ag_96 rfl (hw.blk_at (i := 0) rfl) rfl) ?_
  refine q_cons (q_take rfl rfl ?_)
  refine q_val rfl rfl rfl (by intro w hw; exact x_lenMap (ek := (kI .i64)) (ev := evD) (L := E) (MapA.at hw (i := 1) rfl) (E.length) rfl un_96 rfl) ?_
  refine q_cons (q_take rfl rfl ?_)
  refine q_val rfl rfl rfl (by intro w hw; exact x_move (.pointer (some ⟨g, 0, none⟩)) rfl w) ?_
  refine q_cons (q_take rfl rfl ?_)
  refine q_val rfl rfl rfl (by intro w hw; exact x_nilCheck (.pointer (some ⟨g, 0, none⟩)) rfl ⟨_, rfl⟩ w) ?_
  refine q_cons (q_take rfl rfl ?_)
  refine q_val rfl rfl rfl (by intro w hw; exact x_fieldAddr 98 3 3 3 3 rfl fi_98_3 rfl w) ?_
  refine q_cons (q_take rfl rfl ?_)
  refine q_val rfl rfl rfl (by intro w hw; exact x_load (.int .i64 k) ag_3 rfl (hw.blk_at (i := 0) rfl) rfl) ?_
  refine q_cons (q_take rfl rfl ?_)
  by_cases hc1 : (E.length : Int) = k
  · skip
    refine q_val rfl rfl rfl (by intro w hw; exact x_eql true rfl rfl (dtrue hc1) w) ?_
    refine q_cons (q_val rfl rfl rfl (by intro w hw; exact x_pick_t (.bool true) rfl rfl w) ?_)
    refine q_cons (q_val rfl rfl rfl (by intro w hw; exact x_assign (.bool true) rfl w) ?_)
    refine q_nil ?_
    intro w2 H3
    refine g_ret' [.bool true] Try.func74 Try.results74 ⟨rfl, trivial⟩ ?_
    have H4 : St W w2 (blk g (.cells #[.bool true, .bool false, .int .i64 op, .int .i64 k, .map (some m), .slice none 0 0] 98 (0, 0)) :: MapA m (ents (kI .i64) evD E) :: F) := ((H3.move 1 rfl).move 1 rfl)
    exact ⟨(by first | exact congrArg Value.bool (decide_eq_true (by assumption)).symm | exact congrArg Value.bool (decide_eq_false (by assumption)).symm), H4⟩
  · skip
    refine q_val rfl rfl rfl (by intro w hw; exact x_eql false rfl rfl (dfalse hc1) w) ?_
    refine q_cons (q_val rfl rfl rfl (by intro w hw; exact x_pick_t (.bool false) rfl rfl w) ?_)
    refine q_cons (q_val rfl rfl rfl (by intro w hw; exact x_assign (.bool false) rfl w) ?_)
    refine q_nil ?_
    intro w5 H6
    refine g_ret' [.bool false] Try.func74 Try.results74 ⟨rfl, trivial⟩ ?_
    have H7 : St W w5 (blk g (.cells #[.bool true, .bool false, .int .i64 op, .int .i64 k, .map (some m), .slice none 0 0] 98 (0, 0)) :: MapA m (ents (kI .i64) evD E) :: F) := ((H6.move 1 rfl).move 1 rfl)
    exact ⟨(by first | exact congrArg Value.bool (decide_eq_true (by assumption)).symm | exact congrArg Value.bool (decide_eq_false (by assumption)).symm), H7⟩
end Sl
